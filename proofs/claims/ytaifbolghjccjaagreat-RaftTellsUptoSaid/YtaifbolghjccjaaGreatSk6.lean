/-
  Part 6 of what the proof needs (texts Ya Yb Yc Yd Ye Yf Yi Yj Zr Yk).
-/
import Derived.Test.YtaifbolghjccjaaGreatSk5
set_option linter.unusedSectionVars false
set_option linter.unusedSimpArgs false
set_option linter.unusedVariables false
set_option maxRecDepth 4000
namespace Go.En
open Go.Proofs Go.Proofs.YtaifbolghjccjaaGreat
section
theorem app0{P:Program}{T:Tab}{w0:World}{ops:Array Oper}{Q:Exit->Act->World->Prop}{rest rest':List Oper}{n:Nat}{l l':Sl}{K:PH}{hs:List PH}
  [hT:TabOK P T] (k:Nat) {d:Nat} {si:SlI} {ao ao2:Option Addr} {n1 c1 c2:Nat} {h2:PH} (h0:apAt T ops n k rest l=some (d,si,(ao,n1,c1),(ao2,0,c2),rest',l'))
  (hle:n1<=c1) (hm:In K hs h2) (x:IsS h2 ao2 0 c2 si.size [])
  (hk:WL P w0 ops Q rest' n ((d,.slice ao n1 c1)::l') K hs):WL P w0 ops Q rest n l K hs:=by
 unfold apAt at h0
 split at h0
 ·rename_i oo r l2 ho
  split at h0
  ·rename_i d' args argTypes hd hop
   split at h0
   ·rename_i x' y' t t' e1 e2
    split at h0
    ·rename_i si' a1 m1 k1 a2 m2 k2 hb' htt hsi hx hy;simp only[Option.some.injEq,Prod.mk.injEq] at h0;obtain ⟨rfl,rfl,⟨rfl,rfl,rfl⟩,⟨rfl,rfl,rfl⟩,rfl,rfl⟩:=h0;have htt':t=t':=Nat.eq_of_beq_eq_true htt;subst htt';have a1':args=#[x',y']:=by cases args;simp_all
     have a2':argTypes=#[t,t]:=by cases argTypes;simp_all
     subst a1';subst a2';obtain ⟨g1,ii,g2,g3,g4,g5⟩:=hT.sl hsi
     refine WL.at' ho fun hg=>WL.val (R:=fun u K' hs'=>u=.slice a1 m1 k1/\K'=K/\hs'=hs) hd hb' hg
      (fun A w ha hw=>?_) ?_
     ·rw[<-g4] at x;have hf:=run_firstCells_isS (P:=P) hw hm x
      have hr:(Builtin.append_ #[t,t] oo.type #[.slice a1 m1 k1,.slice a2 0 k2]).run P w=.ok (.slice a1 m1 k1) w:=by
       cases a1 <;> simp[Builtin.append_,run_underlying g1,sizeOf,typeInfo,g2,hle,hf,storeCells,Builtin.lenOf]
      refine ⟨_,w,K,_,?_,hw,I,I,I⟩;simp only[execOp,hop];simp[resolve,invoke,builtin,ha.ev hx,ha.ev hy,hr]
     ·rintro u K' hs' ⟨rfl,rfl,rfl⟩;exact hk
    ·simp at h0
   ·simp at h0
  ·simp at h0
 ·simp at h0
theorem confOK_gt:∀ (l:List Int) (last:Int),confOK last l->∀ v∈l,last<v
 | [],_,_,v,hv=>by cases hv
 | u::r,last,h,v,hv=>by
  rcases List.mem_cons.1 hv with rfl|hv
  ·exact h.1
  ·exact Int.lt_trans h.1<|confOK_gt r u h.2.2 v hv
theorem conf_rem{c:List Int}{n:Int}(h:confOK (-1) c){j:Nat}(hj:c[j]?=some n)(hn:n∉c.take j):(c.filter fun v=>decide (v≠n))=c.take j++c.drop (j+1):=by
 obtain ⟨hl,e⟩:=List.getElem?_eq_some_iff.1 hj;have h2:confOK (-1) (c.take j++c.drop j):=by rw[List.take_append_drop];exact h
 rw[confOK_split,List.drop_eq_getElem_cons hl] at h2;have h3:=confOK_gt _ _ h2.2.2.2;rw[e] at h3;have e2:c=c.take j++n::c.drop (j+1):=by rw[<-e,<-List.drop_eq_getElem_cons hl,List.take_append_drop]
 generalize c.take j=x at e2 hn;generalize c.drop (j+1)=y at e2 h3;rw[e2,List.filter_append,List.filter_cons];simp only[ne_eq,not_true_eq_false,decide_false,Bool.false_eq_true,if_false]
 congr 1
 ·exact List.filter_eq_self.2 fun v hv=>by simp only[decide_eq_true_iff];rintro rfl;exact hn hv
 ·exact List.filter_eq_self.2 fun v hv=>by simp only[decide_eq_true_iff];rintro rfl;exact absurd (h3 _ hv) (Int.lt_irrefl _)
attribute [local irreducible] Code.wp wpList Calls
section
variable {w0:World} {K hv:PH} {hs:List PH}
theorem rightGC(hm:In K hs hv)(ao:Option Addr)(k:Nat)(l:List Int)(x:IsS hv ao l.length k 1 (iv l))(hl:l.length<=1099511627776):
  Ct Tryz.prog w0 204 [.agg #[.slice ao l.length k]] K hs (fun v K' hs'=>K'=K/\hs'=hs/\v=.bool (decide (confOK (-1) l/\l≠[]))):=by
 refine ent Tryz.func204 ?_;refine au ?_;refine bx 0 I fun b1=>?_;refine au ?_;refine loop (σ:=Nat) (fun i=>[(1,.pointer (some ⟨b1,0,none⟩)),(3,.int .i64 ((l.take i).getLastD (-1))),(7,.slice ao l.length k),(8,.int .i64 l.length),(9,.int .i64 (i:Nat))]) (fun _=>K) (fun i=>pt b1 #[.slice ao l.length k] 46::hs) (fun i=>i<=l.length/\confOK (-1) (l.take i)) (fun i=>l.length-i) 0 ⟨Nat.zero_le _,trivial⟩ ⟨I,I,I,I,I,trivial⟩ I I ?_;rintro i ⟨hi,hc⟩;refine sq (rg ?_);refine cmpS 0 I fun b10 h10=>?_;refine fin 0 I (th (sq (ifP h10 I (fun e2=>?_) (fun e2=>?_))))
 ·have hil:i<l.length:=by omega
  refine sk (th (sq (bk (sq (rg ?_)))));refine ix1 0 i I I I x (iv_get hil) fun a11 hc11=>?_;refine ld 0 I (In.cons hm) hc11 ?_;refine fin 1 I (th (sq (sq (rg ?_))));refine cmpS 2 I fun b15 h15=>?_
  refine' bjo (q:=7<=l[i]) 1 3 19 [15,16] h15 I I I I I I I (fun _=>?x4) (fun b19 h19=>?_)
  case x4=>
   refine cmpS 1 I fun b18 h18=>?_;exact fin 1 I (bjx h18 I I I)
  refine fin 0 I<|th (ifP h19 I (fun e6=>?_) (fun e6=>?_))
  ·refine sq (rg ?_);refine fin 1 I (th (rt (rT (rB (rT (rT (rB (rT (WQ.drop ?_)))))))));exact ret1 I I ⟨I,I,by rw[decide_eq_false (fun h=>by have:=conf_take_no l i hil h.1;omega)]⟩
  ·refine sk (th (rg ?_));refine fin 2 I (bl (th (rg ?_)));refine ar 0 I (i64w (x:=((i+1:Nat):Int)) qo) ?_;refine fin 1 I ?_;have hla:(l.take (i+1)).getLastD (-1)=l[i]:=by rw[take_succ_get l i hil,List.getLastD_concat]
   exact again (x:=i) (i+1) ⟨I,by rw[hla];rfl,rfl,rfl,rfl,trivial⟩ rfl rfl ⟨by omega,conf_take_succ l i hil hc qo qo⟩ qo
 ·obtain rfl:i=l.length:=by omega
  rw[List.take_length] at hc;refine ex (xt (xt (xb (th (sq (rg ?_))))));refine ldp 1 0 I I I ?_;refine cmpS 1 I fun b25 h25=>?_;refine fin 1 I (th (rt (WQ.drop ?_)));refine ret1 I I ⟨I,I,?_⟩
  rw[show b25=decide (confOK (-1) l/\l≠[]) from by
   rw[Bool.eq_iff_iff,h25,decide_eq_true_iff];cases l with
   | nil=>simp
   | cons a r=>simp[hc]]
theorem legalGC(hm:In K hs hv)(ao:Option Addr)(k:Nat)(l:List Int)(x:IsS hv ao l.length k 1 (iv l))(hl:l.length<=1099511627776)(n:Int):
  Ct Tryz.prog w0 155 [.agg #[.slice ao l.length k],.int .i64 n] K hs (fun v K' hs'=>K'=K/\hs'=hs/\v=.bool (decide (confOK (-1) l/\l≠[]/\0<=n/\n<7))):=by
 refine ent Tryz.func155 ?_;refine sq (rg ?_);refine bx 0 I fun b2=>?_;refine fin 1 I (th (sq (rg ?_)));refine ldS 0 0 I I qk ?_;refine cl 0 I (rightGC (In.cons hm) ao k l x hl) ?_;rintro v6 K6 hs6 ⟨rfl,rfl,rfl⟩
 refine' bja (q:=0<=n) 1 3 10 [6,7] (decide_eq_true_iff (p:=confOK (-1) l/\l≠[])) I I I I I I I (fun _=>?x1) (fun b10 h10=>?_)
 case x1=>
  refine cmpS 1 I fun b9 h9=>?_;exact fin 1 I (bjx h9 I I I)
 refine' bja (q:=n<7) 1 3 14 [10,11] h10 I I I I I I I (fun _=>?x3) (fun b14 h14=>?_)
 case x3=>
  refine cmpS 1 I fun b13 h13=>?_;exact fin 1 I (bjx h13 I I I)
 refine fin 1 I (th (rt (WQ.drop ?_)));refine ret1 I I ⟨I,I,?_⟩
 rw[show b14=decide (confOK (-1) l/\l≠[]/\0<=n/\n<7) from by
  rw[Bool.eq_iff_iff,h14,decide_eq_true_iff];simp only[and_assoc]]
abbrev CfgQ(K:PH)(hs:List PH)(r:List Int×Int)(v:Value)(K':PH)(hs':List PH):Prop:=
 Le K K'/\hs'=hs/\∃ ao cap,v=.tuple #[.agg #[.slice ao r.1.length cap],.int .i64 r.2]/\IsS K' ao r.1.length cap 1 (iv r.1)
theorem addGC(ao:Option Addr)(k:Nat)(c:List Int)(x:IsS K ao c.length k 1 (iv c))(hl:c.length<=1099511627776)(n:Int):
  Ct Tryz.prog w0 86 [.agg #[.slice ao c.length k],.int .i64 n] K hs (CfgQ K hs (cfgAdd c n)):=by
 unfold cfgAdd;refine ent Tryz.func86 ?_;refine sq (rg ?_);refine bx 0 I fun b2=>?_;refine al 0 (.agg #[.slice none 0 0]) I qk fun b4=>?_;refine fin 1 I (th (sq (bk (sq (rg ?_)))));refine ldS 0 1 I I qk ?_;refine cl 1 I (legalGC (.inl I) ao k c x hl n) ?_;rintro v10 K10 hs10 ⟨rfl,rfl,rfl⟩;refine cbS 0 (¬(confOK (-1) c/\c≠[]/\0<=n/\n<7)) I (by simp only[Bool.not_eq_true',decide_eq_false_iff_not]) fun b11 h11=>?_;refine fin 1 I (th (ifP h11 I (fun e1=>?_) (fun e1=>?_)))
 ·rw[if_pos e1];refine sq (rg ?_);refine bd 0 (.agg #[.slice none 0 0]) I (fun w=>by kernel_rfl) ?_;refine stS 0 0 I I qk I I ?_;refine fin 1 I (th (rt (rB (rT ?_))));exact retcP 0 2 I I I I qk ⟨Le.refl _,I,none,0,I,IsS.nil _ _ _ _⟩
 rw[if_neg e1];refine sq (rg ?_);refine ldS 0 1 I I qk ?_;refine cl 1 I (votesGC (.inl I) ao k c x hl n) ?_;rintro v16 K16 hs16 ⟨rfl,rfl,rfl⟩;refine fin 1 I (th (ifP decide_eq_true_iff I (fun e2=>?_) (fun e2=>?_)))
 ·rw[if_pos e2];refine sq (rg ?_);refine bd 0 (.agg #[.slice none 0 0]) I (fun w=>by kernel_rfl) ?_;refine stS 0 0 I I qk I I ?_;refine fin 1 I (th (rt (rB (rT ?_))));exact retcP 0 2 I I I I qk ⟨Le.refl _,I,none,0,I,IsS.nil _ _ _ _⟩
 rw[if_neg e2];have e1:=Decidable.not_not.1 e1;have hlen:=confOK_len c _ e1.1 qo qo;have hpos:0<c.length:=List.length_pos_iff.2 e1.2.1;obtain ⟨a,rfl⟩:=x.addr hpos qo;refine sk (bl (th (sq (rg ?_))));refine ldp 1 1 I I I ?_;refine cl 0 I (cloneGI a k c (.inl I) x hpos qo) ?_;rintro v20 K20 hs20 ⟨rfl,h20,ao20,c20,rfl,rfl,o20⟩;refine lit 1 #[.int .i64 n] I (by decide) qk fun b22=>?_;have xm:IsS (pt b22 #[.int .i64 n] 3) (some ⟨b22,0,none⟩) 1 1 1 (iv [n]):=(Own.ofPt (b:=b22) (c:=#[.int .i64 n]) (e:=3) (n:=1) (size:=1) rfl (by decide)).isS;refine appI 0 1 c n I I I o20 (.inr ⟨0,I⟩) xm qo fun ao23 c23 g23 o23=>?_;obtain ⟨xs,hxs⟩:∃ xs:List Nat,xs=(c++[n]).map Int.toNat:=⟨_,rfl⟩
 have hmem:∀ v∈c++[n],0<=v:=fun v hv=>by
  rcases List.mem_append.1 hv with h|h
  ·exact (confOK_mem c _ e1.1 qo v h).1
  ·rw[List.mem_singleton.1 h];exact e1.2.2.1
 have hbk:∀ ys:List Nat,iv (ys.map fun v=>((v:Nat):Int))=kvv false ys:=fun ys=>by simp[iv,kvv,kI]
 have hxc:(c++[n])=xs.map fun v=>((v:Nat):Int):=by
  rw[hxs,List.map_map];exact ((List.map_id _).symm.trans (List.map_congr_left fun v hv=>by have:=hmem v hv;simp only[id,Function.comp_apply];omega))
 have hxl:xs.length=(c++[n]).length:=by rw[hxs,List.length_map]
 obtain ⟨q1,q2,q3,⟨q4,q5,q6⟩|⟨g,off,cur,rfl,rfl,q4,q5⟩⟩:=id o23
 ·exfalso;simp at q2;omega
 rw[Nat.mul_one,<-hxl,hxc,hbk] at q5
 have hcur:cur=kA false (cur.toList.take off) xs (cur.toList.drop (off+xs.length)):=by
  unfold kA;rw[<-q5,List.append_assoc,<-List.drop_drop,List.take_append_drop,List.take_append_drop]
 have hof:(cur.toList.take off).length=off:=by simp;omega
 generalize cur.toList.take off=pre at hcur hof;generalize cur.toList.drop (off+xs.length)=post at hcur;subst hof hcur;refine WL.hs (pt b22 #[.int .i64 n] 3::pt g (kA false pre xs post) 3::pt b4 #[.slice none 0 0] 46::pt b2 #[.slice (some a) c.length k] 46::hs) I ?_;rw[<-hxl];refine WL.perm (List.Perm.swap ..) ?_;refine fin 1 I (th (sq (rg ?_)));refine cl 1 I (sortC false g c23 pre post xs qo (by simp at hxl;omega)) ?_;rintro v25 K25 hs25 ⟨rfl,ys,rfl,hp,hsr⟩;have hyl:ys.length=xs.length:=hp.len;rw[<-hyl] at hsr;have hpw:=hsr.pw
 have hyc:(ys.map fun v=>((v:Nat):Int))=srtI (c++[n]):=by
  refine srtI_eq ?_ hpw;rw[hxc];exact hp.perm.map _
 have hyl2:ys.length=(srtI (c++[n])).length:=by rw[<-hyc,List.length_map]
 refine WL.frz fun K' le lg=>?_;refine fin 0 I (th (sq (rg ?_)));refine bd 1 (.agg #[.slice (some ⟨g,pre.length,none⟩) xs.length c23]) I (fun w=>by kernel_rfl) ?_;refine stS 0 1 I I qk I I ?_;refine fin 1 I (th (rt ?_));refine retcP 1 3 I I I I qk ⟨le,I,some ⟨g,pre.length,none⟩,c23,by rw[<-hyl,hyl2],?_⟩;have xl:=kA_isS (kd:=false) (g:=g) (e:=3) (pre:=pre) (xs:=ys) (post:=post) (cap:=c23) qo;rw[<-hbk,hyc,hyl2] at xl;exact xl.le lg
theorem remGC(ao:Option Addr)(k:Nat)(c:List Int)(x:IsS K ao c.length k 1 (iv c))(hl:c.length<=1099511627776)(n:Int):
  Ct Tryz.prog w0 85 [.agg #[.slice ao c.length k],.int .i64 n] K hs (CfgQ K hs (cfgRem c n)):=by
 unfold cfgRem;refine ent Tryz.func85 ?_;refine sq (rg ?_);refine bx 0 I fun b2=>?_;refine al 0 (.agg #[.slice none 0 0]) I qk fun b4=>?_;refine fin 1 I (th (sq (rg ?_)));refine ldp 1 1 I I I ?_;refine cl 1 I (indexGC (.inl I) ao k c x hl n) ?_;rintro v10 K10 hs10 ⟨rfl,rfl,i,rfl,hin,hno⟩;refine fin 1 I (th (sq (bk (sq (rg ?_)))));refine ldS 0 1 I I qk ?_;refine cl 1 I (legalGC (.inl I) ao k c x hl n) ?_;rintro v14 K14 hs14 ⟨rfl,rfl,rfl⟩;refine cbS 0 (¬(confOK (-1) c/\c≠[]/\0<=n/\n<7)) I (by simp only[Bool.not_eq_true',decide_eq_false_iff_not]) fun b15 h15=>?_;refine fin 1 I (th (ifP h15 I (fun e1=>?_) (fun e1=>?_)))
 ·rw[if_pos e1];refine sq (rg ?_);refine bd 0 (.agg #[.slice none 0 0]) I (fun w=>by kernel_rfl) ?_;refine stS 0 0 I I qk I I ?_;refine fin 1 I (th (rt (rB (rT ?_))));exact retcP 0 2 I I I I qk ⟨Le.refl _,I,none,0,I,IsS.nil _ _ _ _⟩
 rw[if_neg e1];have e1:=Decidable.not_not.1 e1;refine sq (rg ?_);refine cmpS 1 I fun b19 h19=>?_
 refine' bjo (q:=c.length=1) 1 5 25 [19,20] h19 I I I I I I I (fun _=>?x3) (fun b25 h25=>?_)
 case x3=>
  refine ldp 1 1 I I I ?_;refine cbS 1 (c.length=1) I (by simp;omega) fun b24 h24=>?_;exact fin 1 I (bjx h24 I I I)
 have hi0:i<0↔n∉c:=by
  constructor
  ·intro h h';obtain ⟨j,rfl,_⟩:=hin h';omega
  ·intro h;rw[hno h];omega
 rw[hi0] at h25;refine fin 1 I (th (ifP h25 I (fun e5=>?_) (fun e5=>?_)))
 ·rw[if_pos e5];refine sq (rg ?_);refine bd 0 (.agg #[.slice none 0 0]) I (fun w=>by kernel_rfl) ?_;refine stS 0 0 I I qk I I ?_;refine fin 1 I (th (rt (rB (rT ?_))));exact retcP 0 2 I I I I qk ⟨Le.refl _,I,none,0,I,IsS.nil _ _ _ _⟩
 rw[if_neg e5];have hmem:n∈c:=Classical.byContradiction fun h=>e5 (.inl h);obtain ⟨j,rfl,hj,hjt⟩:=hin hmem;have hjl:j<c.length:=(List.getElem?_eq_some_iff.1 hj).1;rw[conf_rem e1.1 hj hjt];refine sk (bl (th (sq (rgm [1] 14 [0,2,4,6,10,12,14,16,18,9,21,22,25,26] ?_))));refine dldp qk 1 0 I I I ?_
 have x31:IsS K14 ao j j 1 (iv (c.take j)):=⟨by simp[iv];omega,Nat.le_refl _,fun i u hu=>x.2.2 i u (by
  unfold iv at hu ⊢;rw[List.map_take,List.getElem?_take] at hu
  split at hu
  ·exact hu
  ·cases hu)⟩
 refine dldp qk 3 0 I I I ?_;refine dar qk 1 I (i64w (x:=((j+1:Nat):Int)) qo) ?_;obtain ⟨r,hr⟩:∃ r,r=c.length-(j+1):=⟨_,rfl⟩;have hdr:(c.drop (j+1)).length=r:=by rw[List.length_drop,hr]
 refine dsl qk 0 (j+1) r I I x I (by show ((c.length:Nat):Int)=_;omega) qo (ys:=iv (c.drop (j+1))) (by
  unfold iv;rw[Nat.mul_one,Nat.mul_one,<-List.map_drop];exact List.take_of_length_le (by rw[List.length_map];omega)) fun ao36 c36 x36=>?_
 refine dact qk 0 I ?_;refine sl3g 0 0 j j I I (by simp) I qo (by have:=x.2.1;omega) ?_;rw[cutA_0,Nat.sub_zero];refine dnx (by simp) I ?_;refine dact qk 0 I ?_;have hlen:(c.take j++c.drop (j+1)).length=j+r:=by rw[List.length_append,hdr,List.length_take];omega
 rcases Nat.eq_zero_or_pos r with h0|hr0
 ·subst h0;have hnil:c.drop (j+1)=[]:=List.eq_nil_of_length_eq_zero hdr;rw[hnil] at x36;refine app0 0 I (Nat.le_refl _) (.inl I) x36 ?_;refine dnx (by simp) I ?_;refine dbd qk 0 (.agg #[.slice ao j j]) I (fun w=>by kernel_rfl) ?_;refine dact qk 0 I ?_;refine stS 0 0 I I qk I I ?_;refine dnx (by simp) I ?_;refine dend qk 1 I (th (rt ?_));refine retcP 0 2 I I I I qk ⟨Le.refl _,I,ao,j,by rw[hlen];rfl,?_⟩;rw[hlen,hnil,List.append_nil];exact x31
 ·refine appf 0 I (.inl I) x31 (fun h=>by obtain ⟨a,ha⟩:=x.addr hjl qo;rw[ha] at h;cases h) (.inl rfl) x36 rfl (by decide) qo (by show (j+r)*8<=_;omega) (by simp only[maxLen];omega) fun ao37 c37 g37 o37=>?_;refine dnx (by simp) I ?_;refine dbd qk 0 (.agg #[.slice ao37 (j+r) c37]) I (fun w=>by kernel_rfl) ?_;refine dact qk 0 I ?_;refine stS 0 1 I I qk I I ?_;refine dnx (by simp) I ?_;refine dend qk 1 I (th (rt (WQ.frz fun K' le lg=>?_)));refine retcP 0 2 I I I I qk ⟨le,I,ao37,c37,by rw[hlen],?_⟩;rw[hlen,show iv (c.take j++c.drop (j+1))=iv (c.take j)++iv (c.drop (j+1)) from by simp[iv]];exact o37.isS.le lg
end
end
section
def an3(a:Ans3):Value:=.tuple #[.int .u64 a.1,.int .u64 a.2.1,.int .i64 a.2.2]
theorem cfgAdd_ok{c:List Int}{n:Int}(h:(cfgAdd c n).2=0):0<=n/\n<7:=by
 unfold cfgAdd at h
 split at h
 ·cases h
 ·rename_i h1;exact (Decidable.not_not.1 h1).2.2
theorem cfgAdd_len{c:List Int}(n:Int):(cfgAdd c n).1.length<=c.length+1:=by
 unfold cfgAdd
 split
 ·simp
 ·split
  ·simp
  ·rw[(srtI_perm _).length_eq];simp
theorem cfgRem_len{c:List Int}(n:Int):(cfgRem c n).1.length<=c.length:=by
 unfold cfgRem
 split
 ·simp
 ·split
  ·simp
  ·exact List.length_filter_le _ _
attribute [local irreducible] Code.wp wpList Calls
section
variable {w0:World} {K lh g:PH} {hs:List PH} {rb lb db c q z k:Nat} {R:Nd} {L:Lg} {D:Dk} {s:NS}
theorem ec_getCmd(b:List UInt8):(¬ec (getCmd b)=0)=((getCmd b).isSome=false):=by
 cases getCmd b <;> simp[ec]
theorem proposeGC(iN:Nd3 K rb lb db R L D s lh g)(o:NI c q z k R L D)(hc:c<=800000000)(hk:k<=600000){hb:PH}(b:List UInt8)(hm:In K (pt rb (ndA lb R s) RT::lh::g::hs) hb)(ab:Option Addr)(cb:Nat)(x:IsS hb ab b.length cb 1 (bv b))(hl:b.length<1099511627776):
  NdC w0 K hs rb lb db R s lh g 34 [.pointer (some ⟨rb,0,none⟩),.slice ab b.length cb] (R.propose L D b).1 (R.propose L D b).2.1 (R.propose L D b).2.2.1 (an3 (R.propose L D b).2.2.2):=by
 unfold Nd.propose;refine enter Tryz.func34 qk I I I ?_;refine sq (rg ?_);refine fin 3 I (th (sq (rg ?_)));refine cl 1 I leadsGC ?_;rintro v10 K10 hs10 ⟨rfl,rfl,rfl⟩;refine fin 1 I (th (sq (sq (rg ?_))));refine cmpS 1 I fun b12 h12=>?_;refine fin 0 I (th (ifP h12 I (fun e2=>?_) (fun e2=>?_)))
 ·rw[if_pos e2];refine sq (rg ?_);refine fin 4 I (th (rt (rT ?_)));exact ret3 I I I I ⟨_,_,_,I,⟨s,I,Le.refl _,iN⟩,I⟩
 rw[if_neg e2];refine sk (th (sq (rg ?_)));refine cl 1 I (getCmdC ab cb b hm x hl) ?_;rintro v16 K16 hs16 ⟨rfl,rfl,rfl⟩;refine al 3 (.agg #[.int .i64 0,.int .u64 0,.int .u64 0,.string ⟨#[]⟩,.int .i64 0]) I qk fun b7=>?_;refine stS 0 0 I I qk I I ?_;refine fin 1 I (th (sq (sq (rg ?_))));refine cmpS 1 I fun b20 h20=>?_;rw[ec_getCmd] at h20;refine fin 0 I (th (ifP h20 I (fun e4=>?_) (fun e4=>?_)))
 ·rw[if_pos e4];refine sq (rg ?_);refine fin 3 I (th (rt (rT (WQ.drop ?_))));exact ret3 I I I I ⟨_,_,_,I,⟨s,I,Le.refl _,iN⟩,I⟩
 rw[if_neg e4];refine sk (th (sq (rg ?_)));refine cl 2 I (cloneB ab cb b (In.cons hm) x hl) ?_;rintro v23 K23 hs23 ⟨rfl,h23,a23,c23,rfl,rfl,o23⟩;refine WL.frz fun K1 le lg=>?_;refine WL.hs (pt b7 ((getCmd b).getD Cmd.zero).v 93::pt rb (ndA lb R s) RT::lh::g::hs) I ?_;refine cl 0 I (Ct.at3 [_] (layGC (iN.le le) o hc hk 1 b hl a23 c23 (o23.isS.le lg))) ?_;rintro v24 K24 hs24 ⟨_,_,_,rfl,⟨s2,rfl,le2,I2⟩,rfl⟩;refine fin 6 I (th (rt (WQ.drop ?_)));exact ret3 I I I I ⟨_,_,_,I,⟨s2,I,le.trans le2,I2⟩,I⟩
theorem readGC(iN:Nd3 K rb lb db R L D s lh g)(o:NI c q z k R L D)(hc:c<=900000000)(hk:k<=800000):
  NdC w0 K hs rb lb db R s lh g 36 [.pointer (some ⟨rb,0,none⟩)] (R.read L).1 L D (an3 (R.read L).2):=by
 unfold Nd.read;refine enter Tryz.func36 qk I I I ?_;refine sq (rg ?_);refine fin 3 I (th (sq (rg ?_)));refine cl 1 I leadsGC ?_;rintro v6 K6 hs6 ⟨rfl,rfl,rfl⟩;refine fin 1 I (th (sq (sq (rg ?_))));refine cmpS 1 I fun b8 h8=>?_;refine fin 0 I (th (ifP h8 I (fun e2=>?_) (fun e2=>?_)))
 ·rw[if_pos e2];refine sq (rg ?_);refine fin 4 I (th (rt (rT ?_)));exact ret3 I I I I ⟨_,_,_,I,⟨s,I,Le.refl _,iN⟩,I⟩
 rw[if_neg e2];refine sk (th (sq (sq (rg ?_))));refine cl 1 I (settledGC o hc iN.l) ?_;rintro v11 K11 hs11 ⟨_,_,rfl,rfl,rfl,rfl,rfl⟩;refine cbS 0 (R.settled L=false) I (by cases R.settled L <;> simp) fun b12 h12=>?_;refine fin 0 I (th (ifP h12 I (fun e3=>?_) (fun e3=>?_)))
 ·rw[if_pos e3];refine sq (rg ?_);refine fin 3 I (th (rt (rT ?_)));exact ret3 I I I I ⟨_,_,_,I,⟨s,I,Le.refl _,iN⟩,I⟩
 rw[if_neg e3];refine sk (th (sq (rg ?_)));refine cl 1 I (tellGC iN o hc hk true) ?_;rintro v14 K14 hs14 ⟨_,_,_,rfl,⟨s2,rfl,le2,I2⟩,rfl⟩;refine fin 0 I (th (sq (rgm [0] 11 [0,2,4,6,8,10,12,14,16,18,20] ?_)));refine dldp qk 3 0 I I I ?_;refine dldp qk 3 0 I I I ?_;refine dend qk 3 I (th (rt ?_));exact ret3 I I I I ⟨_,_,_,I,⟨s2,I,le2,I2⟩,I⟩
theorem changeGC(iN:Nd3 K rb lb db R L D s lh g)(o:NI c q z k R L D)(hc:c<=800000000)(hk:k<=600000)(a:Bool)(n:Int):
  NdC w0 K hs rb lb db R s lh g 35 [.pointer (some ⟨rb,0,none⟩),.bool a,.int .i64 n] (R.change L D a n).1 (R.change L D a n).2.1 (R.change L D a n).2.2.1 (an3 (R.change L D a n).2.2.2):=by
 have hlast:=o.last qo;have hcf:Cfg L.cfg.1:=cfgAt_cfg o.rn.lb o.cf L.last;have hcl:=hcf.len;have hadl:=cfgAdd_len (c:=L.cfg.1) n;have hrml:=cfgRem_len (c:=L.cfg.1) n;unfold Nd.change;refine enter Tryz.func35 qk I I I ?_;refine sq (rg ?_);refine fin 3 I (th (sq (rg ?_)));refine cl 1 I leadsGC ?_;rintro v15 K15 hs15 ⟨rfl,rfl,rfl⟩;refine fin 1 I (th (sq (sq (rg ?_))));refine cmpS 1 I fun b17 h17=>?_;refine fin 0 I (th (ifP h17 I (fun e2=>?_) (fun e2=>?_)))
 ·rw[if_pos e2];refine sq (rg ?_);refine fin 4 I (th (rt (rT ?_)));exact ret3 I I I I ⟨_,_,_,I,⟨s,I,Le.refl _,iN⟩,I⟩
 rw[if_neg e2];refine sk (th (sq (rg ?_)));refine cl 1 I (configGC o qo iN.l) ?_;rintro v21 K21 hs21 ⟨_,lh,rfl,rfl,rfl,le1,ao,cap,rfl,x⟩;have I1:=iN.le le1;refine al 3 (.agg #[.slice none 0 0]) I qk fun b9=>?_;refine stS 0 0 I I qk I I ?_;refine WL.hs (pt b9 #[.slice ao L.cfg.1.length cap] 46::pt rb (ndA lb R s) RT::lh::g::hs) I ?_;refine fin 1 I (th (sq (sq (rg ?_))));refine cl 1 I (Ct.at2p [_] (settledGC o qo I1.l)) ?_;rintro v25 K25 hs25 ⟨_,lh,rfl,rfl,rfl,rfl,rfl⟩;refine cbS 0 (R.settled L=false) I (by cases R.settled L <;> simp) fun b26 h26=>?_
 refine' bjo (q:=R.com<L.cfg.2) 1 7 34 [26,27] h26 I I I I I I I (fun _=>?x3) (fun b34 h34=>?_)
 case x3=>
  refine ldp 4 1 I I I ?_;refine cbS 0 (R.com<L.cfg.2) I (by simp) fun b33 h33=>?_;exact fin 1 I (bjx h33 I I I)
 refine fin 0 I<|th (ifP h34 I (fun e5=>?_) (fun e5=>?_))
 ·rw[if_pos e5];refine sq (rg ?_);refine fin 3 I (th (rt (rT (WQ.drop ?_))));exact ret3 I I I I ⟨_,_,_,I,⟨s,I,le1,I1⟩,I⟩
 rw[if_neg e5];refine sk (th ?_);refine sq (rg ?_);refine fin 1 I (th ?_);refine jn (σ:=Unit) (fun _=>[(0,.pointer (some ⟨rb,0,none⟩)),(1,.bool a),(2,.int .i64 n),(9,.pointer (some ⟨b9,0,none⟩)),(11,.func (.func (if a=true then 86 else 85)) #[] #[])]) (fun _=>pt b9 #[.slice ao L.cfg.1.length cap] 46::pt rb (ndA lb R s) RT::lh::g::hs) (fun _=>True) ?_ ?_
 ·refine sq (rg ?_);refine fin 1 I (th (ifB I (fun h6=>?_) (fun h6=>?_)))
  ·refine rg ?_;refine fin 1 I ?_;exact jx () trivial ⟨I,I,I,I,by rw[if_pos h6];rfl,trivial⟩ rfl rfl
  ·exact sk (jx () trivial ⟨I,I,I,I,by rw[if_neg (by simp[h6])];rfl,trivial⟩ rfl rfl)
 rintro _ _
 have hcq:∀ hs':List PH,Ct Tryz.prog w0 (if a=true then 86 else 85) [.agg #[.slice ao L.cfg.1.length cap],.int .i64 n] K25 hs' (CfgQ K25 hs' (if a=true then cfgAdd L.cfg.1 n else cfgRem L.cfg.1 n)):=fun hs'=>by
  cases a with
  | true=>exact addGC ao cap L.cfg.1 x qo n
  | false=>exact remGC ao cap L.cfg.1 x qo n
 have hb7:∀ h:a=true,(if a=true then cfgAdd L.cfg.1 n else cfgRem L.cfg.1 n).2=0->0<=n/\n<7:=fun h h0=>by
  rw[if_pos h] at h0;exact cfgAdd_ok h0
 have hrl:(if a=true then cfgAdd L.cfg.1 n else cfgRem L.cfg.1 n).1.length<=8:=by
  split <;> omega
 dsimp only;generalize (if a=true then cfgAdd L.cfg.1 n else cfgRem L.cfg.1 n)=r at hcq hb7 hrl ⊢;obtain ⟨r1,r2⟩:=r;dsimp only at hcq hb7 hrl ⊢;refine sq (rg ?_);refine ldS 1 0 I I qk ?_;refine cl 1 I (hcq _) ?_;rintro v40 K40 hs40 ⟨le2,rfl,ao2,cap2,rfl,x2⟩;refine stS 3 0 I I qk I I ?_;refine WL.hs (pt b9 #[.slice ao2 r1.length cap2] 46::pt rb (ndA lb R s) RT::lh::g::hs) I ?_;refine fin 1 I (th (sq (sq (rg ?_))));refine cmpS 1 I fun b44 h44=>?_;have I2:=I1.le le2;have le12:=le1.trans le2;refine fin 0 I (th (ifP h44 I (fun e8=>?_) (fun e8=>?_)))
 ·rw[if_pos e8];refine sq (rg ?_);refine fin 4 I (th (rt (rT (WQ.drop ?_))));exact ret3 I I I I ⟨_,_,_,I,⟨s,I,le12,I2⟩,I⟩
 rw[if_neg e8];refine sk (th ?_);obtain ⟨R1,hR1⟩:∃ R1,R1=if a=true then R.setP n (Pr.new (L.last+1)) else R:=⟨_,rfl⟩
 have I3:Nd3 K40 rb lb db R1 L D s lh g:=by
  rw[hR1]
  split
  ·exact ⟨I2.l,I2.g.r⟩
  ·exact I2
 have o3:NI c q z k R1 L D:=by
  rw[hR1]
  split
  ·exact (o.r (o.rb.setP n (p:=Pr.new (L.last+1)) ⟨by unfold rTop;exact (by decide:0+1<=4611686018427387904),hlast,by show 0<=mxU;omega,Int.le_refl 0,by show (0:Int)<=2097152;omega⟩))
  ·exact o
 rw[<-hR1];refine jn (σ:=Unit) (fun _=>[(0,.pointer (some ⟨rb,0,none⟩)),(9,.pointer (some ⟨b9,0,none⟩))]) (fun _=>pt b9 #[.slice ao2 r1.length cap2] 46::pt rb (ndA lb R1 s) RT::lh::g::hs) (fun _=>True) ?_ ?_
 ·refine sq (rg ?_);refine fin 1 I (th (ifB I (fun h9=>?_) (fun h9=>?_)))
  ·obtain ⟨hn0,hn7⟩:=hb7 h9 (Decidable.not_not.1 e8);obtain ⟨j,rfl⟩:∃ j:Nat,n=(j:Int):=⟨n.toNat,by omega⟩;have hj7:j<7:=by omega
   refine rgm [1] 12 [0,2,4,6,8,10,18,20,13,14,16,22,25] ?_;refine dldpw qk 5 0 I qk I I ?_;refine dact qk 2 I ?_;refine cl 0 I (Ct.keep 2 I (lastH lb db L D c o.rn.lb qo I2.l)) ?_;rintro v53 K53 hs53 ⟨rfl,rfl,rfl⟩;refine dnx (by simp) I ?_;refine dar qk 0 I (u64w (x:=((L.last+1:Nat):Int)) (by unfold rTop at hlast;omega)) ?_;refine dbd qk 0 (.agg #[.int .u64 0,.int .u64 (L.last+1:Nat),.int .u64 0,.bool false,.int .i64 0]) I (fun w=>by kernel_rfl) ?_;refine dixa (sz:=5) (a:=⟨rb,10,none⟩) qk 0 j I Tryz.underlying101 qk I hj7 ?_;rw[add_mk];refine dact qk 0 I ?_;refine sts 0 1 (off:=10+j*5) (cs:=#[.int .u64 0,.int .u64 (L.last+1:Nat),.int .u64 0,.bool false,.int .i64 0]) I I qk (by show 10+j*5+5<=54;omega) (fun v hv=>by simp at hv;rcases hv with rfl|rfl|rfl|rfl|rfl <;> rfl) ?_
   refine WL.h 1 (pt rb (ndA lb R1 s) RT) ?_ (.there (.here (by rw[hR1,if_pos h9,<-ndA_put lb R s hj7 (Pr.new (L.last+1))];rfl)));refine dnext (.inl qk) ?_;refine dend qk 0 I ?_;exact jx () trivial ⟨I,I,trivial⟩ I I
  ·exact sk<|jx () trivial ⟨I,I,trivial⟩ I (by rw[hR1,if_neg (by simp[h9])])
 rintro _ _;refine sq (rg ?_);refine ldS 0 0 I I qk ?_;refine cl 0 I (putConfC ao2 cap2 r1 (.inl I) x2 qo) ?_;rintro v61 K61 hs61 ⟨rfl,h61,a61,c61,rfl,rfl,o61⟩;refine fin 5 I (th (sq (rg (WL.frz fun K1 le lg=>?_))))
 have hpl:(ob (putConf r1)).length<1099511627776:=by
  unfold putConf
  split <;> simp[ob]
 refine cl 2 I (Ct.at3 [_] (layGC (I3.le le) o3 hc hk 2 (ob (putConf r1)) hpl a61 c61 (o61.isS.le lg))) ?_;rintro v66 K66 hs66 ⟨_,_,_,rfl,⟨s2,rfl,le3,I4⟩,rfl⟩;refine fin 6 I (th (rt (WQ.drop ?_)));exact ret3 I I I I ⟨_,_,_,I,⟨s2,I,(le12.trans le).trans le3,I4⟩,I⟩
end
end
section
attribute [local irreducible] Code.wp wpList Calls
section
variable {w0:World} {K lh g:PH} {hs:List PH} {rb lb db c q z k:Nat} {R:Nd} {L:Lg} {D:Dk} {s:NS}
theorem roleGC:Ct Tryz.prog w0 30 [.pointer (some ⟨rb,0,none⟩)] K (pt rb (ndA lb R s) RT::hs) (fun v K' hs'=>K'=K/\hs'=pt rb (ndA lb R s) RT::hs/\v=.int .i64 R.role):=by
 refine enter Tryz.func30 qk I I I ?_;refine sq (rg ?_);refine fin 1 I (th (sq (rg ?_)));refine ldp 3 0 I I I ?_;refine fin 1 I (th (rt ?_));exact ret1 I I ⟨I,I,I⟩
theorem commitGC:Ct Tryz.prog w0 15 [.pointer (some ⟨rb,0,none⟩)] K (pt rb (ndA lb R s) RT::hs) (fun v K' hs'=>K'=K/\hs'=pt rb (ndA lb R s) RT::hs/\v=.int .u64 R.com):=by
 refine enter Tryz.func15 qk I I I ?_;refine sq (rg ?_);refine fin 1 I (th (sq (rg ?_)));refine ldp 3 0 I I I ?_;refine fin 1 I (th (rt ?_));exact ret1 I I ⟨I,I,I⟩
theorem leaderGC:Ct Tryz.prog w0 31 [.pointer (some ⟨rb,0,none⟩)] K (pt rb (ndA lb R s) RT::hs) (fun v K' hs'=>K'=K/\hs'=pt rb (ndA lb R s) RT::hs/\v=.int .i64 R.lead):=by
 refine enter Tryz.func31 qk I I I ?_;refine sq (rg ?_);refine fin 1 I (th (sq (rg ?_)));refine ldp 3 0 I I I ?_;refine fin 1 I (th (rt ?_));exact ret1 I I ⟨I,I,I⟩
theorem messagesGC(iN:NdH K rb R s g):
  Ct Tryz.prog w0 12 [.pointer (some ⟨rb,0,none⟩)] K (pt rb (ndA lb R s) RT::g::hs)
   (fun v K' hs'=>∃ a g',hs'=a::g'::hs/\Le K K'/\(∃ s',a=pt rb (ndA lb { R with out:=[] } s') RT/\NdH K' rb { R with out:=[] } s' g')/\∃ ao cap,v=.slice ao R.out.length cap/\SlS 14 (MsgC K') K' ao R.out.length cap R.out):=by
 obtain ⟨hy,hd,hq,rfl,dj,⟨y,v,d,⟨aO,cO,eo,so⟩,f⟩⟩:=iN;obtain ⟨sy,sv,sd,sq',f0,f1,f2⟩:=s;dsimp only at eo y v d f;subst eo;refine enter Tryz.func12 qk I I I ?_;refine sq (rg ?_);refine fin 1 I (th (sq (rg ?_)));refine ldp 3 0 I I I ?_;refine fin 1 I (th (sq (rg ?_)));refine stp 3 0 I I I I ?_;refine WL.h 0 (pt rb (ndA lb { R with out:=[] } ⟨sy,sv,sd,.slice none 0 0,f0,f1,f2⟩) RT) ?_;refine WL.perm (List.perm_append_comm_assoc [_] [_] hs) (WL.split dj ?_);refine fin 0 I (th (sq (rg ?_)));refine WL.perm (hs':=hq::hy::hd::pt rb (ndA lb { R with out:=[] } ⟨sy,sv,sd,.slice none 0 0,f0,f1,f2⟩) RT::hs) ?_ (WL.frz fun K1 le lg=>WL.em ?_)
 ·exact (List.perm_append_comm_assoc [hy,hd] [hq] _)
 refine WL.perm (List.perm_append_comm_assoc [En.em] [hy,hd] _) (WL.join [hy,hd,En.em] fun dj'=>WL.perm (List.perm_append_comm_assoc [_] [_] hs) ?_);refine fin 2 I (th (rt ?_));refine ret1 I I ⟨_,_,I,le,⟨_,I,hy,hd,En.em,I,dj',?_⟩,aO,cO,I,?_⟩
 ·obtain ⟨y',v',d',_,f'⟩:=(NdG.mk y v d ⟨aO,cO,rfl,so⟩ f:NdG K rb R ⟨sy,sv,sd,.slice aO R.out.length cO,f0,f1,f2⟩ hy hd hq).le le;exact ⟨y',v',d',⟨none,0,I,SlO.nil _ _⟩,f'⟩
 ·exact so.slS.le lg fun _ _=>MsgC.le le
theorem newGC(o:LBd c L)(hL:LgH K lb db L D lh)(n:Int):
  Ct Tryz.prog w0 61 [.int .i64 n,.pointer (some ⟨lb,0,none⟩)] K (lh::hs)
   (fun v K' hs'=>∃ rb g,hs'=pt rb (ndA lb (Nd.new n L) ⟨.slice none 0 0,.slice none 0 0,.slice none 0 0,.slice none 0 0,tkI rb,tkI rb,tkB rb⟩) RT::lh::g::hs/\v=.pointer (some ⟨rb,0,none⟩)/\Le K K'/\Nd3 K' rb lb db (Nd.new n L) L D ⟨.slice none 0 0,.slice none 0 0,.slice none 0 0,.slice none 0 0,tkI rb,tkI rb,tkB rb⟩ lh g):=by
 refine enter Tryz.func61 qk I I I ?_;refine sq (rg ?_);refine fin 1 I (th (sq (rg ?_)));refine cl 3 I (snapH lb db L D c o hL) ?_;rintro v9 K9 hs9 ⟨h',rfl,hh,le,aV,cV,aD,cD,rfl,xV,xD⟩;subst hh;refine opr 0 (v:=.int .u64 L.sn.idx) I (fun A w ha _=>fld_run (t:=48) (x:=.tmp 9) (i:=0) (v:=.agg (snV L.sn aV cV aD cD)) I I (fun w=>by kernel_rfl) A w ha) ?_;refine bd 0 (.agg (ndA lb (Nd.new n L) ⟨.slice none 0 0,.slice none 0 0,.slice none 0 0,.slice none 0 0,.nilFunc,.nilFunc,.nilFunc⟩)) I (fun w=>by kernel_rfl) ?_;refine bx 0 I fun rb=>?_;refine WL.hs (pt rb (ndA lb (Nd.new n L) ⟨.slice none 0 0,.slice none 0 0,.slice none 0 0,.slice none 0 0,.nilFunc,.nilFunc,.nilFunc⟩) RT::h'::hs) I ?_;refine fin 1 I (th (sq (rg ?_)));refine opr 2 (v:=tkI rb) I (fun A w ha _=>mkf_run (f:=.func 121) (x:=.tmp 14) (v:=.pointer (some ⟨rb,0,none⟩)) I I (fun w=>by kernel_rfl) A w ha) ?_;refine opr 1 (v:=tkI rb) I (fun A w ha _=>mkf_run (f:=.func 121) (x:=.tmp 16) (v:=.pointer (some ⟨rb,0,none⟩)) I I (fun w=>by kernel_rfl) A w ha) ?_
 refine opr 1 (v:=tkB rb) I (fun A w ha _=>mkf_run (f:=.func 122) (x:=.tmp 18) (v:=.pointer (some ⟨rb,0,none⟩)) I I (fun w=>by kernel_rfl) A w ha) ?_;refine bd 0 (.agg #[tkI rb,tkI rb,tkB rb]) I (fun w=>by kernel_rfl) ?_;refine sts 2 0 (off:=51) (cs:=#[tkI rb,tkI rb,tkB rb]) I I qk (by show 51+3<=54;omega) (fun v hv=>by simp at hv;rcases hv with rfl|rfl <;> rfl) ?_;refine WL.hs (pt rb (ndA lb (Nd.new n L) ⟨.slice none 0 0,.slice none 0 0,.slice none 0 0,.slice none 0 0,tkI rb,tkI rb,tkB rb⟩) RT::h'::hs) I ?_;refine fin 0 I (th (sq (rg ?_)));refine fin 2 I (th (rt (WQ.em (WQ.em (WQ.em (WQ.join [En.em,En.em,En.em] fun dj=>WQ.perm (List.perm_append_comm_assoc [_] [_,_] hs) ?_))))));exact ret1 I I ⟨rb,_,I,I,le,⟨hL.le le,En.em,En.em,En.em,I,dj,⟨none,0,I,Own.nil _ _⟩,⟨none,0,I,IsS.nil _ _ _ _⟩,⟨none,0,I,Own.nil _ _⟩,⟨none,0,I,SlO.nil _ _⟩,I,I,I⟩⟩
theorem saveGC(iN:Nd3 K rb lb db R L D s lh g)(o:NI c q z k R L D)(hc:c<=499900000)(i:Nat)(hi:i<18446744073709551616)(data:List UInt8)(hdl:data.length<1099511627776)(aT:Option Addr)(cT:Nat)(xT:IsS K aT data.length cT 1 (bv data)):
  NdC w0 K hs rb lb db R s lh g 37 [.pointer (some ⟨rb,0,none⟩),.int .u64 (i:Nat),.slice aT data.length cT] (R.save L D i data).1 (R.save L D i data).2.1 (R.save L D i data).2.2.1 (.int .i64 (R.save L D i data).2.2.2):=by
 have hcf:Cfg (cfgAt L.sn L.l i).1:=cfgAt_cfg o.rn.lb o.cf i;have hcl:=hcf.len;unfold Nd.save;refine enter Tryz.func37 qk I I I ?_;refine sq (rg ?_);refine fin 1 I (th (sq (bk (sq (rg ?_)))));refine ldp 3 0 (v:=.bool R.hl) I I I ?_;refine fin 1 I (th (ifB I (fun e1=>?_) (fun e1=>?_)))
 ·rw[if_pos e1];refine sq (rg ?_);refine fin 1 I (th (rt (rB (rT ?_))));exact ret1 I I ⟨_,_,_,I,⟨s,I,Le.refl _,iN⟩,I⟩
 rw[if_neg (by simp[e1])];obtain ⟨bq,hbq⟩:∃ bq,bq=decide (R.com<i\/i<=L.sn.idx):=⟨_,rfl⟩;refine jnK (σ:=PH) (fun _=>[(0,.pointer (some ⟨rb,0,none⟩)),(1,.int .u64 (i:Nat)),(2,.slice aT data.length cT),(17,.bool bq)]) (fun u=>u) (fun _=>pt rb (ndA lb R s) RT::lh::g::hs) (fun u=>Le K u) ?_ ?_
 ·refine rg ?_;refine ldp 4 0 I I I ?_;refine cmp 0 I (fun h1=>?_) (fun h1=>?_)
  ·refine fin 11 I ?_;exact jxK K (Le.refl _) ⟨I,I,I,by rw[hbq,decide_eq_true (.inl qo)];rfl,trivial⟩ rfl rfl
  ·refine ldp 5 0 I I I ?_;refine cl 0 I (Ct.at 1 I (snapH lb db L D c o.rn.lb iN.l)) ?_;rintro v30 K30 hs30 ⟨h',rfl,hh,le,aV,cV,aD,cD,rfl,xV,xD⟩;subst hh;refine opr 0 (v:=.int .u64 L.sn.idx) I (fun A w ha _=>fld_run (t:=48) (x:=.tmp 30) (i:=0) (v:=.agg (snV L.sn aV cV aD cD)) I I (fun w=>by kernel_rfl) A w ha) ?_;refine cbS 0 (i<=L.sn.idx) I (by simp) fun b32 h32=>?_;refine fin 2 I ?_
   have e:b32=bq:=by
    rw[hbq,Bool.eq_iff_iff,h32,decide_eq_true_iff];omega
   exact jxK K30 le ⟨I,I,I,by rw[<-e];rfl,trivial⟩ rfl rfl
 intro K2 le;dsimp only at le ⊢;have iN:=iN.le le;refine ifB I (fun h=>?_) (fun h=>?_)
 ·rw[h] at hbq;rw[if_pos (of_decide_eq_true hbq.symm)];refine sq (rg ?_);refine fin 1 I (th (rt (rB (rT ?_))));exact ret1 I I ⟨_,_,_,I,⟨s,I,le,iN⟩,I⟩
 rw[h] at hbq;rw[if_neg (of_decide_eq_false hbq.symm)];refine sk (bl (th (sq (rg ?_))));refine ldp 3 0 I I I ?_;refine cl 1 I (Ct.keep 1 I (termH lb db L D c o.rn.lb qo iN.l i hi)) ?_;rintro v40 K40 hs40 ⟨rfl,rfl,rfl⟩;refine fin 5 I (th (sq (rg ?_)));refine ldp 3 0 I I I ?_;refine cl 1 I (Ct.at 1 I (configH lb db L D c o.rn.lb qo iN.l i (by unfold mxU;omega))) ?_;rintro v49 K49 hs49 ⟨h',rfl,hh,le2,aS,cS,rfl,xS⟩;subst hh;refine al 3 (.agg #[.slice none 0 0]) I qk fun b9=>?_;refine stS 0 0 I I qk I I ?_;refine WL.hs (pt b9 #[.slice aS (cfgAt L.sn L.l i).1.length cS] 46::pt rb (ndA lb R s) RT::h'::g::hs) I ?_;have I2:=iN.le le2;have le3:=le.trans le2;have hsv:=fun (hs':List PH)=>saveH (w0:=w0) (hs:=hs') lb db L D c o.rn.lb hc o.rn.ok I2.l ⟨i,(L.trm i).1,(cfgAt L.sn L.l i).1,data⟩ hi (trm_le o.rn.lb i) (by dsimp only;omega) hdl aS cS aT cT xS (xT.le le3);generalize L.save ⟨i,(L.trm i).1,(cfgAt L.sn L.l i).1,data⟩ D=A at hsv ⊢
 obtain ⟨L1,D1,c1⟩:=A;dsimp only at hsv ⊢;refine fin 1 I (th (sq (rgm [1,0] 11 [0,2,4,6,8,10,12,14,16,19,20] ?_)));refine dldp qk 3 0 I I I ?_;refine dldS qk 2 1 I qk I qk ?_;refine dbd qk 1 (.agg (snV ⟨i,(L.trm i).1,(cfgAt L.sn L.l i).1,data⟩ aS cS aT cT)) I (fun w=>by kernel_rfl) ?_;refine dact qk 0 I ?_;refine cl 0 I (Ct.at 2 I (hsv _)) ?_;rintro v61 K61 hs61 ⟨h2,rfl,le4,hL2,rfl⟩;refine WL.hs (pt b9 #[.slice aS (cfgAt L.sn L.l i).1.length cS] 46::pt rb (ndA lb R s) RT::h2::g::hs) I ?_;refine dnxL (by simp) le4 ?_;have le5:=le3.trans le4;refine dend qk 1 I (th (sq (sq (rg ?_))));refine cmpS 1 I fun b63 h63=>?_;refine fin 0 I (th (ifP h63 I (fun e7=>?_) (fun e7=>?_)))
 ·rw[if_pos e7];refine sq (rg ?_);refine fin 2 I (th (rt (rT (WQ.drop ?_))));exact ret1 I I ⟨_,_,_,I,⟨s,I,le5,hL2,I2.g.le le4⟩,I⟩
 rw[if_neg e7];refine sk (th (sq (rg ?_)));refine cl 2 I (Ct.at3 [_] (didGC (lh:=h2) (I2.g.le le4) c1)) ?_;rintro v67 K67 hs67 ⟨_,lh,g1,rfl,rfl,⟨s1,rfl,G1⟩,rfl,rfl⟩;refine fin 1 I (th (rt (WQ.drop ?_)));exact ret1 I I ⟨_,_,_,I,⟨s1,I,le5,hL2,G1⟩,I⟩
end
end
section
def wldV(vN:Value)(v:Nat)(bm:Nat):Array Value:=#[vN,.int .i64 (v:Nat),.slice none 0 0,.slice none 0 0,.slice none 0 0,.map (some bm),.slice none 0 0,.int .u64 0,.int .u64 0,.bool false]
def fstL(v:Nat):List Int:=(List.range v).map fun i=>((i:Nat):Int)
theorem fstL_len(v:Nat):(fstL v).length=v:=by simp[fstL]
theorem fstL_succ(v:Nat):fstL (v+1)=fstL v++[(v:Int)]:=by simp[fstL,List.range_succ]
def lgV(v:Nat):Lg:=⟨⟨none,1,[],[],0,0⟩,⟨0,[]⟩,⟨0,[]⟩,0,-1,⟨0,0,fstL v,[]⟩,0,0,[],0⟩
structure Stn where
 db:Nat
 lb:Nat
 rb:Nat
 R:Nd
 L:Lg
 D:Dk
 s:NS
 lh:PH
 g:PH
def Stn.vals(s:Stn):List Value:=[.pointer (some ⟨s.db,0,none⟩),.pointer (some ⟨s.lb,0,none⟩),.pointer (some ⟨s.rb,0,none⟩)]
attribute [local irreducible] Code.wp wpList Calls
abbrev OneT:Nat:=85
abbrev WldT:Nat:=73
def Stn.hp(s:Stn):List PH:=[pt s.rb (ndA s.lb s.R s.s) RT,s.lh,s.g]
def Stn.ok(K:PH)(s:Stn):Prop:=Nd3 K s.rb s.lb s.db s.R s.L s.D s.s s.lh s.g
def hpA(ss:List Stn):List PH:=ss.flatMap Stn.hp
theorem openV{v:Nat}(hv:1<=v/\v<=7):lOpen (dk0 16777216) (fstL v)=(some (lgV v),dk0 16777216,0):=by
 obtain rfl|rfl|rfl|rfl|rfl|rfl|rfl:v=1\/v=2\/v=3\/v=4\/v=5\/v=6\/v=7:=by omega
 all_goals kernel_rfl
theorem rnV{v:Nat}(hv:1<=v/\v<=7):Rn 0 0 (lgV v) (dk0 16777216):=by
 have r:=(Rn.opened (dk0_DOk (r:=16777216) qo) (q:=0) (by simp[dk0]) (first:=fstL v) (L:=lgV v) (by rw[openV hv])).1;rw[openV hv] at r;exact r
theorem firstGC{w0:World}{K:PH}{hs:List PH}(v:Nat)(hv:v<=7):Ct Tryz.prog w0 23 [.int .i64 (v:Nat)] K hs (fun u K' hs'=>Le K K'/\hs'=hs/\∃ ao cap,u=.agg #[.slice ao (fstL v).length cap]/\IsS K' ao (fstL v).length cap 1 (iv (fstL v))):=by
 refine enter Tryz.func23 qk I I I ?_;refine sq (rg ?_);refine al 0 (.agg #[.slice none 0 0]) I qk fun b2=>?_;refine fin 0 I (th (sq (rg ?_)));refine al 0 (.agg #[.slice none 0 0]) I qk fun b3=>?_;refine fin 0 I (th (sq (sq (rg ?_))));refine fin 2 I (th (bk (WC.em ?_)))
 refine loop (σ:=Nat×Option Addr×Nat×PH) (fun s=>[(2,.pointer (some ⟨b2,0,none⟩)),(3,.pointer (some ⟨b3,0,none⟩)),(5,.int .i64 (v:Nat)),(6,.int .i64 s.1)]) (fun _=>K)
  (fun s=>s.2.2.2::pt b3 #[.slice s.2.1 (fstL s.1).length s.2.2.1] 46::pt b2 #[.slice none 0 0] 46::hs) (fun s=>s.1<=v/\Own s.2.2.2 s.2.1 (fstL s.1).length s.2.2.1 3 1 (iv (fstL s.1))) (fun s=>v-s.1) (0,none,0,En.em) ⟨Nat.zero_le _,Own.nil _ _⟩ ⟨rfl,rfl,rfl,rfl,trivial⟩ rfl rfl ?_
 rintro ⟨j,ao,cap,g⟩ ⟨hj,ow⟩;dsimp only at *;have hfl:=fstL_len j;refine sq (rg ?_);refine cmpS 0 I fun b7 h7=>?_;refine fin 0 I (th (sq (ifP h7 I (fun e2=>?_) (fun e2=>?_))))
 ·refine sk (th (sq (bk (sq (rg ?_)))));refine fin 2 I (th (rg ?_));refine ldp 1 1 I I I ?_;refine lit 1 #[.int .i64 (j:Nat)] I (by decide) qk fun b12=>?_;refine appI 0 1 (fstL j) (j:Int) I I I ow (.inr ⟨0,I⟩) (Own.ofPt (b:=b12) (c:=#[.int .i64 (j:Nat)]) (e:=3) (n:=1) (size:=1) I (by decide)).isS qo fun ao13 c13 g13 o13=>?_;rw[<-fstL_succ] at o13 ⊢;refine stp 1 2 I I I I ?_;refine WL.hs (pt b12 #[.int .i64 (j:Nat)] 3::g13::pt b3 #[.slice ao13 (fstL (j+1)).length c13] 46::pt b2 #[.slice none 0 0] 46::hs) I ?_;refine WL.drop ?_;refine fin 0 I (bl (th (rg ?_)));refine ar 0 I (i64w (x:=((j+1:Nat):Int)) qo) ?_;refine fin 1 I ?_;exact again (x:=(j,ao,cap,g)) (j+1,ao13,c13,g13) ⟨I,I,I,I,trivial⟩ I I ⟨by dsimp only;omega,o13⟩ (by dsimp only;omega)
 ·obtain rfl:j=v:=by omega
  refine ex (xt (xt (xb (th (sq (rg ?_))))));refine ldS 0 1 I I qk ?_;refine stS 0 2 I I qk I I ?_;refine WL.frz fun K2 l1 l2=>?_;refine WL.hs (pt b3 #[.slice ao (fstL j).length cap] 46::pt b2 #[.slice ao (fstL j).length cap] 46::hs) I ?_;refine fin 0 I (th (rt ?_));exact retcA 1 2 I I I qk ⟨l1,I,ao,cap,I,ow.isS.le l2⟩
theorem NI_new{i v:Nat}(hi:i<7)(hv:1<=v/\v<=7)(r:Rn 0 0 (lgV v) (dk0 16777216)):NI 0 0 0 0 (Nd.new (i:Int) (lgV v)) (lgV v) (dk0 16777216):=by
 refine ⟨⟨⟨by show 0<=(i:Int);omega,by show (i:Int)<7;omega⟩,.inl rfl,⟨Int.le_refl _,by show (-1:Int)<7;decide⟩,Nat.zero_le _,⟨Int.le_refl _,Int.le_refl _⟩,⟨Int.le_refl _,by show (0:Int)<=31;decide⟩,Nat.le_refl _,Nat.le_refl _,fun _=>?_,⟨Nat.zero_le _,Nat.zero_le _,Nat.zero_le _,Nat.zero_le _⟩,Nat.le_refl _⟩,r,?_⟩
 ·exact (by unfold Pr.ok rTop mxU;decide:Pr.ok ⟨0,0,0,false,0⟩)
 ·have:∀ v<8,1<=v->(putConf (fstL v)).isSome=true:=by decide
  exact this v qo hv.1
def Beg(v n:Nat)(ss:List Stn):Prop:=ss.length=n/\∀ (i:Nat) (s:Stn),ss[i]?=some s->s.R=Nd.new (i:Int) (lgV v)/\s.L=lgV v/\s.D=dk0 16777216
structure BgW where
 j:Nat
 K:PH
 ss:List Stn
 g:PH
 ao:Option Addr
 cap:Nat
theorem hpA_snoc(ss:List Stn)(s:Stn):hpA (ss++[s])=hpA ss++Stn.hp s:=by simp[hpA]
theorem begunGC{w0:World}{K:PH}{hs:List PH}(n v:Nat)(hv:1<=v/\v<=n/\n<=7):Ct Tryz.prog w0 25 [.int .i64 (n:Nat),.int .i64 (v:Nat)] K hs
  (fun u K' hs'=>∃ wb bm ss g ao cap,hs'=g::pt wb (wldV (.slice ao n cap) v bm) WldT::sg bm (.map #[] 0)::(hpA ss++hs)/\Le K K'/\Beg v n ss/\(∀ s∈ss,Stn.ok K' s)/\Own g ao n cap OneT 3 (ss.flatMap Stn.vals)/\u=.pointer (some ⟨wb,0,none⟩)):=by
 refine enter Tryz.func25 qk I I I ?_;refine sq (rg ?_);refine fin 1 I (th (sq (sq (rg ?_))));refine cmp 1 I (fun h=>absurd h qo) (fun _=>?_);refine cmp 3 I (fun h=>absurd h qo) (fun _=>?_);refine cmp 3 I (fun h=>absurd h qo) (fun _=>?_);refine fin 1 I (th (ifF I ?_));refine sk (th (sq (rg ?_)));refine mkm 1 I fun bm=>?_;refine bd 0 (.agg (wldV (.slice none 0 0) v bm)) I (fun w=>by kernel_rfl) ?_;refine bx 0 I fun wb=>?_;refine WL.hs (pt wb (wldV (.slice none 0 0) v bm) WldT::sg bm (.map #[] 0)::hs) I ?_;refine fin 1 I (th (sq (sq (rg ?_))));refine fin 2 I (th (bk (WC.em ?_)))
 refine loop (σ:=BgW) (fun s=>[(1,.int .i64 (v:Nat)),(5,.pointer (some ⟨wb,0,none⟩)),(25,.int .i64 (n:Nat)),(26,.int .i64 s.j)]) (fun s=>s.K)
  (fun s=>s.g::pt wb (wldV (.slice s.ao s.j s.cap) v bm) WldT::sg bm (.map #[] 0)::(hpA s.ss++hs))
  (fun s=>s.j<=n/\Le K s.K/\Beg v s.j s.ss/\(∀ t∈s.ss,Stn.ok s.K t)/\Own s.g s.ao s.j s.cap OneT 3 (s.ss.flatMap Stn.vals)) (fun s=>n-s.j) ⟨0,K,[],En.em,none,0⟩ ⟨Nat.zero_le _,Le.refl _,⟨rfl,fun i s h=>by simp at h⟩,(fun t ht=>by cases ht),Own.nil _ _⟩ ⟨rfl,rfl,rfl,rfl,trivial⟩ rfl rfl ?_
 rintro ⟨j,K1,ss,g,ao,cap⟩ ⟨hj,le,hB,hO,ow⟩;dsimp only at *;refine sq (rg ?_);refine cmpS 0 I fun b27 h27=>?_;refine fin 0 I (th (sq (ifP h27 I (fun e2=>?_) (fun e2=>?_))))
 ·refine sk (th (sq (bk (sq (rg ?_)))));refine fin 2 I (th (sq (rg ?_)));refine cl 0 I (newH 16777216 qo) ?_;rintro v29 K29 hs29 ⟨rfl,db,dh,rfl,hD,rfl⟩;refine bd 0 (.agg #[.pointer (some ⟨db,0,none⟩),.pointer none,.pointer none]) I (fun w=>by kernel_rfl) ?_;refine al 0 (.agg #[.pointer none,.pointer none,.pointer none]) I qk fun b7=>?_;refine stS 0 0 I I qk I I ?_;refine WL.hs (pt b7 #[.pointer (some ⟨db,0,none⟩),.pointer none,.pointer none] OneT::dh::g::pt wb (wldV (.slice ao j cap) v bm) WldT::sg bm (.map #[] 0)::(hpA ss++hs)) I ?_;refine fin 0 I (th (sq (sq (rg ?_))));refine ldp 1 0 I I I ?_;refine fin 1 I (th (ifF I ?_));refine sk (th (sq (rga [pt b7 #[.pointer (some ⟨db,0,none⟩),.pointer none,.pointer none] OneT] 10 [0,2,4,7,9,10,12,14,16,18] (by simp) qk qk ?_)));refine dldp qk 1 0 I I I ?_;refine dact qk 1 I ?_;refine cl 0 I (firstGC v qo) ?_
  rintro v38 K38 hs38 ⟨le1,rfl,ao3,cap3,rfl,x⟩;refine dnxL (by simp) le1 ?_;refine dact qk 0 I ?_;refine cl 0 I (Ct.at 1 I (openH db (dk0 16777216) 0 (dk0_DOk qo) qo (hD.le le1) (fstL v) (by rw[fstL_len];omega) ao3 cap3 x)) ?_;rintro v39 K39 hs39 ⟨h,rfl,le2,hX⟩;rw[openV qo] at hX;rcases hX with ⟨hn',_⟩|⟨L',lb,hL',rfl,hL⟩
  ·cases hn'
  cases hL';refine WL.hs (pt b7 #[.pointer (some ⟨db,0,none⟩),.pointer none,.pointer none] OneT::h::g::pt wb (wldV (.slice ao j cap) v bm) WldT::sg bm (.map #[] 0)::(hpA ss++hs)) I ?_;refine dnxL (by simp) le2 ?_;refine dend qk 5 I (th (sq (sq (rg ?_))));refine fin 6 I (th (ifF I ?_));refine sk (th (sq (rg ?_)));refine stp 2 0 I I I I ?_;refine WL.perm (hs':=h::pt b7 #[.pointer (some ⟨db,0,none⟩),.pointer (some ⟨lb,0,none⟩),.pointer none] OneT::g::pt wb (wldV (.slice ao j cap) v bm) WldT::sg bm (.map #[] 0)::(hpA ss++hs)) (List.Perm.swap _ _ _) ?_;refine fin 0 I (th (sq (rg ?_)));refine cl 2 I (newGC (rnV qo).lb hL (j:Int)) ?_;rintro v52 K52 hs52 ⟨rb,g2,rfl,rfl,le3,I3⟩;refine stp 1 3 I I I I ?_;generalize (⟨.slice none 0 0,.slice none 0 0,.slice none 0 0,.slice none 0 0,tkI rb,tkI rb,tkB rb⟩:NS)=s0 at I3 ⊢;obtain ⟨st,hst⟩:∃ st:Stn,st=⟨db,lb,rb,Nd.new (j:Int) (lgV v),lgV v,dk0 16777216,s0,h,g2⟩:=⟨_,rfl⟩
  refine WL.hs (pt rb (ndA lb (Nd.new (j:Int) (lgV v)) s0) RT::h::g2::pt b7 #[.pointer (some ⟨db,0,none⟩),.pointer (some ⟨lb,0,none⟩),.pointer (some ⟨rb,0,none⟩)] OneT::g::pt wb (wldV (.slice ao j cap) v bm) WldT::sg bm (.map #[] 0)::(hpA ss++hs)) I ?_;refine fin 0 I (th (sq (sq (rg ?_))));refine ldp 1 3 I I I ?_;refine fin 1 I (th (ifF I ?_));refine sk (th (rgm [5,3] 10 [0,2,4,6,8,10,13,15,16,18,21] ?_));refine dldpw qk 4 0 I qk I I ?_;refine dldS qk 0 1 I qk I qk ?_;refine dact qk 0 I ?_;refine lit 0 #[.pointer (some ⟨db,0,none⟩),.pointer (some ⟨lb,0,none⟩),.pointer (some ⟨rb,0,none⟩)] I (by decide) qk fun b63=>?_;refine dnx (by simp) I ?_;refine dact qk 0 I ?_;refine app 0 5 I I ow (.inr ⟨0,I⟩) (Own.ofPt (b:=b63) (c:=#[.pointer (some ⟨db,0,none⟩),.pointer (some ⟨lb,0,none⟩),.pointer (some ⟨rb,0,none⟩)]) (e:=OneT) (n:=1) (size:=3) I (by decide)).isS I (by decide) (by intro u hu;simp at hu;rcases hu with rfl|rfl|rfl <;> rfl) (by show (j+1)*24<=_;omega) (by simp[maxLen];omega) fun an cn gn on=>?_
  refine dnx (by simp) I ?_;refine dact qk 2 I ?_;refine stp 0 6 I I I I ?_;refine WL.hs (pt b63 #[.pointer (some ⟨db,0,none⟩),.pointer (some ⟨lb,0,none⟩),.pointer (some ⟨rb,0,none⟩)] OneT::pt rb (ndA lb (Nd.new (j:Int) (lgV v)) s0) RT::h::g2::pt b7 #[.pointer (some ⟨db,0,none⟩),.pointer (some ⟨lb,0,none⟩),.pointer (some ⟨rb,0,none⟩)] OneT::gn::pt wb (wldV (.slice an (j+1) cn) v bm) WldT::sg bm (.map #[] 0)::(hpA ss++hs)) I ?_;refine dnext (.inl qk) ?_;refine dend qk 0 I (bl (th (rg ?_)));refine WL.drop (WL.perm (List.perm_append_comm_assoc [_,_,_] [_] _) (WL.drop ?_));refine ar 0 I (i64w (x:=((j+1:Nat):Int)) qo) ?_;refine fin 1 I ?_
  have hB1:Beg v (j+1) (ss++[st]):=by
   obtain ⟨h1,h2⟩:=hB;refine ⟨by simp[h1],fun i s hs=>?_⟩;rw[List.getElem?_append] at hs
   split at hs
   ·exact h2 i s hs
   ·rename_i hi;rw[List.getElem?_singleton] at hs
    split at hs
    ·obtain rfl:i=j:=by omega
     cases hs;rw[hst];exact ⟨I,I,I⟩
    ·cases hs
  have hO1:∀ t∈ss++[st],Stn.ok K52 t:=by
   intro t ht;rcases List.mem_append.1 ht with ht|ht
   ·exact (hO t ht).le<|(le1.trans le2).trans le3
   ·rw[List.mem_singleton.1 ht,hst];exact I3
  have ev:(ss++[st]).flatMap Stn.vals=ss.flatMap Stn.vals++(#[.pointer (some ⟨db,0,none⟩),.pointer (some ⟨lb,0,none⟩),.pointer (some ⟨rb,0,none⟩)]:Array Value).toList:=by
   rw[List.flatMap_append,hst]
   rfl
  refine WQ.perm (hs':=gn::pt wb (wldV (.slice an (j+1) cn) v bm) WldT::sg bm (.map #[] 0)::(hpA (ss++[st])++hs)) ?_ ?_
  ·rw[hpA_snoc,hst,List.append_assoc];exact (List.perm_append_comm_assoc [_,_,_] [_,_,_] _).trans ((((List.perm_append_comm_assoc [_,_,_] (hpA ss) hs).cons _).cons _).cons _)
  exact again (x:=(⟨j,K29,ss,g,ao,cap⟩:BgW)) (⟨j+1,K52,ss++[st],gn,an,cn⟩:BgW) ⟨I,I,I,I,trivial⟩ I I ⟨by dsimp only;omega,((le.trans le1).trans le2).trans le3,hB1,hO1,by rw[ev];exact on⟩ (by dsimp only;omega)
 ·obtain rfl:j=n:=by omega
  refine ex (xt (xt (xb (th (sq (rg ?_))))));refine fin 2 I (th (rt ?_));exact ret1 I I ⟨wb,bm,ss,g,ao,cap,I,le,hB,hO,ow,I⟩
end
section
attribute [local irreducible] Code.wp wpList Calls
def tkN:Nat->Nd×Lg×Dk
 | 0=>(Nd.new 0 (lgV 1),lgV 1,dk0 16777216)
 | j+1=>let A:=(tkN j).1.tick (tkN j).2.1 (tkN j).2.2 0;(A.1,A.2.1,A.2.2.1)
theorem tkN_31:(tkN 31).1.role=2/\(tkN 31).1.com=1/\(tkN 31).1.lead=0:=by
 refine ⟨?_,?_,?_⟩
 all_goals kernel_rfl
theorem tkN_0:tkN 0=(Nd.new ((0:Nat):Int) (lgV 1),lgV 1,dk0 16777216):=rfl
theorem tkN_s(j:Nat):tkN (j+1)=(((tkN j).1.tick (tkN j).2.1 (tkN j).2.2 0).1,((tkN j).1.tick (tkN j).2.1 (tkN j).2.2 0).2.1,((tkN j).1.tick (tkN j).2.1 (tkN j).2.2 0).2.2.1):=rfl
attribute [local irreducible] tkN
theorem Ct.lawN{P:Program}{w0:World}{f:FuncId}{args:List Value}{K:PH}{hs:List PH}{u:Value}(c:Ct P w0 f args K hs (fun v K' hs'=>hs'=hs/\Le K K'/\v=u)):Ct P w0 f args K hs (fun v K' hs'=>K'=K/\hs'=hs/\v=u):=
 Ct.fix2 c (fun w v K' hs' hS ⟨hh,le,hv⟩=>⟨K,hs,⟨rfl,rfl,hv⟩,by subst hh;exact hS.weak le⟩)
theorem addK(a:Addr)(k:Nat):a.add (0*k)=a:=by simp[Addr.add]
structure TkS where
 j:Nat
 K:PH
 s:NS
 lh:PH
 g:PH
theorem tkN_ni:∀ j,j<=31->NI (15*j) (2*j) 0 (25*j) (tkN j).1 (tkN j).2.1 (tkN j).2.2
 | 0,_=>by rw[tkN_0];exact NI_new (i:=0) (v:=1) qo qo (rnV qo)
 | j+1,h=>by rw[tkN_s];exact (tkN_ni j qo).tick qo 0
theorem aliveGC{w0:World}{K:PH}{hs:List PH}:Ct Tryz.prog w0 10 [] K hs (fun v K' hs'=>K'=K/\hs'=hs/\v=.bool true):=by
 refine Ct.lawN ?_;refine enter Tryz.func10 qk I I I ?_;refine sq (rg ?_);refine fin 1 I (th (sq (rg ?_)));refine cl 0 I (begunGC 1 1 qo) ?_;rintro v3 K3 hs3 ⟨wb,bm,ss,g0,ao,cap,rfl,le,⟨hl,hB⟩,hO,on,rfl⟩;obtain ⟨st,rfl⟩:=List.length_eq_one_iff.1 hl;obtain ⟨hR,hLg,hD⟩:=hB 0 st rfl;have hok:=hO st (List.mem_singleton.2 rfl);obtain ⟨db,lb,rb,R,L,D,s,lh,g⟩:=st;unfold Stn.ok at hok;dsimp only at hR hLg hD hok;obtain ⟨X,hX⟩:∃ X,X=tkN 0:=⟨_,rfl⟩;have hX':=hX;rw[tkN_0] at hX';obtain rfl:R=X.1:=by rw[hR,hX']
 obtain rfl:L=X.2.1:=by rw[hLg,hX']
 obtain rfl:D=X.2.2:=by rw[hD,hX']
 subst hX;refine WL.frz fun K4 l1 l2=>WL.frz fun K5 l3 l4=>WL.drop ?_;have hok:=(hok.le l1).le l3;have on:=on.isS.le (l2.trans l3);obtain ⟨a,rfl⟩:=on.addr (j:=0) qo qo
 have c2:Cell K5 ((a.add (0*3)).add 2) (.pointer (some ⟨rb,0,none⟩)):=by
  rw[addK];obtain ⟨a',ha,hc⟩:=on.2.2 2 _ rfl;cases ha;exact hc
 refine WL.hs (pt rb (ndA lb (tkN 0).1 s) RT::lh::g::hs) I ?_;refine fin 1 I (th (sq (sq (rg ?_))));refine fin 2 I (th (ifF I ?_));refine sk (th (sq (rg ?_)));refine ld 3 I (.inl I) (Cell.le l4 (Cell.pt I)) ?_;refine ixs 0 0 I I on qo (by decide) fun a10 h10=>?_;cases h10;refine ld 1 I (.inl I) c2 ?_;refine fin 1 I (th (sq (sq (rg ?_))));refine fin 1 I (th (bk ?_))
 refine loop (σ:=TkS) (fun s=>[(2,.pointer (some ⟨rb,0,none⟩)),(13,.int .i64 s.j)]) (fun s=>s.K) (fun s=>pt rb (ndA lb (tkN s.j).1 s.s) RT::s.lh::s.g::hs)
  (fun s=>s.j<=31/\Le K s.K/\Nd3 s.K rb lb db (tkN s.j).1 (tkN s.j).2.1 (tkN s.j).2.2 s.s s.lh s.g) (fun s=>31-s.j) ⟨0,K5,s,lh,g⟩ ⟨by dsimp only;omega,(le.trans l1).trans l3,hok⟩ ⟨rfl,rfl,trivial⟩ rfl rfl ?_
 rintro ⟨j,K1,s1,lh1,g1⟩ ⟨hj,le1,I1⟩;dsimp only at *;refine sq (rg ?_);refine cmpS 0 I fun b14 h14=>?_;refine fin 0 I (th (sq (ifP h14 I (fun e4=>?_) (fun e4=>?_))))
 ·refine sk (th (sq (bk (rg ?_))));refine cl 1 I (tickGC I1 (tkN_ni j hj) qo qo 0 (by decide)) ?_;rintro v16 K16 hs16 ⟨_,lh2,g2,rfl,⟨s2,rfl,le2,I2⟩,rfl⟩;refine fin 0 I (bl (th (rg ?_)));refine ar 0 I (i64w (x:=((j+1:Nat):Int)) qo) ?_;refine fin 1 I ?_;exact again (x:=(⟨j,K1,s1,lh1,g1⟩:TkS)) (⟨j+1,K16,s2,lh2,g2⟩:TkS) ⟨I,I,trivial⟩ I (by rw[tkN_s]) ⟨by dsimp only;omega,le1.trans le2,by rw[tkN_s];exact I2⟩ (by dsimp only;omega)
 ·have h31:(tkN j).1.role=2/\(tkN j).1.com=1/\(tkN j).1.lead=0:=by
   obtain rfl:j=31:=by omega
   exact tkN_31
  obtain ⟨t1,t2,t3⟩:=h31;refine ex (xt (xt (xb (th (sq (rg ?_))))));refine cl 1 I roleGC ?_;rintro v19 K19 hs19 ⟨rfl,rfl,rfl⟩;refine cmpS 0 I fun b20 h20=>?_
  refine' bja (q:=True) 1 4 25 [20,21] h20 I I I I I I I (fun _=>?x6) (fun b25 h25=>?_)
  case x6=>
   refine cl 1 I commitGC ?_;rintro v23 K23 hs23 ⟨rfl,rfl,rfl⟩;refine cmpS 0 I fun b24 h24=>?_;exact fin 1 I (bjx (h24.trans (by simp;omega)) rfl rfl rfl)
  refine' bja (q:=True) 1 4 30 [25,26] h25 I I I I I I I (fun _=>?x8) (fun b30 h30=>?_)
  case x8=>
   refine cl 1 I leaderGC ?_;rintro v28 K28 hs28 ⟨rfl,rfl,rfl⟩;refine cmpS 0 I fun b29 h29=>?_;exact fin 1 I (bjx (h29.trans (by simp;omega)) rfl rfl rfl)
  refine fin 1 I (th (rt (WQ.drop (WQ.drop (WQ.drop ?_)))));exact ret1 I I ⟨I,le1,by rw[show b30=true from h30.2 ⟨⟨t1,trivial⟩,trivial⟩]⟩
end
section
structure Cl where
 kind:Int
 n:Int
 draw:Nat
 m:Msg
def cmdOne:Cmd:=⟨1,0,0,[],0⟩
def Nd.call(R:Nd)(L:Lg)(D:Dk)(x:Cl):Res:=
 if x.kind=0 then R.tick L D x.draw
 else if x.kind=1 then R.take L D x.m
 else if x.kind=2 then let A:=R.propose L D (ob (putCmd cmdOne));(A.1,A.2.1,A.2.2.1,A.2.2.2.2.2)
 else if x.kind=3 then let A:=R.change L D x.m.good x.n;(A.1,A.2.1,A.2.2.1,A.2.2.2.2.2)
 else if x.kind=4 then ((R.read L).1,L,D,(R.read L).2.2.2)
 else if x.kind=5 then R.save L D R.com [120]
 else (R,L,D,0)
theorem WQ.dropA{w0:World}{Q:Exit->Act->World->Prop}{e:Exit}{n:Nat}{l:Sl}{K:PH}{hs:List PH}:∀ m:List PH,WQ w0 Q e n l K hs->WQ w0 Q e n l K (m++hs)
 | [],h=>h
 | _::m,h=>WQ.drop (WQ.dropA m h)
attribute [local irreducible] Code.wp wpList Calls
def clV(x:Cl)(p:MA):Array Value:=(.int .i64 x.kind::.int .i64 x.n::.int .u64 x.draw::(mv x.m p).toList).toArray
theorem isS_ptM{b n ty:Nat}{c:Array Value}{fr:Nat×Nat}{xs:List Value}(h1:c.toList=xs)(h2:c.size=n):IsS (pt b c ty fr) (some ⟨b,0,none⟩) n n 1 xs:=by
 subst h1;refine ⟨by simpa using h2,Nat.le_refl _,fun j u hu=>⟨_,I,?_⟩⟩
 simp_all [add_mk,Cell.pt]
theorem aloneGC{w0:World}{K:PH}{hs:List PH}:Ct Tryz.prog w0 9 [] K hs
  (fun v K' hs'=>∃ rb lb db s lh g,hs'=pt rb (ndA lb (Nd.new 0 (lgV 3)) s) RT::lh::g::hs/\Le K K'/\Nd3 K' rb lb db (Nd.new 0 (lgV 3)) (lgV 3) (dk0 16777216) s lh g/\v=.tuple #[.pointer (some ⟨db,0,none⟩),.pointer (some ⟨lb,0,none⟩),.pointer (some ⟨rb,0,none⟩)]):=by
 refine enter Tryz.func9 qk I I I ?_;refine sq (rg ?_);refine fin 3 I (th (sq (rg ?_)));refine cl 0 I (begunGC 3 3 qo) ?_;rintro v4 K4 hs4 ⟨wb,bm,ss,g0,ao,cap,rfl,le,⟨hl,hB⟩,hO,on,rfl⟩
 obtain ⟨st,rest,rfl⟩:∃ st rest,ss=st::rest:=by
  cases ss with
  | nil=>cases hl
  | cons a b=>exact ⟨a,b,rfl⟩
 obtain ⟨hR,hLg,hD⟩:=hB 0 st rfl;have hok:=hO st List.mem_cons_self;obtain ⟨db,lb,rb,R,L,D,s,lh,g⟩:=st;unfold Stn.ok at hok;dsimp only at hR hLg hD hok;subst hLg hD;obtain rfl:R=Nd.new 0 (lgV 3):=hR;refine WL.frz fun K5 l1 l2=>WL.frz fun K6 l3 l4=>WL.drop ?_;have hok:=(hok.le l1).le l3;have on:=on.isS.le (l2.trans l3);obtain ⟨a,rfl⟩:=on.addr (j:=0) qo qo
 have cg:∀ (i:Nat) u,i<3->([.pointer (some ⟨db,0,none⟩),.pointer (some ⟨lb,0,none⟩),.pointer (some ⟨rb,0,none⟩)]:List Value)[i]?=some u->Cell K6 ((a.add (0*3)).add i) u:=fun i u hi hu=>by
  rw[addK]
  obtain ⟨a',ha,hc⟩:=on.2.2 i u (by
   rw[List.flatMap_cons,List.getElem?_append_left (by show i<3;omega)];exact hu)
  cases ha;exact hc
 have cw:Cell K6 ⟨wb,0,none⟩ (.slice (some a) 3 cap):=Cell.le l4 (Cell.pt rfl);refine WL.hs (pt rb (ndA lb (Nd.new 0 (lgV 3)) s) RT::lh::g::(hpA rest++hs)) I ?_;refine WL.perm (hs':=hpA rest++(pt rb (ndA lb (Nd.new 0 (lgV 3)) s) RT::lh::g::hs)) (List.perm_append_comm_assoc [_,_,_] (hpA rest) hs) ?_;refine fin 1 I (th (sq (sq (rg ?_))));refine fin 2 I (th (ifF I ?_));refine sk (th (sq (rgm [] 24 [0,2,4,6,8,10,12,14,16,18,20,22,24,26,28,30,32,34,36,38,40,42,44,46] ?_)));refine dld qk 3 I (.inl I) cw ?_;refine dixs qk 0 0 I I qo ?_;refine dld qk 1 I (.inl I) (cg 0 _ qo I) ?_;refine dld qk 3 I (.inl I) cw ?_;refine dixs qk 0 0 I I qo ?_;refine dld qk 1 I (.inl I) (cg 1 _ qo I) ?_;refine dld qk 3 I (.inl I) cw ?_;refine dixs qk 0 0 I I qo ?_;refine dld qk 1 I (.inl I) (cg 2 _ qo I) ?_
 refine dend qk 3 I (th (rt (WQ.dropA (hpA rest) ?_)));exact ret3 I I I I ⟨rb,lb,db,s,lh,g,I,(le.trans l1).trans l3,hok,I⟩
section
variable {w0:World} {K lh g:PH} {hs:List PH} {rb lb db c q z k:Nat} {R:Nd} {L:Lg} {D:Dk} {s:NS}
theorem callGC(iN:Nd3 K rb lb db R L D s lh g)(o:NI c q z k R L D)(hc:c<=499800000)(hk:k<=400000)(hz:z<=1000000)(x:Cl)(hd:x.draw<18446744073709551616)(hb:x.m.bd)(p:MA)(hS:MsgS K x.m p):
  NdC w0 K hs rb lb db R s lh g 11 [.pointer (some ⟨rb,0,none⟩),.agg (clV x p)] (R.call L D x).1 (R.call L D x).2.1 (R.call L D x).2.2.1 (.int .i64 (R.call L D x).2.2.2):=by
 have hco:=o.rb.com;unfold Nd.call;refine enter Tryz.func11 qk I I I ?_;refine sq (rg ?_);refine bx 0 I fun b3=>?_;refine WL.h 0 (pt b3 (clV x p) 36) ?_;refine fin 1 I (th (sq (rg ?_)));refine fin 1 I (th (sq (sq (rg ?_))));refine ldp 1 0 I I I ?_;refine fin 0 I (th (bk (sq (rg ?_))));refine cmpS 0 I fun b11 h11=>?_;refine fin 1 I (th (ifP h11 I (fun e2=>?_) (fun e2=>?_)))
 ·rw[if_pos e2];refine rg ?_;refine ldp 2 0 I I I ?_;refine cl 0 I (Ct.at3 [_] (tickGC iN o qo qo x.draw hd)) ?_;rintro v15 K15 hs15 ⟨_,_,_,rfl,⟨s2,rfl,le1,I2⟩,rfl⟩;refine fin 1 I (bl (th (sq (rg ?_))));refine fin 2 I (th (rt (WQ.drop ?_)));exact ret1 I I ⟨_,_,_,I,⟨s2,I,le1,I2⟩,I⟩
 rw[if_neg e2];refine sq (rg ?_);refine cmpS 0 I fun b17 h17=>?_;refine fin 1 I (th (ifP h17 I (fun e4=>?_) (fun e4=>?_)))
 ·rw[if_pos e4];refine rg ?_;refine lds 2 (mv x.m p).toList I qk (.inr ⟨0,I⟩) (cells_sub _ I) ?_;refine cl 0 I (Ct.at3 [_] (takeGC iN o hc hk hz x.m hb p hS)) ?_;rintro v21 K21 hs21 ⟨_,_,_,rfl,⟨s2,rfl,le1,I2⟩,rfl⟩;refine fin 1 I (bl (th (sq (rg ?_))));refine fin 2 I (th (rt (WQ.drop ?_)));exact ret1 I I ⟨_,_,_,I,⟨s2,I,le1,I2⟩,I⟩
 rw[if_neg e4];refine sq (rg ?_);refine cmpS 0 I fun b23 h23=>?_;refine fin 1 I (th (ifP h23 I (fun e6=>?_) (fun e6=>?_)))
 ·rw[if_pos e6];refine sq (rg ?_);refine bd 0 (.agg cmdOne.v) I (fun w=>by kernel_rfl) ?_;refine cl 0 I (putCmdRef cmdOne (by decide) (by decide)) ?_;rintro v26 K26 hs26 ⟨rfl,h26,a26,c26,rfl,rfl,o26⟩;refine WL.frz fun K1 le lg=>?_;refine fin 5 I (th (rg ?_));have hpl:(ob (putCmd cmdOne)).length<1099511627776:=by decide
  refine cl 2 I (Ct.at3 [_] (proposeGC (iN.le le) o qo qo (ob (putCmd cmdOne)) (.inl I) a26 c26 (o26.isS.le lg) hpl)) ?_;rintro v32 K32 hs32 ⟨_,_,_,rfl,⟨s2,rfl,le1,I2⟩,rfl⟩;refine fin 5 I (bl (th (sq (rg ?_))));refine fin 2 I (th (rt (WQ.drop ?_)));exact ret1 I I ⟨_,_,_,I,⟨s2,I,le.trans le1,I2⟩,I⟩
 rw[if_neg e6];refine sq (rg ?_);refine cmpS 0 I fun b37 h37=>?_;refine fin 1 I (th (ifP h37 I (fun e8=>?_) (fun e8=>?_)))
 ·rw[if_pos e8];refine rg ?_;refine ldp 3 0 (v:=.bool x.m.good) I I I ?_;refine ldp 1 0 I I I ?_;refine cl 0 I (Ct.at3 [_] (changeGC iN o qo qo x.m.good x.n)) ?_;rintro v45 K45 hs45 ⟨_,_,_,rfl,⟨s2,rfl,le1,I2⟩,rfl⟩;refine fin 5 I (bl (th (sq (rg ?_))));refine fin 2 I (th (rt (WQ.drop ?_)));exact ret1 I I ⟨_,_,_,I,⟨s2,I,le1,I2⟩,I⟩
 rw[if_neg e8];refine sq (rg ?_);refine cmpS 0 I fun b50 h50=>?_;refine fin 1 I (th (ifP h50 I (fun e10=>?_) (fun e10=>?_)))
 ·rw[if_pos e10];refine rg ?_;refine cl 1 I (Ct.at3 [_] (readGC iN o qo qo)) ?_;rintro v53 K53 hs53 ⟨_,_,_,rfl,⟨s2,rfl,le1,I2⟩,rfl⟩;refine fin 5 I (bl (th (sq (rg ?_))));refine fin 2 I (th (rt (WQ.drop ?_)));exact ret1 I I ⟨_,_,_,I,⟨s2,I,le1,I2⟩,I⟩
 rw[if_neg e10];refine sq (rg ?_);refine cmpS 0 I fun b58 h58=>?_;refine fin 1 I (th (ifP h58 I (fun e12=>?_) (fun e12=>?_)))
 ·rw[if_pos e12];refine rg ?_;refine cl 2 I (Ct.keep 1 I commitGC) ?_;rintro v61 K61 hs61 ⟨rfl,rfl,rfl⟩;refine lit 0 #[.int .u8 120] I (by decide) qk fun b62=>?_;refine mk 0 0 I (by simp) I ⟨_,Tryz.underlying32,Tryz.underlying5⟩ ?_;refine WL.frz fun K1 le lg=>?_;refine cl 0 I (Ct.at3 [_] (saveGC (iN.le le) o qo R.com (by unfold mxU at hco;omega) [120] (by decide) (some ⟨b62,0,none⟩) 1 ((isS_ptM rfl rfl).le lg))) ?_;rintro v64 K64 hs64 ⟨_,_,_,rfl,⟨s2,rfl,le1,I2⟩,rfl⟩;refine fin 1 I (bl (th (sq (rg ?_))));refine fin 2 I (th (rt (WQ.drop ?_)));exact ret1 I I ⟨_,_,_,I,⟨s2,I,le.trans le1,I2⟩,I⟩
 rw[if_neg e12];refine sk (bl (th (sq (rg ?_))));refine fin 2 I (th (rt (WQ.drop ?_)));exact ret1 I I ⟨_,_,_,I,⟨s,I,Le.refl _,iN⟩,I⟩
end
end
section
theorem bckL_le(s:Snp)(l:List Ent)(t:Nat):∀ i,bckL s l t i<=i
 | 0=>Nat.le_refl _
 | i+1=>by
  unfold bckL
  split
  ·split
   ·omega
   ·have:=bckL_le s l t i;omega
  ·exact Nat.le_refl _
theorem merge_n2(r:Rl)(i t:Nat)(x:List Ent):(r.merge i t x).2.1<=max r.last (r.merge i t x).1.last:=by
 cases hg:(r.merge i t x).2.2.1 with
 | true=>have:=merge_n hg;omega
 | false=>
  have hb:∀ j,bck r.sn r.l j<=r.last:=fun j=>by
   unfold bck Rl.last
   split
   ·omega
   ·have:=bckL_le r.sn r.l (trm r.sn r.l j).1 j;omega
  have h2:∀ (y:List Ent) (m:Nat),(r.merge2 y m).2.2.1=true:=fun y m=>by
   unfold Rl.merge2
   split <;> rfl
  have h1:∀ (j u:Nat) (y:List Ent) (m:Nat),(r.merge1 j u y m).2.2.1=false->(r.merge1 j u y m).2.1<=r.last:=fun j u y m h=>by
   unfold Rl.merge1 at h ⊢
   split at h
   ·rename_i hc;rw[if_pos hc];exact hb j
   ·rw[h2] at h;cases h
  have h3:(r.merge i t x).2.1<=r.last:=by
   unfold Rl.merge at hg ⊢
   split at hg
   ·rename_i hc;rw[if_pos hc];exact Nat.zero_le _
   rename_i hc;rw[if_neg hc]
   split at hg
   ·rename_i hi;rw[if_pos hi]
    split at hg
    ·cases hg
    rename_i hi2;rw[if_neg hi2]
    split at hg
    ·rename_i hi3;rw[if_pos hi3];exact Nat.zero_le _
    ·rename_i hi3;rw[if_neg hi3];exact h1 _ _ _ _ hg
   ·rename_i hi;rw[if_neg hi];exact h1 _ _ _ _ hg
  omega
theorem install_zero{r:Rl}{s:Snp}(h:(r.install s).2=0):(r.install s).1.sn=s/\s.idx<=(r.install s).1.last:=by
 unfold Rl.install at h ⊢
 split at h
 ·rename_i hc;exact absurd h hc
 ·rename_i hc;rw[if_neg hc]
  split at h
  ·rename_i hh;rw[if_pos hh];obtain ⟨_,h2,h3⟩:=kp_save r s 0
   have hsn:(r.save s).1.sn=s:=by
    unfold Rl.save;rw[if_neg hc,if_neg (by simp[hh])]
   refine ⟨hsn,?_⟩;rw[h2];rcases h3 with h3|⟨_,_,h3,_⟩
   ·rw[h3] at hsn;obtain ⟨_,_,hlt,_⟩:=rfits_ok (Decidable.not_not.1 hc);rw[hsn] at hlt;omega
   ·exact h3
  ·rename_i hh;rw[if_neg hh];exact ⟨I,by unfold Rl.last;simp⟩
theorem ok_whole{m:Msg}(h:m.ok)(hk:m.kind=5):0<=m.whole/\m.whole<=2097152:=by
 have:=h.2.1 .whole (by rw[hk];simp[fieldsOf]);exact this
section
variable {c q z k u n:Nat} {R:Nd} {L:Lg} {D:Dk}
theorem TI.stale(h:TI R L)(o:NI c q z k R L D)(m:Msg)(ho:m.ok)(hto:m.to=R.nd)(hk:m.term<L.kt):TI (R.stale L m) L/\St R L (R.stale L m) L:=by
 have hf:=ok_frm ho;have hne:R.nd≠m.frm:=fun e=>ho.1.2.2.2.1 (by rw[hto,e]);have h0:L.kt≠0:=by omega
 have hs:∀ x,St R L (R.say L x) L:=fun x=>(St.refl R L).r;unfold Nd.stale
 repeat' split
 ·have hm:MsgT R.nd L.kt { Msg.zero with kind:=2,frm:=R.nd,to:=m.frm,term:=L.kt,good:=false }:=mt2 o.rb.nd hf hne h0 o.rn.lb.kt;exact ⟨h.say (m:={ Msg.zero with kind:=2,to:=m.frm }) hm,hs _⟩
 ·have hm:MsgT R.nd L.kt { Msg.zero with kind:=4,frm:=R.nd,to:=m.frm,term:=L.kt,good:=false,idx:=0,rnd:=0 }:=mt4 o.rb.nd hf hne h0 o.rn.lb.kt (Nat.zero_le _) (Nat.zero_le _);exact ⟨h.say (m:={ Msg.zero with kind:=4,to:=m.frm }) hm,hs _⟩
 ·exact ⟨h,St.refl _ _⟩
theorem PI.asked(h:PI u (n+1) R L D)(o:NI c q z k R L D)(hu:u<=1000000)(m:Msg)(hb:m.bd)(ho:m.ok)(hto:m.to=R.nd)(h0:L.kt≠0):
  PI (u+1) n (R.asked L D m).1 (R.asked L D m).2.1 (R.asked L D m).2.2.1/\St R L (R.asked L D m).1 (R.asked L D m).2.1:=by
 have hf:=ok_frm ho;have hne:R.nd≠m.frm:=fun e=>ho.1.2.2.2.1 (by rw[hto,e]);unfold Nd.asked;dsimp only;generalize hgr:grant L.kt L.kv m.term m.frm (newerP m.lt m.idx (L.trm L.last).1 L.last)=gr;have hgl:gr.1.1<=mxU:=by rw[<-hgr];exact grant_le o.rn.lb.kt hb.term
 split
 ·obtain ⟨a1,a2,a3⟩:=h.setHard hu gr.1.1 gr.1.2 hgl;have oa:=o.setHard gr.1.1 gr.1.2 hgl;generalize L.setHard D gr.1.1 gr.1.2=A at a1 a2 a3 oa ⊢;obtain ⟨L1,D1,c1⟩:=A;dsimp only at a1 a2 a3 oa ⊢
  split
  ·obtain ⟨d1,d2⟩:=did_same R c1;exact ⟨a1.t (a1.ti.did _),a2.r d1 d2⟩
  ·have h1:L1.kt≠0:=by have:=a2.kt;omega
   have hm:MsgT R.nd L1.kt { Msg.zero with kind:=2,frm:=R.nd,to:=m.frm,term:=L1.kt,good:=true }:=mt2 o.rb.nd hf hne h1 oa.rn.lb.kt;exact ⟨a1.t ((a1.ti.r:TI { R with el:=0,wt:=0 } L1).say (m:={ Msg.zero with kind:=2,to:=m.frm,good:=true }) hm),a2.r⟩
 ·have hm:MsgT R.nd L.kt { Msg.zero with kind:=2,frm:=R.nd,to:=m.frm,term:=L.kt,good:=false }:=mt2 o.rb.nd hf hne h0 o.rn.lb.kt;exact ⟨(h.t (h.ti.say (m:={ Msg.zero with kind:=2,to:=m.frm }) hm)).up qo qo,(St.refl R L).r⟩
theorem PI.voted(h:PI u (n+11) R L D)(o:NI c q z k R L D)(hc:c<=800000000)(hk:k<=800000)(m:Msg)(h0:L.kt≠0):
  PI (u+1) n (R.voted L D m).1 (R.voted L D m).2.1 (R.voted L D m).2.2.1/\St R L (R.voted L D m).1 (R.voted L D m).2.1:=by
 unfold Nd.voted
 split
 ·exact ⟨h.up qo qo,St.refl _ _⟩
 ·have ho:Rb z (k+1) { R with yes:=R.yes++[m.frm] }:={ o.rb.up (Nat.le_succ k) with yes:=by have:=o.rb.yes;simp;omega };obtain ⟨e1,e2⟩:=(h.t (h.ti.r:TI { R with yes:=R.yes++[m.frm] } L)).elect (o.r ho) hc qo h0 L.cfg.1;exact ⟨e1,(St.r (St.refl R L):St R L { R with yes:=R.yes++[m.frm] } L).trans e2⟩
theorem PI.merge(h:PI u (n+100) R L D)(o:NI c q z k R L D)(hc:c<=800000000)(i t:Nat)(x:List Ent)(hx:∀ e∈x,e.idx<=mxU/\e.term<=mxU)(hl:x.length<=8)(hn:∀ e∈x,clash1 L R.com e.idx e.term=false):
  PI (u+9) n R (L.merge i t x D).1 (L.merge i t x D).2.1/\St R L R (L.merge i t x D).1/\(L.merge i t x D).1.kt=L.kt/\(L.merge i t x D).2.2.1<=mxU/\((L.merge i t x D).2.2.2.1=true->(L.merge i t x D).2.2.1<=(L.merge i t x D).1.last):=by
 obtain ⟨h1,h2,h3,h4⟩:=h.sim.merge (n:=n) i t x (h.liv.mono qo) hx (lg_room o qo hl);have hs:=merge_sam L i t x D;obtain ⟨k1,k2,k3⟩:=kp_merge (r:=L.rl) (com:=R.com) h.ti.com.2 i t (x:=x) hn;have o1:=o.merge i t x hx hl qo;have l0:=Lg.last_le o.rn.lb qo;have l1:=Lg.last_le o1.rn.lb qo;have m1:=merge_n2 L.rl i t x;rw[<-h4] at k1 k2 m1;have e1:(L.merge i t x D).2.2.1=(L.rl.merge i t x).2.1:=congrArg Prod.fst h1;have e2:(L.merge i t x D).2.2.2.1=(L.rl.merge i t x).2.2.1:=congrArg (fun p=>p.2.1) h1;refine ⟨⟨h3.up qo qo,h2,h.ti.lg (Nat.le_of_eq hs.1.symm) (by rw[hs.2.2];exact h.ti.com.1) k2 (by rw[h4];exact Rl.wf.merge h.ti.wf i t x)⟩,⟨Nat.le_of_eq hs.1.symm,Nat.le_refl _,k1,I⟩,hs.1,?_,fun hg=>?_⟩
 ·rw[e1];rw[<-Lg.last_rl,<-Lg.last_rl] at m1;unfold rTop at l0 l1;unfold mxU;omega
 ·rw[e1];rw[e2] at hg;have:=merge_n hg;rw[<-h4] at this;exact this
theorem TI.appE(h:TI R L)(o:NI c q z k R L D)(m:Msg)(hb:m.bd)(ho:m.ok)(hto:m.to=R.nd)(h0:L.kt≠0)(i:Nat)(hi:i<=mxU)(g:Bool)(hg:g=true->i<=L.last):
  TI (R.appE L D m i g).1 L/\St R L (R.appE L D m i g).1 L:=by
 have hf:=ok_frm ho;have hne:R.nd≠m.frm:=fun e=>ho.1.2.2.2.1 (by rw[hto,e]);have hco:=h.com;unfold Nd.appE;have hm:MsgT R.nd L.kt { Msg.zero with kind:=4,frm:=R.nd,to:=m.frm,term:=L.kt,good:=g,idx:=i,rnd:=m.rnd }:=mt4 o.rb.nd hf hne h0 o.rn.lb.kt hi hb.rnd
 have h1:R.com<=(if g=true then max R.com (min m.com i) else R.com)/\(if g=true then max R.com (min m.com i) else R.com)<=L.last:=by
  split
  ·rename_i hgt;have:=hg hgt;omega
  ·omega
 have ht:TI { R with com:=if g=true then max R.com (min m.com i) else R.com } L:=⟨h.out,h.role,⟨Nat.le_trans hco.1 h1.1,h1.2⟩,h.wf⟩;exact ⟨ht.say (m:={ Msg.zero with kind:=4,to:=m.frm,good:=g,idx:=i,rnd:=m.rnd }) hm,⟨Nat.le_refl _,h1.1,Kp.refl _ _,I⟩⟩
theorem PI.app(h:PI u (n+100) R L D)(o:NI c q z k R L D)(hc:c<=700000000)(m:Msg)(hb:m.bd)(ho:m.ok)(hk:m.kind=3)(hto:m.to=R.nd)(h0:L.kt≠0):
  PI (u+9) n (R.app L D m).1 (R.app L D m).2.1 (R.app L D m).2.2.1/\St R L (R.app L D m).1 (R.app L D m).2.1:=by
 have hf:=ok_frm ho;unfold Nd.app;dsimp only
 split
 ·exact ⟨h.up qo qo,St.refl _ _⟩
 ·rename_i hcl;have hcl:=(not_or.1 hcl).2;unfold Nd.clashes at hcl
  have hn:∀ e∈m.ents,clash1 L R.com e.idx e.term=false:=fun e he=>by
   cases hx:clash1 L R.com e.idx e.term with
   | false=>rfl
   | true=>exact absurd (by rw[Bool.or_eq_true,List.any_eq_true];exact .inr ⟨e,he,hx⟩) hcl
  have of:=o.r (o.rb.foll (x:=m.frm) qo);have hff:TI (R.foll m.frm) L:=h.ti.r rfl rfl rfl (.inr rfl);have sf:St R L (R.foll m.frm) L:=(St.refl R L).r;obtain ⟨a1,a2,a3,a4,a5⟩:=(h.t hff).merge of qo m.idx m.lt m.ents (fun e he=>⟨(hb.ents e he).1,(hb.ents e he).2.1⟩) (ok_ents ho hk).2 hn;have oa:=of.merge m.idx m.lt m.ents (fun e he=>⟨(hb.ents e he).1,(hb.ents e he).2.1⟩) (ok_ents ho hk).2 qo;generalize L.merge m.idx m.lt m.ents D=A at a1 a2 a3 a4 a5 oa ⊢;obtain ⟨L1,D1,i,gd,c1⟩:=A;dsimp only at a1 a2 a3 a4 a5 oa ⊢;have s1:=sf.trans a2;have h1:L1.kt≠0:=by rw[a3];exact h0
  split
  ·exact ⟨a1,s1⟩
  split
  ·obtain ⟨d1,d2⟩:=did_same (R.foll m.frm) c1;exact ⟨a1.t (a1.ti.did _),s1.r d1 d2⟩
  split
  ·obtain ⟨t1,t2⟩:=a1.ti.appE oa m hb ho hto h1 i a4 false (fun h=>by cases h);exact ⟨a1.t t1,s1.trans t2⟩
  rename_i hgd;have hgd:gd=true:=by simpa using hgd
  have ob:=oa.sync;obtain ⟨b1,b2,b3⟩:=a1.sync
  have hl:(L1.sync D1).1.last=L1.last:=by
   obtain ⟨_,_,_,g4,_⟩:=a1.sim.sync a1.liv;rw[Lg.last_rl,g4];rfl
  generalize L1.sync D1=B at b1 b2 b3 ob hl ⊢;obtain ⟨L2,D2,c2⟩:=B;dsimp only at b1 b2 b3 ob hl ⊢
  split
  ·obtain ⟨d1,d2⟩:=did_same (R.foll m.frm) c2;exact ⟨b1.t (b1.ti.did _),(s1.trans b2).r d1 d2⟩
  ·obtain ⟨t1,t2⟩:=b1.ti.appE ob m hb ho hto (by rw[b3];exact h1) i a4 true (fun _=>by rw[hl];exact a5 hgd);exact ⟨b1.t t1,(s1.trans b2).trans t2⟩
theorem TI.appended(h:TI R L)(o:NI c q z k R L D)(hc:c<=800000000)(hk:k<=800000)(m:Msg)(hb:m.bd)(ho:m.ok)(hto:m.to=R.nd)(h0:L.kt≠0):TI (R.appended L m) L/\St R L (R.appended L m) L:=by
 have hf:=ok_frm ho;have hne:R.nd≠m.frm:=fun e=>ho.1.2.2.2.1 (by rw[hto,e]);have hl:=o.last qo;have hp:=o.rb.pr m.frm.toNat;have hr:=hb.rnd;unfold Pr.ok at hp;unfold Nd.appended
 split
 ·exact ⟨h,St.refl _ _⟩
 ·have o1:=o.appd1 qo m hb
  have h1:TI (R.appd1 L m) L/\St R L (R.appd1 L m) L:=by
   unfold Nd.appd1;dsimp only;unfold Nd.p
   split
   ·have ht:=TI.agree (R:=R.setP m.frm { R.pr m.frm.toNat with ws:=false,rd:=max (R.pr m.frm.toNat).rd (min m.rnd R.rnd),mt:=max (R.pr m.frm.toNat).mt (min m.idx L.last),nx:=max (R.pr m.frm.toNat).nx (max (R.pr m.frm.toNat).mt (min m.idx L.last)+1) }) (h.r) (o.r (o.rb.setP m.frm (by unfold Pr.ok;dsimp only;omega))) qo qo h0;exact ⟨ht.1,(St.r (St.refl R L)).trans ht.2⟩
   ·exact ⟨h.r,(St.refl R L).r⟩
  unfold Nd.appd2
  split
  ·obtain ⟨s1,s2,s3⟩:=send_same (R.appd1 L m) L m.frm;exact ⟨h1.1.send (o1.rb.nz (by unfold mxU;omega)) o1.rn.lb qo o1.cf hf (by rw[h1.2.nd];exact hne) h0,h1.2.r s1 s2⟩
  ·exact h1
theorem TI.chunked(h:TI R L)(o:NI c q z k R L D)(hc:c<=800000000)(hk:k<=800000)(m:Msg)(ho:m.ok)(hkd:m.kind=6)(hto:m.to=R.nd)(h0:L.kt≠0):TI (R.chunked L m) L/\St R L (R.chunked L m) L:=by
 have hf:=ok_frm ho;have hne:R.nd≠m.frm:=fun e=>ho.1.2.2.2.1 (by rw[hto,e]);have h1:=ok_off ho (.inr hkd);have hp:=o.rb.pr m.frm.toNat;unfold Nd.chunked
 split
 ·exact ⟨h,St.refl _ _⟩
 ·have nz:Nz (R.setP m.frm { R.p m.frm with ws:=false,of:=m.off }):=(o.rb.nz (by unfold mxU;omega)).setP m.frm ⟨hp.1,hp.2.1,hp.2.2.1,h1⟩;obtain ⟨s1,s2,s3⟩:=send_same (R.setP m.frm { R.p m.frm with ws:=false,of:=m.off }) L m.frm;exact ⟨TI.send (h.r) nz o.rn.lb qo o.cf hf hne h0,(St.refl R L).r s1 s2⟩
theorem piece_same(R:Nd)(m:Msg):(R.piece m).nd=R.nd/\(R.piece m).com=R.com/\(R.piece m).out=R.out/\(R.piece m).role=R.role/\(R.piece m).ps.idx=m.idx:=by
 rw[piece_eq]
 have h:(R.freshP m).nd=R.nd/\(R.freshP m).com=R.com/\(R.freshP m).out=R.out/\(R.freshP m).role=R.role/\(R.freshP m).ps.idx=m.idx:=by
  unfold Nd.freshP
  split
  ·exact ⟨I,I,I,I,I⟩
  ·rename_i hf;exact ⟨I,I,I,I,Decidable.not_not.1 fun hx=>hf (.inr (.inr (.inl hx)))⟩
 split <;> exact h
theorem PI.inst(h:PI u (n+(4*z+3)) R L D)(o:NI c q z k R L D)(hu:u<=1000000)(m:Msg)(hb:m.bd)(ho:m.ok)(hto:m.to=R.nd)(h0:L.kt≠0)(hi:R.ps.idx=m.idx)(hci:R.com<m.idx):
  PI (u+1) n (R.inst L D m).1 (R.inst L D m).2.1 (R.inst L D m).2.2.1/\St R L (R.inst L D m).1 (R.inst L D m).2.1:=by
 have hf:=ok_frm ho;have hne:R.nd≠m.frm:=fun e=>ho.1.2.2.2.1 (by rw[hto,e]);have hp:=o.rb.ps;obtain ⟨h1,h2,h3,h4⟩:=h.sim.install R.ps (n:=n) (h.liv.mono qo) hp.1 hp.2.1 hu qo;obtain ⟨k1,k2,k3⟩:=install_cases L R.ps D;obtain ⟨p1,p2⟩:=kp_install L.rl R.ps R.com qo;have z1:=install_zero (r:=L.rl) (s:=R.ps);have hw:=Rl.wf.install h.ti.wf R.ps;rw[<-h4] at p1 p2 z1 hw;rw[<-h1] at p2 z1;have hkt:=o.rn.lb.kt;have hmx:=hb.idx;unfold Nd.inst;dsimp only;generalize L.install R.ps D=A at h1 h2 h3 h4 k1 k2 k3 p1 p2 z1 hw ⊢;obtain ⟨L1,D1,c1⟩:=A;dsimp only at h1 h2 h3 h4 k1 k2 k3 p1 p2 z1 hw ⊢
 have hbad:c1≠0->PI (u+1) n { R with pf:=0,ps:=Snp.zero } L1 D1/\St R L { R with pf:=0,ps:=Snp.zero } L1:=fun hc1=>by
  have e:L1.rl=L.rl:=by
   rcases p2 with e|⟨_,_,_,e⟩
   ·exact e
   ·exact absurd e hc1
  have e1:L1.sn=L.sn:=congrArg Rl.sn e;have e2:L1.l=L.l:=congrArg Rl.l e;have hl:L1.last=L.last:=by unfold Lg.last;rw[e1,e2]
  have ht:TI R L1:=h.ti.lg (Nat.le_of_eq k1.symm) (by rw[e1];exact h.ti.com.1) (by rw[hl];exact h.ti.com.2) hw;exact ⟨⟨h3.up qo qo,h2,ht.r⟩,⟨Nat.le_of_eq k1.symm,Nat.le_refl _,p1,I⟩⟩
 split
 ·rename_i hc1;exact hbad (by rcases hc1 with rfl|rfl <;> decide)
 split
 ·rename_i hc1;obtain ⟨b1,b2⟩:=hbad hc1;obtain ⟨d1,d2⟩:=did_same { R with pf:=0,ps:=Snp.zero } c1;exact ⟨b1.t (b1.ti.did _),b2.r d1 d2⟩
 ·rename_i hc1;obtain ⟨s1,s2⟩:=z1 (Decidable.not_not.1 hc1);have e1:L1.sn.idx=m.idx:=by rw[<-hi];exact congrArg Snp.idx s1
  have e2:m.idx<=L1.last:=by rw[<-hi];exact s2
  have hm:MsgT R.nd L1.kt { Msg.zero with kind:=4,frm:=R.nd,to:=m.frm,term:=L1.kt,good:=true,idx:=m.idx,rnd:=0 }:=mt4 o.rb.nd hf hne (by rw[k1];exact h0) (by rw[k1];exact hkt) hmx (Nat.zero_le _)
  have ht:TI { R with pf:=0,ps:=Snp.zero,com:=max R.com m.idx } L1:=
   ⟨fun x hx=>(h.ti.out x hx).up (Nat.le_of_eq k1.symm),fun hr=>by rw[k1];exact h0,⟨by show L1.sn.idx<=max R.com m.idx;omega,by show max R.com m.idx<=L1.last;omega⟩,hw⟩
  exact ⟨⟨h3.up qo qo,h2,ht.say (m:={ Msg.zero with kind:=4,to:=m.frm,good:=true,idx:=m.idx }) hm⟩,⟨Nat.le_of_eq k1.symm,by show R.com<=max R.com m.idx;omega,p1,rfl⟩⟩
theorem PI.chunk(h:PI u (n+(4*z+7)) R L D)(o:NI c q z k R L D)(hu:u<=1000000)(m:Msg)(hb:m.bd)(ho:m.ok)(hk:m.kind=5)(hto:m.to=R.nd)(h0:L.kt≠0):
  PI (u+1) n (R.chunk L D m).1 (R.chunk L D m).2.1 (R.chunk L D m).2.2.1/\St R L (R.chunk L D m).1 (R.chunk L D m).2.1:=by
 have hf:=ok_frm ho;have hne:R.nd≠m.frm:=fun e=>ho.1.2.2.2.1 (by rw[hto,e]);have hw:=ok_whole ho hk;have hkt:=o.rn.lb.kt;unfold Nd.chunk;dsimp only;have of:=o.rb.foll (x:=m.frm) qo;have hff:TI (R.foll m.frm) L:=h.ti.r rfl rfl rfl (.inr rfl);have sf:St R L (R.foll m.frm) L:=(St.refl R L).r
 split
 ·exact ⟨h.up qo qo,St.refl _ _⟩
 split
 ·have hm:MsgT R.nd L.kt { Msg.zero with kind:=4,frm:=R.nd,to:=m.frm,term:=L.kt,good:=true,idx:=m.idx,rnd:=0 }:=mt4 o.rb.nd hf hne h0 hkt hb.idx (Nat.zero_le _);exact ⟨(h.t (hff.say (m:={ Msg.zero with kind:=4,to:=m.frm,good:=true,idx:=m.idx }) hm)).up qo qo,sf.r⟩
 rename_i hci;obtain ⟨p1,p2,p3,p4,p5⟩:=piece_same (R.foll m.frm) m;have hpp:TI ((R.foll m.frm).piece m) L:=hff.r p3 p1 p2 (.inl p4);have sp:St R L ((R.foll m.frm).piece m) L:=sf.r p1 p2
 split
 ·rename_i hlt;have hm:MsgT R.nd L.kt { Msg.zero with kind:=6,frm:=R.nd,to:=m.frm,term:=L.kt,idx:=m.idx,off:=((R.foll m.frm).piece m).ps.data.length }:=mt6 o.rb.nd hf hne h0 hkt hb.idx qo;exact ⟨(h.t (hpp.say (m:={ Msg.zero with kind:=6,to:=m.frm,idx:=m.idx,off:=((R.foll m.frm).piece m).ps.data.length }) (by rw[p1];exact hm))).up qo qo,sp.r⟩
 ·obtain ⟨i1,i2⟩:=((h.t hpp).up (n':=n+(4*(z+1)+3)) (Nat.le_refl _) qo).inst (o.r (of.piece m hb ho hk)) hu m hb ho (by rw[p1];exact hto) h0 p5 (by rw[p2];exact Nat.lt_of_not_le hci);exact ⟨i1,sp.trans i2⟩
theorem PI.take3(h:PI u (n+(4*z+100)) R L D)(o:NI c q z k R L D)(hc:c<=499900000)(hk:k<=700000)(hu:u<=1000000)(m:Msg)(hb:m.bd)(ho:m.ok)(hto:m.to=R.nd)(h0:L.kt≠0):
  PI (u+9) n (R.take3 L D m).1 (R.take3 L D m).2.1 (R.take3 L D m).2.2.1/\St R L (R.take3 L D m).1 (R.take3 L D m).2.1:=by
 unfold Nd.take3
 split
 ·obtain ⟨a,b⟩:=(h.up (n':=n+1) (Nat.le_refl _) qo).asked o hu m hb ho hto h0;exact ⟨a.up qo qo,b⟩
 split
 ·obtain ⟨a,b⟩:=(h.up (n':=n+11) (Nat.le_refl _) qo).voted o qo qo m h0;exact ⟨a.up qo qo,b⟩
 split
 ·rename_i h3;exact (h.up (n':=n+100) (Nat.le_refl _) qo).app o qo m hb ho h3 hto h0
 split
 ·obtain ⟨a,b⟩:=h.ti.appended o qo qo m hb ho hto h0;exact ⟨(h.t a).up qo qo,b⟩
 split
 ·rename_i h5;obtain ⟨a,b⟩:=(h.up (n':=n+(4*z+7)) (Nat.le_refl _) qo).chunk o hu m hb ho h5 hto h0;exact ⟨a.up qo qo,b⟩
 split
 ·rename_i h6;obtain ⟨a,b⟩:=h.ti.chunked o qo qo m ho h6 hto h0;exact ⟨(h.t a).up qo qo,b⟩
 ·exact ⟨h.up qo qo,St.refl _ _⟩
theorem PI.take(h:PI u (n+(4*z+101)) R L D)(o:NI c q z k R L D)(hc:c<=499800000)(hk:k<=700000)(hu:u<=900000)(m:Msg)(hb:m.bd):
  PI (u+10) n (R.take L D m).1 (R.take L D m).2.1 (R.take L D m).2.2.1/\St R L (R.take L D m).1 (R.take L D m).2.1:=by
 unfold Nd.take
 split
 ·exact ⟨h.up qo qo,St.refl _ _⟩
 split
 ·exact ⟨h.up qo qo,St.refl _ _⟩
 rename_i hq
 split
 ·exact ⟨h.up qo qo,St.refl _ _⟩
 have ho:m.ok:=by
  by_cases hh:m.ok
  ·exact hh
  ·exact absurd (.inl (by unfold enc;simp[hh])) hq
 have hto:m.to=R.nd:=Decidable.not_not.1 fun hx=>hq (.inr (.inl hx));have ht0:m.term≠0:=ho.1.2.2.2.2
 have h2:∀ {u' c' q':Nat} {R':Nd} {L':Lg} {D':Dk},PI u' (n+(4*z+100)) R' L' D'->NI c' q' z k R' L' D'->c'<=499900000->u'<=1000000->R'.nd=R.nd->m.term<=L'.kt->PI (u'+9) n (R'.take2 L' D' m).1 (R'.take2 L' D' m).2.1 (R'.take2 L' D' m).2.2.1/\St R' L' (R'.take2 L' D' m).1 (R'.take2 L' D' m).2.1:=by
  intro u' c' q' R' L' D' h' o' hc' hu' hnd hkt;unfold Nd.take2
  split
  ·rename_i hlt;obtain ⟨a,b⟩:=h'.ti.stale o' m ho (by rw[hnd];exact hto) hlt;exact ⟨(h'.t a).up qo qo,b⟩
  ·exact h'.take3 o' hc' hk hu' m hb ho (by rw[hnd];exact hto) qo
 unfold Nd.take1;dsimp only
 split
 ·obtain ⟨a1,a2,a3⟩:=(h.up (n':=n+(4*z+100)+1) (Nat.le_refl _) qo).raise qo m.term hb.term;have oa:=o.raise m.term hb.term
  split
  ·exact ⟨a1.up qo qo,a2⟩
  ·rename_i hz;obtain ⟨b1,b2⟩:=h2 a1 oa qo qo a2.nd (Nat.le_of_eq (a3 (Decidable.not_not.1 hz)).symm);exact ⟨b1.up qo qo,a2.trans b2⟩
 ·rename_i hlt;obtain ⟨b1,b2⟩:=h2 (h.up (n':=n+(4*z+100)) (Nat.le_refl _) qo) o qo qo rfl qo;exact ⟨b1.up qo qo,b2⟩
theorem leads_role(h:R.leads=0):R.role=2:=by
 unfold Nd.leads at h
 split at h
 ·cases h
 ·split at h
  ·cases h
  ·rename_i hr;exact Decidable.not_not.1 hr
theorem PI.call(h:PI u (n+(4*z+101)) R L D)(o:NI c q z k R L D)(hc:c<=499800000)(hk:k<=700000)(hu:u<=900000)(x:Cl)(hb:x.m.bd):
  PI (u+10) n (R.call L D x).1 (R.call L D x).2.1 (R.call L D x).2.2.1/\St R L (R.call L D x).1 (R.call L D x).2.1:=by
 unfold Nd.call
 split
 ·obtain ⟨a,b⟩:=(h.up (n':=n+12) (Nat.le_refl _) qo).tick o qo hk qo x.draw;exact ⟨a.up qo qo,b⟩
 split
 ·exact h.take o hc hk hu x.m hb
 split
 ·unfold Nd.propose
  split
  ·exact ⟨h.up qo qo,St.refl _ _⟩
  ·rename_i hl
   split
   ·exact ⟨h.up qo qo,St.refl _ _⟩
   ·have hr:=leads_role (Decidable.not_not.1 hl);obtain ⟨a,b⟩:=(h.up (n':=n+11) (Nat.le_refl _) qo).lay o qo qo (h.ti.role (by rw[hr];decide)) 1 (ob (putCmd cmdOne));exact ⟨a.up qo qo,b⟩
 split
 ·unfold Nd.change;dsimp only
  split
  ·exact ⟨h.up qo qo,St.refl _ _⟩
  rename_i hl;have hr:=leads_role (Decidable.not_not.1 hl)
  split
  ·exact ⟨h.up qo qo,St.refl _ _⟩
  generalize (if x.m.good=true then cfgAdd L.cfg.1 x.n else cfgRem L.cfg.1 x.n)=r
  split
  ·exact ⟨h.up qo qo,St.refl _ _⟩
  ·have hlt:=o.last qo;obtain ⟨R1,hR1⟩:∃ R1,R1=if x.m.good=true then R.setP x.n (Pr.new (L.last+1)) else R:=⟨_,rfl⟩;rw[<-hR1]
   have h1:TI R1 L/\St R L R1 L/\Rb z k R1:=by
    rw[hR1]
    split
    ·exact ⟨h.ti.r,(St.refl R L).r,o.rb.setP x.n (p:=Pr.new (L.last+1)) ⟨by unfold rTop;exact (by decide:0+1<=4611686018427387904),hlt,by show 0<=mxU;omega,Int.le_refl 0,by show (0:Int)<=2097152;omega⟩⟩
    ·exact ⟨h.ti,St.refl _ _,o.rb⟩
   obtain ⟨a,b⟩:=((h.t h1.1).up (n':=n+11) (Nat.le_refl _) qo).lay (o.r h1.2.2) qo qo (h.ti.role (by rw[hr];decide)) 2 (ob (putConf r.1));exact ⟨a.up qo qo,h1.2.1.trans b⟩
 split
 ·unfold Nd.read
  split
  ·exact ⟨h.up qo qo,St.refl _ _⟩
  rename_i hl;have hr:=leads_role (Decidable.not_not.1 hl)
  split
  ·exact ⟨h.up qo qo,St.refl _ _⟩
  ·obtain ⟨t1,t2,t3,t4⟩:=h.ti.tell o qo qo (h.ti.role (by rw[hr];decide)) true;exact ⟨(h.t t1).up qo qo,⟨Nat.le_refl _,Nat.le_of_eq t3.symm,Kp.refl _ _,t2⟩⟩
 split
 ·unfold Nd.save
  split
  ·exact ⟨h.up qo qo,St.refl _ _⟩
  split
  ·exact ⟨h.up qo qo,St.refl _ _⟩
  dsimp only;obtain ⟨s,hs⟩:∃ s:Snp,s=⟨R.com,(L.trm R.com).1,(cfgAt L.sn L.l R.com).1,[120]⟩:=⟨_,rfl⟩;rw[<-hs];have hsi:s.idx=R.com:=by rw[hs]
  obtain ⟨h1,h2,h3,h4⟩:=h.sim.save s (n:=n) (h.liv.mono (by rw[hs];simp only[List.length_singleton];omega)) (by rw[hsi];exact o.rb.com) (by rw[hs];exact L.trm_le o.rn.lb _) qo qo;obtain ⟨k1,k2,k3⟩:=save_cases L s D;obtain ⟨p1,p2,p3⟩:=kp_save L.rl s R.com;have hw:=Rl.wf.save h.ti.wf s;rw[<-h4] at p1 p2 p3 hw;generalize L.save s D=A at h1 h2 h3 h4 k1 k2 k3 p1 p2 p3 hw ⊢;obtain ⟨L1,D1,c1⟩:=A;dsimp only at h1 h2 h3 h4 k1 k2 k3 p1 p2 p3 hw ⊢
  have hsn:L1.sn.idx<=R.com:=by
   rcases p3 with e|⟨e,_⟩
   ·have:L1.sn=L.sn:=congrArg Rl.sn e;rw[this];exact h.ti.com.1
   ·have:L1.sn=s:=e;rw[this,hsi];exact Nat.le_refl _
  have ht:TI R L1:=h.ti.lg (Nat.le_of_eq k1.symm) hsn (by rw[Lg.last_rl,p2];exact h.ti.com.2) hw;have hst:St R L R L1:=⟨Nat.le_of_eq k1.symm,Nat.le_refl _,p1,rfl⟩;have hp:PI (u+10) n R L1 D1:=⟨h3.up qo qo,h2,ht⟩
  split
  ·exact ⟨hp,hst⟩
  ·obtain ⟨d1,d2⟩:=did_same R c1;exact ⟨hp.t (ht.did _),hst.r d1 d2⟩
 ·exact ⟨h.up qo qo,St.refl _ _⟩
end
end
section
theorem NI.call{c q z k:Nat}{R:Nd}{L:Lg}{D:Dk}(o:NI c q z k R L D)(hc:c<=499800000)(x:Cl)(hb:x.m.bd):NI (c+(8*z+q+130)) (q+10) (z+1) (k+25) (R.call L D x).1 (R.call L D x).2.1 (R.call L D x).2.2.1:=by
 unfold Nd.call
 split
 ·exact (o.tick qo x.draw).upz qo qo qo qo
 split
 ·exact (o.take hc x.m hb).upz qo qo qo qo
 split
 ·exact (o.propose qo _).upz qo qo qo qo
 split
 ·exact (o.change qo _ _).upz qo qo qo qo
 split
 ·exact o.read.upz qo qo qo qo
 split
 ·exact (o.save qo R.com [120] 1 (by decide)).upz qo qo qo qo
 ·exact o.upz qo qo qo qo
structure LI (j:Nat) (R:Nd) (L:Lg) (D:Dk):Prop where
 ni:NI (6000*j) (10*j) j (25*j) R L D
 pi:PI (10*j) (16777216-1400*j) R L D
 nd:R.nd=0
theorem LI.call{j:Nat}{R:Nd}{L:Lg}{D:Dk}(o:LI j R L D)(hj:j<=300)(x:Cl)(hb:x.m.bd):LI (j+1) (R.call L D x).1 (R.call L D x).2.1 (R.call L D x).2.2.1/\St R L (R.call L D x).1 (R.call L D x).2.1:=by
 obtain ⟨a,b⟩:=(o.pi.up (n':=(16777216-1400*(j+1))+(4*j+101)) (Nat.le_refl _) qo).call o.ni qo qo qo x hb;exact ⟨⟨(o.ni.call qo x hb).up qo qo qo,a.up qo qo,b.nd.trans o.nd⟩,b⟩
theorem LI.cl{j:Nat}{R:Nd}{L:Lg}{D:Dk}(o:LI j R L D):LI j { R with out:=[] } L D:=
 ⟨o.ni.r { o.ni.rb with out:=Nat.zero_le _ },o.pi.t ⟨fun m hm=>(by cases hm),o.pi.ti.role,o.pi.ti.com,o.pi.ti.wf⟩,o.nd⟩
attribute [local irreducible] Code.wp wpList Calls
theorem li0:LI 0 (Nd.new 0 (lgV 3)) (lgV 3) (dk0 16777216):=by
 have r:=rnV (v:=3) qo;refine ⟨NI_new (i:=0) (v:=3) qo qo r,⟨⟨I,⟨I,fun o h=>(by cases h)⟩,Nat.le_refl _,Nat.le_refl _,Nat.le_refl _,Nat.le_refl _,Nat.le_refl _,I,I⟩,⟨I,I,by simp[dk0]⟩,⟨fun m hm=>(by cases hm),fun hr=>absurd I hr,⟨Nat.le_refl _,Nat.le_refl _⟩,I⟩⟩,I⟩
def ClC(K:PH)(cs:List Value)(x:Cl):Prop:=∃ p,cs=(clV x p).toList/\MsgS K x.m p
theorem ClC.le{K K':PH}(l:Le K K'){cs:List Value}{x:Cl}(h:ClC K cs x):ClC K' cs x:=let ⟨p,h1,h2⟩:=h;⟨p,h1,h2.le l⟩
theorem cl_cells{K:PH}{ao:Option Addr}{cap:Nat}{cs:List Cl}(hG:SlS 17 (ClC K) K ao cs.length cap cs){k:Nat}{x:Cl}(hk:cs[k]?=some x):
  ∃ a p,ao=some a/\MsgS K x.m p/\∀ (j:Nat) v,(clV x p).toList[j]?=some v->Cell K ((a.add (k*17)).add j) v:=by
 have hkl:k<cs.length:=(List.getElem?_eq_some_iff.1 hk).1;obtain ⟨a,rfl⟩:=hG.addr qo (by decide);obtain ⟨c,⟨p,rfl,x⟩,_,hc⟩:=hG.cells hk;exact ⟨a,p,I,x,hc⟩
theorem ms_cells{K:PH}{ao:Option Addr}{cap:Nat}{ms:List Msg}(hG:SlS 14 (MsgC K) K ao ms.length cap ms){k:Nat}{m:Msg}(hk:ms[k]?=some m):
  ∃ a p,ao=some a/\MsgS K m p/\∀ (j:Nat) v,(mv m p).toList[j]?=some v->Cell K ((a.add (k*14)).add j) v:=by
 have hkl:k<ms.length:=(List.getElem?_eq_some_iff.1 hk).1;obtain ⟨a,rfl⟩:=hG.addr qo (by decide);obtain ⟨c,⟨p,rfl,x⟩,_,hc⟩:=hG.cells hk;exact ⟨a,p,I,x,hc⟩
structure TeS where
 j:Nat
 K:PH
 R:Nd
 L:Lg
 D:Dk
 s:NS
 lh:PH
 g:PH
theorem lawTells{w0:World}{K:PH}{hs:List PH}(ao:Option Addr)(cap:Nat)(cs:List Cl)(xs:SlS 17 (ClC K) K ao cs.length cap cs)(hb:∀ x∈cs,x.draw<18446744073709551616/\x.m.bd)(hn:cs.length<1099511627776):
  Ct Tryz.prog w0 3 [.slice ao cs.length cap] K hs (fun v K' _=>K'=K/\v=.bool true):=by
 refine Ct.lawT ?_;refine enter Tryz.func3 qk I I I ?_;refine sq (rg ?_);refine fin 1 I (th (sq (rg ?_)));refine cl 0 I aloneGC ?_;rintro v11 K11 hs11 ⟨rb,lb,db,s0,lh0,g0,rfl,le0,I0,rfl⟩;refine fin 7 I (th (sq (sq (rg ?_))));refine cbS 1 False I (by simp) fun b16 h16=>?_
 refine' bjo (q:=300<cs.length) 1 4 21 [16,17] h16 I I I I I I I (fun _=>?x2) (fun b21 h21=>?_)
 case x2=>
  refine cbS 2 (300<cs.length) I (by simp;omega) fun b20 h20=>?_;exact fin 1 I (bjx h20 I I I)
 refine fin 0 I<|th (ifP h21 I (fun e4=>?_) (fun e4=>?_))
 ·refine sq (rg ?_);refine cbS 1 True I (by simp) fun b23 h23=>?_
  refine' bja (q:=True) 1 2 26 [23,24] h23 I I I I I I I (fun _=>?x6) (fun b26 h26=>?_)
  case x6=>
   refine cl 0 I aliveGC ?_;rintro v25 K25 hs25 ⟨rfl,rfl,rfl⟩;exact fin 1 I (bjx (by simp) I I I)
  refine fin 1 I (th (rt (rT ?_)));exact ret1 I I ⟨le0,by rw[h26.2 ⟨trivial,trivial⟩]⟩
 have hlen:cs.length<=300:=by omega
 refine sk (th (sq (sq (rg ?_))));refine fin 3 I (th (bk ?_))
 refine loop (σ:=TeS) (fun t=>[(5,.pointer (some ⟨rb,0,none⟩)),(27,.slice ao cs.length cap),(28,.int .i64 cs.length),(29,.int .i64 t.j)]) (fun t=>t.K) (fun t=>pt rb (ndA lb t.R t.s) RT::t.lh::t.g::hs)
  (fun t=>t.j<=cs.length/\Le K t.K/\Nd3 t.K rb lb db t.R t.L t.D t.s t.lh t.g/\LI t.j t.R t.L t.D/\t.R.out=[]) (fun t=>cs.length-t.j) ⟨0,K11,Nd.new 0 (lgV 3),lgV 3,dk0 16777216,s0,lh0,g0⟩ ⟨Nat.zero_le _,le0,I0,li0,rfl⟩ ⟨rfl,rfl,rfl,rfl,trivial⟩ rfl rfl ?_
 rintro ⟨j,K1,R,L,D,s,lh,g⟩ ⟨hj,le,iN,li,ho⟩;dsimp only at *;refine sq (rg ?_);refine cmpS 0 I fun b30 h30=>?_;refine fin 0 I (th (sq (ifP h30 I (fun e8=>?_) (fun e8=>?_))))
 ·have hjl:j<cs.length:=by omega
  obtain ⟨x,hx⟩:∃ x,cs[j]?=some x:=⟨_,List.getElem?_eq_getElem hjl⟩;obtain ⟨hxd,hxb⟩:=hb x (List.mem_of_getElem? hx);have xs1:SlS 17 (ClC K1) K1 ao cs.length cap cs:=xs.le le fun _ _ h=>h.le le;obtain ⟨a,p,rfl,hS,hco⟩:=cl_cells xs1 hx;obtain ⟨vs,hvs⟩:=xs1.isS;refine sk (th (sq (bk (sq (rg ?_)))));refine ixs 0 j I I hvs hjl (by decide) fun a31 h31=>?_;cases h31;refine lds 0 (clV x p).toList I qk (.inl I) hco ?_;refine al 0 (.agg #[.int .i64 0,.int .i64 0,.int .u64 0,.int .i64 0,.int .i64 0,.int .i64 0,.int .u64 0,.int .u64 0,.int .u64 0,.int .u64 0,.int .u64 0,.bool false,.slice none 0 0,.int .i64 0,.int .i64 0,.slice none 0 0,.slice none 0 0]) I qk fun b7=>?_;refine stS 0 0 I I qk I I ?_;refine WL.hs (pt b7 (clV x p) 36::pt rb (ndA lb R s) RT::lh::g::hs) I ?_;refine fin 0 I (th (sq (rg ?_)));obtain ⟨li1,st1⟩:=li.call qo x hxb;have hcg:=fun (hs':List PH)=>callGC (w0:=w0) (hs:=hs') iN li.ni qo qo qo x hxd hxb p hS
  generalize R.call L D x=A at li1 st1 hcg;obtain ⟨R1,L1,D1,c1⟩:=A;dsimp only at li1 st1 hcg;refine ldS 1 0 I I qk ?_;refine cl 0 I (Ct.at3 [_] (hcg _)) ?_;rintro v35 K35 hs35 ⟨_,lh1,g1,rfl,⟨s1,rfl,le1,I1⟩,rfl⟩;refine fin 0 I (th (sq (rg ?_)));have hmc:=messagesGC (w0:=w0) (lb:=lb) (hs:=pt b7 (clV x p) 36::lh1::hs) I1.g;refine WL.perm (hs':=pt rb (ndA lb R1 s1) RT::g1::pt b7 (clV x p) 36::lh1::hs) ?_ ?_
  ·refine (List.Perm.swap _ _ _).trans (List.Perm.cons _ ?_);exact List.perm_append_comm_assoc [_,_] [_] hs
  refine cl 1 I hmc ?_;rintro v37 K37 hs37 ⟨_,g2,rfl,le2,⟨s2,rfl,G2⟩,a2,c2,rfl,xm⟩;refine WL.perm (hs':=pt b7 (clV x p) 36::pt rb (ndA lb { R1 with out:=[] } s2) RT::lh1::g2::hs) ?_ ?_
  ·refine ((List.perm_append_comm_assoc [_] [_,_] hs).cons _).trans<|List.Perm.swap _ _ _
  have I2:Nd3 K37 rb lb db { R1 with out:=[] } L1 D1 s2 lh1 g2:=⟨I1.l.le le2,G2⟩;have hout:=li1.pi.ti.out;have hol:=li1.ni.rb.out;have li2:=li1.cl;generalize R1.out=ms at hout hol xm ⊢;rw[li1.nd] at hout;have ho2:({ R1 with out:=[] }:Nd).out=[]:=rfl;generalize ({ R1 with out:=[] }:Nd)=R2 at I2 li2 ho2 ⊢;refine fin 2 I (th (bk ?_))
  refine loop (σ:=Nat) (fun i=>[(5,.pointer (some ⟨rb,0,none⟩)),(27,.slice (some a) cs.length cap),(28,.int .i64 cs.length),(29,.int .i64 (j:Nat)),(37,.slice a2 ms.length c2),(38,.int .i64 ms.length),(39,.int .i64 (i:Nat))]) (fun _=>K37) (fun _=>pt b7 (clV x p) 36::pt rb (ndA lb R2 s2) RT::lh1::g2::hs)
   (fun i=>i<=ms.length) (fun i=>ms.length-i) 0 (Nat.zero_le _) ⟨rfl,rfl,rfl,rfl,rfl,rfl,rfl,trivial⟩ rfl rfl ?_
  intro i hi;refine sq (rg ?_);refine cmpS 0 I fun b40 h40=>?_;refine fin 0 I (th (sq (ifP h40 I (fun e10=>?_) (fun e10=>?_))))
  ·have hil:i<ms.length:=by omega
   obtain ⟨m,hm⟩:∃ m,ms[i]?=some m:=⟨_,List.getElem?_eq_getElem hil⟩;obtain ⟨m1,m2,m3,m4⟩:=hout m (List.mem_of_getElem? hm);obtain ⟨am,pm,rfl,hSm,hcm⟩:=ms_cells xm hm;obtain ⟨vm,hvm⟩:=xm.isS;have hto:m.to≠0:=fun e=>m1.1.2.2.2.1 (by rw[m3,e]);refine sk (th (sq (bk (sq (rg ?_)))));refine ixs 0 i I I hvm hil (by decide) fun a41 h41=>?_;cases h41;refine lds 0 (mv m pm).toList I qk (.inl I) hcm ?_;refine al 0 (.agg #[.int .i64 0,.int .i64 0,.int .i64 0,.int .u64 0,.int .u64 0,.int .u64 0,.int .u64 0,.int .u64 0,.bool false,.slice none 0 0,.int .i64 0,.int .i64 0,.slice none 0 0,.slice none 0 0]) I qk fun b9=>?_;refine stS 0 0 I I qk I I ?_;refine WL.hs (pt b9 (mv m pm) 34::pt b7 (clV x p) 36::pt rb (ndA lb R2 s2) RT::lh1::g2::hs) I ?_;refine fin 0 I (th (sq (rgm [0] 20 [0,3,4,6,8,10,12,14,16,18,20,22,24,26,28,30,32,35,36,38] ?_)));refine dldS qk 0 0 I qk I qk ?_
   refine dact qk 0 I ?_;refine cl 0 I (rightRef m pm hSm m2) ?_;rintro v44 K44 hs44 ⟨rfl,rfl,t44,rfl,ht⟩;obtain rfl:t44=true:=ht.2 m1;refine dnx (by simp) I ?_;refine dldp qk 3 0 I I I ?_;refine dcmp qk 0 (m.frm≠0) I (by simp) (fun h11=>absurd m3 h11) (fun h11=>?_);refine dldp qk 3 0 I I I ?_;refine dcmp qk 0 (m.to=0) I (by simp) (fun h12=>absurd h12 hto) (fun h12=>?_);refine dldp qk 3 0 I I I ?_;refine dact qk 1 I ?_;refine cl 0 I (Ct.at2p [_,_] (termGC I2.l)) ?_;rintro v60 K60 hs60 ⟨_,lh1,rfl,rfl,rfl,rfl,rfl⟩;refine dnx (by simp) I ?_;refine dcbS qk 0 (L1.kt<m.term) I (by simp) fun b61 h61=>?_
   obtain rfl:b61=false:=by
    cases b61 with
    | false=>rfl
    | true=>exact absurd (h61.1 rfl) qo
   refine dend qk 1 I (th (ifF I ?_));refine sk (bl (th (rg ?_)));refine ar 0 I (i64w (x:=((i+1:Nat):Int)) qo) ?_;refine fin 1 I (WQ.drop ?_);exact again (x:=i) (i+1) ⟨I,I,I,I,I,I,I,trivial⟩ I I qo qo
  ·refine ex (xt (xt (xb (bl (th (rg ?_))))));refine ar 0 I (i64w (x:=((j+1:Nat):Int)) qo) ?_;refine fin 1 I (WQ.drop ?_);exact again (x:=(⟨j,K1,R,L,D,s,lh,g⟩:TeS)) (⟨j+1,K37,R2,L1,D1,s2,lh1,g2⟩:TeS) ⟨I,I,I,I,trivial⟩ I I ⟨by dsimp only;omega,(le.trans le1).trans le2,I2,li2,ho2⟩ (by dsimp only;omega)
 ·refine ex (xt (xt (xb (th (sq (rg ?_))))));refine cl 0 I aliveGC ?_;rintro v65 K65 hs65 ⟨rfl,rfl,rfl⟩;refine WL.perm (hs':=pt rb (ndA lb R s) RT::g::lh::hs) ((List.Perm.swap _ _ _).cons _) ?_;refine cl 2 I (messagesGC iN.g) ?_;rintro v68 K68 hs68 ⟨_,g2,rfl,le2,⟨s2,rfl,G2⟩,a2,c2,rfl,xm⟩;refine cbS 1 (R.out.length=0) I (by simp) fun b70 h70=>?_;refine fin 2 I (th (rt ?_));exact ret1 I I ⟨le.trans le2,by rw[show b70=true from h70.2 (by rw[ho];rfl)]⟩
end
section
open Go.En Go.ChangeShapes Go.WideShapes Go.ChangeAt Go.RowKit Go.Deep
set_option maxRecDepth 100000
section opens
variable {H:Type} {enc:TypeId×Value->H} {W:World}
def toMs(x:MsT):Msg:=match x with
 | ⟨k,f,t,te,i,l,c,r,g,e,o,w,vo,dd,u⟩=>⟨k,f,t,te.toNat,i.toNat,l.toNat,c.toNat,r.toNat,g,e.map toEnt,o,w,vo,byI dd⟩
theorem ms_of{cs:List Value}{x:MsT}(hR:RMs W cs x)(hm:mMs x<=4194304):MsgC (hp W) cs (toMs x)/\(toMs x).bd:=by
 obtain ⟨k,f,t,te,i,l,c,r,g,e,o,w,vo,dd,u⟩:=x;obtain ⟨c1,r1,e1,h1,c2,r2,e2,h2,c3,r3,e3,h3,c4,r4,e4,h4,c5,r5,e5,h5,c6,r6,e6,h6,c7,r7,e7,h7,c8,r8,e8,h8,c9,r9,e9,h9,c10,r10,e10,h10,c11,r11,e11,h11,c12,r12,e12,h12,c13,r13,e13,h13,c14,r14,e14,h14,h15⟩:=hR;obtain ⟨rfl,_⟩:=ri_i64 h1;obtain ⟨rfl,_⟩:=ri_i64 h2;obtain ⟨rfl,_⟩:=ri_i64 h3;obtain ⟨rfl,b4⟩:=ri_u64 h4;obtain ⟨rfl,b5⟩:=ri_u64 h5;obtain ⟨rfl,b6⟩:=ri_u64 h6;obtain ⟨rfl,b7⟩:=ri_u64 h7;obtain ⟨rfl,b8⟩:=ri_u64 h8;obtain rfl:c9=[.bool g]:=h9;obtain ⟨ae,ce,rfl,xE,bE⟩:=rsl_ents h10;obtain ⟨rfl,b11⟩:=ri_i64 h11;obtain ⟨rfl,b12⟩:=ri_i64 h12;obtain ⟨av,cv,rfl,xV,bV⟩:=rsl_ints h13;obtain ⟨ad,cd,rfl,xD⟩:=rsl_bytes h14;obtain rfl:r14=[]:=h15;simp only[mMs,mS,mP,mL,mU,mZ,sumM_U] at hm;dsimp only at b4 b5 b6 b7 b8 b11 b12 bE bV xE xV xD hm e1 e2 e3 e4 e5 e6 e7 e8 e9 e10 e11 e12 e13 e14;have hge:=sumM_ge mEn (fun _=>by simp only[mEn];omega) e
 refine ⟨⟨⟨ae,ce,av,cv,ad,cd⟩,?_,xE,xV,xD⟩,?_⟩
 ·rw[e1,e2,e3,e4,e5,e6,e7,e8,e9,e10,e11,e12,e13,e14];rfl
 ·exact { term:=b4,idx:=b5,lt:=b6,com:=b7,rnd:=b8,off:=b11,whole:=b12,
          ents:=fun x hx=>by
           obtain ⟨y,hy,rfl⟩:=List.mem_map.1 hx;have h1:=sumM_mem mEn hy;simp only[mEn,sumM_one] at h1;refine ⟨(bE y hy).1,(bE y hy).2,?_⟩;show (byI _).length<=_;rw[byI_len];omega
          entsL:=by show (e.map toEnt).length<=_;rw[List.length_map];omega
          vot:=bV,votL:=by show vo.length<=_;omega,dataL:=by show (byI _).length<=_;rw[byI_len];omega }
abbrev ClT:Type:=Int×Int×Int×MsT×Unit
abbrev RCl(W:World):=RP (RI .i64) (RP (RI .i64) (RP (RI .u64) (RP (RMs W) R0)))
def mCl:ClT->Nat:=mS (mP mU (mP mU (mP mU (mP mMs mZ))))
theorem clOpens:Opens enc Tryz.prog W 36 17 (RCl W) mCl:=by
 exact structM Tryz.underlying36 qk<|consM (off:=0) (sz1:=1) (sz2:=16) I (intM Tryz.underlying3 qk) (consM (off:=1) (sz1:=1) (sz2:=15) I (intM Tryz.underlying3 qk)<|consM (off:=2) (sz1:=1) (sz2:=14) I (intM Tryz.underlying29 qk) (consM (off:=3) (sz1:=14) (sz2:=0) I msOpens nilM))
def toCl(x:ClT):Cl:=⟨x.1,x.2.1,x.2.2.1.toNat,toMs x.2.2.2.1⟩
theorem cl_of{cs:List Value}{x:ClT}(hR:RCl W cs x)(hm:mCl x<=1048576):ClC (hp W) cs (toCl x)/\(toCl x).draw<18446744073709551616/\(toCl x).m.bd:=by
 obtain ⟨k,n,d,m,u⟩:=x;obtain ⟨c1,r1,e1,h1,c2,r2,e2,h2,c3,r3,e3,h3,c4,r4,e4,h4,h5⟩:=hR;obtain ⟨rfl,_⟩:=ri_i64 h1;obtain ⟨rfl,_⟩:=ri_i64 h2;obtain ⟨rfl,b3⟩:=ri_u64 h3;obtain rfl:r4=[]:=h5;simp only[mCl,mS,mP,mU,mZ] at hm;obtain ⟨⟨p,e5,hS⟩,hb⟩:=ms_of (x:=m) h4 qo;have hmx:mxU=18446744073709551615:=rfl;dsimp only at e1 e2 e3 e4 e5 b3;refine ⟨⟨p,?_,hS⟩,by show d.toNat<_;omega,hb⟩;rw[e1,e2,e3,e4,e5,List.append_nil]
 rfl
theorem al2_of2{α:Type}{R:List Value->α->Prop}:∀ {css:List (List Value)} {xs:List α},All2 R css xs->Al2 R css xs
 | [],[],_=>trivial
 | _::_,_::_,g=>⟨g.1,al2_of2 g.2⟩
 | [],_::_,g=>g.elim
 | _::_,[],g=>g.elim
theorem all2_size2{α:Type}{n:Nat}{R:List Value->α->Prop}(h:∀ c x,R c x->c.length=n):∀ {css:List (List Value)} {xs:List α},All2 R css xs->∀ d∈css,d.length=n
 | [],[],_=>by simp
 | c::cs,x::xs,g=>by
  intro d hd;rcases List.mem_cons.1 hd with rfl|hd
  ·exact h _ _ g.1
  ·exact all2_size2 h g.2 d hd
 | [],_::_,g=>g.elim
 | _::_,[],g=>g.elim
theorem all2_cls:∀ {css:List (List Value)} {xs:List ClT},All2 (RCl W) css xs->sumM mCl xs<=1048576->All2 (ClC (hp W)) css (xs.map toCl)/\∀ x∈xs.map toCl,x.draw<18446744073709551616/\x.m.bd
 | [],[],_,_=>⟨trivial,by simp⟩
 | c::cs,x::xs,⟨h1,h2⟩,hB=>by
  simp only[sumM] at hB;obtain ⟨g1,g2⟩:=cl_of h1 qo;obtain ⟨k1,k2⟩:=all2_cls h2 qo;refine ⟨⟨g1,k1⟩,fun y hy=>?_⟩;rw[List.map_cons] at hy;rcases List.mem_cons.1 hy with rfl|hy
  ·exact g2
  ·exact k2 y hy
 | [],_::_,g,_=>g.elim
 | _::_,[],g,_=>g.elim
theorem clsOpens:Opens enc Tryz.prog W 22 1 (RSl W 17 (RCl W)) (mL mCl):=sliceM Tryz.underlying22 qk clOpens
theorem open_cls{base:Nat}{v:Value}{d:DataW H}{ps:List MemPlace}(hval:Value.okWide Tryz.prog W .any base 22 v)(h:DataW.Trod enc Tryz.prog W 0 (fun _=>true) true 22 v d ps)(hB:Rows.uptoBulk d<=1048576):
  ∃ ao cap,∃ cs:List Cl,v=.slice ao cs.length cap/\SlS 17 (ClC (hp W)) (hp W) ao cs.length cap cs/\(∀ x∈cs,x.draw<18446744073709551616/\x.m.bd)/\cs.length<1099511627776:=by
 obtain ⟨a0,len,cap0,rfl⟩:=okWide_slice Tryz.underlying22 hval;obtain ⟨xs,hR,hm⟩:=(clsOpens (enc:=enc) (W:=W)).arg h;simp only[mL] at hm;have hge:=sumM_ge mCl (fun _=>by simp only[mCl,mS,mP,mU];omega) xs;obtain ⟨ao,cap,css,e,x,h2⟩:=hR;obtain ⟨g1,g2⟩:=all2_cls h2 qo;simp[Value.cells] at e;obtain ⟨rfl,rfl,rfl⟩:=e;have el:xs.length=(xs.map toCl).length:=by simp
 rw[el] at x ⊢;exact ⟨a0,cap0,xs.map toCl,I,⟨css,I,x,al2_of2 g1,all2_size2 (fun c x hc=>by obtain ⟨_,rfl,_⟩:=hc;rfl) g1⟩,g2,by omega⟩
end opens
end
section
theorem parts_at{L:Lg}(hw:L.rl.wf){n:Nat}{j:Nat}{e:Ent}(h:(partsL L.sn L.l (L.sn.idx+1) ((n:Nat):Int))[j]?=some e):L.l[j]?=some e/\j<n/\e.idx=L.sn.idx+j+1:=by
 unfold partsL at h
 split at h
 ·cases h
 ·rename_i k hk;obtain ⟨h1,h2,h3,h4⟩:=lgAt_some hk;obtain rfl:k=0:=by omega
  rw[List.drop_zero,List.getElem?_take] at h
  split at h
  ·rename_i hj;exact ⟨h,by simpa using hj,hw.idx h⟩
  ·cases h
theorem St.stays{R R':Nd}{L L':Lg}(h:St R L R' L'){j:Nat}{e:Ent}(hj:L.sn.idx+j+1<=R.com)(he:L.l[j]?=some e)(hi:e.idx=L.sn.idx+j+1)(hs:L'.sn.idx<e.idx):
  lgAt L'.sn L'.l e.idx=some (e.idx-L'.sn.idx-1)/\L'.l[e.idx-L'.sn.idx-1]?=some e:=by
 have h1:=h.kp.2 e.idx hs qo
 have e1:L.rl.ent e.idx=some e:=by
  unfold Rl.ent;show (if e.idx<=L.sn.idx then none else L.l[e.idx-L.sn.idx-1]?)=some e;rw[if_neg qo,show e.idx-L.sn.idx-1=j by omega];exact he
 rw[e1] at h1;unfold Rl.ent at h1;have h2:(if e.idx<=L'.sn.idx then none else L'.l[e.idx-L'.sn.idx-1]?)=some e:=h1;rw[if_neg qo] at h2;have h3:=(List.getElem?_eq_some_iff.1 h2).1;refine ⟨?_,h2⟩;unfold lgAt;rw[if_neg qo]
attribute [local irreducible] Code.wp wpList Calls
theorem en_cells{K:PH}{ao:Option Addr}{cap:Nat}{es:List Ent}(hG:SlS 4 (EntC K) K ao es.length cap es){k:Nat}{e:Ent}(hk:es[k]?=some e):
  ∃ a ae ce,ao=some a/\IsS K ae e.data.length ce 1 (bv e.data)/\∀ (j:Nat) v,(e.v ae ce).toList[j]?=some v->Cell K ((a.add (k*4)).add j) v:=by
 have hkl:k<es.length:=(List.getElem?_eq_some_iff.1 hk).1;obtain ⟨a,rfl⟩:=hG.addr qo (by decide);obtain ⟨c,⟨ae,ce,rfl,x⟩,_,hc⟩:=hG.cells hk;exact ⟨a,ae,ce,I,x,hc⟩
theorem lawStays{w0:World}{K:PH}{hs:List PH}(ao:Option Addr)(cap:Nat)(cs:List Cl)(xs:SlS 17 (ClC K) K ao cs.length cap cs)(hb:∀ x∈cs,x.draw<18446744073709551616/\x.m.bd)(hn:cs.length<1099511627776):
  Ct Tryz.prog w0 4 [.slice ao cs.length cap] K hs (fun v K' _=>K'=K/\v=.bool true):=by
 refine Ct.lawT ?_;refine enter Tryz.func4 qk I I I ?_;refine sq (rg ?_);refine fin 1 I (th (sq (rg ?_)));refine cl 0 I aloneGC ?_;rintro v16 K16 hs16 ⟨rb,lb,db,s0,lh0,g0,rfl,le0,I0,rfl⟩;refine fin 7 I (th (sq (sq (rg ?_))));refine cbS 1 False I (by simp) fun b21 h21=>?_
 refine' bjo (q:=300<cs.length) 1 4 26 [21,22] h21 I I I I I I I (fun _=>?x2) (fun b26 h26=>?_)
 case x2=>
  refine cbS 2 (300<cs.length) I (by simp;omega) fun b25 h25=>?_;exact fin 1 I (bjx h25 I I I)
 refine fin 0 I<|th (ifP h26 I (fun e4=>?_) (fun e4=>?_))
 ·refine sq (rg ?_);refine cbS 1 True I (by simp) fun b28 h28=>?_
  refine' bja (q:=True) 1 2 31 [28,29] h28 I I I I I I I (fun _=>?x6) (fun b31 h31=>?_)
  case x6=>
   refine cl 0 I aliveGC ?_;rintro v30 K30 hs30 ⟨rfl,rfl,rfl⟩;exact fin 1 I (bjx (by simp) I I I)
  refine fin 1 I (th (rt (rT ?_)));exact ret1 I I ⟨le0,by rw[h31.2 ⟨trivial,trivial⟩]⟩
 have hlen:cs.length<=300:=by omega
 refine sk (th (sq (sq (rg ?_))));refine fin 3 I (th (bk ?_))
 refine loop (σ:=TeS) (fun t=>[(4,.pointer (some ⟨lb,0,none⟩)),(5,.pointer (some ⟨rb,0,none⟩)),(32,.slice ao cs.length cap),(33,.int .i64 cs.length),(34,.int .i64 t.j)]) (fun t=>t.K) (fun t=>pt rb (ndA lb t.R t.s) RT::t.lh::t.g::hs)
  (fun t=>t.j<=cs.length/\Le K t.K/\Nd3 t.K rb lb db t.R t.L t.D t.s t.lh t.g/\LI t.j t.R t.L t.D) (fun t=>cs.length-t.j) ⟨0,K16,Nd.new 0 (lgV 3),lgV 3,dk0 16777216,s0,lh0,g0⟩ ⟨Nat.zero_le _,le0,I0,li0⟩ ⟨rfl,rfl,rfl,rfl,rfl,trivial⟩ rfl rfl ?_
 rintro ⟨j,K1,R,L,D,s,lh,g⟩ ⟨hj,le,iN,li⟩;dsimp only at *;refine sq (rg ?_);refine cmpS 0 I fun b35 h35=>?_;refine fin 0 I (th (sq (ifP h35 I (fun e8=>?_) (fun e8=>?_))))
 ·have hjl:j<cs.length:=by omega
  obtain ⟨x,hx⟩:∃ x,cs[j]?=some x:=⟨_,List.getElem?_eq_getElem hjl⟩;obtain ⟨hxd,hxb⟩:=hb x (List.mem_of_getElem? hx);have xs1:SlS 17 (ClC K1) K1 ao cs.length cap cs:=xs.le le fun _ _ h=>h.le le;obtain ⟨a,p,rfl,hS,hco⟩:=cl_cells xs1 hx;obtain ⟨vs,hvs⟩:=xs1.isS;refine sk (th (sq (bk (sq (rg ?_)))));refine ixs 0 j I I hvs hjl (by decide) fun a36 h36=>?_;cases h36;refine lds 0 (clV x p).toList I qk (.inl I) hco ?_;refine al 0 (.agg #[.int .i64 0,.int .i64 0,.int .u64 0,.int .i64 0,.int .i64 0,.int .i64 0,.int .u64 0,.int .u64 0,.int .u64 0,.int .u64 0,.int .u64 0,.bool false,.slice none 0 0,.int .i64 0,.int .i64 0,.slice none 0 0,.slice none 0 0]) I qk fun b7=>?_;refine stS 0 0 I I qk I I ?_;refine WL.hs (pt b7 (clV x p) 36::pt rb (ndA lb R s) RT::lh::g::hs) I ?_;refine fin 0 I (th (sq (rg ?_)));have hcm:=li.pi.ti.com;have hcx:=li.ni.rb.com;have hla:=li.ni.last qo;have hsx:=li.ni.rn.lb.idx
  have hwf:=li.pi.ti.wf;unfold lgTop at hsx;unfold mxU at hcx;unfold rTop at hla;have hcl:R.com+1<=4611686018427387904:=by omega
  refine cl 1 I (Ct.at2p [_] (termGC iN.l)) ?_;rintro v39 K39 hs39 ⟨_,lh,rfl,rfl,rfl,rfl,rfl⟩;refine cl 1 I (Ct.keep 1 I commitGC) ?_;rintro v41 K41 hs41 ⟨rfl,rfl,rfl⟩;refine fin 2 I (th (sq (rg ?_)));refine cl 2 I (Ct.at 2 I (snapH lb db L D _ li.ni.rn.lb iN.l)) ?_;rintro v44 K44 hs44 ⟨lh,rfl,rfl,le1,aV,cV,aD,cD,rfl,xV,xD⟩;refine opr 0 (v:=.int .u64 L.sn.idx) I (fun A w ha _=>fld_run (t:=48) (x:=.tmp 44) (i:=0) (v:=.agg (snV L.sn aV cV aD cD)) I I (fun w=>by kernel_rfl) A w ha) ?_;refine ar 0 I (u64w (x:=((L.sn.idx+1:Nat):Int)) qo) ?_;have iN:=iN.le le1;refine cl 2 I (Ct.at 2 I (snapH lb db L D _ li.ni.rn.lb iN.l)) ?_;rintro v49 K49 hs49 ⟨lh,rfl,rfl,le2,aV2,cV2,aD2,cD2,rfl,xV2,xD2⟩;refine opr 0 (v:=.int .u64 L.sn.idx) I (fun A w ha _=>fld_run (t:=48) (x:=.tmp 49) (i:=0) (v:=.agg (snV L.sn aV2 cV2 aD2 cD2)) I I (fun w=>by kernel_rfl) A w ha) ?_;obtain ⟨n,hnn⟩:∃ n,n=R.com-L.sn.idx:=⟨_,rfl⟩
  refine ar 0 (v':=.int .u64 (n:Nat)) I (by rw[show ((R.com:Nat):Int)-((L.sn.idx:Nat):Int)=((n:Nat):Int) from by omega];exact u64w (x:=((n:Nat):Int)) qo) ?_;refine ar 0 I (i64w (x:=((n:Nat):Int)) qo) ?_;have iN:=iN.le le2;refine cl 0 I (Ct.at 2 I (entriesH lb db L D _ li.ni.rn.lb qo iN.l (L.sn.idx+1) qo ((n:Nat):Int) qo)) ?_;rintro v53 K53 hs53 ⟨lh,rfl,rfl,le3,aE,cE,rfl,xE⟩;have iN:=iN.le le3;have hS:=((hS.le le1).le le2).le le3;have le:=((le.trans le1).trans le2).trans le3;refine WL.hs (pt b7 (clV x p) 36::pt rb (ndA lb R s) RT::lh::g::hs) I ?_;refine fin 1 I (th (sq (rg ?_)));obtain ⟨li1,st1⟩:=li.call qo x hxb;have hcg:=fun (hs':List PH)=>callGC (w0:=w0) (hs:=hs') iN li.ni qo qo qo x hxd hxb p hS;generalize R.call L D x=A at li1 st1 hcg;obtain ⟨R1,L1,D1,c1⟩:=A;dsimp only at li1 st1 hcg;refine ldS 1 0 I I qk ?_
  refine cl 0 I (Ct.at3 [_] (hcg _)) ?_;rintro v56 K56 hs56 ⟨_,lh1,g1,rfl,⟨s1,rfl,le4,I1⟩,rfl⟩;have hcm1:=li1.pi.ti.com;have hst:=fun (j:Nat) (e:Ent) h=>st1.stays (j:=j) (e:=e) h;have hkt:=st1.kt;have hco:=st1.com;refine fin 0 I (th (sq (sq (rg ?_))));refine cl 1 I (Ct.at2p [_] (termGC I1.l)) ?_;rintro v58 K58 hs58 ⟨_,lh1,rfl,rfl,rfl,rfl,rfl⟩;refine cbS 1 (L1.kt<L.kt) I (by simp) fun b60 h60=>?_
  refine' bjo (q:=R1.com<R.com) 1 5 66 [60,61] h60 I I I I I I I (fun _=>?x10) (fun b66 h66=>?_)
  case x10=>
   refine cl 1 I (Ct.keep 1 I commitGC) ?_;rintro v63 K63 hs63 ⟨rfl,rfl,rfl⟩;refine cbS 1 (R1.com<R.com) I (by simp) fun b65 h65=>?_;exact fin 1 I (bjx h65 I I I)
  refine' bjo (q:=L1.last<R1.com) 1 6 73 [66,67] h66 I I I I I I I (fun _=>?x12) (fun b73 h73=>?_)
  case x12=>
   refine cl 1 I (Ct.keep 1 I commitGC) ?_;rintro v69 K69 hs69 ⟨rfl,rfl,rfl⟩;refine cl 1 I (Ct.keep 2 I (lastH lb db L1 D1 _ li1.ni.rn.lb qo I1.l)) ?_;rintro v71 K71 hs71 ⟨rfl,rfl,rfl⟩;refine cbS 0 (L1.last<R1.com) I (by unfold Lg.last;simp;omega) fun b72 h72=>?_;exact fin 1 I (bjx h72 I I I)
  refine fin 0 I (th (ifP h73 I (fun e14=>absurd e14 qo) (fun e14=>?_)));have xE:=xE.le le4 fun _ _ h=>EntC.le le4 h;have hpa:=fun (j:Nat) (e:Ent) h=>parts_at hwf (n:=n) (j:=j) (e:=e) h;generalize partsL L.sn L.l (L.sn.idx+1) ((n:Nat):Int)=es at xE hpa;refine sk (th (sq (rg ?_)));refine fin 3 I (th (bk ?_))
  refine loop (σ:=Nat×PH) (fun u=>[(4,.pointer (some ⟨lb,0,none⟩)),(5,.pointer (some ⟨rb,0,none⟩)),(32,.slice (some a) cs.length cap),(33,.int .i64 cs.length),(34,.int .i64 (j:Nat)),(74,.slice aE es.length cE),(75,.int .i64 es.length),(76,.int .i64 u.1)]) (fun u=>u.2) (fun _=>pt b7 (clV x p) 36::pt rb (ndA lb R1 s1) RT::lh1::g1::hs)
   (fun u=>u.1<=es.length/\Le K58 u.2) (fun u=>es.length-u.1) (0,K58) ⟨Nat.zero_le _,Le.refl _⟩ ⟨rfl,rfl,rfl,rfl,rfl,rfl,rfl,rfl,trivial⟩ rfl rfl ?_
  rintro ⟨i,K2⟩ ⟨hi,le5⟩;dsimp only at hi le5 ⊢;have I2:=I1.le le5;refine sq (rg ?_);refine cmpS 0 I fun b77 h77=>?_;refine fin 0 I (th (sq (ifP h77 I (fun e16=>?_) (fun e16=>?_))))
  ·have hil:i<es.length:=by omega
   obtain ⟨e,he⟩:∃ e,es[i]?=some e:=⟨_,List.getElem?_eq_getElem hil⟩;obtain ⟨p1,p2,p3⟩:=hpa i e he;have xE2:=xE.le le5 fun _ _ h=>EntC.le le5 h;obtain ⟨aa,ae,ce,rfl,xe,hce⟩:=en_cells xE2 he;obtain ⟨ve,hve⟩:=xE2.isS;refine sk (th (sq (bk (sq (rg ?_)))));refine ixs 0 i I I hve hil (by decide) fun a78 h78=>?_;cases h78;refine lds 0 (e.v ae ce).toList I qk (.inl I) hce ?_;refine al 0 (.agg #[.int .u64 0,.int .u64 0,.int .i64 0,.slice none 0 0]) I qk fun b12=>?_;refine stS 0 0 I I qk I I ?_;refine WL.hs (pt b12 (e.v ae ce) 51::pt b7 (clV x p) 36::pt rb (ndA lb R1 s1) RT::lh1::g1::hs) I ?_;refine fin 0 I (th (sq (rg ?_)));refine ldp 2 0 I I I ?_;refine cl 0 I (Ct.at 3 I (entryH lb db L1 D1 _ li1.ni.rn.lb qo I2.l e.idx qo)) ?_;rintro v84 K84 hs84 ⟨lh1,rfl,rfl,le6,e1,ae1,ce1,t84,rfl,xe1,hm⟩;refine al 3 (.agg #[.int .u64 0,.int .u64 0,.int .i64 0,.slice none 0 0]) I qk fun b13=>?_
   refine stS 0 0 I I qk I I ?_;have I3:=I2.le le6;refine WL.hs (pt b13 (e1.v ae1 ce1) 51::pt b12 (e.v ae ce) 51::pt b7 (clV x p) 36::pt rb (ndA lb R1 s1) RT::lh1::g1::hs) I ?_;refine fin 1 I (th (sq (rgm [0,1] 16 [0,6,8,3,4,10,12,14,16,18,20,22,25,26,28,30] ?_)));refine dldp qk 2 1 I I I ?_;refine dact qk 0 I ?_;refine cl 0 I (Ct.at 4 I (snapH lb db L1 D1 _ li1.ni.rn.lb I3.l)) ?_;rintro v88 K88 hs88 ⟨lh1,rfl,rfl,le7,aV3,cV3,aD3,cD3,rfl,xV3,xD3⟩;refine WL.hs (pt b13 (e1.v ae1 ce1) 51::pt b12 (e.v ae ce) 51::pt b7 (clV x p) 36::pt rb (ndA lb R1 s1) RT::lh1::g1::hs) I ?_;refine dnxL (by simp) le7 ?_;refine dopr qk 0 (v:=.int .u64 L1.sn.idx) I (fun A w ha _=>fld_run (t:=48) (x:=.tmp 88) (i:=0) (v:=.agg (snV L1.sn aV3 cV3 aD3 cD3)) I I (fun w=>by kernel_rfl) A w ha) ?_;refine dcmp qk 0 (L1.sn.idx<e.idx) I (by simp) (fun h17=>?_) (fun h17=>?_)
   ·obtain ⟨g1',g2'⟩:=hst i e qo p1 p3 h17;rw[g1'] at hm;obtain ⟨rfl,hm⟩:=hm;rw[g2'] at hm;obtain rfl:e=e1:=Option.some.inj hm;refine dldS qk 4 0 I qk I qk ?_;refine dldS qk 0 1 I qk I qk ?_;refine dact qk 0 I ?_;refine cl 0 I (sameEntry e e ae1 ae ce1 ce (.inl I) (.inl I) (xe1.le le7) ((xe.le le6).le le7)) ?_;rintro v99 K99 hs99 ⟨rfl,rfl,b99,rfl,h99⟩;obtain rfl:b99=true:=h99.2 rfl;refine dnx (by simp) I ?_;refine dend qk 3 I (th (ifF I (sk (bl (th (rg ?_))))));refine ar 0 I (i64w (x:=((i+1:Nat):Int)) qo) ?_;refine fin 1 I (WQ.drop (WQ.drop ?_));exact again (x:=(i,K2)) (i+1,K99) ⟨I,I,I,I,I,I,I,I,trivial⟩ I I ⟨by dsimp only;omega,(le5.trans le6).trans le7⟩ (by dsimp only;omega)
   ·refine dact qk 6 I ?_;refine WL.pures 1 I ?_;refine dnx (by simp) I ?_;refine dend qk 3 I (th (ifF I (sk (bl (th (rg ?_))))));refine ar 0 I (i64w (x:=((i+1:Nat):Int)) qo) ?_;refine fin 1 I (WQ.drop (WQ.drop ?_));exact again (x:=(i,K2)) (i+1,K88) ⟨I,I,I,I,I,I,I,I,trivial⟩ I I ⟨by dsimp only;omega,(le5.trans le6).trans le7⟩ (by dsimp only;omega)
  ·refine ex (xt (xt (xb (bl (th (rg ?_))))));refine ar 0 I (i64w (x:=((j+1:Nat):Int)) qo) ?_;refine fin 1 I (WQ.drop ?_);exact again (x:=(⟨j,K,R,L,D,s,lh,g⟩:TeS)) (⟨j+1,K2,R1,L1,D1,s1,lh1,g1⟩:TeS) ⟨I,I,I,I,I,trivial⟩ I I ⟨by dsimp only;omega,(le.trans le4).trans le5,I2,li1⟩ (by dsimp only;omega)
 ·refine ex (xt (xt (xb (th (sq (rg ?_))))));refine cl 0 I aliveGC ?_;rintro v105 K105 hs105 ⟨rfl,rfl,rfl⟩;refine fin 1 I (th (rt ?_));exact ret1 I I ⟨le,I⟩
end
end Go.En
