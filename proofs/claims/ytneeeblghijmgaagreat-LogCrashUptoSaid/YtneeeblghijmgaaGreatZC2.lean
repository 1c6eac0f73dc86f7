/-
  Part 2 of what the proof needs (texts Ne Ni Zm Ex Er Em Ec Eg Ej Ei Ka Es Ev Kb Kc Kd Ke Ta Tb Tc Td Te Tf Tg Th Ti).
-/
import Derived.RangeFuncRecord
import Derived.Sort.LoopGhostIn
import Derived.OrdersIn
import Derived.ChangeKeysEq
import Derived.Laws.Externs
import Derived.Lib.Overlaps
import Derived.Scope
import Derived.Test.YtneeeblghijmgaaGreatZC1
set_option linter.unusedSectionVars false
set_option linter.unusedSimpArgs false
set_option linter.unusedVariables false
namespace Go.En
open Go.Proofs Go.Proofs.YtneeeblghijmgaaGreat
section
attribute [local irreducible] Code.wp wpList Calls
theorem putConf_no{l:List Int}(h:¬(l≠[]/\confOK (-1) l)):putConf l=none:=if_neg h
theorem take_drop_conf(l:List Int)(i:Nat):confOK (-1) l↔confOK (-1) (l.take i)/\confOK ((l.take i).getLastD (-1)) (l.drop i):=by
 rw[<-confOK_split,List.take_append_drop]
theorem last_ge(l:List Int)(h:confOK (-1) l): -1<=l.getLastD (-1)/\l.getLastD (-1)<=6:=by
 have hm:=confOK_mem l (-1) h (by decide);cases hl:l.getLast? with
 | none=>simp[List.getLastD_eq_getLast?,hl]
 | some v=>
  have:=hm v (List.mem_of_getLast? hl);simp[List.getLastD_eq_getLast?,hl];omega
theorem bits_take(l:List Int)(i:Nat)(h:confOK (-1) (l.take i))(hi:i<l.length)(h1:(l.take i).getLastD (-1)<l[i]):vbits (l.take i)<2 ^ l[i].toNat:=by
 have h2:=bits_lt (l.take i) (-1) h (by decide);have h3:2 ^ ((l.take i).getLastD (-1)+1).toNat<=2 ^ l[i].toNat:=Nat.pow_le_pow_right (by decide) qo;rw[show ((-1:Int)+1).toNat=0 from rfl,Nat.pow_zero] at h2;omega
theorem bits_take_succ(l:List Int)(i:Nat)(hi:i<l.length):vbits (l.take (i+1))=vbits (l.take i)+2 ^ l[i].toNat:=by
 rw[take_succ_get l i hi,bits_append];simp[vbits]
theorem conf_take_succ(l:List Int)(i:Nat)(hi:i<l.length)(h:confOK (-1) (l.take i))(h1:(l.take i).getLastD (-1)<l[i])(h2:l[i]<7):confOK (-1) (l.take (i+1)):=by
 rw[take_succ_get l i hi,confOK_split];exact ⟨h,h1,h2,trivial⟩
theorem conf_take_no(l:List Int)(i:Nat)(hi:i<l.length)(h:confOK (-1) l):(l.take i).getLastD (-1)<l[i]/\l[i]<7:=by
 rw[take_drop_conf l i] at h;obtain ⟨_,h2⟩:=h;rw[List.drop_eq_getElem_cons hi] at h2;exact ⟨h2.1,h2.2.1⟩
theorem putConfC{w0:World}{K hv:PH}{hs:List PH}(ao:Option Addr)(cap:Nat)(l:List Int)(hm:In K hs hv)(x:IsS hv ao l.length cap 1 (iv l))(hl:l.length<1099511627776):
  Ct Tryz.prog w0 93 [.agg #[.slice ao l.length cap]] K hs (fun v K' hs'=>K'=K/\OutB (putConf l) hs v hs'):=by
 refine enter Tryz.func93 qk I I I (sq (rg (bx hT 0 I fun b1=>fin hT 2 I (th (sq (rg (fin hT 1 I (th (sq (rg (fin hT 1 I (th (sq (sq (rg (ldp hT 1 0 I I I (fin hT 2 I (th (bk (loop (σ:=Nat) (fun i=>[(1,.pointer (some ⟨b1,0,none⟩)),(4,.int .u8 (vbits (l.take i):Nat)),(5,.int .i64 ((l.take i).getLastD (-1))),(9,.slice ao l.length cap),(10,.int .i64 (l.length:Nat)),(11,.int .i64 (i:Nat))]) (fun _=>K) (fun i=>pt b1 #[.slice ao l.length cap] 29::hs) (fun i=>i<=l.length/\confOK (-1) (l.take i)) (fun i=>l.length-i) 0 ⟨Nat.zero_le _,trivial⟩ ⟨I,I,I,I,I,I,trivial⟩ I I ?_))))))))))))))))))));rintro i ⟨hi,hc⟩;refine sq (rg (cmpS hT 0 I fun b12 h12=>?_));have hlast:=last_ge _ hc;refine fin hT 0 I (th (sq (ifP h12 I (fun e2=>?_) (fun e2=>?_))))
 ·have hin:i<l.length:=by omega
  refine sk<|th (sq<|bk (sq<|rg (ix1 hT 0 i I I I x (iv_get hin) fun a13 hc13=>ld hT 0 I (In.cons hm) hc13<|fin hT 1 I (th<|sq (sq<|rg (cmpS hT 2 I fun b17 h17=>?_))))))
  refine' bjo hT 1 3 21 [17,18] h17 I I I I I I I (fun _=>?x4) (fun b21 h21=>?_)
  case x4=>
   exact cmpS hT 1 I fun b20 h20=>fin hT 1 I<|bjx h20 I I I
  refine fin hT 0 I<|th (ifP h21 I (fun e6=>?_) (fun e6=>?_))
  ·exact sq (rg (fin hT 2 I (th (rt (rT (rB (rT (rT (rB (rT (WQ.drop (WQ.em (ret2 I I I ⟨I,outN (putConf_no fun h=>by have:=conf_take_no l i hin h.2;exact e6.elim (fun e=>by omega) (fun e=>by omega))⟩)))))))))))))
  ·have h1:(l.take i).getLastD (-1)<l[i]:=by omega
   refine sk (th (sq (rg ?_)));have h2:l[i]<7:=by omega
   obtain ⟨v,hv⟩:∃ v:Nat,l[i]=(v:Nat):=Int.eq_ofNat_of_zero_le (show 0<=l[i] by omega);have hbt:=bits_take l i hc hin h1;have hbs:=bits_take_succ l i hin;have hlt:=last_take_succ l i hin (-1);have hcs:=conf_take_succ l i hin hc h1 h2;rw[hv] at hbt hbs hlt h2 ⊢;simp only[Int.toNat_natCast] at hbt hbs;exact shf hT 2 I qo (.inl ⟨I,shl1 v qo⟩) (ar hT 0 I (or_add _ v qo hbt) (fin hT 1 I (th (rg (fin hT 2 I (bl (th (rg (ar hT 0 I (i64w qo) (fin hT 1 I (again (x:=i) (i+1) ⟨I,by rw[hbs];rfl,by rw[hlt];rfl,rfl,rfl,rfl,trivial⟩ rfl rfl ⟨by omega,hcs⟩ (by (try dsimp only);omega))))))))))))
 ·obtain rfl:i=l.length:=by omega
  refine ex (xt (xt (xb (th (sq (sq (rg ?_)))))));rw[List.take_of_length_le (Nat.le_refl _)] at hc ⊢;have hbb:=conf_bits hc;refine cmpS hT 1 I fun b29 h29=>fin hT 0 I (th (ifP h29 I (fun e8=>?_) (fun e8=>?_)))
  ·exact sq (rg (fin hT 2 I (th (rt (rT (WQ.drop (WQ.em (ret2 I I I ⟨I,outN (putConf_no fun h=>by have:=hbb.2.2 h.1;omega)⟩))))))))
  ·exact sk (th (sq (rg (lit hT 1 #[.int .u8 (vbits l:Nat)] I (by decide) qk fun b31=>fin hT 2 I (th (rt (WQ.perm (List.Perm.swap _ _ _) (WQ.drop (ret2 I I I ⟨I,outS (by rw[putConf,if_pos ⟨fun h=>by subst h;exact e8 I,hc⟩]) (own_byte b31 (vbits l) qo)⟩)))))))))
theorem putConfRef{w0:World}{K hv:PH}{hs:List PH}(ao:Option Addr)(cap:Nat)(l:List Int)(hm:In K hs hv)(x:IsS hv ao l.length cap 1 (iv l))(hl:l.length<1099511627776)(h64:∀ v∈l,-9223372036854775808<=v/\v<=9223372036854775807):
  Ct Tryz.prog w0 144 [.agg #[.slice ao l.length cap]] K hs (fun v K' hs'=>K'=K/\OutB (putConf l) hs v hs'):=by
 refine enter Tryz.func144 qk I I I<|sq (rg (bx hT 0 I fun b1=>fin hT 2 I<|th (sq<|sq (rg<|ldp hT 1 0 I I I (cmpS hT 1 I fun b12 h12=>?_)))))
 refine' bjo hT 1 5 18 [12,13] h12 I I I I I I I (fun _=>?x2) (fun b18 h18=>?_)
 case x2=>
  exact ldp hT 1 0 I I I (cmpS hT 1 I fun b17 h17=>fin hT 1 I<|bjx h17 I I I)
 refine fin hT 0 I<|th (ifP h18 I (fun e4=>?_) (fun e4=>?_))
 ·exact sq (rg (fin hT 2 I (th (rt (rT (WQ.drop (WQ.em (ret2 I I I ⟨I,outN (putConf_no fun h=>by have:=confOK_len l (-1) h.2 (by decide) (by decide);have h0:=h.1;exact e4.elim (fun e=>h0 (List.eq_nil_of_length_eq_zero qo)) (fun e=>by omega))⟩))))))))
 ·refine sk (th (sq (rg (fin hT 1 I (th (sq (sq (rg (fin hT 1 I (th (bk (loop (σ:=Nat) (fun i=>[(1,.pointer (some ⟨b1,0,none⟩)),(4,.int .i64 (vbits (l.take i):Nat)),(5,.int .i64 (i:Nat))]) (fun _=>K) (fun i=>pt b1 #[.slice ao l.length cap] 29::hs) (fun i=>i<=l.length/\confOK (-1) (l.take i)) (fun i=>l.length-i) 0 ⟨Nat.zero_le _,trivial⟩ ⟨I,I,I,trivial⟩ I I ?_))))))))))));rintro i ⟨hi,hc⟩;refine sq (sq (rg (ldp hT 2 0 I I I (cmpS hT 1 I fun b23 h23=>fin hT 0 I (th (ifP h23 I (fun e6=>?_) (fun e6=>?_)))))))
  ·have hin:i<l.length:=by omega
   refine sk (th (sq (bk (sq (rg ?_)))));have hlast:=last_ge _ hc;have hbb:=conf_bits hc
   have hprev:0<i->(l.take i).getLastD (-1)=l.getD (i-1) 0:=fun h=>by
    obtain ⟨j,rfl⟩:∃ j,i=j+1:=⟨i-1,by omega⟩;rw[last_take_succ l j qo];simp[List.getD,List.getElem?_eq_getElem (show j<l.length by omega)]
   have hprev0:i=0->(l.take i).getLastD (-1) = -1:=fun h=>by subst h;rfl
   refine ldp hT 1 0 I I I (ix1 hT 1 i I I I x (iv_get hin) fun a29 hc29=>ld hT 0 I (In.cons hm) hc29<|fin hT 1 I (th<|sq (sq<|rg (cmpS hT 1 I fun b32 h32=>?_))))
   refine' bjo hT 1 3 36 [32,33] h32 I I I I I I I (fun _=>?x8) (fun b36 h36=>?_)
   case x8=>
    exact cmpS hT 1 I fun b35 h35=>fin hT 1 I<|bjx h35 I I I
   refine' bjo hT 1 13 50 [36,37] h36 I I I I I I I (fun _=>?x10) (fun b50 h50=>?_)
   case x10=>
    refine cmpS hT 1 I fun b39 h39=>?_
    refine' bja hT 1 9 49 [39,40] h39 I I I I I I I (fun _=>?x12) (fun b49 h49=>?_)
    case x12=>
     exact ldp hT 1 0 I I I (ar hT 1 I (v':=.int .i64 (i-1:Nat)) (by rw[i64w qo];congr 1;omega) (ix1 hT 0 (i-1) rfl rfl rfl x (iv_getD (show i-1<l.length by omega)) fun a45 hc45=>ld hT 0 rfl (In.cons hm) hc45 (cmpS hT 1 rfl fun b48 h48=>fin hT 1 rfl (bjx h48 rfl rfl rfl))))
    exact fin hT 1 I<|bjx h49 I I I
   refine fin hT 0 I<|th (ifP h50 I (fun e14=>?_) (fun e14=>?_))
   ·refine sq<|rg (fin hT 2 I<|th (rt<|rT (rB<|rT (rT<|rB (rT<|WQ.drop (WQ.em ?_))))))
    exact ret2 I I I ⟨I,outN (putConf_no fun h=>by
     have h7:=conf_take_no l i hin h.2;rcases e14 with (e|e)|⟨e,e'⟩
     ·omega
     ·omega
     ·have:=hprev qo;omega)⟩
   ·have h2:l[i]<7:=by omega
    refine sk<|th (sq<|rg ?_)
    have h1:(l.take i).getLastD (-1)<l[i]:=by
     rcases Nat.eq_zero_or_pos i with h|h
     ·have:=hprev0 h;omega
     ·have:=hprev h;have h3:¬(l[i]<=l.getD (i-1) 0):=fun h'=>e14 (.inr ⟨by omega,h'⟩);omega
    obtain ⟨v,hv⟩:∃ v:Nat,l[i]=(v:Nat):=Int.eq_ofNat_of_zero_le (show 0<=l[i] by omega);have hbt:=bits_take l i hc hin h1;have hbs:=bits_take_succ l i hin;have hcs:=conf_take_succ l i hin hc h1 h2;have hbb':=(conf_bits hcs).1;rw[hv] at hbt hbs h2 ⊢;simp only[Int.toNat_natCast] at hbt hbs;refine fin hT 1 I (th (sq (sq (rg (fin hT 1 I (th (bk (loop (σ:=Nat) (fun k=>[(1,.pointer (some ⟨b1,0,none⟩)),(4,.int .i64 (vbits (l.take i):Nat)),(5,.int .i64 (i:Nat)),(6,.int .i64 (v:Nat)),(7,.int .i64 (2 ^ k:Nat)),(8,.int .i64 (k:Nat))]) (fun _=>K) (fun k=>pt b1 #[.slice ao l.length cap] 29::hs) (fun k=>k<=v) (fun k=>v-k) 0 (Nat.zero_le _) ⟨I,I,I,I,I,I,trivial⟩ I I ?_))))))));rintro k hk;refine sq (sq (rg (cmpS hT 2 I fun b53 h53=>fin hT 0 I (th (ifP h53 I (fun e16=>?_) (fun e16=>?_))))))
    ·refine sk (th (sq (bk (rg ?_))));have hp:2 ^ k<=2 ^ 6:=Nat.pow_le_pow_right (by decide) qo;have hp0:=Nat.two_pow_pos k;exact ar hT 1 I (v':=.int .i64 ((2 ^ (k+1):Nat):Int)) (by rw[i64w qo,Nat.pow_succ];congr 1;omega) (fin hT 1 rfl (bl (th (rg (ar hT 1 rfl (i64w qo) (fin hT 1 rfl (again (x:=k) (k+1) ⟨rfl,rfl,rfl,rfl,rfl,rfl,trivial⟩ rfl rfl (show k+1<=v by omega) (by (try dsimp only);omega))))))))
    ·obtain rfl:k=v:=by omega
     exact ex (xt (xt (xb (th (rg (ar hT 2 I (v':=.int .i64 ((vbits (l.take (i+1)):Nat):Int)) (by rw[i64w qo,hbs];rfl) (fin hT 1 rfl (bl (th (rg (ar hT 1 rfl (i64w qo) (fin hT 1 rfl (again (x:=i) (i+1) ⟨rfl,rfl,rfl,trivial⟩ rfl rfl ⟨by omega,hcs⟩ (by (try dsimp only);omega))))))))))))))
  ·obtain rfl:i=l.length:=by omega
   refine ex (xt (xt (xb (th (sq (rg ?_))))));rw[List.take_of_length_le (Nat.le_refl _)] at hc ⊢;have hbb:=conf_bits hc;exact ar hT 1 I (u8w qo) (lit hT 0 #[.int .u8 (vbits l:Nat)] I (by decide) qk fun b63=>fin hT 2 I (th (rt (WQ.perm (List.Perm.swap _ _ _) (WQ.drop (ret2 I I I ⟨I,outS (by rw[putConf,if_pos ⟨fun h=>by subst h;exact e4 (.inl (by decide)),hc⟩]) (own_byte b63 (vbits l) qo)⟩))))))
def OutV(o:Option (List Int))(hs:List PH)(v:Value)(hs':List PH):Prop:=
 ∃ h ao c,hs'=h::hs/\v=.tuple #[.agg #[.slice ao (o.getD []).length c],.int .i64 (ec o)]/\Own h ao (o.getD []).length c 3 1 (iv (o.getD []))
theorem bv_getD{l:List UInt8}{j:Nat}(h:j<l.length):(bv l)[j]?=some (.int .u8 ((l.getD j 0).toNat:Nat)):=by simp[bv,h,List.getD]
theorem appI{P:Program}{T:Tab}{w0:World}{ops:Array Oper}{Q:Exit->Act->World->Prop}{rest rest':List Oper}{n:Nat}{l l':Sl}{K:PH}{hs:List PH}
  (hT:TabOK P T) (k i:Nat) (xs:List Int) (y:Int) {d:Nat} {si:SlI} {ao ao2:Option Addr} {c1 c2:Nat} {h h2:PH} (h0:apAt T ops n k rest l=some (d,si,(ao,xs.length,c1),(ao2,1,c2),rest',l'))
  (hi:hs[i]?=some h) (hsz:(si.size,si.bytes,si.zero.cells.size)=(1,8,1)) (o:Own h ao xs.length c1 si.elem 1 (iv xs)) (hm:In K hs h2) (x:IsS h2 ao2 1 c2 1 (iv [y])) (hb:xs.length<=17592186044415)
  (hk:∀ ao' cap' h',Own h' ao' (xs++[y]).length cap' si.elem 1 (iv (xs++[y]))->WL P w0 ops Q rest' n ((d,.slice ao' (xs++[y]).length cap')::l') K (hs.set i h')):WL P w0 ops Q rest n l K hs:=by
 simp only[Prod.mk.injEq] at hsz;obtain ⟨e1,e2,e3⟩:=hsz;refine app hT k i h0 hi (by rw[e1];exact o) hm (by rw[e1];exact x) (by rw[e1,e3]) (by rw[e1];decide) (iv_one _) (by rw[e2];omega) (by simp only[maxLen];omega) fun ao' cap' h' o'=>?_;have e:(xs++[y]).length=xs.length+1:=by simp
 rw[e1,<-iv_append,<-e] at o';have:=hk ao' cap' h' o'
 rwa [e] at this
theorem getConf_one{c:UInt8}(h:¬(c.toNat=0\/128<=c.toNat)):getConf [c]=some (voters c.toNat 7):=if_neg h
theorem getConf_no{b:List UInt8}(h:b.length≠1\/(b.getD 0 0).toNat=0\/128<=(b.getD 0 0).toNat):getConf b=none:=by
 unfold getConf
 split
 ·rename_i c;rw[if_pos];rcases h with h|h
  ·exact absurd I h
  ·exact h
 ·rfl
theorem i64quo2(n:Nat)(h:n<18446744073709551616):Value.int .i64 (IntKind.i64.wrap (((n:Nat):Int).tdiv 2))=.int .i64 (n / 2:Nat):=by
 rw[show ((n:Nat):Int).tdiv 2=((n / 2:Nat):Int) from by rw[show (2:Int)=((2:Nat):Int) from rfl,<-Int.ofNat_tdiv],i64w qo]
theorem getConfC{w0:World}{K hb:PH}{hs:List PH}(ao:Option Addr)(cap:Nat)(b:List UInt8)(hm:In K hs hb)(x:IsS hb ao b.length cap 1 (bv b))(hl:b.length<1099511627776):
  Ct Tryz.prog w0 47 [.slice ao b.length cap] K hs (fun v K' hs'=>K'=K/\OutV (getConf b) hs v hs'):=by
 refine enter Tryz.func47 qk I I I<|sq (rg (al hT 0 (.agg #[.slice none 0 0]) I qk fun b2=>fin hT 1 I<|th (sq<|sq (rg (cmpS hT 2 I fun b8 h8=>?_)))))
 refine' bjo hT 1 5 14 [8,9] h8 I I I I I I I (fun _=>?x2) (fun b14 h14=>?_)
 case x2=>
  exact ix1 hT 1 0 I I I x (bv_getD qo) fun a11 hc11=>ld hT 0 I (In.cons hm) hc11 (cmpS hT 0 I fun b13 h13=>fin hT 1 I<|bjx h13 I I I)
 refine' bjo hT 1 5 20 [14,15] h14 I I I I I I I (fun _=>?x4) (fun b20 h20=>?_)
 case x4=>
  exact ix1 hT 1 0 I I I x (bv_getD qo) fun a17 hc17=>ld hT 0 I (In.cons hm) hc17 (cmpS hT 0 I fun b19 h19=>fin hT 1 I<|bjx h19 I I I)
 refine fin hT 0 I<|th (ifP h20 I (fun e6=>?_) (fun e6=>?_))
 ·have hn:getConf b=none:=getConf_no qo;exact sq (rg (bd hT 0 (.agg #[.slice none 0 0]) I (fun w=>by kernel_rfl) (stS hT 0 0 I I qk I I (fin hT 1 I (th (rt (rT (WQ.em (WQ.perm (List.Perm.swap _ _ _) (retcP 0 1 I I I I qk ⟨I,em,none,0,I,by rw[hn];rfl,by rw[hn];exact Own.nil _ _⟩))))))))))
 ·obtain ⟨c,rfl⟩:∃ c,b=[c]:=List.length_eq_one_iff.1 qo;refine sk (th (sq (rg ?_)));have hc:¬(c.toNat=0\/128<=c.toNat):=by simp only[List.getD_cons_zero] at e6;omega
  clear e6;have hn:=getConf_one hc;refine al hT 0 (.agg #[.slice none 0 0]) I qk fun b4=>fin hT 0 I (th (sq (sq (rg (fin hT 1 I (th (bk (WC.em (loop (σ:=Nat×Option Addr×Nat×PH) (fun s=>[(0,.slice ao 1 cap),(2,.pointer (some ⟨b2,0,none⟩)),(4,.pointer (some ⟨b4,0,none⟩)),(22,.int .i64 (s.1:Nat))]) (fun _=>K) (fun s=>s.2.2.2::pt b4 #[.slice s.2.1 (voters c.toNat s.1).length s.2.2.1] 29::pt b2 #[.slice none 0 0] 29::hs) (fun s=>s.1<=7/\Own s.2.2.2 s.2.1 (voters c.toNat s.1).length s.2.2.1 3 1 (iv (voters c.toNat s.1))) (fun s=>7-s.1) (0,none,0,em) ⟨by decide,Own.nil _ _⟩ ⟨I,I,I,I,trivial⟩ I I ?_)))))))));rintro ⟨k,aoV,cV,g⟩ ⟨hk,o⟩;dsimp only at hk o ⊢;have hvl:=voters_len c.toNat k;have hvs:=voters_succ c.toNat k;refine sq (rg (cmpS hT 0 I fun b23 h23=>fin hT 0 I (th (sq (ifP h23 I (fun e8=>?_) (fun e8=>?_))))))
  ·have hk7:k<7:=by omega
   refine sk (th (sq (bk (sq (rg (fin hT 2 I (th (sq (rg (ix1 hT 1 0 I I I x I fun a26 hc26=>ld hT 0 I (In.cons3 hm) hc26 (shf hT 1 I qo (.inr ⟨I,shrN c.toNat k hk7⟩) (ar hT 0 I (and1N _ (by have:=Nat.div_le_self c.toNat (2 ^ k);have:=c.toNat_lt;omega)) (cmpS hT 0 rfl fun b31 h31=>fin hT 0 rfl (th (ifP h31 rfl (fun e10=>?_) (fun e10=>?_))))))))))))))))
   ·have e10':c.toNat / 2 ^ k % 2=1:=by omega
    refine rg ?_;rw[if_pos e10'] at hvs;refine ldp hT 1 1 I I I (lit hT 1 #[.int .i64 (k:Nat)] I (by decide) qk fun b35=>appI hT 0 1 (voters c.toNat k) (k:Nat) I I I o (.inr ⟨0,I⟩) (isS_pt I I) qo fun ao36 c36 g36 o36=>?_);rw[<-hvs] at o36 ⊢;exact stp hT 1 2 I I I I (fin hT 0 I (bl (th (WC.drop (rg (ar hT 0 I (i64w qo) (fin hT 1 I (again (x:=(k,aoV,cV,g)) (k+1,ao36,c36,g36) ⟨I,I,I,I,trivial⟩ I I ⟨by omega,o36⟩ (by (try dsimp only);omega)))))))))
   ·have e10':¬c.toNat / 2 ^ k % 2=1:=by omega
    refine sk (bl (th (rg ?_)));rw[if_neg e10',List.append_nil] at hvs;exact ar hT 0 I (i64w qo) (fin hT 1 I (again (x:=(k,aoV,cV,g)) (k+1,aoV,cV,g) ⟨I,I,I,I,trivial⟩ I (by rw[<-hvs]) ⟨by omega,by rw[hvs];exact o⟩ (by (try dsimp only);omega)))
  ·obtain rfl:k=7:=by omega
   exact ex (xt (xt (xb (th (sq (rg (ldS hT 0 1 I I qk (stS hT 0 2 I I qk I I (fin hT 1 I (th (rt (WQ.perm (List.perm_middle (l₁:=[_,_])).symm (WQ.drop (retcP 0 1 I I I I qk ⟨I,g,aoV,cV,I,by rw[hn];rfl,by rw[hn];exact o⟩))))))))))))))
theorem getConfRef{w0:World}{K hb:PH}{hs:List PH}(ao:Option Addr)(cap:Nat)(b:List UInt8)(hm:In K hs hb)(x:IsS hb ao b.length cap 1 (bv b))(hl:b.length<1099511627776):
  Ct Tryz.prog w0 48 [.slice ao b.length cap] K hs (fun v K' hs'=>K'=K/\OutV (getConf b) hs v hs'):=by
 refine enter Tryz.func48 qk I I I<|sq (rg (al hT 0 (.agg #[.slice none 0 0]) I qk fun b2=>fin hT 1 I<|th (sq<|rg (al hT 0 (.agg #[.slice none 0 0]) I qk fun b4=>fin hT 0 I<|th (sq<|sq (rg (cmpS hT 2 I fun b9 h9=>?_)))))))
 refine' bjo hT 1 5 15 [9,10] h9 I I I I I I I (fun _=>?x2) (fun b15 h15=>?_)
 case x2=>
  exact ix1 hT 1 0 I I I x (bv_getD qo) fun a12 hc12=>ld hT 0 I (In.cons<|In.cons hm) hc12 (cmpS hT 0 I fun b14 h14=>fin hT 1 I<|bjx h14 I I I)
 refine' bjo hT 1 5 21 [15,16] h15 I I I I I I I (fun _=>?x4) (fun b21 h21=>?_)
 case x4=>
  exact ix1 hT 1 0 I I I x (bv_getD qo) fun a18 hc18=>ld hT 0 I (In.cons<|In.cons hm) hc18 (cmpS hT 0 I fun b20 h20=>fin hT 1 I<|bjx h20 I I I)
 refine fin hT 0 I<|th (ifP h21 I (fun e6=>?_) (fun e6=>?_))
 ·have hn:getConf b=none:=getConf_no qo;exact sq (rg (ldS hT 0 0 I I qk (stS hT 0 1 I I qk I I (fin hT 1 I (th (rt (rT (WQ.drop (WQ.em (WQ.perm (List.Perm.swap _ _ _) (retcP 0 1 I I I I qk ⟨I,em,none,0,I,by rw[hn];rfl,by rw[hn];exact Own.nil _ _⟩)))))))))))
 ·obtain ⟨c,rfl⟩:∃ c,b=[c]:=List.length_eq_one_iff.1 qo;refine sk (th (sq (rg ?_)));have hc:¬(c.toNat=0\/128<=c.toNat):=by simp only[List.getD_cons_zero] at e6;omega
  clear e6;have hn:=getConf_one hc;have hc256:=c.toNat_lt;refine ix1 hT 1 0 I I I x I fun a24 hc24=>ld hT 0 I (In.cons (In.cons hm)) hc24 (ar hT 0 I (i64w qo) (fin hT 1 I (th (sq (sq (rg (fin hT 1 I (th (bk (WC.em (loop (σ:=Nat×Option Addr×Nat×PH) (fun s=>[(2,.pointer (some ⟨b2,0,none⟩)),(4,.pointer (some ⟨b4,0,none⟩)),(5,.int .i64 (c.toNat / 2 ^ s.1:Nat)),(6,.int .i64 (s.1:Nat))]) (fun _=>K) (fun s=>s.2.2.2::pt b4 #[.slice s.2.1 (voters c.toNat s.1).length s.2.2.1] 29::pt b2 #[.slice none 0 0] 29::hs) (fun s=>s.1<=7/\Own s.2.2.2 s.2.1 (voters c.toNat s.1).length s.2.2.1 3 1 (iv (voters c.toNat s.1))) (fun s=>7-s.1) (0,none,0,em) ⟨by decide,Own.nil _ _⟩ ⟨I,I,by simp;rfl,rfl,trivial⟩ rfl rfl ?_)))))))))));rintro ⟨k,aoV,cV,g⟩ ⟨hk,o⟩;dsimp only at hk o ⊢;have hvl:=voters_len c.toNat k;have hvs:=voters_succ c.toNat k;have hdiv:=Nat.div_le_self c.toNat (2 ^ k);have hd2:c.toNat / 2 ^ (k+1)=c.toNat / 2 ^ k / 2:=by rw[Nat.pow_succ,Nat.div_div_eq_div_mul]
  refine sq<|sq (rg (cmpS hT 1 I fun b28 h28=>fin hT 0 I<|th (ifP h28 I (fun e8=>?_) (fun e8=>?_))))
  ·refine sk<|th (sq<|bk (sq<|sq (rg<|ar hT 1 I (u_rem .i64 (c.toNat / 2 ^ k) 2) (cmpS hT 0 I fun b33 h33=>fin hT 0 I<|th (ifP h33 I (fun e10=>?_) (fun e10=>?_))))))
   ·have e10':c.toNat / 2 ^ k % 2=1:=by omega
    refine rg ?_;rw[if_pos e10'] at hvs;refine ldp hT 1 1 I I I (lit hT 1 #[.int .i64 (k:Nat)] I (by decide) qk fun b37=>appI hT 0 1 (voters c.toNat k) (k:Nat) I I I o (.inr ⟨0,I⟩) (isS_pt I I) qo fun ao36 c36 g36 o36=>?_);rw[<-hvs] at o36 ⊢;exact stp hT 1 2 I I I I (fin hT 0 I (th (WC.drop (rg (ar hT 1 I (v':=.int .i64 ((c.toNat / 2 ^ (k+1):Nat):Int)) (by rw[i64quo2 _ qo,hd2]) (fin hT 1 I (bl (th (rg (ar hT 1 I (i64w qo) (fin hT 1 I (again (x:=(k,aoV,cV,g)) (k+1,ao36,c36,g36) ⟨I,I,I,I,trivial⟩ I I ⟨by omega,o36⟩ (by (try dsimp only);omega)))))))))))))
   ·have e10':¬c.toNat / 2 ^ k % 2=1:=by omega
    refine sk (th (rg ?_));rw[if_neg e10',List.append_nil] at hvs;exact ar hT 1 I (v':=.int .i64 ((c.toNat / 2 ^ (k+1):Nat):Int)) (by rw[i64quo2 _ qo,hd2]) (fin hT 1 I (bl (th (rg (ar hT 1 I (i64w qo) (fin hT 1 I (again (x:=(k,aoV,cV,g)) (k+1,aoV,cV,g) ⟨I,I,I,I,trivial⟩ I (by rw[<-hvs]) ⟨by omega,by rw[hvs];exact o⟩ (by (try dsimp only);omega))))))))
  ·obtain rfl:k=7:=by omega
   exact ex (xt (xt (xb (th (sq (rg (ldS hT 0 1 I I qk (stS hT 0 2 I I qk I I (fin hT 1 I (th (rt (WQ.perm (List.perm_middle (l₁:=[_,_])).symm (WQ.drop (retcP 0 1 I I I I qk ⟨I,g,aoV,cV,I,by rw[hn];rfl,by rw[hn];exact o⟩))))))))))))))
theorem sameVoters{w0:World}{K h1 h2:PH}{hs:List PH}(a1 a2:Option Addr)(c1 c2:Nat)(l1 l2:List Int)(m1:In K hs h1)(m2:In K hs h2)(x1:IsS h1 a1 l1.length c1 1 (iv l1))(x2:IsS h2 a2 l2.length c2 1 (iv l2))(hl:l1.length<1099511627776):
  Ct Tryz.prog w0 23 [.slice a1 l1.length c1,.slice a2 l2.length c2] K hs (fun v K' hs'=>K'=K/\hs'=hs/\∃ b:Bool,v=.bool b/\(b=true↔l1=l2)):=by
 refine enter Tryz.func23 qk I I I<|sq (rg<|fin hT 1 I (th<|sq (sq<|rg (cmpS hT 4 I fun b10 h10=>fin hT 0 I<|th (ifP h10 I (fun e2=>?_) (fun e2=>?_))))))
 ·exact sq (rg (fin hT 1 I (th (rt (rT (ret1 I I ⟨I,I,false,I,by simp;intro h;subst h;exact e2 I⟩))))))
 ·have hll:l1.length=l2.length:=by omega
  refine sk (th (sq (sq (rg (fin hT 1 I (th (bk (loop (σ:=Nat) (fun i=>[(0,.slice a1 l1.length c1),(1,.slice a2 l2.length c2),(5,.int .i64 (i:Nat))]) (fun _=>K) (fun _=>hs) (fun i=>i<=l1.length/\l1.take i=l2.take i) (fun i=>l1.length-i) 0 ⟨Nat.zero_le _,I⟩ ⟨I,I,I,trivial⟩ I I ?_))))))));rintro i ⟨hi,he⟩;refine sq (sq (rg (cmpS hT 3 I fun b14 h14=>fin hT 0 I (th (ifP h14 I (fun e4=>?_) (fun e4=>?_))))))
  ·have hi1:i<l1.length:=by omega
   refine sk (th (sq (bk (sq (rga hs 9 [0,2,4,6,8,10,12,14,16] (by simp) qk qk ?_)))));have hi2:i<l2.length:=by omega
   obtain ⟨a1,rfl⟩:=x1.addr hi1 (by decide);obtain ⟨a2,rfl⟩:=x2.addr hi2 (by decide);obtain ⟨a1',ha1,hc1⟩:=x1.2.2 i _ (iv_get hi1);obtain ⟨a2',ha2,hc2⟩:=x2.2.2 i _ (iv_get hi2);cases ha1;cases ha2;refine dixs hT qk 2 i I I hi1 (dld hT qk 0 I m1 (by simpa using hc1) (dixs hT qk 2 i I I hi2 (dld hT qk 0 I m2 (by simpa using hc2) (dcbS hT qk 0 (l1[i]≠l2[i]) I (by simp) fun b25 h25=>dend hT qk 0 I (th (ifP h25 I (fun e5=>?_) (fun e5=>?_)))))))
   ·exact sq (rg (fin hT 1 I (th (rt (rB (rT (rT (rB (rT (ret1 I I ⟨I,I,false,I,by simp;intro h;subst h;exact e5 I⟩))))))))))
   ·exact sk (bl (th (rg (ar hT 1 I (i64w qo) (fin hT 1 I (again (x:=i) (i+1) ⟨I,I,I,trivial⟩ I I ⟨by omega,by rw[take_succ_get l1 i hi1,take_succ_get l2 i hi2,he,Decidable.not_not.1 e5]⟩ (by (try dsimp only);omega)))))))
  ·obtain rfl:i=l1.length:=by omega
   exact ex (xt (xt (xb (th (sq (rg (fin hT 1 I (th (rt (ret1 I I ⟨I,I,true,I,by simp;rw[List.take_of_length_le (Nat.le_refl _),hll,List.take_of_length_le (Nat.le_refl _)] at he;exact he⟩))))))))))
theorem heldC{w0:World}{K hb:PH}{hs:List PH}(k:Int)(ao:Option Addr)(cap:Nat)(b:List UInt8)(hm:In K hs hb)(x:IsS hb ao b.length cap 1 (bv b))(hl:b.length<1099511627776):
  Ct Tryz.prog w0 120 [.int .i64 k,.slice ao b.length cap] K hs (fun v K' hs'=>K'=K/\hs'=hs/\∃ t:Bool,v=.bool t/\(t=true↔heldP k b)):=by
 refine enter Tryz.func120 qk I I I<|sq (rg<|fin hT 1 I (th<|sq (rg<|fin hT 1 I (th<|jn (σ:=Int) (fun s=>[(5,.int .i64 s)]) (fun s=>hs) (fun s=>(s=0↔heldP k b)) ?_ ?_))))
 ·refine sq<|rg (fin hT 1 I<|th (bk<|sq (rg (cmpS hT 0 I fun b8 h8=>fin hT 1 I<|th (ifP h8 I (fun e2=>?_) (fun e2=>?_))))))
  ·exact sq (rg (cmpS hT 2 I fun b11 h11=>fin hT 1 I (th (rt (rB (jr (ret1 I I ⟨I,I,b11,I,h11.trans ⟨fun h=>.inl ⟨e2,List.eq_nil_of_length_eq_zero qo⟩,fun h=>by rcases h with ⟨_,h⟩|⟨h,_⟩|⟨h,_⟩ <;> first|(rw[h];rfl)|(omega)⟩⟩)))))))
  ·refine sq<|rg (cmpS hT 0 I fun b13 h13=>fin hT 1 I<|th (ifP h13 I (fun e5=>?_) (fun e5=>?_)))
   ·refine rg (cl hT 1 I (getCmdC ao cap b hm x hl) ?_);rintro v16 K16 hs16 ⟨rfl,rfl,rfl⟩;exact fin hT 4 I (bl (jx (ec (getCmd b)) ⟨fun h=>.inr (.inl ⟨e5,ec_zero.1 h⟩),fun h=>ec_zero.2 (by rcases h with ⟨h,_⟩|⟨_,h⟩|⟨h,_⟩ <;> first|exact h|(omega))⟩ ⟨rfl,trivial⟩ rfl rfl))
   ·refine sq<|rg (cmpS hT 0 I fun b20 h20=>fin hT 1 I<|th (ifP h20 I (fun e7=>?_) (fun e7=>?_)))
    ·refine rg (cl hT 1 I (getConfC ao cap b hm x hl) ?_);rintro v23 K23 hs23 ⟨rfl,g,aog,cg,rfl,rfl,og⟩;exact fin hT 4 I (bl (WQ.drop (jx (ec (getConf b)) ⟨fun h=>.inr (.inr ⟨e7,ec_zero.1 h⟩),fun h=>ec_zero.2 (by rcases h with ⟨h,_⟩|⟨h,_⟩|⟨_,h⟩ <;> first|exact h|(omega))⟩ ⟨rfl,trivial⟩ rfl rfl)))
    ·exact sq (rg (fin hT 1 I (th (rt (rB (jr (ret1 I I ⟨I,I,false,I,⟨fun h=>by simp at h,fun h=>by have:=held_kind h;omega⟩⟩)))))))
 ·rintro s hsd;exact sq (rg (cmpS hT 1 I fun b27 h27=>fin hT 1 I (th (rt (ret1 I I ⟨I,I,b27,I,h27.trans hsd⟩)))))
theorem heldRef{w0:World}{K hb:PH}{hs:List PH}(k:Int)(ao:Option Addr)(cap:Nat)(b:List UInt8)(hm:In K hs hb)(x:IsS hb ao b.length cap 1 (bv b))(hl:b.length<1099511627776):
  Ct Tryz.prog w0 164 [.int .i64 k,.slice ao b.length cap] K hs (fun v K' hs'=>K'=K/\hs'=hs/\∃ t:Bool,v=.bool t/\(t=true↔heldP k b)):=by
 refine enter Tryz.func164 qk I I I<|sq (rg<|fin hT 1 I (th<|sq (sq<|rg (cmpS hT 1 I fun b10 h10=>fin hT 0 I<|th (ifP h10 I (fun e2=>?_) (fun e2=>?_))))))
 ·exact sq (rg (cmpS hT 2 I fun b13 h13=>fin hT 1 I (th (rt (rT (ret1 I I ⟨I,I,b13,I,h13.trans ⟨fun h=>.inl ⟨e2,List.eq_nil_of_length_eq_zero qo⟩,fun h=>by rcases h with ⟨_,h⟩|⟨h,_⟩|⟨h,_⟩ <;> first|(rw[h];rfl)|(omega)⟩⟩))))))
 ·refine sk (th (sq (rg (cl hT 1 I (getCmdRef ao cap b hm x hl) ?_))));rintro v16 K16 hs16 ⟨rfl,rfl,rfl⟩;refine al hT 3 (.agg #[.int .i64 0,.int .u64 0,.int .u64 0,.string ⟨#[]⟩,.int .i64 0]) I qk fun b5=>stS hT 0 0 I I qk I I (fin hT 1 I (th (sq (rg (cl hT 1 I (getConfRef ao cap b (In.cons hm) x hl) ?_)))));rintro v21 K21 hs21 ⟨rfl,g,aog,cg,rfl,rfl,og⟩;refine al hT 3 (.agg #[.slice none 0 0]) I qk fun b7=>stS hT 0 0 I I qk I I (fin hT 1 I (th (sq (rg (cmpS hT 1 I fun b25 h25=>?_)))))
  refine' bja hT 1 3 29 [25,26] h25 I I I I I I I (fun _=>?x5) (fun b29 h29=>?_)
  case x5=>
   exact cmpS hT 1 I fun b28 h28=>fin hT 1 I<|bjx h28 I I I
  refine' bjo hT 1 7 37 [29,30] h29 I I I I I I I (fun _=>?x7) (fun b37 h37=>?_)
  case x7=>
   refine cmpS hT 1 I fun b32 h32=>?_
   refine' bja hT 1 3 36 [32,33] h32 I I I I I I I (fun _=>?x9) (fun b36 h36=>?_)
   case x9=>
    exact cmpS hT 1 I fun b35 h35=>fin hT 1 I<|bjx h35 I I I
   exact fin hT 1 I<|bjx h36 I I I
  exact fin hT 1 I<|th (rt<|WQ.drop (WQ.drop<|WQ.drop (ret1 I I ⟨I,I,b37,I,h37.trans ⟨fun h=>h.elim (fun h=>.inr (.inl ⟨h.1,ec_zero.1 h.2⟩)) (fun h=>.inr (.inr ⟨h.1,ec_zero.1 h.2⟩)),fun h=>h.elim (fun h=>absurd h.1 e2) (fun h=>h.elim (fun h=>.inl ⟨h.1,ec_zero.2 h.2⟩) (fun h=>.inr ⟨h.1,ec_zero.2 h.2⟩))⟩⟩)))
theorem putEnt_no{e:Ent}(h:¬e.ok):putEnt e=none:=if_neg h
theorem putEntC{w0:World}{K hb:PH}{hs:List PH}(e:Ent)(ao:Option Addr)(cap:Nat)(h1:e.idx<=mxU)(h2:e.term<=mxU)(hm:In K hs hb)(x:IsS hb ao e.data.length cap 1 (bv e.data))(hl:e.data.length<1099511627776):
  Ct Tryz.prog w0 73 [.agg (e.v ao cap)] K hs (fun v K' hs'=>K'=K/\OutB (putEnt e) hs v hs'):=by
 have hmx:mxU=18446744073709551615:=rfl;refine enter Tryz.func73 qk I I I (sq (rg (bx hT 0 I fun b1=>fin hT 2 I (th (sq (sq (rg (ldp hT 1 0 I I I (cmpS hT 0 I fun b7 h7=>?_)))))))))
 refine' bjo hT 1 4 12 [7,8] h7 I I I I I I I (fun _=>?x2) (fun b12 h12=>?_)
 case x2=>
  exact ldp hT 1 0 I I I (cmpS hT 0 I fun b11 h11=>fin hT 1 I<|bjx h11 I I I)
 refine' bjo hT 1 7 20 [12,13] h12 I I I I I I I (fun _=>?x4) (fun b20 h20=>?_)
 case x4=>
  refine ldp hT 1 0 I I I (ldp hT 1 0 I I I (cl hT 0 I (heldC e.kind ao cap e.data (In.cons hm) x hl) ?_));rintro v18 K18 hs18 ⟨rfl,rfl,b18,rfl,h18⟩;exact cbS hT 0 _ I (bnot h18) fun b19 h19=>fin hT 1 I (bjx h19 I I I)
 refine fin hT 0 I<|th (ifP h20 I (fun e5=>?_) (fun e5=>?_))
 ·exact sq<|rg (fin hT 2 I<|th (rt<|rT (WQ.drop<|WQ.em (ret2 I I I ⟨I,outN (putEnt_no fun h=>e5.elim (fun h'=>h'.elim (fun h'=>h.1 qo) (fun h'=>h.2.1 qo)) (fun h'=>h' h.2.2))⟩))))
 ·have hok:e.ok:=⟨fun h=>e5 (.inl (.inl qo)),fun h=>e5 (.inl (.inr qo)),Decidable.not_not.1 fun h=>e5 (.inr h)⟩;refine sk (th (WC.em (sq (rga [pt b1 (Value.agg (e.v ao cap)).cells 46] 7 [0,2,6,8,5,11,12] (by simp) qk qk ?_))));have hd:=held_len hok.2.2;have hkd:=held_kind hok.2.2;obtain ⟨k,hk⟩:∃ k:Nat,e.kind=(k:Nat):=Int.eq_ofNat_of_zero_le (show 0<=e.kind by omega);have hu1:=uint_le10 (n:=e.idx) qo;have hu2:=uint_le10 (n:=e.term) qo;refine dldp hT qk 1 0 I I I (dldp hT qk 1 0 I I I (dact hT qk 0 I (cl hT 0 I (putUint none 0 [] e.idx (Own.nil _ _) qo (by simp)) ?_)));rintro v23 K23 hs23 ⟨g23,rfl,rfl,ao23,c23,rfl,o23⟩;refine dnex [pt b1 (Value.agg (e.v ao cap)).cells 46] (by simp) (by simp) I (dact hT qk 0 I (cl hT 0 I (putUint ao23 c23 _ e.term o23 qo (by simp;omega)) ?_));rintro v26 K26 hs26 ⟨g26,rfl,rfl,ao26,c26,rfl,o26⟩
  refine dnex [pt b1 (Value.agg (e.v ao cap)).cells 46] (by simp) (by simp) I (dend hT qk 1 I (th (sq (rga [pt b1 (Value.agg (e.v ao cap)).cells 46] 11 [0,2,4,6,12,14,9,11,17,18,20] (by simp) qk qk (dldp hT qk 2 0 I I I (dar hT qk 0 I (v':=.int .u8 (k:Nat)) (by rw[hk,u8w qo]) (dldp hT qk 1 0 I I I (dact hT qk 0 I (lit hT 0 #[.int .u8 (k:Nat)] I (by decide) qk fun b31=>dnex [pt b1 (Value.agg (e.v ao cap)).cells 46] (by simp) (by simp) I (dact hT qk 0 I (appB hT 0 1 _ [UInt8.ofNat k] I I I o26 (.inr ⟨0,I⟩) (isS_byte b31 k qo) (by simp;omega) fun ao32 c32 g32 o32=>dnex [pt b1 (Value.agg (e.v ao cap)).cells 46] (by simp) (by simp) rfl (dact hT qk 0 rfl ?_))))))))))));refine cl hT 0 I (Ct.at 1 I (putBytesC ao32 c32 _ ao cap e.data o32 (In.cons (In.cons hm)) x (by simp;omega) qo)) ?_
  rintro v35 K35 hs35 ⟨g35,rfl,rfl,ao35,c35,rfl,o35⟩;exact dnex [pt b1 (Value.agg (e.v ao cap)).cells 46] (by simp) (by simp) I (dend hT qk 2 I (th (rt (WQ.drop (WQ.perm (List.Perm.swap _ _ _) (WQ.drop (ret2 I I I ⟨I,outS (by rw[putEnt,if_pos hok,Ent.bytes,hk];simp) o35⟩)))))))
theorem putEntRef{w0:World}{K hb:PH}{hs:List PH}(e:Ent)(ao:Option Addr)(cap:Nat)(h1:e.idx<=mxU)(h2:e.term<=mxU)(hm:In K hs hb)(x:IsS hb ao e.data.length cap 1 (bv e.data))(hl:e.data.length<1099511627776):
  Ct Tryz.prog w0 143 [.agg (e.v ao cap)] K hs (fun v K' hs'=>K'=K/\OutB (putEnt e) hs v hs'):=by
 have hmx:mxU=18446744073709551615:=rfl;refine enter Tryz.func143 qk I I I (sq (rg (bx hT 0 I fun b1=>fin hT 2 I (th (sq (rg (ldp hT 1 0 I I I (ldp hT 1 0 I I I (cl hT 0 I (heldRef e.kind ao cap e.data (In.cons hm) x hl) ?_)))))))));rintro v11 K11 hs11 ⟨rfl,rfl,b11,rfl,h11⟩;refine fin hT 1 I (th (sq (sq (rg (ldp hT 1 0 I I I (cmpS hT 0 I fun b14 h14=>?_))))))
 refine' bjo hT 1 4 19 [14,15] h14 I I I I I I I (fun _=>?x2) (fun b19 h19=>?_)
 case x2=>
  exact ldp hT 1 0 I I I (cmpS hT 0 I fun b18 h18=>fin hT 1 I<|bjx h18 I I I)
 refine' bjo hT 1 3 23 [19,20] h19 I I I I I I I (fun _=>?x4) (fun b23 h23=>?_)
 case x4=>
  exact cbS hT 1 _ I (bnot h11) fun b22 h22=>fin hT 1 I<|bjx h22 I I I
 refine fin hT 0 I<|th (ifP h23 I (fun e5=>?_) (fun e5=>?_))
 ·exact sq<|rg (fin hT 2 I<|th (rt<|rT (WQ.drop<|WQ.em (ret2 I I I ⟨I,outN (putEnt_no fun h=>e5.elim (fun h'=>h'.elim (fun h'=>h.1 qo) (fun h'=>h.2.1 qo)) (fun h'=>h' h.2.2))⟩))))
 ·have hok:e.ok:=⟨fun h=>e5 (.inl (.inl qo)),fun h=>e5 (.inl (.inr qo)),Decidable.not_not.1 fun h=>e5 (.inr h)⟩;refine sk (th (sq (rg ?_)));have hd:=held_len hok.2.2;have hkd:=held_kind hok.2.2;obtain ⟨k,hk⟩:∃ k:Nat,e.kind=(k:Nat):=Int.eq_ofNat_of_zero_le (show 0<=e.kind by omega);have hu1:=uint_le10 (n:=e.idx) qo;have hu2:=uint_le10 (n:=e.term) qo;refine ldp hT 1 0 I I I (ldp hT 1 0 I I I (lit hT 0 #[.int .u64 (e.idx:Nat),.int .u64 (e.term:Nat)] I (by decide) qk fun b28=>WL.em (cl hT 0 I (uintsRef none 0 [] _ _ [e.idx,e.term] (Own.nil _ _) (.inr ⟨0,I⟩) (isS_pt I I) (by simp;omega) (by simp) (by simp)) ?_)));rintro v29 K29 hs29 ⟨g29,rfl,rfl,ao29,c29,rfl,o29⟩;have hus:=us_len [e.idx,e.term] (by simp;omega);have husl:[e.idx,e.term].length=2:=rfl;refine fin hT 1 I (th (WC.perm (List.Perm.swap _ _ _) (WC.drop (sq (rg (ldp hT 2 1 I I I (ar hT 0 I (v':=.int .u8 (k:Nat)) (by rw[hk,u8w qo]) (lit hT 0 #[.int .u8 (k:Nat)] I (by decide) qk fun b34=>appB hT 0 1 ([]++us [e.idx,e.term]) [UInt8.ofNat k] I I I o29 (.inr ⟨0,I⟩) (isS_byte b34 k qo) (by simp only[List.length_append,List.length_singleton,List.length_nil];omega) fun ao35 c35 g35 o35=>fin hT 1 rfl (th (WC.drop (sq (rg (ldp hT 1 1 rfl rfl rfl (cl hT 0 rfl (putRef ao cap e.data (In.cons (In.cons hm)) x qo) ?_))))))))))))))
  rintro v38 K38 hs38 ⟨g38,rfl,rfl,ao38,c38,rfl,o38⟩;have hpl:=putBytes_length e.data;have hu3:=uint_le10 (n:=e.data.length) qo;exact fin hT 1 I (th (sq (rg (appB hT 2 1 _ _ I I I o35 (.inr ⟨0,I⟩) o38.isS (by simp only[List.length_append,List.length_singleton,List.length_nil];omega) fun ao41 c41 g41 o41=>fin hT 2 rfl (th (rt (WQ.drop (WQ.perm (List.Perm.swap _ _ _) (WQ.drop (ret2 rfl rfl rfl ⟨rfl,outS (by rw[putEnt,if_pos hok,Ent.bytes,hk];simp[us]) o41⟩))))))))))
def OutE(o:Option Ent)(hs:List PH)(v:Value)(hs':List PH):Prop:=
 ∃ h ao c,hs'=h::hs/\v=.tuple #[.agg ((o.getD Ent.zero).v ao c),.int .i64 (ec o)]/\Own h ao (o.getD Ent.zero).data.length c 5 1 (bv (o.getD Ent.zero).data)
theorem getEntC{w0:World}{K hb:PH}{hs:List PH}(ao:Option Addr)(cap:Nat)(b:List UInt8)(hm:In K hs hb)(x:IsS hb ao b.length cap 1 (bv b))(hl:b.length<1099511627776):
  Ct Tryz.prog w0 112 [.slice ao b.length cap] K hs (fun v K' hs'=>K'=K/\OutE (getEnt b) hs v hs'):=by
 have hl1:=rUint_len mxU (b,0);have hl2:=rUint_len mxU (rUint mxU (b,0)).2;have hl3:=rByte_len (rUint mxU (rUint mxU (b,0)).2).2;have hl4:=(rBytes_len 512 (rByte (rUint mxU (rUint mxU (b,0)).2).2).2).1;have hk256:=rByte_lt (rUint mxU (rUint mxU (b,0)).2).2;dsimp only at hl1;have hgE:getEntR b=(⟨(rUint mxU (b,0)).1,(rUint mxU (rUint mxU (b,0)).2).1,((rByte (rUint mxU (rUint mxU (b,0)).2).2).1:Nat),(rBytes 512 (rByte (rUint mxU (rUint mxU (b,0)).2).2).2).1⟩,(rBytes 512 (rByte (rUint mxU (rUint mxU (b,0)).2).2).2).2):=rfl;refine enter Tryz.func112 qk I I I (sq (rg (al hT 0 (.agg #[.int .u64 0,.int .u64 0,.int .i64 0,.slice none 0 0]) I qk fun b2=>fin hT 1 I (th (sq (rg (cl hT 1 I (readC ao cap b (In.cons hm) x hl) ?_)))))));rintro v7 K7 hs7 ⟨rfl,rb,h,hb',rfl,rfl,rd⟩;refine fin hT 1 I (th (sq (rg (cl hT 1 I (uintC (.inr ⟨0,I⟩) mxU (b,0) hl rd) ?_))));rintro v9 K9 hs9 ⟨h1,rfl,rfl,rfl,rd1⟩;refine cl hT 1 I (uintC (.inr ⟨0,I⟩) mxU _ qo rd1) ?_
 rintro v11 K11 hs11 ⟨h2,rfl,rfl,rfl,rd2⟩;refine cl hT 1 I (byteC (.inr ⟨0,I⟩) _ rd2) ?_;rintro v13 K13 hs13 ⟨h3,rfl,rfl,rfl,rd3⟩;refine ar hT 0 I (i64w qo) (bd hT 0 (.agg ((Ent.mk (rUint mxU (b,0)).1 (rUint mxU (rUint mxU (b,0)).2).1 ((rByte (rUint mxU (rUint mxU (b,0)).2).2).1:Nat) []).v none 0)) I (fun w=>by kernel_rfl) (al hT 0 (.agg #[.int .u64 0,.int .u64 0,.int .i64 0,.slice none 0 0]) I qk fun b5=>stS hT 0 0 I I qk I I (fin hT 0 I (th (sq (rg (cl hT 1 I (Ct.atN 1 I (bytesC (.inr ⟨1,I⟩) 512 qo _ qo rd3)) ?_)))))));rintro v17 K17 hs17 ⟨h4,new,rfl,rfl,hx,aox,cx,rfl,rfl,ox,rd4⟩;refine stp hT 1 1 I I I I (fin hT 0 I (th (sq (sq (rg (cl hT 1 I (Ct.keep 2 I (endC _ rd4)) ?_))))));rintro v20 K20 hs20 ⟨rfl,rfl,rfl⟩;refine cmpS hT 0 I fun b21 h21=>?_
 refine' bjo hT 1 4 26 [21,22] h21 I I I I I I I (fun _=>?x2) (fun b26 h26=>?_)
 case x2=>
  exact ldp hT 1 1 I I I (cmpS hT 0 I fun b25 h25=>fin hT 1 I<|bjx h25 I I I)
 refine' bjo hT 1 4 31 [26,27] h26 I I I I I I I (fun _=>?x4) (fun b31 h31=>?_)
 case x4=>
  exact ldp hT 1 1 I I I (cmpS hT 0 I fun b30 h30=>fin hT 1 I<|bjx h30 I I I)
 refine' bjo hT 1 7 39 [31,32] h31 I I I I I I I (fun _=>?x6) (fun b39 h39=>?_)
 case x6=>
  refine ldp hT 1 1 I I I (ldp hT 1 1 I I I (cl hT 0 I (heldC _ aox cx _ (.inr ⟨0,I⟩) ox.isS qo) ?_));rintro v37 K37 hs37 ⟨rfl,rfl,b37,rfl,h37⟩;exact cbS hT 0 _ I (bnot h37) fun b38 h38=>fin hT 1 I (bjx h38 I I I)
 refine fin hT 0 I<|th (ifP h39 I (fun e7=>?_) (fun e7=>?_))
 ·have hn:getEnt b=none:=by
   rw[getEnt,if_neg];rw[hgE];exact fun h=>e7.elim (fun h'=>h'.elim (fun h'=>h'.elim (fun h'=>h' h.1) (fun h'=>h.2.1 (Int.ofNat_inj.1 h'))) (fun h'=>h.2.2.1 (Int.ofNat_inj.1 h'))) (fun h'=>h' h.2.2.2)
  exact sq (rg (bd hT 0 (.agg (Ent.zero.v none 0)) I (fun w=>by kernel_rfl) (stS hT 0 4 I I qk I I (fin hT 1 I (th (rt (rT (WQ.drop (WQ.drop (WQ.drop (WQ.drop (WQ.em (WQ.perm (List.Perm.swap _ _ _) (retcP 0 1 I I I I qk ⟨I,em,none,0,I,by rw[hn];rfl,by rw[hn];exact Own.nil _ _⟩))))))))))))))
 ·have hn:getEnt b=some (getEntR b).1:=by
   rw[getEnt,if_pos];rw[hgE];exact ⟨Decidable.not_not.1 fun h=>e7 (.inl (.inl (.inl h))),fun h=>e7 (.inl (.inl (.inr (Int.ofNat_inj.2 h)))),fun h=>e7 (.inl (.inr (Int.ofNat_inj.2 h))),Decidable.not_not.1 fun h=>e7 (.inr h)⟩
  rw[hgE] at hn;exact sk (th (sq (rg (ldS hT 0 1 I I qk (stS hT 0 4 I I qk I I (fin hT 1 I (th (rt (WQ.perm (List.perm_middle (l₁:=[_,_,_,_])).symm (WQ.drop (WQ.drop (WQ.drop (retcP 0 1 I I I I qk ⟨I,hx,aox,cx,I,by rw[hn];rfl,by rw[hn];exact ox⟩)))))))))))))
theorem sameEntry{w0:World}{K h1 h2:PH}{hs:List PH}(e1 e2:Ent)(a1 a2:Option Addr)(c1 c2:Nat)(m1:In K hs h1)(m2:In K hs h2)(x1:IsS h1 a1 e1.data.length c1 1 (bv e1.data))(x2:IsS h2 a2 e2.data.length c2 1 (bv e2.data)):
  Ct Tryz.prog w0 15 [.agg (e1.v a1 c1),.agg (e2.v a2 c2)] K hs (fun v K' hs'=>K'=K/\hs'=hs/\∃ b:Bool,v=.bool b/\(b=true↔e1=e2)):=by
 refine enter Tryz.func15 qk I I I<|sq (rg (bx hT 0 I fun b2=>bx hT 0 I fun b3=>fin hT 1 I<|th (sq<|rg (ldp hT 1 1 I I I<|ldp hT 1 0 I I I (cmpS hT 0 I fun b9 h9=>?_)))))
 refine' bja hT 1 6 16 [9,10] h9 I I I I I I I (fun _=>?x2) (fun b16 h16=>?_)
 case x2=>
  exact ldp hT 1 1 I I I<|ldp hT 1 0 I I I (cmpS hT 0 I fun b15 h15=>fin hT 1 I<|bjx h15 I I I)
 refine' bja hT 1 6 23 [16,17] h16 I I I I I I I (fun _=>?x4) (fun b23 h23=>?_)
 case x4=>
  exact ldp hT 1 1 I I I<|ldp hT 1 0 I I I (cmpS hT 0 I fun b22 h22=>fin hT 1 I<|bjx h22 I I I)
 refine' bja hT 1 8 32 [23,24] h23 I I I I I I I (fun _=>?x6) (fun b32 h32=>?_)
 case x6=>
  exact ldp hT 1 1 I I I<|cvs hT 0 _ I (In.cons<|In.cons m1) x1 qk (ldp hT 1 0 I I I<|cvs hT 0 _ I (In.cons<|In.cons m2) x2 qk (seS hT 0 I fun b31 h31=>fin hT 1 I<|bjx h31 I I I))
 refine fin hT 1 I<|th (rt<|WQ.drop (WQ.drop ?_))
 exact ret1 I I ⟨I,I,b32,I,h32.trans ⟨fun ⟨⟨⟨g1,g2⟩,g3⟩,g4⟩=>by
  obtain ⟨i,t,k,d⟩:=e1;obtain ⟨i',t',k',d'⟩:=e2;dsimp only[Ent.v] at g1 g2 g3 g4;have g1:=Int.ofNat_inj.1 g1;have g2:=Int.ofNat_inj.1 g2;have g3:k=k':=g3;rw[g1,g2,g3,g4],fun h=>by subst h;exact ⟨⟨⟨I,I⟩,I⟩,I⟩⟩⟩
end
section
attribute [local irreducible] Code.wp wpList Calls
structure MA where
 ae:Option Addr
 ce:Nat
 av:Option Addr
 cv:Nat
 ad:Option Addr
 cd:Nat
def mv(m:Msg)(p:MA):Array Value:=#[.int .i64 m.kind,.int .i64 m.frm,.int .i64 m.to,.int .u64 (m.term:Nat),.int .u64 (m.idx:Nat),.int .u64 (m.lt:Nat),.int .u64 (m.com:Nat),.int .u64 (m.rnd:Nat),.bool m.good,
 .slice p.ae m.ents.length p.ce,.int .i64 m.off,.int .i64 m.whole,.slice p.av m.vot.length p.cv,.slice p.ad m.data.length p.cd]
def EntC(H:PH)(cs:List Value)(e:Ent):Prop:=∃ ao cap,cs=(e.v ao cap).toList/\IsS H ao e.data.length cap 1 (bv e.data)
def EntsS(H:PH)(ao:Option Addr)(cap:Nat)(es:List Ent):Prop:=∃ css:List (List Value),IsS H ao es.length cap 4 css.flatten/\All2 (EntC H) css es
theorem EntC.le{H H':PH}(l:Le H H'){cs:List Value}{e:Ent}(h:EntC H cs e):EntC H' cs e:=by
 obtain ⟨ao,cap,h1,h2⟩:=h;exact ⟨ao,cap,h1,h2.le l⟩
section
variable {w0:World} {K h:PH} {R:List PH} {g off cb mb:Nat}
end
section
variable {w0:World} {K h:PH} {R:List PH} {mb:Nat}
end
end
section
open Go.En Go.ChangeShapes Go.WideShapes Go.ChangeAt Go.RowKit Go.Deep
set_option maxRecDepth 100000
section opens
variable {H:Type} {enc:TypeId×Value->H} {W:World}
theorem sumM_one{α:Type}:∀ xs:List α,sumM (fun _=>1) xs=xs.length
 | []=>rfl
 | x::r=>by rw[sumM,sumM_one r,List.length_cons];omega
theorem sumM_ge{α:Type}(m:α->Nat)(hm:∀ x,0<m x):∀ xs:List α,xs.length<=sumM m xs
 | []=>Nat.zero_le _
 | x::r=>by have:=sumM_ge m hm r;have:=hm x;simp only[sumM,List.length_cons];omega
theorem sumM_mem{α:Type}(m:α->Nat):∀ {xs:List α} {x:α},x∈xs->m x<=sumM m xs
 | y::r,x,h=>by
  rcases List.mem_cons.1 h with rfl|h
  ·simp only[sumM];omega
  ·have:=sumM_mem m h;simp only[sumM];omega
theorem ri_u64{cs:List Value}{n:Int}(h:RI .u64 cs n):cs=[.int .u64 (n.toNat:Nat)]/\n.toNat<=mxU:=by
 obtain ⟨rfl,hw⟩:=h;have h2:0<=n/\n<=18446744073709551615:=by simpa[Lit.wf,IntKind.min,IntKind.max,IntKind.signed,IntKind.bits] using hw
 have hmx:mxU=18446744073709551615:=rfl;refine ⟨?_,by omega⟩;rw[Int.toNat_of_nonneg h2.1]
theorem ri_i64{cs:List Value}{n:Int}(h:RI .i64 cs n):cs=[.int .i64 n] /\ -9223372036854775808<=n/\n<=9223372036854775807:=by
 obtain ⟨rfl,hw⟩:=h;exact ⟨I,by simpa[Lit.wf,IntKind.min,IntKind.max,IntKind.signed,IntKind.bits] using hw⟩
def byI(xs:List Int):List UInt8:=xs.map fun z=>UInt8.ofNat z.toNat
theorem byI_len(xs:List Int):(byI xs).length=xs.length:=by simp[byI]
theorem all2_bytes:∀ {css:List (List Value)} {xs:List Int},All2 (RI .u8) css xs->css.flatten=bv (byI xs)
 | [],[],_=>rfl
 | c::cs,x::xs,⟨⟨h1,hw⟩,h2⟩=>by
  subst h1;have hb:0<=x/\x<=255:=by simpa[Lit.wf,IntKind.min,IntKind.max,IntKind.signed,IntKind.bits] using hw
  rw[List.flatten_cons,all2_bytes h2];simp only[byI,bv,List.map_cons,List.singleton_append,List.cons.injEq,and_true]
  congr 1
  simp
  omega
 | [],_::_,g=>g.elim
 | _::_,[],g=>g.elim
theorem rsl_bytes{cs:List Value}{xs:List Int}(h:RSl W 1 (RI .u8) cs xs):∃ ao cap,cs=[.slice ao (byI xs).length cap]/\IsS (hp W) ao (byI xs).length cap 1 (bv (byI xs)):=by
 obtain ⟨ao,cap,css,rfl,x,h2⟩:=h;rw[all2_bytes h2] at x;rw[<-byI_len xs] at x ⊢;exact ⟨ao,cap,I,x⟩
theorem all2_ints:∀ {css:List (List Value)} {xs:List Int},All2 (RI .i64) css xs->css.flatten=iv xs/\∀ v∈xs,-9223372036854775808<=v/\v<=9223372036854775807
 | [],[],_=>⟨rfl,by simp⟩
 | c::cs,x::xs,⟨h1,h2⟩=>by
  obtain ⟨rfl,hb⟩:=ri_i64 h1;obtain ⟨g1,g2⟩:=all2_ints h2;refine ⟨by rw[List.flatten_cons,g1];simp[iv],fun v hv=>?_⟩;rcases List.mem_cons.1 hv with rfl|hv
  ·exact hb
  ·exact g2 v hv
 | [],_::_,g=>g.elim
 | _::_,[],g=>g.elim
theorem rsl_ints{cs:List Value}{xs:List Int}(h:RSl W 1 (RI .i64) cs xs):∃ ao cap,cs=[.slice ao xs.length cap]/\IsS (hp W) ao xs.length cap 1 (iv xs)/\∀ v∈xs,-9223372036854775808<=v/\v<=9223372036854775807:=by
 obtain ⟨ao,cap,css,rfl,x,h2⟩:=h;obtain ⟨g1,g2⟩:=all2_ints h2;rw[g1] at x;exact ⟨ao,cap,I,x,g2⟩
abbrev RCf(W:World):=RP (RSl W 1 (RI .i64)) R0
abbrev mCf(x:List Int×Unit):Nat:=sumM (fun _=>1) x.1+1+0+1
theorem cfOpens:Opens enc Tryz.prog W 29 1 (RCf W) mCf:=by
 exact Opens.struct Tryz.underlying29 qk<|OpensF.cons (off:=0) (sz1:=1) (sz2:=0) I (Opens.slice Tryz.underlying27 qk<|Opens.int Tryz.underlying3 qk) OpensF.nil
abbrev REn(W:World):=RP (RI .u64) (RP (RI .u64) (RP (RI .i64) (RP (RSl W 1 (RI .u8)) R0)))
abbrev mEn(x:Int×Int×Int×List Int×Unit):Nat:=1+(1+(1+(sumM (fun _=>1) x.2.2.2.1+1+0)))+1
def toEnt(x:Int×Int×Int×List Int×Unit):Ent:=⟨x.1.toNat,x.2.1.toNat,x.2.2.1,byI x.2.2.2.1⟩
theorem enOpens:Opens enc Tryz.prog W 46 4 (REn W) mEn:=by
 refine Opens.struct Tryz.underlying46 qk ?_
 exact OpensF.cons (off:=0) (sz1:=1) (sz2:=3) I (Opens.int Tryz.underlying23 qk) (OpensF.cons (off:=1) (sz1:=1) (sz2:=2) I (Opens.int Tryz.underlying23 qk) (OpensF.cons (off:=2) (sz1:=1) (sz2:=1) I (Opens.int Tryz.underlying3 qk)
  (OpensF.cons (off:=3) (sz1:=1) (sz2:=0) rfl (Opens.slice Tryz.underlying30 qk (Opens.int Tryz.underlying5 qk)) OpensF.nil)))
theorem ent_of{cs:List Value}{x:Int×Int×Int×List Int×Unit}(hR:REn W cs x):EntC (hp W) cs (toEnt x)/\(toEnt x).idx<=mxU/\(toEnt x).term<=mxU:=by
 obtain ⟨i,t,k,dd,u⟩:=x;obtain ⟨c1,c2,e1,h1,c3,c4,e2,h2,c5,c6,e3,h3,c7,c8,e4,h4,h5⟩:=hR;obtain ⟨rfl,hi⟩:=ri_u64 h1;obtain ⟨rfl,ht⟩:=ri_u64 h2;obtain ⟨rfl,_⟩:=ri_i64 h3;obtain ⟨ao,cap,rfl,x⟩:=rsl_bytes h4;obtain rfl:c8=[]:=h5;exact ⟨⟨ao,cap,by rw[e1,e2,e3,e4];rfl,x⟩,hi,ht⟩
theorem all2_ents:∀ {css:List (List Value)} {xs:List (Int×Int×Int×List Int×Unit)},All2 (REn W) css xs->All2 (EntC (hp W)) css (xs.map toEnt)/\∀ x∈xs,(toEnt x).idx<=mxU/\(toEnt x).term<=mxU
 | [],[],_=>⟨trivial,by simp⟩
 | c::cs,x::xs,⟨h1,h2⟩=>by
  obtain ⟨g1,g2⟩:=ent_of h1;obtain ⟨k1,k2⟩:=all2_ents h2;refine ⟨⟨g1,k1⟩,fun y hy=>?_⟩;rcases List.mem_cons.1 hy with rfl|hy
  ·exact g2
  ·exact k2 y hy
 | [],_::_,g=>g.elim
 | _::_,[],g=>g.elim
theorem rsl_ents{cs:List Value}{xs:List (Int×Int×Int×List Int×Unit)}(h:RSl W 4 (REn W) cs xs):∃ ao cap,cs=[.slice ao (xs.map toEnt).length cap]/\EntsS (hp W) ao cap (xs.map toEnt)/\∀ x∈xs,(toEnt x).idx<=mxU/\(toEnt x).term<=mxU:=by
 obtain ⟨ao,cap,css,rfl,x,h2⟩:=h;obtain ⟨g1,g2⟩:=all2_ents h2;have e:xs.length=(xs.map toEnt).length:=by simp
 rw[e] at x ⊢;exact ⟨ao,cap,I,⟨css,x,g1⟩,g2⟩
def mP{α β:Type}(m1:α->Nat)(m2:β->Nat)(x:α×β):Nat:=m1 x.1+m2 x.2
def mS{α:Type}(m:α->Nat)(x:α):Nat:=m x+1
def mL{α:Type}(m:α->Nat)(xs:List α):Nat:=sumM m xs+1
def mU{α:Type}(_:α):Nat:=1
def mZ(_:Unit):Nat:=0
theorem consM{P:Program}{α β:Type}{off sz1 sz2:Nat}{f:Field}{fs:List Field}{R1:List Value->α->Prop}{R2:List Value->β->Prop}{m1:α->Nat}{m2:β->Nat}(hf:f.offset=off)(o1:Opens enc P W f.type sz1 R1 m1)(o2:OpensF enc P W (off+sz1) fs sz2 R2 m2):
  OpensF enc P W off (f::fs) (sz1+sz2) (RP R1 R2) (mP m1 m2):=OpensF.cons hf o1 o2
theorem intM{P:Program}{t:TypeId}{k:IntKind}(ht:P.underlying t=some (.int k))(hc:P.cellsOf t=1):Opens enc P W t 1 (RI k) mU:=Opens.int ht hc
theorem nilM{P:Program}{off:Nat}:OpensF enc P W off [] 0 R0 mZ:=OpensF.nil
theorem sliceM{P:Program}{α:Type}{t e:TypeId}{sz:Nat}{R:List Value->α->Prop}{m:α->Nat}(ht:P.underlying t=some (.slice e))(hc:P.cellsOf t=1)(o:Opens enc P W e sz R m):Opens enc P W t 1 (RSl W sz R) (mL m):=Opens.slice ht hc o
theorem structM{P:Program}{α:Type}{t:TypeId}{sz:Nat}{fs:Array Field}{R:List Value->α->Prop}{m:α->Nat}(ht:P.underlying t=some (.struct fs))(hc:P.cellsOf t=sz)(o:OpensF enc P W 0 fs.toList sz R m):Opens enc P W t sz R (mS m):=Opens.struct ht hc o
theorem sumM_U{α:Type}(xs:List α):sumM mU xs=xs.length:=sumM_one xs
end opens
end
section
attribute [local irreducible] Code.wp wpList Calls
section rules
variable {P:Program} {T:Tab} {w0:World} {ops:Array Oper} {Q:Exit->Act->World->Prop} {rest rest':List Oper} {n:Nat} {l l':Sl} {K:PH} {hs:List PH}
def siAt(T:Tab)(ops:Array Oper)(n k:Nat)(rest:List Oper)(l:Sl):Option (Nat×ByteArray×Int×List Oper×Sl):=
 match opAt T ops n k rest l with
 | some (o,r,l')=>match o.dst,o.op with
  | some d,.index t x i=>match Nat.blt d n,asc T.kinds t,ev l' x,ev l' i with
   | true,some .str,some (.string s),some (.int _ j)=>some (d,s,j,r,l')
   | _,_,_,_=>none
  | _,_=>none
 | _=>none
theorem fits_str{d:TypeDesc}(h:UK.fits .str d=true):d=.string:=by cases d <;> simp[UK.fits] at h ⊢
theorem six(hT:TabOK P T)(k:Nat){d:Nat}{i:Int}(xs:List UInt8)(j:Nat){b:UInt8}{s:ByteArray}
  (h0:siAt T ops n k rest l=some (d,s,i,rest',l')) (hs1:s=⟨xs.toArray⟩) (hj:i=(j:Int)) (hb':xs[j]?=some b)
  (hk:WL P w0 ops Q rest' n ((d,.int .u8 b.toNat)::l') K hs):WL P w0 ops Q rest n l K hs:=by
 unfold siAt at h0
 split at h0
 ·rename_i o r l2 ho
  split at h0
  ·rename_i d' t x' i' hd hop
   split at h0
   ·rename_i s' kk jj hb hsi hx hi;simp only[Option.some.injEq,Prod.mk.injEq] at h0;obtain ⟨rfl,rfl,rfl,rfl,rfl⟩:=h0;subst hj hs1;obtain ⟨dd,g1,g2⟩:=hT.kind hsi;obtain rfl:=fits_str g2;refine WL.at' hT ho fun hg=>WL.val (R:=fun u K' hs'=>u=.int .u8 b.toNat/\K'=K/\hs'=hs) hd hb hg (fun A w ha hw=>⟨_,w,K,hs,?_,hw,I,I,I⟩) ?_
    ·have h2:(⟨xs.toArray⟩:ByteArray)[j]?=some b:=by
      obtain ⟨hlt,he⟩:=List.getElem?_eq_some_iff.1 hb';have hsz:j<(⟨xs.toArray⟩:ByteArray).size:=by simpa[ByteArray.size] using hlt
      rw[getElem?_pos _ j hsz];simpa[ByteArray.getElem_eq_getElem_data] using he
     simp only[execOp,hop,ha.ev hx,ha.ev hi];simp[Instr.index,asIntOf,run_underlying g1,h2]
    ·rintro u K' hs' ⟨rfl,rfl,rfl⟩;exact hk
   ·simp at h0
  ·simp at h0
 ·simp at h0
def iaAt(T:Tab)(ops:Array Oper)(n k:Nat)(rest:List Oper)(l:Sl):Option (Nat×Nat×Addr×Int×List Oper×Sl):=
 match opAt T ops n k rest l with
 | some (o,r,l')=>match o.dst,o.op with
  | some d,.indexAddr t x i=>match Nat.blt d n,ev l' x,ev l' i with
   | true,some (.pointer (some a)),some (.int _ j)=>some (d,t,a,j,r,l')
   | _,_,_=>none
  | _,_=>none
 | _=>none
theorem ixa(hT:TabOK P T)(k:Nat){d t len e sz:Nat}{a:Addr}{i:Int}(j:Nat)(h0:iaAt T ops n k rest l=some (d,t,a,i,rest',l'))(hu:P.underlying t=some (.array len e))(he:(P.info? e).map (·.size)=some sz)(hj:i=(j:Int))(hjn:j<len)
  (hk:WL P w0 ops Q rest' n ((d,.pointer (some (a.add (j*sz))))::l') K hs):WL P w0 ops Q rest n l K hs:=by
 unfold iaAt at h0
 split at h0
 ·rename_i o r l2 ho
  split at h0
  ·rename_i d' t x' i' hd hop
   split at h0
   ·rename_i a' kk jj hb hx hi;simp only[Option.some.injEq,Prod.mk.injEq] at h0;obtain ⟨rfl,rfl,rfl,rfl,rfl,rfl⟩:=h0;subst hj;cases hii:P.info? e with
    | none=>rw[hii] at he;cases he
    | some ii=>
     rw[hii] at he;have hsz:ii.size=sz:=by simpa using he
     refine WL.at' hT ho fun hg=>WL.val (R:=fun u K' hs'=>u=.pointer (some<|a'.add (j*sz))/\K'=K/\hs'=hs) hd hb hg (fun A w ha hw=>⟨_,w,K,hs,?_,hw,I,I,I⟩) ?_
     ·simp only[execOp,hop,ha.ev hx,ha.ev hi];simp[Instr.indexAt,Instr.sureAddr,asIntOf,run_underlying hu,sizeOf,typeInfo,hii,hsz,hjn]
     ·rintro u K' hs' ⟨rfl,rfl,rfl⟩;exact hk
   ·simp at h0
  ·simp at h0
 ·simp at h0
end rules
section make
variable {P:Program} {T:Tab} {w0:World} {ops:Array Oper} {Q:Exit->Act->World->Prop} {rest rest':List Oper} {n:Nat} {l l':Sl} {K:PH} {hs:List PH}
end make
section three
variable {P:Program} {T:Tab} {w0:World} {ops:Array Oper} {Q:Exit->Act->World->Prop} {rest rest':List Oper} {n:Nat} {l l':Sl} {K:PH} {hs:List PH}
end three
section openx
variable {P:Program} {T:Tab} {w0:World} {ops:Array Oper} {Q:Exit->Act->World->Prop} {plan plan':List Nat} {z:Nat} {listed listed':Array Bool} {n:Nat} {l l':Sl} {K K0:PH} {hs A:List PH}
end openx
section clear
variable {P:Program} {T:Tab} {w0:World} {ops:Array Oper} {Q:Exit->Act->World->Prop} {rest rest':List Oper} {n:Nat} {l l':Sl} {K:PH} {hs:List PH}
end clear
end
section
def fz(r:Option Nat):Fence:={ fn:=fun _=>True,depth:=none,alive:=false,round:=r }
def wd(ds:List Deferred)(a:Act):Act:={ a with defers:=ds }
def adj(ds:List Deferred)(Q:Exit->Act->World->Prop):Exit->Act->World->Prop
 | .outgrown,_,_=>False
 | e,a,w=>a.defers=[]/\Q e (wd ds a) w
def WX(P:Program)(w0:World)(r:Option Nat)(ds:List Deferred)(c:Code)(Q:Exit->Act->World->Prop)(n:Nat)(l:Sl)(K:PH)(hs:List PH):Prop:=
 ∀ a w,Ag n l a->Sat w0 w K hs->c.wpIn (fz r) 0 P Q (wd ds a) w
def WQX(ds:List Deferred)(w0:World)(Q:Exit->Act->World->Prop)(e:Exit)(n:Nat)(l:Sl)(K:PH)(hs:List PH):Prop:=
 ∀ a w,Ag n l a->Sat w0 w K hs->Q e (wd ds a) w
def WLI(P:Program)(w0:World)(r:Option Nat)(ds:List Deferred)(ops:Array Oper)(Q:Exit->Act->World->Prop)(rest:List Oper)(n:Nat)(l:Sl)(K:PH)(hs:List PH):Prop:=
 ∀ a w,Ag n l a->Sat w0 w K hs->wpListIn (fz r) 0 P ops Q rest (wd ds a) w
theorem wd_put(ds:List Deferred)(a:Act)(d:Option Tmp)(v:Value):wd ds (a.put d v)=(wd ds a).put d v:=by cases d <;> rfl
theorem calls_fz{r:Option Nat}{P:Program}{f:FuncId}{args:Array Value}{w:World}{R:Ending->World->Prop}(h:Calls P f args w R):CallsIn (fz r) 0 P f args w R:=by
 have h1:CallsIn Fence.wide 0 P f args w R:=callsIn_wide.2 h;cases r with
 | none=>exact h1
 | some l=>exact h1
theorem rows_fz{r:Option Nat}{P:Program}{row:String}{args:Array Value}{w:World}{R:Value->World->Prop}(h:Rows P row args w R):RowsIn (fz r) 0 P row args w R:=
 fun c cs _=>let ⟨v,w',hr,s⟩:=h c cs;⟨v,w',hr,(stepsIn_wide.2 s:StepsIn (Machine.fenced P Fence.wide) P _ _)⟩
theorem adj_d{ds:List Deferred}{Q:Exit->Act->World->Prop}{e:Exit}{a:Act}{w:World}(h:adj ds Q e a w):a.defers=[]:=by cases e <;> first|exact h.1|exact h.elim
theorem put_d(a:Act)(d:Option Tmp)(v:Value):(a.put d v).defers=a.defers:=by cases d <;> rfl
theorem upon_d{P:Program}{o:Oper}{a:Act}{N:Act->World->Prop}{Q:Exit->Act->World->Prop}(hN:∀ a w,N a w->a.defers=[])(hQ:∀ e a w,Q e a w->a.defers=[])(hg:∀ a w,¬Q .outgrown a w){x:Result Next}(h:o.upon P a N Q x):a.defers=[]:=by
 cases x with
 | ok n w'=>
  cases n <;> simp only[Oper.upon] at h <;> first
   | exact (put_d _ _ _).symm.trans (hN _ _ h)
   | exact h.elim
   | (
     have:=hN _ _ h
     rw[put_d] at this;cases this)
   | (
     obtain ⟨v,w1,hR,_⟩:=h default []
     exact (put_d _ _ _).symm.trans (hN _ _ hR))
   | (
     obtain ⟨e,w1,fr,hR,_⟩:=h []
     cases e with
     | returned v=>exact (put_d _ _ _).symm.trans (hN _ _ hR)
     | panicked c=>exact hQ _ _ _ hR
     | outgrown=>obtain ⟨a1,w1,hh⟩:=hR;exact (hg _ _ hh).elim)
 | halt x w'=>
  cases x <;> simp only[Oper.upon] at h <;> first
   | exact h.elim
   | exact hQ _ _ _ h
theorem upon_fz{r:Option Nat}{P:Program}{o:Oper}{a:Act}{ds:List Deferred}{N N':Act->World->Prop}{Q Q':Exit->Act->World->Prop}(hd:∀ a w,N a w->a.defers=[])(hN:∀ a w,N a w->N' (wd ds a) w)(hQ:∀ c w,Q (.panic c) a w->Q' (.panic c) (wd ds a) w)
  (hg:∀ a w,¬Q .outgrown a w) {x:Result Next} (h:o.upon P a N Q x):o.uponIn (fz r) 0 P (wd ds a) N' Q' x:=by
 cases x with
 | ok n w'=>
  cases n <;> simp only[Oper.upon] at h <;> first
   | (simp only[Oper.uponIn,<-wd_put];exact hN _ _ h)
   | exact h.elim
   | (
     have:=hd _ _ h
     rw[put_d] at this;cases this)
   | (
     refine ⟨by simp[fz],(rows_fz h).mono fun v w'' he=>?_⟩
     simp only[<-wd_put];exact hN _ _ he)
   | (
     refine ⟨by simp[fz],(calls_fz h).mono fun e w'' he=>?_⟩
     cases e with
     | returned v=>simp only[<-wd_put];exact hN _ _ he
     | panicked c=>exact hQ _ _ he
     | outgrown=>obtain ⟨a1,w1,hh⟩:=he;exact (hg _ _ hh).elim)
 | halt x w'=>
  cases x <;> simp only[Oper.upon] at h ⊢ <;> first
   | exact h.elim
   | exact hQ _ _ h
theorem wpList_d{P:Program}{ops:Array Oper}{ds:List Deferred}{Q:Exit->Act->World->Prop}:∀ (rest:List Oper) (a:Act) (w:World),wpList P ops (adj ds Q) rest a w->a.defers=[]
 | [],a,w,h=>adj_d h
 | o::rest,a,w,h=>by
  unfold wpList at h
  split at h
  ·rcases h with h|⟨_,a1,w1,h⟩
   ·exact upon_d (Q:=adj ds Q) (fun a w=>wpList_d rest a w) (fun e a w h=>adj_d h) (fun a w h=>h) h
   ·exact h.elim
  ·exact (put_d _ _ _).symm.trans<|wpList_d rest _ _ h
theorem wp_nodefer{P:Program}{o:Oper}{a:Act}{w:World}{N:Act->World->Prop}{Q:Exit->Act->World->Prop}(hN:∀ a w,N a w->a.defers=[])(h:o.wp P a w N Q){c:Call}(hc:o.op=.defer c):∃ v w',(resolve a.eval c o.type).run P w=.halt v w':=by
 unfold Oper.wp at h;simp only[execOp,hc] at h;rw[Sem.run_bind] at h;cases e:(resolve a.eval c o.type).run P w with
 | ok x w1=>
  rw[e] at h;simp only[Result.andThen,Sem.run_pure,Oper.upon] at h;have:=hN _ _ h;rw[put_d] at this;cases this
 | halt v w1=>exact ⟨v,w1,rfl⟩
theorem wpIn_fz{r:Option Nat}{P:Program}{o:Oper}{a:Act}{w:World}{ds:List Deferred}{N N':Act->World->Prop}{Q Q':Exit->Act->World->Prop}(hd:∀ a w,N a w->a.defers=[])(hN:∀ a w,N a w->N' (wd ds a) w)(hQ:∀ c w,Q (.panic c) a w->Q' (.panic c) (wd ds a) w)
  (hg:∀ a w,¬Q .outgrown a w) (h:o.wp P a w N Q):o.wpIn (fz r) 0 P (wd ds a) w N' Q':=by
 refine ⟨fun _ _=>trivial,?_⟩;have h1:=upon_fz (r:=r) hd hN hQ hg h
 by_cases hc:∃ c,o.op=.defer c
 ·obtain ⟨c,hc⟩:=hc;obtain ⟨v,w1,he⟩:=wp_nodefer hd h hc;have e1:(execOp a.eval o).run P w=.halt v w1:=by simp only[execOp,hc];rw[Sem.run_bind,he];rfl
  rw[e1] at h1
  have e2:(o.semAt (fz r).round (wd ds a).eval).run P w=.halt v w1:=by
   cases r with
   | none=>exact e1
   | some l=>
    simp only[Oper.semAt,fz,hc];rw[Sem.run_bind];show Result.andThen ((resolve a.eval c o.type).run P w) _=_;rw[he];rfl
  rw[e2];exact h1
 ·have e2:o.semAt (fz r).round (wd ds a).eval=execOp a.eval o:=Oper.semAt_eq _ _ _ (fun c hh=>hc ⟨c,hh⟩);rw[e2];exact h1
theorem list_fz2{r:Option Nat}{P:Program}{ops:Array Oper}{ds:List Deferred}{Q Q':Exit->Act->World->Prop}(rest2:List Oper)(hn:∀ a w,Q .normal (wd ds a) w->wpListIn (fz r) 0 P ops Q' rest2 (wd ds a) w)(hp:∀ c a w,Q (.panic c) (wd ds a) w->Q' (.panic c) (wd ds a) w):∀ (rest:List Oper) (a:Act) (w:World),wpList P ops (adj ds Q) rest a w->wpListIn (fz r) 0 P ops Q' (rest++rest2) (wd ds a) w
 | [],a,w,h=>hn a w h.2
 | o::rest,a,w,h=>by
  unfold wpList at h;rw[List.cons_append];unfold wpListIn;show if Region.wanted o (yielded ops a.tmps)=true then _ else _
  split at h
  ·rename_i hw;rw[if_pos hw];rcases h with h|⟨_,a1,w1,h⟩
   ·exact wpIn_fz (fun a w=>wpList_d rest a w) (fun a w=>list_fz2 rest2 hn hp rest a w) (fun c w h=>hp c a w h.2) (fun a w h=>h) h
   ·exact h.elim
  ·rename_i hw;rw[if_neg hw];exact ⟨fun _ _=>trivial,by rw[<-wd_put];exact list_fz2 rest2 hn hp rest _ w h⟩
theorem list_fz{r:Option Nat}{P:Program}{ops:Array Oper}{ds:List Deferred}{Q:Exit->Act->World->Prop}(rest:List Oper)(a:Act)(w:World)(h:wpList P ops (adj ds Q) rest a w):wpListIn (fz r) 0 P ops Q rest (wd ds a) w:=by
 have:=list_fz2 (r:=r) (ds:=ds) (Q:=Q) (Q':=Q) (P:=P) (ops:=ops) [] (fun a w h=>h) (fun c a w h=>h) rest a w h
 rwa [List.append_nil] at this
theorem adj_out{ds:List Deferred}{Q:Exit->Act->World->Prop}(e:Exit)(a:Act)(w:World)(h:adj ds Q e a w):Q e (wd ds a) w:=by cases e <;> first|exact h.2|exact h.elim
theorem tr_d{P:Program}{md:Region.Mode}{ops:Array Oper}{q:Act->World->Prop}{S:Array Bool->World->Prop}(hq:∀ a w,q a w->a.defers=[]):∀ (f:Nat) (L:Array Bool) (a:Act) (w:World),tr P md ops q S f L a w->a.defers=[]
 | 0,_,a,w,h=>hq _ _ h.2
 | f+1,L,a,w,h=>by
  cases e:Region.ready md ops L with
  | nil=>exact hq _ _ (h.1 e)
  | cons i rs=>
   have h1:=h.2 i (by rw[e];simp);unfold wpOp at h1
   split at h1
   ·exact tr_d hq f _ _ _ h1.2
   ·split at h1
    ·rcases h1 with h1|⟨_,a1,w1,h1⟩
     ·exact upon_d (fun a w h=>tr_d hq f _ _ _ h.2) (fun e a w h=>by cases e <;> first|exact hq _ _ h|exact h.elim) (fun a w h=>h) h1
     ·exact h1.elim
    ·exact (put_d _ _ _).symm.trans<|tr_d hq f _ _ _ h1.2
theorem tr_fz{r:Option Nat}{P:Program}{md:Region.Mode}{ops:Array Oper}{ds:List Deferred}{q:Act->World->Prop}{S:Array Bool->World->Prop}{Q:Exit->Act->World->Prop}(hd:∀ a w,q a w->a.defers=[])(hq:∀ a w,q a w->Q .normal (wd ds a) w):
  ∀ (f:Nat) (L:Array Bool) (a:Act) (w:World),tr P md ops q S f L a w->wpAnyIn (fz r) 0 P md ops Q f L (wd ds a) w
 | 0,_,a,w,h=>⟨h.1,hq _ _ h.2⟩
 | f+1,L,a,w,h=>by
  refine ⟨fun h0=>hq _ _ (h.1 h0),fun i hi=>?_⟩;have h1:=h.2 i hi;unfold wpOp at h1;unfold wpOpIn
  split at h1
  ·rename_i e;simp only[e];exact tr_fz hd hq f _ _ _ h1.2
  ·rename_i o e;simp only[e]
   split at h1
   ·rename_i hw;rw[if_pos (show Region.wanted o (yielded ops (wd ds a).tmps)=true from hw)];rcases h1 with h1|⟨_,a1,w1,h1⟩
    ·exact wpIn_fz (fun a w h=>tr_d hd f _ _ _ h.2) (fun a w h=>tr_fz hd hq f _ _ _ h.2) (fun c w h=>h.elim) (fun a w h=>h) h1
    ·exact h1.elim
   ·rename_i hw;rw[if_neg (show ¬Region.wanted o (yielded ops (wd ds a).tmps)=true from hw)];exact ⟨fun _ _=>trivial,by rw[<-wd_put];exact tr_fz hd hq f _ _ _ h1.2⟩
section code
variable {P:Program} {w0:World} {r:Option Nat} {ds:List Deferred} {Q:Exit->Act->World->Prop} {n:Nat} {l:Sl} {K:PH} {hs:List PH}
theorem sqX{x y:Code}(h:WX P w0 r ds x (Exit.then (y.wpIn (fz r) 0 P Q) Q) n l K hs):WX P w0 r ds (.seq x y) Q n l K hs:=
 fun a w ha hw=>wpIn_seq (h a w ha hw)
theorem rgX{id:Nat}{o:List Oper}(h:WL P w0 o.toArray (adj ds Q) o n l K hs):WX P w0 r ds (.region id o.toArray false) Q n l K hs:=
 fun a w ha hw=>wpIn_region_lit (list_fz o a w (h a w ha hw))
theorem bkX{id:Nat}{c:Code}(h:WX P w0 r ds c (Exit.inBlock id Q) n l K hs):WX P w0 r ds (.block id c) Q n l K hs:=
 fun a w ha hw=>wpIn_block (h a w ha hw)
theorem exX{id:Nat}(h:WQX ds w0 Q (.exit id) n l K hs):WX P w0 r ds (.exit id) Q n l K hs:=
 fun a w ha hw=>wpIn_exit (h a w ha hw)
theorem rtX(h:WQX ds w0 Q .ret n l K hs):WX P w0 r ds .ret Q n l K hs:=
 fun a w ha hw=>wpIn_ret (h a w ha hw)
theorem skX(h:WQX ds w0 Q .normal n l K hs):WX P w0 r ds .skip Q n l K hs:=
 fun a w ha hw=>wpIn_skip (h a w ha hw)
theorem evX{n:Nat}{l:Sl}{a:Act}(h:Ag n l a){x:Operand}{v:Value}(hx:ev l x=some v):(wd ds a).eval x=v:=h.ev hx
theorem ifTX{c:Operand}{x y:Code}(hc:ev l c=some (.bool true))(h:WX P w0 r ds x Q n l K hs):WX P w0 r ds (.cond c x y) Q n l K hs:=
 fun a w ha hw=>wpIn_cond_true (evX ha hc) (h a w ha hw)
theorem ifFX{c:Operand}{x y:Code}(hc:ev l c=some (.bool false))(h:WX P w0 r ds y Q n l K hs):WX P w0 r ds (.cond c x y) Q n l K hs:=
 fun a w ha hw=>wpIn_cond_false (evX ha hc) (h a w ha hw)
theorem ifBX{c:Operand}{x y:Code}{b:Bool}(hc:ev l c=some (.bool b))(h:b=true->WX P w0 r ds x Q n l K hs)(h':b=false->WX P w0 r ds y Q n l K hs):WX P w0 r ds (.cond c x y) Q n l K hs:=
 fun a w ha hw=>wpIn_cond_split (evX ha hc) (fun e=>h e a w ha hw) (fun e=>h' e a w ha hw)
theorem ifPX{c:Operand}{x y:Code}{b:Bool}{p:Prop}(hb:b=true↔p)(hc:ev l c=some (.bool b))(h:p->WX P w0 r ds x Q n l K hs)(h':¬p->WX P w0 r ds y Q n l K hs):WX P w0 r ds (.cond c x y) Q n l K hs:=
 ifBX hc (fun e=>h (hb.1 e)) (fun e=>h' (fun hp=>by rw[hb.2 hp] at e;cases e))
theorem nxX(h:WQX ds w0 Q .normal n l K hs):WQ w0 (adj ds Q) .normal n l K hs:=fun a w ha hw=>⟨ha.defers,h a w ha hw⟩
theorem thX{y:Code}{Q':Exit->Act->World->Prop}(h:WX P w0 r ds y Q n l K hs):WQX ds w0 (Exit.then (y.wpIn (fz r) 0 P Q) Q') .normal n l K hs:=h
theorem blX{id:Nat}(h:WQX ds w0 Q .normal n l K hs):WQX ds w0 (Exit.inBlock id Q) .normal n l K hs:=h
theorem xtX{id:Nat}{N:Act->World->Prop}(h:WQX ds w0 Q (.exit id) n l K hs):WQX ds w0 (Exit.then N Q) (.exit id) n l K hs:=h
theorem xbX{id:Nat}(h:WQX ds w0 Q .normal n l K hs):WQX ds w0 (Exit.inBlock id Q) (.exit id) n l K hs:=fun a w ha hw=>by
 simpa[Exit.inBlock] using h a w ha hw
theorem rTX{N:Act->World->Prop}(h:WQX ds w0 Q .ret n l K hs):WQX ds w0 (Exit.then N Q) .ret n l K hs:=h
theorem rBX{id:Nat}(h:WQX ds w0 Q .ret n l K hs):WQX ds w0 (Exit.inBlock id Q) .ret n l K hs:=h
theorem loopX{σ:Type}{body:Code}(F:σ->Sl)(HK:σ->PH)(H:σ->List PH)(J:σ->Prop)(μ:σ->Nat)(x0:σ)(h0:J x0)(hF:Sub l (F x0))(hK:K=HK x0)(hH:hs=H x0)
  (round:∀ x,J x->WX P w0 r ds body (Exit.then (fun a w=>∃ x',J x'/\μ x'<μ x/\(∃ a',a=wd ds a'/\Ag n (F x') a')/\Sat w0 w (HK x') (H x')) Q) n (F x) (HK x) (H x)):
  WX P w0 r ds (.loop body) Q n l K hs:=fun a w ha hw=>by
 subst hK;subst hH;refine wpIn_loop_ghost (fun m a w=>∃ x,J x/\μ x=m/\(∃ a',a=wd ds a'/\Ag n (F x) a')/\Sat w0 w (HK x) (H x)) (μ x0) ⟨x0,h0,I,⟨a,I,ha.sub hF⟩,hw⟩ ?_;rintro m a w ⟨x,hJ,rfl,⟨a',rfl,hA⟩,hS⟩;refine wpIn_mono (round x hJ a' w hA hS) ?_;intro e a' w' hq;cases e with
 | normal=>
  obtain ⟨x',h1,h2,h3,h4⟩:=hq;exact ⟨μ x',h2,x',h1,I,h3,h4⟩
 | exit id=>exact hq
 | goto l=>exact hq
 | ret=>exact hq
 | panic ch=>exact hq
 | outgrown=>exact hq
theorem againX{σ:Type}{F:σ->Sl}{HK:σ->PH}{H:σ->List PH}{J:σ->Prop}{μ:σ->Nat}{x:σ}{Q':Exit->Act->World->Prop}(x':σ)(hF:Sub l (F x'))(hK:K=HK x')(hH:hs=H x')
  (h1:J x') (h2:μ x'<μ x):WQX ds w0 (Exit.then (fun a w=>∃ x',J x'/\μ x'<μ x/\(∃ a',a=wd ds a'/\Ag n (F x') a')/\Sat w0 w (HK x') (H x')) Q') .normal n l K hs:=fun a w ha hw=>by
 subst hK;subst hH;exact ⟨x',h1,h2,⟨a,I,ha.sub hF⟩,hw⟩
theorem rgaX{id:Nat}{o:List Oper}(A:List PH)(z:Nat)(plan:List Nat)(hA:∀ h∈A,h∈hs)(hm:P.follows .mixedOrders=true)(hp:(planOK .any o.toArray plan (Array.replicate o.toArray.size false) && Nat.beq plan.length o.toArray.size)=true)
  (h:WA P w0 o.toArray (adj ds Q) K A z plan (Array.replicate o.toArray.size false) n l K hs):WX P w0 r ds (.region id o.toArray true) Q n l K hs:=by
 intro a w ha hw;simp only[Bool.and_eq_true] at hp;refine wpIn_region_any hm ?_;have hlen:plan.length=o.toArray.size:=Nat.eq_of_beq_eq_true hp.2;have hw':Sat w0 { w with drawn:=w.drawn+1 } K hs:=hw.drew
 have hc:Closed .any o.toArray (Array.replicate o.toArray.size false):=by
  refine ⟨by simp,?_⟩;intro j oj hj hl;have:(Array.replicate o.toArray.size false).getD j false=false:=getD_replicate_false _ _;rw[this] at hl;cases hl
 have hh:=h hp.1 hc a { w with drawn:=w.drawn+1 } ha hw' (fun _=>HasL.ofMem hw' hA);rw[hlen] at hh;exact tr_fz (fun a w h=>adj_d h) (fun a w h=>adj_out .normal a w h) _ _ _ _ hh
end code
def mkd(D:Nat):Deferred:={ target:=.collected D,args:=#[] }
def dfr(D:Nat):PH:=sg D (.deferred (some []))
theorem Sat.putObj{w0 w:World}{K:PH}{hs:List PH}(s:Sat w0 w K hs){i b:Nat}{o:Obj}(hi:hs[i]?=some (sg b o))(o':Obj):Sat w0 (w.putObj b o') K (hs.set i (sg b o')):=by
 have hb:w.heap[b]?=some o:=s.own i _ hi b _ (by simp);refine s.upd hi I I I (by simp) ?_ ?_ ?_
 ·intro x u hx;simp only[sg] at hx
  split at hx
  ·rename_i e;subst e;cases hx;exact World.putObj_heap_same (lt_of_some hb)
  ·cases hx
 ·intro x hx hn;simp only[sg] at hn
  split at hn
  ·cases hn
  ·rename_i e;exact World.putObj_heap_other e
 ·intro x u hx hn;simp only[sg] at hx hn
  split at hx
  ·rename_i e;rw[if_pos e] at hn;cases hn
  ·cases hx
theorem Sat.dropLast{w0 w:World}{K x:PH}{hs:List PH}(s:Sat w0 w K (hs++[x])):Sat w0 w K hs:=(s.perm (List.perm_append_singleton x hs)).dropHead
theorem Sat.putLast{w0 w:World}{K:PH}{hs:List PH}{b:Nat}{o:Obj}(s:Sat w0 w K (hs++[sg b o]))(o':Obj):Sat w0 (w.putObj b o') K (hs++[sg b o']):=by
 have:=s.putObj (i:=hs.length) (b:=b) (o:=o) (by simp) o'
 rwa [List.set_append_right _ _ (Nat.le_refl _),Nat.sub_self,List.set_cons_zero] at this
theorem Sat.last{w0 w:World}{K:PH}{hs:List PH}{b:Nat}{o:Obj}(s:Sat w0 w K (hs++[sg b o])):w.heap[b]?=some o:=s.own hs.length (sg b o) (by simp) b o (by simp)
theorem enterX{P:Program}{w0:World}{f:FuncId}{fn:Func}{c:Code}{n:Nat}{args:List Value}{K:PH}{hs:List PH}{R:Value->PH->List PH->Prop}
  (hf:P.funcs[f]?=some fn) (hcal:callable P f=true) (hb:fn.body=some c) (hn:fn.ntmps=n) (hl:Nat.ble args.length n=true)
  (h:WX P w0 none [] c (bodyPostM (fz none) 0 P fn (endR w0 R)) n (params 0 args) K hs):Ct P w0 f args K hs R:=by
 refine ⟨hcal,fun w hw=>callsIn_wide.1 (callsIn_of_wp_marks (F:=fz none) (n:=0) hf hb trivial<|h { tmps:=args.toArray++Array.replicate (fn.ntmps-args.toArray.size) undef,defers:=[] } w ⟨?_,I,?_⟩ hw)⟩
 ·have:=Nat.le_of_ble_eq_true hl;simp[hn];omega
 ·intro t v ht;obtain ⟨h1,h2⟩:=look_params args 0 t v ht;have h3:args[t]?=some v:=by simpa using h2
  have h4:t<args.length:=(List.getElem?_eq_some_iff.1 h3).1;have h5:args[t]=v:=by rw[List.getElem?_eq_getElem h4] at h3;exact Option.some.inj h3
  simp[Array.getElem?_append,h4,h5]
section ret
variable {P:Program} {w0:World} {fn:Func} {R:Value->PH->List PH->Prop} {n:Nat} {l:Sl} {K:PH} {hs hs':List PH} {v x y:Value}
theorem retsX{e:Exit}(he:e=.ret\/e=.normal)(hres:∀ a w,Ag n l a->Sat w0 w K hs->(results fn a.tmps).run P w=.ok v w)(h:R v K hs):WQX [] w0 (bodyPostM (fz none) 0 P fn (endR w0 R)) e n l K hs:=by
 intro a w ha hw;rcases he with rfl|rfl <;> exact ⟨v,hres a w ha hw,v,K,hs,rfl,h,hw⟩
theorem retmX{e:Exit}(D:Nat)(hh:hs=hs'++[dfr D])(he:e=.ret\/e=.normal)(hres:∀ a w,Ag n l a->Sat w0 w K hs'->(results fn a.tmps).run P w=.ok v w)(h:R v K hs'):WQX [mkd D] w0 (bodyPostM (fz none) 0 P fn (endR w0 R)) e n l K hs:=by
 subst hh;intro a w ha hw;have h1:Sat w0 (w.putObj D (.deferred none)) K hs':=(hw.putLast (.deferred none)).dropLast;have h2:=run_takeDeferred (P:=P) (hw.last);rcases he with rfl|rfl <;> exact ⟨by simp,.inl ⟨D,_,rfl,h2,v,hres a _ ha h1,v,K,hs',rfl,h,h1⟩⟩
theorem res0(hr:fn.results=#[]){a:Act}{w:World}:(results fn a.tmps).run P w=.ok (.tuple #[]) w:=results_none hr _ _ _
theorem res1{t:Nat}(hr:fn.results=#[.tmp t])(hv:look l t=some v){a:Act}(ha:Ag n l a){w:World}:(results fn a.tmps).run P w=.ok v w:=by
 have:=results_tmp hr a.tmps P w;rw[this];simp[ha.slot t v hv]
theorem ret0X(hr:fn.results=#[])(h:R (.tuple #[]) K hs):WQX [] w0 (bodyPostM (fz none) 0 P fn (endR w0 R)) .ret n l K hs:=retsX (.inl rfl) (fun _ _ _ _=>res0 hr) h
theorem end0X(hr:fn.results=#[])(h:R (.tuple #[]) K hs):WQX [] w0 (bodyPostM (fz none) 0 P fn (endR w0 R)) .normal n l K hs:=retsX (.inr rfl) (fun _ _ _ _=>res0 hr) h
theorem ret1M(D:Nat)(hh:hs=hs'++[dfr D]){t:Nat}(hr:fn.results=#[.tmp t])(hv:look l t=some v)(h:R v K hs'):WQX [mkd D] w0 (bodyPostM (fz none) 0 P fn (endR w0 R)) .ret n l K hs:=retmX D hh (.inl rfl) (fun _ _ ha _=>res1 hr hv ha) h
end ret
def YCt(P:Program)(w0:World)(L:Nat)(vs:List Value)(K:PH)(hs:List PH)(R:Value->PH->List PH->Prop):Prop:=∀ w,Sat w0 w K hs->∃ fn tmps assign body,(Instr.yield L vs.toArray).run P w=.ok (.round L fn tmps assign body) w/\RoundIn (fz none) 0 P L fn tmps assign body w (endR w0 R)
def ItCt(P:Program)(w0:World)(f:Nat)(cap:List Value)(xs:List (List Value))(Rd:PH->List PH->Prop):Prop:=
 ∀ (L:Nat) (St:Nat->PH->List PH->Prop) (Sp:PH->List PH->Prop),(∀ i K hs,St i K hs->Rd K hs) ->
  (∀ i vs K hs,xs[i]?=some vs->St i K hs->YCt P w0 L vs K hs (fun v K' hs'=>(v=.bool true/\St (i+1) K' hs')\/(v=.bool false/\Sp K' hs'))) ->
  ∀ K hs,St 0 K hs->Ct P w0 f (.func (.yield L) #[] #[]::cap) K hs (fun _ K' hs'=>St xs.length K' hs'\/Sp K' hs')
section it
variable {P:Program} {T:Tab} {w0:World} {r:Option Nat} {ds:List Deferred} {ops:Array Oper} {Q:Exit->Act->World->Prop} {rest rest':List Oper} {n:Nat} {l:Sl} {K:PH} {hs:List PH}
theorem rgI{id:Nat}{o:List Oper}(h:WLI P w0 r ds o.toArray Q o n l K hs):WX P w0 r ds (.region id o.toArray false) Q n l K hs:=fun a w ha hw=>wpIn_region_lit (h a w ha hw)
theorem WLI.fin(h:WL P w0 ops (adj ds Q) rest n l K hs):WLI P w0 r ds ops Q rest n l K hs:=fun a w ha hw=>list_fz rest a w (h a w ha hw)
def cutQ(P:Program)(r:Option Nat)(ops:Array Oper)(Q:Exit->Act->World->Prop)(rest2:List Oper):Exit->Act->World->Prop
 | .normal,a,w=>wpListIn (fz r) 0 P ops Q rest2 a w
 | _,_,_=>False
theorem WLI.cut(k:Nat)(h:WL P w0 ops (adj ds (cutQ P r ops Q (rest.drop k))) (rest.take k) n l K hs):WLI P w0 r ds ops Q rest n l K hs:=fun a w ha hw=>by
 have:=list_fz2 (r:=r) (Q:=cutQ P r ops Q (rest.drop k)) (Q':=Q) (rest.drop k) (fun a w h=>h) (fun c a w h=>h.elim) (rest.take k) a w (h a w ha hw)
 rwa [List.take_append_drop] at this
theorem cutX{rest2:List Oper}(h:WLI P w0 r ds ops Q rest2 n l K hs):WQ w0 (adj ds (cutQ P r ops Q rest2)) .normal n l K hs:=fun a w ha hw=>⟨ha.defers,h a w ha hw⟩
def yAt(ops:Array Oper)(n:Nat)(rest:List Oper)(l:Sl):Option (Nat×Nat×List Value×List Oper):=
 match rest with
 | o::r=>match gOK ops l o.guard,o.dst,o.op with
  | some true,some d,.call { callee:=.value f,args,.. }=>match Nat.blt d n,ev l f,args.toList.mapM (ev l) with
   | true,some (.func (.yield L) first captured),some vs=>match first.toList with
    | []=>some (d,L,vs,r)
    | _=>none
   | _,_,_=>none
  | _,_,_=>none
 | []=>none
theorem yld{d L:Nat}{vs:List Value}{R:Value->PH->List PH->Prop}(h0:yAt ops n rest l=some (d,L,vs,rest'))(hc:YCt P w0 L vs K hs R)(hk:∀ v K' hs',R v K' hs'->WLI P w0 r ds ops Q rest' n ((d,v)::l) K' hs'):WLI P w0 r ds ops Q rest n l K hs:=by
 unfold yAt at h0
 split at h0
 ·rename_i o rr
  split at h0
  ·rename_i d' f args ats hg hd hop
   split at h0
   ·rename_i L' first captured vs' hb hf hvs
    split at h0
    ·rename_i hfi;simp only[Option.some.injEq,Prod.mk.injEq] at h0;obtain ⟨rfl,rfl,rfl,rfl⟩:=h0;have hfi':first=#[]:=by cases first;simp_all
     subst hfi';intro a w ha hw;have h1:=gOK_wanted ha hg;have h6:=ev_map ha _ _ hvs
     have h7:args.map a.eval=vs'.toArray:=by
      apply Array.ext'
      simpa using h6
     obtain ⟨fn,tmps,assign,body,hy,hR⟩:=hc w hw;unfold wpListIn;rw[if_pos (show Region.wanted o (yielded ops (wd ds a).tmps)=true from h1)];refine ⟨fun _ _=>trivial,?_⟩;have e1:o.semAt (fz r).round (wd ds a).eval=execOp a.eval o:=Oper.semAt_eq _ _ _ (fun c hh=>by rw[hop] at hh;cases hh)
     have e2:(execOp a.eval o).run P w=.ok (.round L' fn tmps assign body) w:=by
      simp only[execOp,hop];simp[resolve,h7,ha.ev hf,Deferred.ofValue,invoke,hy]
     rw[e1,e2];refine ⟨by simp[fz],RoundIn.mono (R:=endR w0 R) hR fun e w' he=>?_⟩;obtain ⟨v,K',hs',rfl,hr,hs2⟩:=he;simp only[<-wd_put,hd];exact hk v K' hs' hr _ w' (ha.put hb) hs2
    ·simp at h0
   ·simp at h0
  ·simp at h0
 ·simp at h0
def prm:List Nat->List Value->Sl->Sl
 | t::ts,v::vs,l=>prm ts vs ((t,v)::l)
 | _,_,l=>l
theorem Ag.prm:∀ (ts:List Nat) (vs:List Value) {l:Sl} {a:Act} (h:Ag n l a) (ht:∀ t∈ts,t<n),Ag n (prm ts vs l) { tmps:=(ts.zip vs).foldl (fun tmps (x:Nat×Value)=>tmps.setIfInBounds x.1 x.2) a.tmps,defers:=[] }
 | [],vs,l,a,h,_=>⟨by simpa using h.size,rfl,by simpa[En.prm] using h.slot⟩
 | t::ts,[],l,a,h,_=>⟨by simpa using h.size,rfl,by simpa[En.prm] using h.slot⟩
 | t::ts,v::vs,l,a,h,ht=>by
  have h1:=h.put (d:=t) (v:=v) (Nat.ble_eq_true_of_le (ht t (by simp)));have h2:=Ag.prm ts vs h1 (fun x hx=>ht x (by simp[hx]));simpa[En.prm,Act.put] using h2
def rQ(w0:World)(St:Nat->PH->List PH->Prop)(Jm:Code->PH->List PH->Prop)(t u:PH)(i:Nat):Exit->Act->World->Prop
 | .normal,_,w=>∃ K hs,Sat w0 w K (hs++[t,u])/\St (i+1) K hs
 | .ret,_,w=>∃ K hs,Sat w0 w K (hs++[t,u])/\Jm .ret K hs
 | .exit id,_,w=>∃ K hs,Sat w0 w K (hs++[t,u])/\Jm (.exit id) K hs
 | _,_,_=>False
def aQ(P:Program)(w0:World)(L n:Nat)(body:Code)(St:Nat->PH->List PH->Prop)(Jm:Code->PH->List PH->Prop)(t u:PH)(i:Nat)(a:Act)(w:World):Prop:=
 ∃ l' K' hs',Ag n l' a/\Sat w0 w K' (hs'++[t,u])/\∀ u,WX P w0 (some L) [] body (rQ w0 St Jm t u i) n l' K' (hs'++[t,u])
theorem wd_nil{n:Nat}{l:Sl}{a:Act}(h:Ag n l a):wd [] a=a:=by cases a;have:=h.defers;simp only at this;subst this;rfl
theorem asgX{L:Nat}{body:Code}{St:Nat->PH->List PH->Prop}{Jm:Code->PH->List PH->Prop}{t u:PH}{i:Nat}{hs':List PH}(hh:hs=hs'++[t,u])(h:∀ u,WX P w0 (some L) [] body (rQ w0 St Jm t u i) n l K (hs'++[t,u])):
  WQX [] w0 (Exit.then (aQ P w0 L n body St Jm t u i) (fun _ _ _=>False)) .normal n l K hs:=fun a w ha hw=>by
 subst hh;rw[wd_nil ha];exact ⟨l,K,hs',ha,hw,h⟩
theorem rndX{St:Nat->PH->List PH->Prop}{Jm:Code->PH->List PH->Prop}{t u:PH}{i:Nat}{hs':List PH}(hh:hs=hs'++[t,u])(h:St (i+1) K hs'):WQX [] w0 (rQ w0 St Jm t u i) .normal n l K hs:=fun a w ha hw=>by
 subst hh;exact ⟨K,hs',hw,h⟩
theorem jmpR{St:Nat->PH->List PH->Prop}{Jm:Code->PH->List PH->Prop}{t u:PH}{i:Nat}{hs':List PH}(hh:hs=hs'++[t,u])(h:Jm .ret K hs'):WQX [] w0 (rQ w0 St Jm t u i) .ret n l K hs:=fun a w ha hw=>by
 subst hh;exact ⟨K,hs',hw,h⟩
theorem app2{α:Type}(hs:List α)(t u:α):hs++[t,u]=(hs++[t])++[u]:=by simp
theorem rgf{g:Operand}{ps:Array Tmp}{assign body:Code}{f:Nat}(cap:List Value)(xs:List (List Value))(Rd:PH->List PH->Prop)(hg:ev l g=some (.func (.func f) #[] cap.toArray))(it:ItCt P w0 f cap xs Rd)(hcal:callable P f=true)
  (hps:∀ vs∈xs,vs.length=ps.size) (hpn:(ps.toList.all fun t=>Nat.blt t n)=true) (St:Nat->PH->List PH->Prop) (Jm:Code->PH->List PH->Prop) (h0:St 0 K hs) (hRd:∀ i K hs t u,St i K hs->Rd K (hs++[t,u]))
  (round:∀ L i vs K hs t u,xs[i]?=some vs->St i K hs->WX P w0 (some L) [] assign (Exit.then (aQ P w0 L n body St Jm t u i) (fun _ _ _=>False)) n (prm ps.toList vs l) K (hs++[t,u]))
  (done:∀ D K' hs',St xs.length K' hs'->WQX (mkd D::ds) w0 Q .normal n l K' (hs'++[dfr D]))
  (stop:∀ D c K' hs',Jm c K' hs'->WX P w0 none (mkd D::ds) c Q n l K' (hs'++[dfr D])):WX P w0 none ds (.rangeFunc g ps assign body) Q n l K hs:=by
 intro a w ha hw;refine wpIn_rangeFunc ?_;intro fn _;obtain ⟨rec,hrec⟩:∃ rec:LoopState->Option Code->Loop,rec=fun st pe=>{ state:=st,pending:=pe,fn,tmps:=a.tmps,params:=ps,assign,body,defers:=w.heap.size }:=⟨_,rfl⟩;obtain ⟨D,hD⟩:∃ D,D=w.heap.size:=⟨_,rfl⟩;obtain ⟨W1,hW1⟩:∃ W1,(w.alloc (.deferred (some []))).alloc (.loop (rec .ready none))=W1:=⟨_,rfl⟩
 have hS1:Sat w0 W1 K (hs++[dfr D,sg (D+1) (.loop (rec .ready none))]):=by
  have h1:=(hw.alloc (.deferred (some []))).alloc (.loop (rec .ready none));rw[World.size_alloc,<-hD,hW1] at h1;refine h1.perm ?_;rw[app2];exact ((List.perm_append_singleton _ _).symm.cons _).trans (List.perm_append_singleton _ _).symm
 refine ⟨D+1,[mkd D],W1,{ target:=.fn (.func f) cap.toArray,args:=#[.func (.yield (D+1)) #[] #[]] },W1,f,#[.func (.yield (D+1)) #[] #[]]++cap.toArray,W1,?_,?_,?_,?_,fun h=>by simp[fz] at h,?_⟩
 ·rw[<-hW1,hrec,hD];exact run_enterLoop_outer _ _ _ _ _
 ·simp only[resolve,evX ha hg];simp[Deferred.ofValue]
  rfl
 ·intro f' _;trivial
 ·have hcal':=hcal;unfold callable at hcal';cases hfn:P.funcs[f]? with
  | none=>simp[hfn] at hcal'
  | some fn=>
   simp only[hfn,Bool.and_eq_true,Bool.not_eq_true'] at hcal';have hbn:¬fn.body=none:=fun e=>by simp[e] at hcal'
   have hnm : ¬ fn.name = "runtime.NumGoroutine" := by simpa using hcal'.2
   simp[invoke,callFunc,hfn,hbn,hnm]
 ·have hargs:(#[Value.func (.yield (D+1)) #[] #[]]++cap.toArray:Array Value)=(Value.func (.yield (D+1)) #[] #[]::cap).toArray:=by simp
  rw[hargs]
  have key:=it (D+1) (fun i K hs=>∃ hs',hs=hs'++[dfr D,sg (D+1) (.loop (rec .ready none))]/\St i K hs') (fun K hs=>∃ c hs',hs=hs'++[dfr D,sg (D+1) (.loop (rec .done (some c)))]/\Jm c K hs')
   (by rintro i K hs ⟨hs',rfl,h⟩;exact hRd i K hs' _ _ h) ?_ K _ ⟨hs,I,h0⟩
  ·refine (callsIn_wide.2 (key.2 _ hS1)).mono ?_;rintro e w2 ⟨v,K2,hs2,rfl,hh,hw2⟩;rcases hh with ⟨hs',rfl,hst⟩|⟨c,hs',rfl,hjm⟩
   ·rw[app2] at hw2;have h1:=run_endLoop (P:=P) hw2.last (by rw[hrec];simp);rw[hrec] at h1;exact ⟨none,_,h1,done D K2 hs' hst a _ ha (hw2.putLast _).dropLast⟩
   ·rw[app2] at hw2;have h1:=run_endLoop (P:=P) hw2.last (by rw[hrec];simp);rw[hrec] at h1;exact ⟨some c,_,h1,stop D c K2 hs' hjm a _ ha (hw2.putLast _).dropLast⟩
  ·rintro i vs K1 hs1 hvs ⟨hs',rfl,hst⟩ w1 hw1;have hl1:w1.heap[D+1]?=some (.loop (rec .ready none)):=by rw[app2] at hw1;exact hw1.last
   have hsz:vs.toArray.size=(rec .ready none).params.size:=by rw[hrec];simpa using hps vs (List.mem_of_getElem? hvs)
   have hy:=run_yield (P:=P) hl1 hsz;refine ⟨_,_,_,_,hy,roundIn_of_wpIn (F:=fz none) trivial ?_⟩
   have hA:Ag n (prm ps.toList vs l) { tmps:=((rec .ready none).params.zip vs.toArray).foldl (fun tmps (t,a)=>tmps.setIfInBounds t a) (rec .ready none).tmps,defers:=[] }:=by
    have h1:=Ag.prm ps.toList vs ha (fun t ht=>Nat.le_of_ble_eq_true (List.all_eq_true.1 hpn t ht));rw[hrec]
    have e1:(ps.zip vs.toArray).foldl (fun tmps (x:Nat×Value)=>tmps.setIfInBounds x.1 x.2) a.tmps=(ps.toList.zip vs).foldl (fun tmps (x:Nat×Value)=>tmps.setIfInBounds x.1 x.2) a.tmps:=by
     rw[<-Array.foldl_toList];simp
    show Ag n _ { tmps:=(ps.zip vs.toArray).foldl (fun tmps (x:Nat×Value)=>tmps.setIfInBounds x.1 x.2) a.tmps,defers:=[] };rw[e1];exact h1
   have h2:=round (D+1) i vs K1 hs' (dfr D) (sg (D+1) (.loop (rec .ready none))) hvs hst _ w1 hA hw1;rw[hrec] at h2 ⊢;refine wpIn_mono h2 ?_;intro e a3 w3 hq;cases e with
   | normal=>
    obtain ⟨l',K',hs3,hA3,hS3,hb⟩:=hq;rw[app2] at hS3;refine ⟨_,run_beginRound hS3.last I,?_⟩;have hS4:=hS3.putLast (.loop { rec .ready none with state:=.busy });rw[hrec] at hS4;have h5:=hb _ a3 _ hA3 (by rw[app2];exact hS4);rw[wd_nil hA3] at h5;refine wpIn_mono h5 ?_;intro e a4 w4 hq4;cases e with
    | normal=>
     obtain ⟨K5,hs5,hS5,hst5⟩:=hq4;rw[app2] at hS5;refine ⟨_,_,run_endRound none hS5.last,_,K5,_,I,.inl ⟨I,hs5,I,hst5⟩,?_⟩;rw[app2];exact hS5.putLast _
    | ret=>
     obtain ⟨K5,hs5,hS5,hst5⟩:=hq4;rw[app2] at hS5;refine ⟨_,_,run_endRound (some .ret) hS5.last,_,K5,_,I,.inr ⟨I,.ret,hs5,I,hst5⟩,?_⟩;rw[app2];exact hS5.putLast _
    | exit id=>
     obtain ⟨K5,hs5,hS5,hst5⟩:=hq4;rw[app2] at hS5;refine ⟨_,_,run_endRound (some (.exit id)) hS5.last,_,K5,_,I,.inr ⟨I,.exit id,hs5,I,hst5⟩,?_⟩;rw[app2];exact hS5.putLast _
    | goto l=>exact hq4.elim
    | panic ch=>exact hq4.elim
    | outgrown=>exact hq4.elim
   | exit id=>exact hq.elim
   | goto l=>exact hq.elim
   | ret=>exact hq.elim
   | panic ch=>exact hq.elim
   | outgrown=>exact hq.elim
end it
end
section
attribute [local irreducible] Code.wp wpList Calls
def fk{κ:Type}[DecidableEq κ](k:κ):List (κ×Value)->Nat->Option (Nat×Value)
 | [],_=>none
 | (k',v)::m,i=>if k=k' then some (i,v) else fk k m (i+1)
structure KeyOK (P:Program) (kt:Nat) {κ:Type} [DecidableEq κ] (enc:κ->Value):Prop where
 chk:∀ e k w,(Instr.checkKey e 10000 kt (enc k)).run P w=.ok () w
 fnd:∀ (k:κ) (es:List MapEntry) (m:List (κ×Value)) w,es.map (fun e=>(e.key,e.val))=m.map (fun x=>(enc x.1,x.2))->(Instr.findKey kt (enc k) es).run P w=.ok (fk k m 0) w
 sam:∀ k,Instr.sameBits 10000 (enc k) (enc k)=true
theorem fndNow{P:Program}{kt:Nat}{d:TypeDesc}{κ:Type}[DecidableEq κ]{enc:κ->Value}(h:∀ a b,Instr.sameNow d (enc a) (enc b)=some (decide (a=b)))(k:κ):∀ (es:List MapEntry) (m:List (κ×Value)) (i:Nat),
  es.map (fun e=>(e.key,e.val))=m.map (fun x=>(enc x.1,x.2))->Instr.findNow d (enc k) es i=some (fk k m i)
 | [],[],i,_=>rfl
 | [],_::_,i,h0=>by simp at h0
 | _::_,[],i,h0=>by simp at h0
 | e::es,(k',v)::m,i,h0=>by
  simp only[List.map_cons,List.cons.injEq,Prod.mk.injEq] at h0;obtain ⟨⟨h1,h2⟩,h3⟩:=h0;simp only[Instr.findNow,h1,h,fk]
  by_cases hk:k=k'
  ·simp[hk,h2]
  ·simp[hk,fndNow (P:=P) (kt:=kt) h k es m (i+1) h3]
theorem KeyOK.ofNow{P:Program}{kt:Nat}{d:TypeDesc}{κ:Type}[DecidableEq κ]{enc:κ->Value}(hu:P.underlying kt=some d)(h:∀ a b,Instr.sameNow d (enc a) (enc b)=some (decide (a=b)))
  (hc:∀ e k w,(Instr.checkKey e 10000 kt (enc k)).run P w=.ok () w) (hs:∀ k,Instr.sameBits 10000 (enc k) (enc k)=true):KeyOK P kt enc:=
 ⟨hc,fun k es m w h0=>by unfold Instr.findKey;rw[Sem.run_bind,run_underlying hu];simp[Result.andThen,fndNow (P:=P) (kt:=kt) h k es m 0 h0],hs⟩
theorem keyInt{P:Program}{kt:Nat}{kk:IntKind}(hu:P.underlying kt=some (.int kk)):KeyOK P kt (κ:=Int) (fun n=>.int kk n):=
 KeyOK.ofNow hu (fun a b=>by simp only[Instr.sameNow,if_true];rfl) (fun e k w=>by
  rw[show (10000:Nat)=9999+1 from rfl];unfold Instr.checkKey;rw[Sem.run_bind,run_underlying hu]
  rfl) (fun k=>by simp[Instr.sameBits])
def MpO{κ ν:Type}(enc:κ->Value)(encv:ν->Value)(h:PH)(b:Nat)(m:List (κ×ν)):Prop:=
 ∃ es clock,h=sg b (.map es clock)/\es.toList.map (fun e=>(e.key,e.val))=m.map (fun x=>(enc x.1,encv x.2))/\(es.toList.map (·.born)).Pairwise (· < ·)/\∀ e∈es.toList,e.born<clock
def mget{κ ν:Type}[DecidableEq κ](k:κ):List (κ×ν)->Option ν
 | []=>none
 | (k',v)::m=>if k=k' then some v else mget k m
def mset{κ ν:Type}[DecidableEq κ](k:κ)(v:ν):List (κ×ν)->List (κ×ν)
 | []=>[(k,v)]
 | (k',v')::m=>if k=k' then (k,v)::m else (k',v')::mset k v m
def mdel{κ ν:Type}[DecidableEq κ](k:κ):List (κ×ν)->List (κ×ν)
 | []=>[]
 | (k',v')::m=>if k=k' then m else (k',v')::mdel k m
theorem mget_mset{κ ν:Type}[DecidableEq κ](k j:κ)(v:ν):∀ m:List (κ×ν),mget j (mset k v m)=if j=k then some v else mget j m
 | []=>by simp[mset,mget]
 | (k',v')::m=>by
  have ih:=mget_mset k j v m
  by_cases h:k=k'
  ·subst h
   by_cases hj:j=k <;> simp[mset,mget,hj]
  ·by_cases hj:j=k'
   ·subst hj;have:¬j=k:=fun e=>h e.symm;simp[mset,mget,h,this]
   ·simp[mset,mget,h,hj,ih]
theorem mset_length{κ ν:Type}[DecidableEq κ](k:κ)(v:ν):∀ m:List (κ×ν),(mset k v m).length=if (mget k m).isSome then m.length else m.length+1
 | []=>by simp[mset,mget]
 | (k',v')::m=>by
  have ih:=mset_length k v m
  by_cases h:k=k'
  ·simp[mset,mget,h]
  ·simp only[mset,mget,h,if_false,List.length_cons,ih]
   split <;> rfl
theorem mset_keys{κ ν:Type}[DecidableEq κ](k:κ)(v:ν):∀ m:List (κ×ν),(mset k v m).map (·.1)=if (mget k m).isSome then m.map (·.1) else m.map (·.1)++[k]
 | []=>by simp[mset,mget]
 | (k',v')::m=>by
  have ih:=mset_keys k v m
  by_cases h:k=k'
  ·simp[mset,mget,h]
  ·simp only[mset,mget,h,if_false,List.map_cons,ih]
   split <;> simp
theorem mget_mem{κ ν:Type}[DecidableEq κ]{k:κ}{v:ν}:∀ {m:List (κ×ν)},mget k m=some v->(k,v)∈m
 | [],h=>by simp[mget] at h
 | (k',v')::m,h=>by
  simp only[mget] at h
  split at h
  ·rename_i e;subst e;simp only[Option.some.injEq] at h;subst h;simp
  ·exact List.mem_cons_of_mem _<|mget_mem h
theorem mget_none{κ ν:Type}[DecidableEq κ]{k:κ}:∀ {m:List (κ×ν)},mget k m=none↔k∉m.map (·.1)
 | []=>by simp[mget]
 | (k',v')::m=>by
  have ih:=mget_none (k:=k) (m:=m)
  by_cases h:k=k' <;> simp_all [mget]
theorem fk_get{κ ν:Type}[DecidableEq κ]{encv:ν->Value}(k:κ):∀ (m:List (κ×ν)) (i:Nat),(fk k (m.map fun x=>(x.1,encv x.2)) i).map (·.2)=(mget k m).map encv
 | [],i=>rfl
 | (k',v)::m,i=>by
  by_cases h:k=k'
  ·simp[fk,mget,h]
  ·simp[fk,mget,h,fk_get k m (i+1)]
theorem fk_shift{κ:Type}[DecidableEq κ](k:κ):∀ (m:List (κ×Value)) (i:Nat),fk k m i=(fk k m 0).map fun x=>(i+x.1,x.2)
 | [],i=>rfl
 | (k',v)::m,i=>by
  by_cases h:k=k'
  ·simp[fk,h]
  ·simp only[fk,h,if_false];rw[fk_shift k m (i+1),fk_shift k m (0+1)];cases fk k m 0 with
   | none=>rfl
   | some x=>simp;omega
theorem MpO.empty{κ ν:Type}{enc:κ->Value}{encv:ν->Value}(b c:Nat):MpO (κ:=κ) (ν:=ν) enc encv (sg b (.map #[] c)) b []:=⟨#[],c,rfl,rfl,by simp,by simp⟩
section look
variable {κ ν:Type} [DecidableEq κ] {enc:κ->Value} {encv:ν->Value} {P:Program} {h:PH} {b:Nat} {m:List (κ×ν)}
def lkV(ok:Bool)(v:Value)(is:Bool):Value:=cond ok (.tuple #[v,.bool is]) v
theorem MpO.map(hm:MpO enc encv h b m):∃ es clock,h=sg b (.map es clock)/\es.toList.map (fun e=>(e.key,e.val))=(m.map fun x=>(x.1,encv x.2)).map (fun x=>(enc x.1,x.2)):=by
 obtain ⟨es,c,h1,h2,_⟩:=hm;exact ⟨es,c,h1,by rw[h2];simp⟩
theorem run_getMap{w:World}{es:Array MapEntry}{c:Nat}(h:w.heap[b]?=some (.map es c)):(getObj b).run P w=.ok (.map es c) w:=by simp[getObj,Sem.run,h]
theorem run_lookup{t kt et:Nat}{z:Value}(hu:P.underlying t=some (.map kt et))(hK:KeyOK P kt enc)(hz:(P.info? et).bind (·.zero)=some z)(hm:MpO enc encv h b m){w:World}(hw:∀ b o,h b=some o->w.heap[b]?=some o)(k:κ)(ok:Bool):
  (Instr.lookup t (.map (some b)) (enc k) ok).run P w=.ok (lkV ok (match mget k m with|some v=>encv v|none=>z) (mget k m).isSome) w:=by
 obtain ⟨es,c,rfl,h2⟩:=hm.map;have hb:=hw b (.map es c) (by simp);have hf:=hK.fnd k es.toList _ w h2;have hg:=fk_get (encv:=encv) k m 0;obtain ⟨i,hi,hz'⟩:=Option.bind_eq_some_iff.1 hz;unfold Instr.lookup;simp only[Sem.run_bind,run_underlying hu,Result.andThen,run_getMap hb,Sem.run_pure,hK.chk,hf];cases e:fk k (m.map fun x=>(x.1,encv x.2)) 0 with
 | none=>
  rw[e] at hg;have hn:mget k m=none:=by cases h3:mget k m with|none=>rfl|some v=>simp[h3] at hg
  simp only[hn];have:(zeroValue et).run P w=.ok z w:=by simp[zeroValue,typeInfo,hi,hz']
  rw[Sem.run_bind,this];cases ok <;> rfl
 | some x=>
  rw[e] at hg
  obtain ⟨v,hv,hx⟩:∃ v,mget k m=some v/\x.2=encv v:=by
   cases h3:mget k m with
   | none=>simp[h3] at hg
   | some v=>simp[h3] at hg;exact ⟨v,I,hg⟩
  simp only[hv,hx];cases ok <;> rfl
theorem run_lookup_nil{t kt et:Nat}{z:Value}(hu:P.underlying t=some (.map kt et))(hK:KeyOK P kt enc)(hz:(P.info? et).bind (·.zero)=some z){w:World}(k:κ)(ok:Bool):
  (Instr.lookup t (.map none) (enc k) ok).run P w=.ok (lkV ok z false) w:=by
 have hf:=hK.fnd k [] [] w rfl;obtain ⟨i,hi,hz'⟩:=Option.bind_eq_some_iff.1 hz;unfold Instr.lookup;simp only[Sem.run_bind,run_underlying hu,Result.andThen,Sem.run_pure,hK.chk,show (#[]:Array MapEntry).toList=[] from rfl,hf,fk];have:(zeroValue et).run P w=.ok z w:=by simp[zeroValue,typeInfo,hi,hz']
 rw[this];cases ok <;> rfl
def eset(k v:Value)(c:Nat):Option (Nat×Value)->List MapEntry->List MapEntry
 | some (i,_),es=>es.modify i fun e=>{ e with key:=k,val:=v }
 | none,es=>es++[{ key:=k,val:=v,born:=c }]
theorem eset_map(k:κ)(v:ν)(c:Nat):∀ (es:List MapEntry) (m:List (κ×ν)),es.map (fun e=>(e.key,e.val))=m.map (fun x=>(enc x.1,encv x.2)) ->
  (eset (enc k) (encv v) c (fk k (m.map fun x=>(x.1,encv x.2)) 0) es).map (fun e=>(e.key,e.val))=(mset k v m).map (fun x=>(enc x.1,encv x.2))
 | [],[],_=>rfl
 | [],_::_,h0=>by simp at h0
 | _::_,[],h0=>by simp at h0
 | e::es,(k',v')::m,h0=>by
  simp only[List.map_cons,List.cons.injEq,Prod.mk.injEq] at h0;obtain ⟨⟨h1,h2⟩,h3⟩:=h0;have ih:=eset_map k v c es m h3
  by_cases hk:k=k'
  ·simp[fk,mset,hk,eset,h3]
  ·simp only[List.map_cons,fk,mset,hk,if_false];rw[fk_shift];cases hf:fk k (m.map fun x=>(x.1,encv x.2)) 0 with
   | none=>
    rw[hf] at ih;simp only[eset,Option.map_none] at ih ⊢;rw[List.cons_append,List.map_cons,ih,h1,h2]
   | some x=>
    rw[hf] at ih;obtain ⟨i,x⟩:=x;simp only[eset,Option.map_some] at ih ⊢;rw[show 0+1+i=i+1 from by omega,List.modify_succ_cons,List.map_cons,ih,h1,h2]
theorem eset_born(k v:Value)(c:Nat)(f:Option (Nat×Value))(es:List MapEntry)(h:(es.map (·.born)).Pairwise (· < ·))(hc:∀ e∈es,e.born<c):
  ((eset k v c f es).map (·.born)).Pairwise (· < ·)/\∀ e∈eset k v c f es,e.born<(match f with|some _=>c|none=>c+1):=by
 cases f with
 | none=>
  refine ⟨?_,?_⟩
  ·simp only[eset,List.map_append,List.map_cons,List.map_nil];rw[List.pairwise_append];refine ⟨h,by simp,?_⟩;intro a ha b hb;simp only[List.mem_singleton] at hb;obtain ⟨e,he,rfl⟩:=List.mem_map.1 ha;subst hb;exact hc e he
  ·intro e he;simp only[eset,List.mem_append,List.mem_singleton] at he;rcases he with he|rfl
   ·have:=hc e he;show e.born<c+1;omega
   ·show c<c+1;omega
 | some x=>
  obtain ⟨i,x⟩:=x
  have e1:(es.modify i fun e=>{ e with key:=k,val:=v }).map (·.born)=es.map (·.born):=by
   clear h hc
   induction es generalizing i with
   | nil=>simp
   | cons e es ih=>
    cases i with
    | zero=>simp
    | succ i=>simp[ih]
  refine ⟨by simp only[eset];rw[e1];exact h,?_⟩;intro e he;simp only[eset] at he;have:e.born∈(es.modify i fun e=>{ e with key:=k,val:=v }).map (·.born):=List.mem_map.2 ⟨e,he,rfl⟩;rw[e1] at this;obtain ⟨e',he',hb⟩:=List.mem_map.1 this;rw[<-hb];exact hc e' he'
theorem fk_key{es:List MapEntry}{m:List (κ×Value)}(k:κ){i:Nat}{v:Value}(h0:es.map (fun e=>(e.key,e.val))=m.map (fun x=>(enc x.1,x.2)))(hf:fk k m 0=some (i,v)):(es[i]?).map (·.key)=some (enc k):=by
 induction m generalizing es i v with
 | nil=>simp[fk] at hf
 | cons x m ih=>
  obtain ⟨k',v'⟩:=x;cases es with
  | nil=>simp at h0
  | cons e es=>
   simp only[List.map_cons,List.cons.injEq,Prod.mk.injEq] at h0;obtain ⟨⟨h1,h2⟩,h3⟩:=h0
   by_cases hk:k=k'
   ·simp only[fk,hk,if_true,Option.some.injEq,Prod.mk.injEq] at hf;obtain ⟨rfl,rfl⟩:=hf;simp[h1,hk]
   ·simp only[fk,hk,if_false] at hf;rw[fk_shift] at hf;cases hf2:fk k m 0 with
    | none=>simp[hf2] at hf
    | some y=>
     rw[hf2] at hf;simp only[Option.map_some,Option.some.injEq,Prod.mk.injEq] at hf;obtain ⟨rfl,rfl⟩:=hf;have:=ih (i:=y.1) (v:=y.2) h3 hf2;rw[show 0+1+y.1=y.1+1 from by omega];simpa using this
theorem run_mapUpdate{w0:World}{K:PH}{hs:List PH}{t kt et i:Nat}(hu:P.underlying t=some (.map kt et))(hK:KeyOK P kt enc)(hm:MpO enc encv h b m){w:World}(s:Sat w0 w K hs)(hi:hs[i]?=some h)(k:κ)(v:ν):
  ∃ h' w',MpO enc encv h' b (mset k v m)/\(Instr.mapUpdate t (.map (some b)) (enc k) (encv v)).run P w=.ok () w'/\Sat w0 w' K (hs.set i h'):=by
 obtain ⟨es,c,rfl,h2,h3,h4⟩:=hm;have h2':es.toList.map (fun e=>(e.key,e.val))=(m.map fun x=>(x.1,encv x.2)).map (fun x=>(enc x.1,x.2)):=by rw[h2];simp
 have hb:w.heap[b]?=some (.map es c):=s.own i _ hi b _ (by simp);have hf:=hK.fnd k es.toList _ w h2';have e1:=eset_map (enc:=enc) (encv:=encv) k v c es.toList m h2;have e2:=eset_born (enc k) (encv v) c (fk k (m.map fun x=>(x.1,encv x.2)) 0) es.toList h3 h4;have hset:∀ o:Obj,(setObj b o).run P w=.ok () (w.putObj b o):=fun o=>by simp[setObj,Sem.run,hb,World.putObj]
 unfold Instr.mapUpdate;simp only[Sem.run_bind,run_underlying hu,Result.andThen,run_getMap hb,Sem.run_pure,hK.chk,hf];cases hk:fk k (m.map fun x=>(x.1,encv x.2)) 0 with
 | none=>
  rw[hk] at e1 e2;simp only[eset] at e1 e2;refine ⟨sg b (.map (es.push { key:=enc k,val:=encv v,born:=c }) (c+1)),_,⟨_,_,I,by rw[Array.toList_push];exact e1,by rw[Array.toList_push];exact e2.1,by rw[Array.toList_push];exact e2.2⟩,hset _,s.putObj hi _⟩
 | some x=>
  obtain ⟨j,x⟩:=x;rw[hk] at e1 e2;simp only[eset] at e1 e2;have hkey:=fk_key (enc:=enc) k h2' hk;have hkey':((es[j]?).map (·.key)).getD (enc k)=enc k:=by rw[<-Array.getElem?_toList,hkey];rfl
  have hst:(Instr.keyThatStays (enc k) (enc k)).run P w=.ok (enc k) w:=by unfold Instr.keyThatStays;simp[hK.sam]
  refine ⟨sg b (.map (es.modify j fun e=>{ e with key:=enc k,val:=encv v }) c),w.putObj b (.map (es.modify j fun e=>{ e with key:=enc k,val:=encv v }) c),⟨_,_,I,by rw[Array.toList_modify];exact e1,by rw[Array.toList_modify];exact e2.1,by rw[Array.toList_modify];exact e2.2⟩,?_,s.putObj hi _⟩;simp only[hkey',Sem.run_bind,hst,Result.andThen];exact hset _
theorem run_maplen{t kt et ty:Nat}(hu:P.underlying t=some (.map kt et))(hm:MpO enc encv h b m){w:World}(hw:∀ b o,h b=some o->w.heap[b]?=some o):(Builtin.len_ #[t] ty #[.map (some b)]).run P w=.ok (.int .i64 m.length) w:=by
 obtain ⟨es,c,rfl,h2,_⟩:=hm;have hb:=hw b (.map es c) (by simp);have hl:es.size=m.length:=by have:=congrArg List.length h2;simpa using this
 unfold Builtin.len_;simp[Sem.run_bind,run_underlying hu,Result.andThen,run_getMap hb,hl,goInt]
end look
section rules
variable {P:Program} {T:Tab} {w0:World} {ops:Array Oper} {Q:Exit->Act->World->Prop} {rest rest':List Oper} {n:Nat} {l l':Sl} {K:PH} {hs:List PH}
variable {κ ν:Type} [DecidableEq κ] {enc:κ->Value} {encv:ν->Value} {h:PH} {b:Nat} {m:List (κ×ν)}
theorem opr(hT:TabOK P T)(k:Nat){d:Nat}{o:Oper}{v:Value}(h0:ovAt T ops n k rest l=some (d,o,rest',l'))(hv:∀ a w,Ag n l' a->Sat w0 w K hs->(execOp a.eval o).run P w=.ok (.value v) w)
  (hk:WL P w0 ops Q rest' n ((d,v)::l') K hs):WL P w0 ops Q rest n l K hs:=by
 unfold ovAt at h0
 split at h0
 ·rename_i o' r l2 ho
  split at h0
  ·rename_i d' hd;cases hb:Nat.blt d' n with
   | false=>simp[hb] at h0
   | true=>
    simp only[hb,cond_true,Option.some.injEq,Prod.mk.injEq] at h0;obtain ⟨rfl,rfl,rfl,rfl⟩:=h0;exact WL.at' hT ho fun hg=>WL.val (R:=fun u K' hs'=>u=v/\K'=K/\hs'=hs) hd hb hg (fun A w ha hw=>⟨v,w,K,hs,hv A w ha hw,hw,I,I,I⟩) (fun u K' hs' ⟨h1,h2,h3⟩=>by subst h1;subst h2;subst h3;exact hk)
  ·simp at h0
 ·simp at h0
def osAt(T:Tab)(ops:Array Oper)(n k:Nat)(rest:List Oper)(l:Sl):Option (Oper×List Oper×Sl):=
 match opAt T ops n k rest l with
 | some (o,r,l')=>match o.dst with
  | none=>some (o,r,l')
  | some _=>none
 | none=>none
theorem opu(hT:TabOK P T)(k:Nat){o:Oper}{R:PH->List PH->Prop}(h0:osAt T ops n k rest l=some (o,rest',l'))(hv:∀ a w,Ag n l' a->Sat w0 w K hs->∃ w' K' hs',(execOp a.eval o).run P w=.ok .skip w'/\Sat w0 w' K' hs'/\R K' hs')
  (hk:∀ K' hs',R K' hs'->WL P w0 ops Q rest' n l' K' hs'):WL P w0 ops Q rest n l K hs:=by
 unfold osAt at h0
 split at h0
 ·rename_i o' r l2 ho
  split at h0
  ·rename_i hd;simp only[Option.some.injEq,Prod.mk.injEq] at h0;obtain ⟨rfl,rfl,rfl⟩:=h0;refine WL.at' hT ho fun hg=>?_;intro a w ha hw;obtain ⟨w',K',hs',hrun,hw',hR⟩:=hv a w ha hw;have h1:=gOK_wanted ha hg;unfold wpList;rw[if_pos h1];refine .inl ?_;unfold Oper.wp;rw[hrun];simp only[Oper.upon,hd,Act.put];exact hk K' hs' hR _ _ ha hw'
  ·simp at h0
 ·simp at h0
theorem opa(hT:TabOK P T)(k:Nat){d:Nat}{o:Oper}{R:Value->PH->List PH->Prop}(h0:ovAt T ops n k rest l=some (d,o,rest',l'))(hv:∀ a w,Ag n l' a->Sat w0 w K hs->∃ v w' K' hs',(execOp a.eval o).run P w=.ok (.value v) w'/\Sat w0 w' K' hs'/\R v K' hs')
  (hk:∀ v K' hs',R v K' hs'->WL P w0 ops Q rest' n ((d,v)::l') K' hs'):WL P w0 ops Q rest n l K hs:=by
 unfold ovAt at h0
 split at h0
 ·rename_i o' r l2 ho
  split at h0
  ·rename_i d' hd;cases hb:Nat.blt d' n with
   | false=>simp[hb] at h0
   | true=>
    simp only[hb,cond_true,Option.some.injEq,Prod.mk.injEq] at h0;obtain ⟨rfl,rfl,rfl,rfl⟩:=h0;exact WL.at' hT ho fun hg=>WL.val hd hb hg hv hk
  ·simp at h0
 ·simp at h0
theorem Sat.inn{w:World}(s:Sat w0 w K hs)(hm:In K hs h):∀ b o,h b=some o->w.heap[b]?=some o:=fun b o hb=>s.block hm hb
def mkmAt(T:Tab)(ops:Array Oper)(n k:Nat)(rest:List Oper)(l:Sl):Option (Nat×Oper×List Oper×Sl):=
 match ovAt T ops n k rest l with
 | some (d,o,r,l')=>match o.op with
  | .makeMap _ none=>some (d,o,r,l')
  | _=>none
 | none=>none
theorem mkmAt_spec{k d:Nat}{o:Oper}(h:mkmAt T ops n k rest l=some (d,o,rest',l')):ovAt T ops n k rest l=some (d,o,rest',l')/\∃ t,o.op=.makeMap t none:=by
 unfold mkmAt at h
 split at h
 ·rename_i d' o' r l2 ho
  split at h
  ·rename_i t hop;simp only[Option.some.injEq,Prod.mk.injEq] at h;obtain ⟨rfl,rfl,rfl,rfl⟩:=h;exact ⟨ho,t,hop⟩
  ·simp at h
 ·simp at h
theorem mkm(hT:TabOK P T)(k:Nat){d:Nat}{o:Oper}(h0:mkmAt T ops n k rest l=some (d,o,rest',l'))(hk:∀ b,WL P w0 ops Q rest' n ((d,.map (some b))::l') K (sg b (.map #[] 0)::hs)):WL P w0 ops Q rest n l K hs:=by
 obtain ⟨h1,t,hop⟩:=mkmAt_spec h0;refine opa hT k (R:=fun v K' hs'=>∃ b,v=.map (some b)/\K'=K/\hs'=sg b (.map #[] 0)::hs) h1 (fun a w ha hw=>⟨.map (some w.heap.size),w.alloc (.map #[] 0),K,_,?_,hw.alloc _,w.heap.size,I,I,I⟩) ?_
 ·simp only[execOp,hop];simp[Instr.makeMap]
 ·rintro v K' hs' ⟨b,rfl,rfl,rfl⟩;exact hk b
def lkAt(T:Tab)(ops:Array Oper)(n k:Nat)(rest:List Oper)(l:Sl):Option (Nat×Oper×Nat×Value×Value×Bool×List Oper×Sl):=
 match ovAt T ops n k rest l with
 | some (d,o,r,l')=>match o.op with
  | .lookup t x y ok=>match ev l' x,ev l' y with
   | some u,some v=>some (d,o,t,u,v,ok,r,l')
   | _,_=>none
  | _=>none
 | none=>none
theorem lkAt_spec{k d t:Nat}{o:Oper}{u v:Value}{ok:Bool}(h:lkAt T ops n k rest l=some (d,o,t,u,v,ok,rest',l')):ovAt T ops n k rest l=some (d,o,rest',l')/\∃ x y,o.op=.lookup t x y ok/\ev l' x=some u/\ev l' y=some v:=by
 unfold lkAt at h
 split at h
 ·rename_i d' o' r l2 ho
  split at h
  ·rename_i t' x y ok' hop
   split at h
   ·rename_i u' v' hx hy;simp only[Option.some.injEq,Prod.mk.injEq] at h;obtain ⟨rfl,rfl,rfl,rfl,rfl,rfl,rfl,rfl⟩:=h;exact ⟨ho,x,y,hop,hx,hy⟩
   ·simp at h
  ·simp at h
 ·simp at h
theorem lku(hT:TabOK P T)(k:Nat){d t kt et:Nat}{o:Oper}{z v:Value}{ok:Bool}(j:κ)(h0:lkAt T ops n k rest l=some (d,o,t,.map (some b),v,ok,rest',l'))(hu:P.underlying t=some (.map kt et))(hz:(P.info? et).bind (·.zero)=some z)(hK:KeyOK P kt enc)(hv:v=enc j)(hin:In K hs h)(hm:MpO enc encv h b m)
  (hk:WL P w0 ops Q rest' n ((d,lkV ok (match mget j m with|some v=>encv v|none=>z) (mget j m).isSome)::l') K hs):WL P w0 ops Q rest n l K hs:=by
 obtain ⟨h1,x,y,hop,hx,hy⟩:=lkAt_spec h0;subst hv;refine opr hT k h1 (fun a w ha hw=>?_) hk;have:=run_lookup (P:=P) hu hK hz hm (hw.inn hin) j ok;simp only[execOp,hop,ha.ev hx,ha.ev hy];simp[this]
theorem lkn(hT:TabOK P T)(k:Nat){d t kt et:Nat}{o:Oper}{z v:Value}{ok:Bool}(j:κ)(h0:lkAt T ops n k rest l=some (d,o,t,.map none,v,ok,rest',l'))(hu:P.underlying t=some (.map kt et))(hz:(P.info? et).bind (·.zero)=some z)(hK:KeyOK P kt enc)(hv:v=enc j)
  (hk:WL P w0 ops Q rest' n ((d,lkV ok z false)::l') K hs):WL P w0 ops Q rest n l K hs:=by
 obtain ⟨h1,x,y,hop,hx,hy⟩:=lkAt_spec h0;subst hv;refine opr hT k h1 (fun a w ha hw=>?_) hk;have:=run_lookup_nil (P:=P) (w:=w) hu hK hz j ok;simp only[execOp,hop,ha.ev hx,ha.ev hy];simp[this]
def muAt(T:Tab)(ops:Array Oper)(n k:Nat)(rest:List Oper)(l:Sl):Option (Oper×Nat×Value×Value×Value×List Oper×Sl):=
 match osAt T ops n k rest l with
 | some (o,r,l')=>match o.op with
  | .mapUpdate t x y z=>match ev l' x,ev l' y,ev l' z with
   | some u,some v,some w=>some (o,t,u,v,w,r,l')
   | _,_,_=>none
  | .insert t x y z=>match ev l' x,ev l' y,ev l' z with
   | some u,some v,some w=>some (o,t,u,v,w,r,l')
   | _,_,_=>none
  | _=>none
 | none=>none
theorem muAt_spec{k t:Nat}{o:Oper}{u v y:Value}(h:muAt T ops n k rest l=some (o,t,u,v,y,rest',l')):osAt T ops n k rest l=some (o,rest',l')/\∀ a,Ag n l' a->execOp a.eval o=(do Instr.mapUpdate t u v y;pure .skip):=by
 unfold muAt at h
 split at h
 ·rename_i o' r l2 ho
  split at h
  ·rename_i t' x1 x2 x3 hop
   split at h
   ·rename_i u' v' y' h1 h2 h3;simp only[Option.some.injEq,Prod.mk.injEq] at h;obtain ⟨rfl,rfl,rfl,rfl,rfl,rfl,rfl⟩:=h;exact ⟨ho,fun a ha=>by simp only[execOp,hop,ha.ev h1,ha.ev h2,ha.ev h3]⟩
   ·simp at h
  ·rename_i t' x1 x2 x3 hop
   split at h
   ·rename_i u' v' y' h1 h2 h3;simp only[Option.some.injEq,Prod.mk.injEq] at h;obtain ⟨rfl,rfl,rfl,rfl,rfl,rfl,rfl⟩:=h;exact ⟨ho,fun a ha=>by simp only[execOp,hop,ha.ev h1,ha.ev h2,ha.ev h3]⟩
   ·simp at h
  ·simp at h
 ·simp at h
theorem mpu(hT:TabOK P T)(k i:Nat){t kt et:Nat}{o:Oper}{v y:Value}(j:κ)(x:ν)(h0:muAt T ops n k rest l=some (o,t,.map (some b),v,y,rest',l'))(hi:hs[i]?=some h)(hu:P.underlying t=some (.map kt et))(hK:KeyOK P kt enc)(hv:v=enc j)(hy:y=encv x)(hm:MpO enc encv h b m)
  (hk:∀ h',MpO enc encv h' b (mset j x m)->WL P w0 ops Q rest' n l' K (hs.set i h')):WL P w0 ops Q rest n l K hs:=by
 obtain ⟨h1,h2⟩:=muAt_spec h0;subst hv hy;refine opu hT k (R:=fun K' hs'=>∃ h',MpO enc encv h' b (mset j x m)/\K'=K/\hs'=hs.set i h') h1 (fun a w ha hw=>?_) ?_
 ·obtain ⟨h',w',g1,g2,g3⟩:=run_mapUpdate (P:=P) (t:=t) (et:=et) (i:=i) hu hK hm hw hi j x;refine ⟨w',K,_,?_,g3,h',g1,I,I⟩;rw[h2 a ha,Sem.run_bind,g2]
  rfl
 ·rintro K' hs' ⟨h',g1,rfl,rfl⟩;exact hk h' g1
def mlAt(T:Tab)(ops:Array Oper)(n k:Nat)(rest:List Oper)(l:Sl):Option (Nat×Oper×Nat×Value×List Oper×Sl):=
 match ovAt T ops n k rest l with
 | some (d,o,r,l')=>match o.op with
  | .call { callee:=.builtin .len,args,argTypes }=>match args.toList,argTypes.toList with
   | [x],[t]=>match ev l' x with
    | some u=>some (d,o,t,u,r,l')
    | none=>none
   | _,_=>none
  | _=>none
 | none=>none
theorem mln(hT:TabOK P T)(k:Nat){d t kt et:Nat}{o:Oper}(h0:mlAt T ops n k rest l=some (d,o,t,.map (some b),rest',l'))(hu:P.underlying t=some (.map kt et))(hin:In K hs h)(hm:MpO enc encv h b m)
  (hk:WL P w0 ops Q rest' n ((d,.int .i64 m.length)::l') K hs):WL P w0 ops Q rest n l K hs:=by
 unfold mlAt at h0
 split at h0
 ·rename_i d' o' r l2 ho
  split at h0
  ·rename_i args argTypes hop
   split at h0
   ·rename_i x t' e1 e2
    split at h0
    ·rename_i u hx;simp only[Option.some.injEq,Prod.mk.injEq] at h0;obtain ⟨rfl,rfl,rfl,rfl,rfl,rfl⟩:=h0;have a1':args=#[x]:=by cases args;simp_all
     have a2':argTypes=#[t']:=by cases argTypes;simp_all
     subst a1' a2';refine opr hT k ho (fun a w ha hw=>?_) hk;have:=run_maplen (P:=P) (ty:=o'.type) (encv:=encv) hu hm (hw.inn hin);simp only[execOp,hop];simp[resolve,invoke,builtin,ha.ev hx,this]
    ·simp at h0
   ·simp at h0
  ·simp at h0
 ·simp at h0
end rules
section opn
variable {P:Program} {T:Tab} {w0:World} {ops:Array Oper} {Q:Exit->Act->World->Prop} {plan plan':List Nat} {z:Nat} {listed listed':Array Bool} {n:Nat} {l l':Sl} {K K0:PH} {hs A:List PH}
variable {κ ν:Type} [DecidableEq κ] {enc:κ->Value} {encv:ν->Value} {h:PH} {b:Nat} {m:List (κ×ν)}
def dlkAt(T:Tab)(ops:Array Oper)(n z k:Nat)(plan:List Nat)(L:Array Bool)(l:Sl):Option (Nat×Oper×List Nat×Array Bool×Sl):=
 match headAt T ops n z k plan L l with
 | some (p,o,r,L',l')=>match Nat.beq (p % 2) 0,Nat.beq (p / 2) z,cond (Nat.blt z ops.size) (Region.waitsFor .any ops z (p / 2)) true,gOK ops l' o.guard,o.dst with
  | true,false,true,some true,some d=>match Nat.blt d n with
   | true=>some (d,o,r,L'.setIfInBounds (p / 2) true,l')
   | false=>none
  | _,_,_,_,_=>none
 | none=>none
theorem dopr(hT:TabOK P T)(hsel:Region.noSelect ops=true)(k:Nat){d:Nat}{o:Oper}{v:Value}(h0:dlkAt T ops n z k plan listed l=some (d,o,plan',listed',l'))(hv:∀ a w,Ag n l' a->HasL K0 A w->(execOp a.eval o).run P w=.ok (.value v) w)
  (hk:WA P w0 ops Q K0 A z plan' listed' n ((d,v)::l') K hs):WA P w0 ops Q K0 A z plan listed n l K hs:=by
 unfold dlkAt at h0
 split at h0
 ·rename_i p o r L' l2 hh
  split at h0
  ·rename_i dd hp hz hwf hg hd
   split at h0
   ·rename_i hb;simp only[Option.some.injEq,Prod.mk.injEq] at h0;obtain ⟨rfl,rfl,rfl,rfl,rfl⟩:=h0;obtain ⟨g1,g2⟩:=headAt_spec hh;refine WA.pures hT hsel k g1 ?_;have hp2:p=2*(p / 2):=by have:=Nat.eq_of_beq_eq_true hp;omega
    rw[hp2];refine WA.look g2 hsel hz hd hb (fun A' ha=>.inl ⟨gOK_wanted ha hg,fun w hw=>?_⟩) hk;obtain ⟨L,hcl,hun,hst⟩:=hw;exact hv A' w ha (hst (closed_waits hcl hun hwf))
   ·simp at h0
  ·simp at h0
 ·simp at h0
theorem HasL.inn{w:World}(s:HasL K A w)(hm:In K A h):∀ b o,h b=some o->w.heap[b]?=some o:=by
 rcases hm with rfl|⟨i,hi⟩
 ·exact s.1
 ·exact s.2 h<|List.mem_of_getElem? hi
def dluAt(T:Tab)(ops:Array Oper)(n z k:Nat)(plan:List Nat)(L:Array Bool)(l:Sl):Option (Nat×Oper×Nat×Value×Value×Bool×List Nat×Array Bool×Sl):=
 match dlkAt T ops n z k plan L l with
 | some (d,o,r,L',l')=>match o.op with
  | .lookup t x y ok=>match ev l' x,ev l' y with
   | some u,some v=>some (d,o,t,u,v,ok,r,L',l')
   | _,_=>none
  | _=>none
 | none=>none
theorem dlku(hT:TabOK P T)(hsel:Region.noSelect ops=true)(k:Nat){d t kt et:Nat}{o:Oper}{zv v:Value}{ok:Bool}(j:κ)(h0:dluAt T ops n z k plan listed l=some (d,o,t,.map (some b),v,ok,plan',listed',l'))(hu:P.underlying t=some (.map kt et))(hz:(P.info? et).bind (·.zero)=some zv)(hK:KeyOK P kt enc)(hv:v=enc j)(hin:In K0 A h)(hm:MpO enc encv h b m)
  (hk:WA P w0 ops Q K0 A z plan' listed' n ((d,lkV ok (match mget j m with|some v=>encv v|none=>zv) (mget j m).isSome)::l') K hs):WA P w0 ops Q K0 A z plan listed n l K hs:=by
 unfold dluAt at h0
 split at h0
 ·rename_i d' o' r L' l2 ho
  split at h0
  ·rename_i t' x y ok' hop
   split at h0
   ·rename_i u' v' hx hy;simp only[Option.some.injEq,Prod.mk.injEq] at h0;obtain ⟨rfl,rfl,rfl,rfl,rfl,rfl,rfl,rfl,rfl⟩:=h0;subst hv;refine dopr hT hsel k ho (fun a w ha hw=>?_) hk;have:=run_lookup (P:=P) hu hK hz hm (hw.inn hin) j ok';simp only[execOp,hop,ha.ev hx,ha.ev hy];simp[this]
   ·simp at h0
  ·simp at h0
 ·simp at h0
end opn
end
section
attribute [local irreducible] Code.wp wpList Calls
theorem IsS.pre{h:PH}{ao:Option Addr}{n cap size:Nat}{xs:List Value}(x:IsS h ao n cap size xs)(m:Nat)(hm:m<=n):IsS h ao m cap size (xs.take (m*size)):=by
 obtain ⟨h1,h2,h3⟩:=x;have:m*size<=n*size:=Nat.mul_le_mul_right _ hm;refine ⟨by simp;omega,by omega,fun j u hu=>?_⟩
 have hj:j<m*size:=by
  have:=(List.getElem?_eq_some_iff.1 hu).1;simp at this;omega
 rw[List.getElem?_take_of_lt hj] at hu;exact h3 j u hu
section rules
variable {P:Program} {T:Tab} {w0:World} {ops:Array Oper} {Q:Exit->Act->World->Prop} {rest rest':List Oper} {n:Nat} {l l':Sl} {K:PH} {hs:List PH}
def b2At(T:Tab)(ops:Array Oper)(n k:Nat)(rest:List Oper)(l:Sl):Option (Nat×Oper×Builtin×Nat×Nat×Value×Value×List Oper×Sl):=
 match ovAt T ops n k rest l with
 | some (d,o,r,l')=>match o.op with
  | .call { callee:=.builtin b,args,argTypes }=>match args.toList,argTypes.toList with
   | [x,y],[t,u]=>match ev l' x,ev l' y with
    | some vx,some vy=>some (d,o,b,t,u,vx,vy,r,l')
    | _,_=>none
   | _,_=>none
  | _=>none
 | none=>none
theorem b2At_spec{k d t u:Nat}{o:Oper}{b:Builtin}{vx vy:Value}(h:b2At T ops n k rest l=some (d,o,b,t,u,vx,vy,rest',l')):
  ovAt T ops n k rest l=some (d,o,rest',l')/\∀ a w,Ag n l' a->∃ cs,(execOp a.eval o).run P w=(builtin b #[t,u] o.type cs #[vx,vy]).run P w:=by
 unfold b2At at h
 split at h
 ·rename_i d' o' r l2 ho
  split at h
  ·rename_i b' args argTypes hop
   split at h
   ·rename_i x y t' u' e1 e2
    split at h
    ·rename_i vx' vy' hx hy;simp only[Option.some.injEq,Prod.mk.injEq] at h;obtain ⟨rfl,rfl,rfl,rfl,rfl,rfl,rfl,rfl,rfl⟩:=h;have a1':args=#[x,y]:=by cases args;simp_all
     have a2':argTypes=#[t',u']:=by cases argTypes;simp_all
     subst a1' a2';refine ⟨ho,fun a w ha=>⟨#[x,y].map fun|.const _=>true|_=>false,?_⟩⟩;simp only[execOp,hop];simp[resolve,invoke,ha.ev hx,ha.ev hy];cases x <;> cases y <;> rfl
    ·simp at h
   ·simp at h
  ·simp at h
 ·simp at h
theorem cpy(hT:TabOK P T)(k i:Nat){d t u b off ty nd cd ns csrc:Nat}{o:Oper}{si:SlI}{aos:Option Addr}{h2:PH}{c:Array Value}{xs:List Value}(m:Nat)
  (h0:b2At T ops n k rest l=some (d,o,.copy,t,u,.slice (some ⟨b,off,none⟩) nd cd,.slice aos ns csrc,rest',l')) (hsi:asc T.sls t=some si) (hi:hs[i]?=some (pt b c ty)) (hin:In K hs h2) (x:IsS h2 aos ns csrc si.size xs)
  (hm:m=min ns nd) (h1:∀ u∈xs.take (m*si.size),u.oneCell'=true) (hf:off+m*si.size<=c.size)
  (hk:WL P w0 ops Q rest' n ((d,.int .i64 (m:Int))::l') K (hs.set i (pt b (c.toList.take off++xs.take (m*si.size)++c.toList.drop (off+m*si.size)).toArray ty))):WL P w0 ops Q rest n l K hs:=by
 obtain ⟨ho,hex⟩:=b2At_spec h0;refine opa hT k (R:=fun v K' hs'=>v=.int .i64 (m:Int)/\K'=K/\hs'=hs.set i (pt b (c.toList.take off++xs.take (m*si.size)++c.toList.drop (off+m*si.size)).toArray ty)) ho (fun a w ha hw=>?_) ?_
 ·obtain ⟨cs,he⟩:=hex a w ha;obtain ⟨g1,ii,g2,g3,g4,g5⟩:=hT.sl hsi;have hb:w.heap[b]?=some (.cells c ty (0,0)):=hw.own i _ hi b _ (by simp);have x2:=x.pre m qo
  have hfc:(Builtin.firstCells si.size m (.slice aos ns csrc)).run P w=.ok (xs.take (m*si.size)).toArray w:=by
   have:=run_firstCells_isS (P:=P) hw hin x2;cases aos <;> exact this
  have hlen:(xs.take (m*si.size)).length=m*si.size:=x2.1;have hst:=run_storeCells_at P b off ty (xs.take (m*si.size)) 0 c w hb (by rw[hlen];simpa using hf) (by intro u hu;exact h1 u hu);simp only[Nat.add_zero,hlen] at hst;refine ⟨_,_,K,_,?_,hw.setRow hi _,I,I,I⟩;rw[he];simp only[builtin];simp[Builtin.copy_,run_underlying g1,Builtin.lenOf,<-hm,sizeOf,typeInfo,g2,g4,hfc,hst,goInt]
 ·rintro v K' hs' ⟨rfl,rfl,rfl⟩;exact hk
theorem slx(hT:TabOK P T)(k:Nat){d:Nat}{si:SlI}{ao:Option Addr}{n1 c1:Nat}{lo hi:Option Int}(L N:Nat)
  (h0:slAt T ops n k rest l=some (d,si,(ao,n1,c1),lo,hi,rest',l')) (hL:lo.getD 0=(L:Int)) (hH:hi.getD n1=((L+N:Nat):Int)) (hN:L+N<=c1)
  (hk:WL P w0 ops Q rest' n ((d,.slice (cutA ao c1 L si.size) N (c1-L))::l') K hs):WL P w0 ops Q rest n l K hs:=by
 obtain ⟨o,ho,hd,hb,hrun⟩:=slAt_run (P:=P) hT L (L+N) h0 hL hH qo hN;refine WL.at' hT ho fun hg=>WL.val (R:=fun u K' hs'=>u=.slice (cutA ao c1 L si.size) N (c1-L)/\K'=K/\hs'=hs) hd hb hg (fun A w ha hw=>⟨_,w,K,hs,hrun A w ha,hw,?_,I,I⟩) ?_
 ·rw[Nat.add_sub_cancel_left]
 ·rintro u K' hs' ⟨rfl,rfl,rfl⟩;exact hk
theorem cutA_lt{g off c L size:Nat}(h:L<c):cutA (some ⟨g,off,none⟩) c L size=some ⟨g,off+L*size,none⟩:=by
 rw[cutA,if_neg qo];simp[add_mk]
theorem cutA_0{ao:Option Addr}{c size:Nat}:cutA ao c 0 size=ao:=by
 unfold cutA
 split
 ·rfl
 ·cases ao with
  | none=>rfl
  | some a=>simp[Addr.add]
end rules
section ext
variable {P:Program} {T:Tab} {w0:World} {ops:Array Oper} {Q:Exit->Act->World->Prop} {rest rest':List Oper} {n:Nat} {l l':Sl} {K:PH} {hs:List PH}
end ext
section three
variable {P:Program} {T:Tab} {w0:World} {ops:Array Oper} {Q:Exit->Act->World->Prop} {rest rest':List Oper} {n:Nat} {l l':Sl} {K:PH} {hs:List PH}
def s3gAt(T:Tab)(ops:Array Oper)(n k:Nat)(rest:List Oper)(l:Sl):Option (Nat×Oper×SlI×(Option Addr×Nat×Nat)×Option Int×Int×Int×List Oper×Sl):=
 match ovAt T ops n k rest l with
 | some (d,o,r,l')=>match o.op with
  | .slice t x none (some hi) (some mx)=>match asc T.sls t,ev l' x,ev l' hi,ev l' mx with
   | some si,some (.slice a1 n1 c1),some (.int _ j),some (.int _ m)=>some (d,o,si,(a1,n1,c1),none,j,m,r,l')
   | _,_,_,_=>none
  | .slice t x (some lo) (some hi) (some mx)=>match asc T.sls t,ev l' x,ev l' lo,ev l' hi,ev l' mx with
   | some si,some (.slice a1 n1 c1),some (.int _ i),some (.int _ j),some (.int _ m)=>some (d,o,si,(a1,n1,c1),some i,j,m,r,l')
   | _,_,_,_,_=>none
  | _=>none
 | none=>none
theorem sl3g(hT:TabOK P T)(k:Nat){d:Nat}{o:Oper}{si:SlI}{ao:Option Addr}{n1 c1:Nat}{lo:Option Int}{hi mx:Int}(L N M:Nat)(h0:s3gAt T ops n k rest l=some (d,o,si,(ao,n1,c1),lo,hi,mx,rest',l'))
  (hL:lo.getD 0=(L:Int)) (hH:hi=((L+N:Nat):Int)) (hM:mx=(M:Int)) (hN:L+N<=M) (hc:M<=c1)
  (hk:WL P w0 ops Q rest' n ((d,.slice (cutA ao M L si.size) N (M-L))::l') K hs):WL P w0 ops Q rest n l K hs:=by
 unfold s3gAt at h0
 split at h0
 ·rename_i d' o' r l2 ho;have c1':((M:Nat):Int)<=((c1:Nat):Int):=by omega
  have t1:(((L:Nat):Int)+((N:Nat):Int)).toNat=L+N:=by omega
  have t2:(((L:Nat):Int)+((N:Nat):Int))<=((M:Nat):Int):=by omega
  have t3:0<=((L:Nat):Int)+((N:Nat):Int):=by omega
  split at h0
  ·rename_i t x hi' mx' hop
   split at h0
   ·rename_i si' a1 m1 k1 kk jj kk2 mm hsi hx h2' h3';simp only[Option.some.injEq,Prod.mk.injEq] at h0;obtain ⟨rfl,rfl,rfl,⟨rfl,rfl,rfl⟩,rfl,rfl,rfl,rfl,rfl⟩:=h0;subst hH hM;simp only[Option.getD_none] at hL;obtain rfl:L=0:=by omega
    obtain ⟨h1,im,h2,h3,h4,h5⟩:=hT.sl hsi;refine opr hT k ho (fun a w ha hw=>?_) hk;have q1:N<=M:=by omega
    have q2:((N:Nat):Int)<=((M:Nat):Int):=by omega
    simp only[execOp,hop,ha.ev hx];simp[Instr.sliceAt,Instr.slice,Instr.sliceBounds,Instr.sliceBound,asIntOf,run_underlying h1,ha.ev h2',ha.ev h3',sizeOf,typeInfo,h2,h4,cutA,hc,q1,q2]
   ·simp at h0
  ·rename_i t x lo' hi' mx' hop
   split at h0
   ·rename_i si' a1 m1 k1 kk0 ii kk jj kk2 mm hsi hx h1' h2' h3';simp only[Option.some.injEq,Prod.mk.injEq] at h0;obtain ⟨rfl,rfl,rfl,⟨rfl,rfl,rfl⟩,rfl,rfl,rfl,rfl,rfl⟩:=h0;subst hH hM;simp only[Option.getD_some] at hL;subst hL;obtain ⟨h1,im,h2,h3,h4,h5⟩:=hT.sl hsi;refine opr hT k ho (fun a w ha hw=>?_) hk;simp only[execOp,hop,ha.ev hx];simp[Instr.sliceAt,Instr.slice,Instr.sliceBounds,Instr.sliceBound,asIntOf,run_underlying h1,ha.ev h1',ha.ev h2',ha.ev h3',sizeOf,typeInfo,h2,h4,cutA,hc];rw[if_pos qo,t1]
    simp
   ·simp at h0
  ·simp at h0
 ·simp at h0
end three
theorem Own.pre{h:PH}{ao:Option Addr}{n cap e size:Nat}{xs:List Value}(o:Own h ao n cap e size xs)(m:Nat)(hm:m<=n):Own h ao m cap e size (xs.take (m*size)):=by
 obtain ⟨h1,h2,h3,h4⟩:=o;have:m*size<=n*size:=Nat.mul_le_mul_right _ hm;refine ⟨by simp;omega,by omega,h3,?_⟩;rcases h4 with h|⟨g,off,cur,e1,e2,e3,e4⟩
 ·exact .inl h
 ·refine .inr ⟨g,off,cur,e1,e2,e3,?_⟩;rw[<-e4,List.take_take,Nat.min_eq_left this]
section openc
variable {P:Program} {T:Tab} {w0:World} {ops:Array Oper} {Q:Exit->Act->World->Prop} {plan plan':List Nat} {z:Nat} {listed listed':Array Bool} {n:Nat} {l l':Sl} {K K0:PH} {hs A:List PH}
theorem dslx(hT:TabOK P T)(hsel:Region.noSelect ops=true)(k:Nat){d d':Nat}{o:Oper}{si:SlI}{ao:Option Addr}{n1 c1:Nat}{lo hi:Option Int}(L N:Nat)
  (h0:dopAt T ops n z k plan listed l=some (d,o,plan',listed',l')) (h1:slAt T ops n 0 [o] l'=some (d',si,(ao,n1,c1),lo,hi,[],l')) (hL:lo.getD 0=(L:Int)) (hH:hi.getD n1=((L+N:Nat):Int)) (hN:L+N<=c1)
  (hk:WA P w0 ops Q K0 A z plan' listed' n ((d,.slice (cutA ao c1 L si.size) N (c1-L))::l') K hs):WA P w0 ops Q K0 A z plan listed n l K hs:=by
 obtain ⟨o',ho,hd,hb,hrun⟩:=slAt_run (P:=P) hT L (L+N) h1 hL hH qo hN
 have ho':o'=o:=by
  have e:pureN T ops n 0 [o] l'=some ([o],l'):=rfl;unfold opAt at ho;rw[e] at ho;dsimp only at ho
  split at ho
  ·simp only[Option.some.injEq,Prod.mk.injEq] at ho;exact ho.1.symm
  ·simp at ho
 subst ho';refine dop hT hsel k h0 (v:=.slice (cutA ao c1 L si.size) N (c1-L)) (fun a w ha=>?_) hk;have:=hrun a w ha;rw[Nat.add_sub_cancel_left] at this;exact this
end openc
end
section
def Al2{α:Type}(R:List Value->α->Prop):List (List Value)->List α->Prop
 | [],[]=>True
 | c::cs,x::xs=>R c x/\Al2 R cs xs
 | _,_=>False
section al
variable {α:Type} {R R':List Value->α->Prop}
theorem Al2.imp(h:∀ c x,R c x->R' c x):∀ {cs:List (List Value)} {xs:List α},Al2 R cs xs->Al2 R' cs xs
 | [],[],_=>trivial
 | _::_,_::_,g=>⟨h _ _ g.1,Al2.imp h g.2⟩
 | [],_::_,g=>g.elim
 | _::_,[],g=>g.elim
theorem Al2.len:∀ {cs:List (List Value)} {xs:List α},Al2 R cs xs->cs.length=xs.length
 | [],[],_=>rfl
 | _::_,_::_,g=>by simp[Al2.len g.2]
 | [],_::_,g=>g.elim
 | _::_,[],g=>g.elim
theorem Al2.get:∀ {cs:List (List Value)} {xs:List α} {i:Nat} {x:α},Al2 R cs xs->xs[i]?=some x->∃ c,cs[i]?=some c/\R c x
 | [],[],i,x,_,h=>by simp at h
 | c::cs,y::xs,0,x,g,h=>by simp at h;subst h;exact ⟨c,by simp,g.1⟩
 | c::cs,y::xs,i+1,x,g,h=>by
  obtain ⟨d,h1,h2⟩:=Al2.get (i:=i) g.2 (by simpa using h);exact ⟨d,by simpa using h1,h2⟩
 | [],_::_,_,_,g,_=>g.elim
 | _::_,[],_,_,g,_=>g.elim
theorem Al2.append:∀ {cs ds:List (List Value)} {xs ys:List α},Al2 R cs xs->Al2 R ds ys->Al2 R (cs++ds) (xs++ys)
 | [],_,[],_,_,h=>h
 | _::_,_,_::_,_,g,h=>⟨g.1,Al2.append g.2 h⟩
 | [],_,_::_,_,g,_=>g.elim
 | _::_,_,[],_,g,_=>g.elim
theorem Al2.drop:∀ (k:Nat) {cs:List (List Value)} {xs:List α},Al2 R cs xs->Al2 R (cs.drop k) (xs.drop k)
 | 0,_,_,h=>h
 | k+1,[],[],_=>trivial
 | k+1,_::_,_::_,g=>Al2.drop k g.2
 | k+1,[],_::_,g=>g.elim
 | k+1,_::_,[],g=>g.elim
theorem Al2.take:∀ (k:Nat) {cs:List (List Value)} {xs:List α},Al2 R cs xs->Al2 R (cs.take k) (xs.take k)
 | 0,_,_,_=>trivial
 | k+1,[],[],_=>trivial
 | k+1,_::_,_::_,g=>⟨g.1,Al2.take k g.2⟩
 | k+1,[],_::_,g=>g.elim
 | k+1,_::_,[],g=>g.elim
theorem Al2.set{c:List Value}{y:α}(hc:R c y):∀ (k:Nat) {cs:List (List Value)} {xs:List α},Al2 R cs xs->Al2 R (cs.set k c) (xs.set k y)
 | _,[],[],_=>trivial
 | 0,_::_,_::_,g=>⟨hc,g.2⟩
 | k+1,_::_,_::_,g=>⟨g.1,Al2.set hc k g.2⟩
 | _,[],_::_,g=>g.elim
 | _,_::_,[],g=>g.elim
theorem flat_get{size:Nat}:∀ {cs:List (List Value)} {i:Nat} {c:List Value},(∀ d∈cs,d.length=size)->cs[i]?=some c->∀ (j:Nat) v,c[j]?=some v->cs.flatten[i*size+j]?=some v
 | [],i,c,_,h,_,_,_=>by simp at h
 | d::cs,0,c,hl,h,j,v,hv=>by
  simp at h;subst h;have hj:=(List.getElem?_eq_some_iff.1 hv).1;rw[List.flatten_cons,Nat.zero_mul,Nat.zero_add,List.getElem?_append_left hj];exact hv
 | d::cs,i+1,c,hl,h,j,v,hv=>by
  have hd:=hl d (by simp);rw[List.flatten_cons,Nat.succ_mul,show i*size+size+j=d.length+(i*size+j) from by omega,List.getElem?_append_right qo,Nat.add_sub_cancel_left];exact flat_get (fun x hx=>hl x (by simp[hx])) (by simpa using h) j v hv
theorem flat_len{size:Nat}:∀ {cs:List (List Value)},(∀ d∈cs,d.length=size)->cs.flatten.length=cs.length*size
 | [],_=>by simp
 | d::cs,h=>by rw[List.flatten_cons,List.length_append,h d (by simp),flat_len (fun x hx=>h x (by simp[hx])),List.length_cons,Nat.succ_mul];omega
theorem flat_drop{size:Nat}:∀ (k:Nat) {cs:List (List Value)},(∀ d∈cs,d.length=size)->cs.flatten.drop (k*size)=(cs.drop k).flatten
 | 0,cs,_=>by simp
 | k+1,[],_=>by simp
 | k+1,d::cs,h=>by
  rw[List.flatten_cons,Nat.succ_mul,show k*size+size=d.length+k*size from by rw[h d (by simp)];omega,<-List.drop_drop,List.drop_left,flat_drop k (fun x hx=>h x (by simp[hx]))]
  simp
theorem flat_take{size:Nat}:∀ (k:Nat) {cs:List (List Value)},(∀ d∈cs,d.length=size)->cs.flatten.take (k*size)=(cs.take k).flatten
 | 0,cs,_=>by simp
 | k+1,[],_=>by simp
 | k+1,d::cs,h=>by
  rw[List.flatten_cons,Nat.succ_mul,show k*size+size=d.length+k*size from by rw[h d (by simp)];omega,List.take_append];rw[List.take_of_length_le qo,Nat.add_sub_cancel_left,flat_take k (fun x hx=>h x (by simp[hx]))]
  simp
def SlS(size:Nat)(R:List Value->α->Prop)(H:PH)(ao:Option Addr)(n cap:Nat)(xs:List α):Prop:=
 ∃ css:List (List Value),n=xs.length/\IsS H ao n cap size css.flatten/\Al2 R css xs/\∀ d∈css,d.length=size
theorem SlS.le{size:Nat}{H H':PH}{ao:Option Addr}{n cap:Nat}{xs:List α}(h:SlS size R H ao n cap xs)(l:Le H H')(hR:∀ c x,R c x->R' c x):SlS size R' H' ao n cap xs:=by
 obtain ⟨css,h1,h2,h3,h4⟩:=h;exact ⟨css,h1,h2.le l,h3.imp hR,h4⟩
theorem SlS.nil(size:Nat)(H:PH)(ao:Option Addr)(cap:Nat):SlS size R H ao 0 cap []:=⟨[],rfl,IsS.nil H ao cap size,trivial,by simp⟩
theorem SlS.cells{size:Nat}{H:PH}{a:Addr}{n cap i:Nat}{xs:List α}{x:α}(h:SlS size R H (some a) n cap xs)(hx:xs[i]?=some x):∃ c,R c x/\c.length=size/\∀ (j:Nat) v,c[j]?=some v->Cell H ((a.add (i*size)).add j) v:=by
 obtain ⟨css,h1,h2,h3,h4⟩:=h;obtain ⟨c,hc,hr⟩:=h3.get hx;refine ⟨c,hr,h4 c (List.mem_of_getElem? hc),fun j v hv=>?_⟩;obtain ⟨a',e,hcell⟩:=h2.2.2 _ v (flat_get h4 hc j v hv);cases e;obtain ⟨b,o,sp⟩:=a;have hsp:=hcell.1
 have e2:((⟨b,o,sp⟩:Addr).add (i*size)).add j=(⟨b,o,sp⟩:Addr).add (i*size+j):=by
  unfold Addr.add at hsp ⊢
  by_cases h0:i*size=0
  ·simp[h0]
  ·by_cases h1:j=0
   ·subst h1;simp[h0]
   ·simp[h0,h1,Nat.add_assoc]
 rw[e2];exact hcell
theorem SlS.isS{size:Nat}{H:PH}{ao:Option Addr}{n cap:Nat}{xs:List α}(h:SlS size R H ao n cap xs):∃ vs,IsS H ao n cap size vs:=by
 obtain ⟨css,_,h2,_⟩:=h;exact ⟨_,h2⟩
theorem SlS.len{size:Nat}{H:PH}{ao:Option Addr}{n cap:Nat}{xs:List α}(h:SlS size R H ao n cap xs):n=xs.length:=by
 obtain ⟨css,h1,_⟩:=h;exact h1
theorem SlS.addr{size:Nat}{H:PH}{ao:Option Addr}{n cap:Nat}{xs:List α}(h:SlS size R H ao n cap xs)(hn:0<n)(hs:0<size):∃ a,ao=some a:=by
 obtain ⟨css,_,h2,_⟩:=h;exact h2.addr hn hs
theorem SlS.cut{size:Nat}{H:PH}{ao:Option Addr}{n cap:Nat}{xs:List α}(h:SlS size R H ao n cap xs)(L:Nat)(hL:L<=n):SlS size R H (cutA ao cap L size) (n-L) (cap-L) (xs.drop L):=by
 obtain ⟨css,h1,h2,h3,h4⟩:=h;have hl:css.length=n:=by rw[h3.len,h1]
 refine ⟨css.drop L,by simp[h1],h2.cut L (n-L) qo ?_,h3.drop L,fun d hd=>h4 d (List.mem_of_mem_drop hd)⟩;rw[flat_drop L h4];exact List.take_of_length_le (by rw[flat_len (fun d hd=>h4 d (List.mem_of_mem_drop hd))];simp[hl])
end al
section app
variable {P:Program} {T:Tab} {w0:World} {ops:Array Oper} {Q:Exit->Act->World->Prop} {rest rest':List Oper} {n:Nat} {l l':Sl} {K:PH} {hs:List PH} {α:Type} {R:List Value->α->Prop}
end app
def uns:List PH->PH
 | []=>em
 | h::l=>un h (uns l)
def Dj(h h':PH):Prop:=∀ b,h b=none\/h' b=none
def Djs(l:List PH):Prop:=l.Pairwise Dj
theorem uns_some:∀ {l:List PH} {b:Nat} {o:Obj},uns l b=some o->∃ h∈l,h b=some o
 | [],b,o,h=>by simp[uns,em] at h
 | x::l,b,o,h=>by
  simp only[uns,un] at h;cases e:x b with
  | some o'=>rw[e] at h;simp only[Option.some.injEq] at h;subst h;exact ⟨x,by simp,e⟩
  | none=>
   rw[e] at h;obtain ⟨y,h1,h2⟩:=uns_some h;exact ⟨y,by simp[h1],h2⟩
theorem uns_of:∀ {l:List PH} (d:Djs l) {h:PH} (hm:h∈l) {b:Nat} {o:Obj},h b=some o->uns l b=some o
 | [],_,_,hm,_,_,_=>by cases hm
 | x::l,d,h,hm,b,o,hb=>by
  simp only[uns,un];rcases List.mem_cons.1 hm with rfl|hm
  ·rw[hb]
  ·have h1:=(List.pairwise_cons.1 d).1 h hm b;cases e:x b with
   | none=>exact uns_of (List.pairwise_cons.1 d).2 hm hb
   | some o'=>
    rcases h1 with h1|h1
    ·rw[e] at h1;cases h1
    ·rw[hb] at h1;cases h1
theorem uns_none{l:List PH}{b:Nat}(h:∀ x∈l,x b=none):uns l b=none:=by
 cases e:uns l b with
 | none=>rfl
 | some o=>obtain ⟨x,h1,h2⟩:=uns_some e;rw[h x h1] at h2;cases h2
theorem Sat.split{w0 w:World}{K:PH}{l hs:List PH}(s:Sat w0 w K (uns l::hs))(d:Djs l):Sat w0 w K (l++hs):=by
 rw[Sat.iff] at s ⊢;obtain ⟨⟨h1,h2,h3,h4,h5,h6⟩,h7⟩:=s;rw[List.pairwise_cons] at h7;refine ⟨⟨h1,h2,h3,h4,h5,fun h hm b o hb=>?_⟩,?_⟩
 ·rcases List.mem_append.1 hm with hm|hm
  ·exact h6 (uns l) (by simp) b o<|uns_of d hm hb
  ·exact h6 h (by simp[hm]) b o hb
 ·rw[List.pairwise_append];refine ⟨d,h7.2,fun x hx y hy b=>?_⟩;cases e:x b with
  | none=>exact .inl rfl
  | some o=>
   rcases h7.1 y hy b with h|h
   ·rw[uns_of d hx e] at h;cases h
   ·exact .inr h
theorem Sat.join{w0 w:World}{K:PH}(l:List PH){hs:List PH}(s:Sat w0 w K (l++hs)):Djs l/\Sat w0 w K (uns l::hs):=by
 rw[Sat.iff] at s ⊢;obtain ⟨⟨h1,h2,h3,h4,h5,h6⟩,h7⟩:=s;rw[List.pairwise_append] at h7;obtain ⟨d,h8,h9⟩:=h7;refine ⟨d,⟨h1,h2,h3,h4,h5,fun h hm b o hb=>?_⟩,?_⟩
 ·rcases List.mem_cons.1 hm with rfl|hm
  ·obtain ⟨x,g1,g2⟩:=uns_some hb;exact h6 x (by simp[g1]) b o g2
  ·exact h6 h (by simp[hm]) b o hb
 ·rw[List.pairwise_cons];refine ⟨fun y hy b=>?_,h8⟩;cases e:y b with
  | none=>exact .inr rfl
  | some o=>
   refine .inl (uns_none fun x hx=>?_);rcases h9 x hx y hy b with h|h
   ·exact h
   ·rw[e] at h;cases h
section sj
variable {P:Program} {w0:World} {ops:Array Oper} {Q:Exit->Act->World->Prop} {rest:List Oper} {n:Nat} {l:Sl} {K:PH} {hs:List PH} {c:Code} {e:Exit} {r:Option Nat} {ds:List Deferred}
theorem WL.split{m:List PH}(d:Djs m)(hk:WL P w0 ops Q rest n l K (m++hs)):WL P w0 ops Q rest n l K (uns m::hs):=fun a w ha hw=>hk a w ha (hw.split d)
theorem WC.split{m:List PH}(d:Djs m)(hk:WC P w0 c Q n l K (m++hs)):WC P w0 c Q n l K (uns m::hs):=fun a w ha hw=>hk a w ha (hw.split d)
theorem WQ.split{m:List PH}(d:Djs m)(hk:WQ w0 Q e n l K (m++hs)):WQ w0 Q e n l K (uns m::hs):=fun a w ha hw=>hk a w ha (hw.split d)
theorem WX.split{m:List PH}(d:Djs m)(hk:WX P w0 r ds c Q n l K (m++hs)):WX P w0 r ds c Q n l K (uns m::hs):=fun a w ha hw=>hk a w ha (hw.split d)
theorem WQX.drop{h:PH}(hk:WQX ds w0 Q e n l K hs):WQX ds w0 Q e n l K (h::hs):=fun a w ha hw=>hk a w ha hw.dropHead
theorem WQ.drop1{h x:PH}(hk:WQ w0 Q e n l K (h::hs)):WQ w0 Q e n l K (h::x::hs):=fun a w ha hw=>hk a w ha (hw.perm (List.Perm.swap x h hs)).dropHead
theorem WX.drop{h:PH}(hk:WX P w0 r ds c Q n l K hs):WX P w0 r ds c Q n l K (h::hs):=fun a w ha hw=>hk a w ha hw.dropHead
theorem WQX.perm{hs':List PH}(p:hs.Perm hs')(hk:WQX ds w0 Q e n l K hs'):WQX ds w0 Q e n l K hs:=fun a w ha hw=>hk a w ha (hw.perm p)
theorem WX.perm{hs':List PH}(p:hs.Perm hs')(hk:WX P w0 r ds c Q n l K hs'):WX P w0 r ds c Q n l K hs:=fun a w ha hw=>hk a w ha (hw.perm p)
theorem WX.em(hk:WX P w0 r ds c Q n l K (En.em::hs)):WX P w0 r ds c Q n l K hs:=fun a w ha hw=>hk a w ha hw.addEm
end sj
theorem dnexL{P:Program}{w0:World}{ops:Array Oper}{Q:Exit->Act->World->Prop}{plan:List Nat}{z:Nat}{n:Nat}{l:Sl}{K K0:PH}{hs A:List PH}{L:Array Bool}(A':List PH)(hA:∀ h∈A',h∈hs)(hAA:∀ h∈A,h∈A')(hK:Le K0 K)(hk:WA P w0 ops Q K A' z plan L n l K hs):
  WL P w0 ops (fun e a w=>planOK .any ops plan L=true->Closed .any ops L->aft P w0 ops Q K0 A z plan L e a w) [] n l K hs:=by
 intro a w ha hw;refine wpList_nil fun hp hc=>?_;have up:∀ L w,still z (HasL K A') L w->still z (HasL K0 A) L w:=fun L w h hz=>⟨fun b o hb=>(h hz).1 b o (hK b o hb),fun x hx=>(h hz).2 x (hAA x hx)⟩;have hst:still z (HasL K A') L w:=fun _=>HasL.ofMem hw hA;exact ⟨up _ _ hst,tr_S up _ _ _ _ (hk hp hc a w ha hw hst)⟩
section dbd
variable {P:Program} {T:Tab} {w0:World} {ops:Array Oper} {Q:Exit->Act->World->Prop} {plan plan':List Nat} {z:Nat} {listed listed':Array Bool} {n:Nat} {l l':Sl} {K K0:PH} {hs A:List PH}
def dbdAt(T:Tab)(ops:Array Oper)(n z k:Nat)(plan:List Nat)(L:Array Bool)(l:Sl):Option (Nat×Oper×Nat×List (Nat×Value)×List Nat×Array Bool×Sl):=
 match dopAt T ops n z k plan L l with
 | some (d,o,r,L',l')=>match o.op with
  | .build t parts=>match parts.toList.mapM (fun x=>(ev l' x.2).map (fun v=>(x.1,v))) with
   | some vs=>some (d,o,t,vs,r,L',l')
   | none=>none
  | _=>none
 | none=>none
theorem dbd(hT:TabOK P T)(hsel:Region.noSelect ops=true)(k:Nat){d t:Nat}{o:Oper}{vs:List (Nat×Value)}(v:Value)(h0:dbdAt T ops n z k plan listed l=some (d,o,t,vs,plan',listed',l'))(hv:∀ w,(Instr.build t vs.toArray).run P w=.ok v w)
  (hk:WA P w0 ops Q K0 A z plan' listed' n ((d,v)::l') K hs):WA P w0 ops Q K0 A z plan listed n l K hs:=by
 unfold dbdAt at h0
 split at h0
 ·rename_i d' o' r L' l2 hh
  split at h0
  ·rename_i t' parts hop
   split at h0
   ·rename_i vs' hvs;simp only[Option.some.injEq,Prod.mk.injEq] at h0;obtain ⟨rfl,rfl,rfl,rfl,rfl,rfl,rfl⟩:=h0;refine dop hT hsel k hh (fun a w ha=>?_) hk;have h6:=evs_map ha _ _ hvs
    have h7:(parts.map fun x=>(x.1,a.eval x.2))=vs'.toArray:=by
     apply Array.ext'
     simpa using h6
    simp only[execOp,hop];have h8:=hv w;rw[<-h7] at h8;simp[h8]
   ·simp at h0
  ·simp at h0
 ·simp at h0
end dbd
end
section
attribute [local irreducible] Code.wp wpList Calls
def ItG(P:Program)(w0:World)(f:Nat)(cap:List Value){σ:Type}(step:σ->List Value->σ->Prop)(over:σ->Prop)(s0:σ)(Rd:PH->List PH->Prop):Prop:=
 ∀ (L:Nat) (St:σ->PH->List PH->Prop) (Sp:PH->List PH->Prop),(∀ s K hs,St s K hs->Rd K hs) ->
  (∀ s vs s' K hs fr,step s vs s'->St s K hs->YCt P w0 L vs K (hs++fr) (fun v K' hs'=>∃ hs1,hs'=hs1++fr/\((v=.bool true/\St s' K' hs1)\/(v=.bool false/\Sp K' hs1)))) ->
  ∀ K hs,St s0 K hs->Ct P w0 f (.func (.yield L) #[] #[]::cap) K hs (fun _ K' hs'=>(∃ s,over s/\St s K' hs')\/Sp K' hs')
section it
variable {P:Program} {T:Tab} {w0:World} {r:Option Nat} {ds:List Deferred} {ops:Array Oper} {Q:Exit->Act->World->Prop} {rest rest':List Oper} {n:Nat} {l:Sl} {K:PH} {hs:List PH}
theorem YCt.perm{L:Nat}{vs:List Value}{R:Value->PH->List PH->Prop}{hs':List PH}(p:hs.Perm hs')(h:YCt P w0 L vs K hs' R):YCt P w0 L vs K hs R:=fun w hw=>h w (hw.perm p)
theorem rgG{g:Operand}{ps:Array Tmp}{assign body:Code}{f:Nat}(cap:List Value){σ:Type}(step:σ->List Value->σ->Prop)(over:σ->Prop)(s0:σ)(Rd:PH->List PH->Prop)(hg:ev l g=some (.func (.func f) #[] cap.toArray))(it:ItG P w0 f cap step over s0 Rd)(hcal:callable P f=true)
  (hps:∀ s vs s',step s vs s'->vs.length=ps.size) (hpn:(ps.toList.all fun t=>Nat.blt t n)=true) (St:σ->PH->List PH->Prop) (Jm:Code->PH->List PH->Prop) (h0:St s0 K hs) (hRd:∀ s K hs t u,St s K hs->Rd K (hs++[t,u]))
  (round:∀ L s vs s' K hs fr t u,step s vs s'->St s K hs->WX P w0 (some L) [] assign (Exit.then (aQ P w0 L n body (fun _ K hs=>∃ hs1,hs=hs1++fr/\St s' K hs1) (fun c K hs=>∃ hs1,hs=hs1++fr/\Jm c K hs1) t u 0) (fun _ _ _=>False)) n (prm ps.toList vs l) K ((hs++fr)++[t,u]))
  (done:∀ D s K' hs',over s->St s K' hs'->WQX (mkd D::ds) w0 Q .normal n l K' (hs'++[dfr D]))
  (stop:∀ D c K' hs',Jm c K' hs'->WX P w0 none (mkd D::ds) c Q n l K' (hs'++[dfr D])):WX P w0 none ds (.rangeFunc g ps assign body) Q n l K hs:=by
 intro a w ha hw;refine wpIn_rangeFunc ?_;intro fn _;obtain ⟨rec,hrec⟩:∃ rec:LoopState->Option Code->Loop,rec=fun st pe=>{ state:=st,pending:=pe,fn,tmps:=a.tmps,params:=ps,assign,body,defers:=w.heap.size }:=⟨_,rfl⟩;obtain ⟨D,hD⟩:∃ D,D=w.heap.size:=⟨_,rfl⟩;obtain ⟨W1,hW1⟩:∃ W1,(w.alloc (.deferred (some []))).alloc (.loop (rec .ready none))=W1:=⟨_,rfl⟩
 have hS1:Sat w0 W1 K (hs++[dfr D,sg (D+1) (.loop (rec .ready none))]):=by
  have h1:=(hw.alloc (.deferred (some []))).alloc (.loop (rec .ready none));rw[World.size_alloc,<-hD,hW1] at h1;refine h1.perm ?_;rw[app2];exact ((List.perm_append_singleton _ _).symm.cons _).trans (List.perm_append_singleton _ _).symm
 refine ⟨D+1,[mkd D],W1,{ target:=.fn (.func f) cap.toArray,args:=#[.func (.yield (D+1)) #[] #[]] },W1,f,#[.func (.yield (D+1)) #[] #[]]++cap.toArray,W1,?_,?_,?_,?_,fun h=>by simp[fz] at h,?_⟩
 ·rw[<-hW1,hrec,hD];exact run_enterLoop_outer _ _ _ _ _
 ·simp only[resolve,evX ha hg];simp[Deferred.ofValue]
  rfl
 ·intro f' _;trivial
 ·have hcal':=hcal;unfold callable at hcal';cases hfn:P.funcs[f]? with
  | none=>simp[hfn] at hcal'
  | some fn=>
   simp only[hfn,Bool.and_eq_true,Bool.not_eq_true'] at hcal';have hbn:¬fn.body=none:=fun e=>by simp[e] at hcal'
   have hnm : ¬ fn.name = "runtime.NumGoroutine" := by simpa using hcal'.2
   simp[invoke,callFunc,hfn,hbn,hnm]
 ·have hargs:(#[Value.func (.yield (D+1)) #[] #[]]++cap.toArray:Array Value)=(Value.func (.yield (D+1)) #[] #[]::cap).toArray:=by simp
  rw[hargs]
  have key:=it (D+1) (fun s K hs=>∃ hs',hs=hs'++[dfr D,sg (D+1) (.loop (rec .ready none))]/\St s K hs') (fun K hs=>∃ c hs',hs=hs'++[dfr D,sg (D+1) (.loop (rec .done (some c)))]/\Jm c K hs')
   (by rintro i K hs ⟨hs',rfl,h⟩;exact hRd i K hs' _ _ h) ?_ K _ ⟨hs,I,h0⟩
  ·refine (callsIn_wide.2 (key.2 _ hS1)).mono ?_;rintro e w2 ⟨v,K2,hs2,rfl,hh,hw2⟩;rcases hh with ⟨s,hov,hs',rfl,hst⟩|⟨c,hs',rfl,hjm⟩
   ·rw[app2] at hw2;have h1:=run_endLoop (P:=P) hw2.last (by rw[hrec];simp);rw[hrec] at h1;exact ⟨none,_,h1,done D s K2 hs' hov hst a _ ha (hw2.putLast _).dropLast⟩
   ·rw[app2] at hw2;have h1:=run_endLoop (P:=P) hw2.last (by rw[hrec];simp);rw[hrec] at h1;exact ⟨some c,_,h1,stop D c K2 hs' hjm a _ ha (hw2.putLast _).dropLast⟩
  ·rintro s vs s' K1 hs1 fr hvs ⟨hs',rfl,hst⟩ w1 hw1
   have pf:∀ (X:List PH) (t u:PH),(X++[t,u]++fr).Perm ((X++fr)++[t,u]):=fun X t u=>by
    rw[List.append_assoc,List.append_assoc];exact List.perm_append_comm.append_left X
   replace hw1:=hw1.perm (pf hs' _ _)
   have hl1:w1.heap[D+1]?=some (.loop (rec .ready none)):=by rw[app2] at hw1;exact hw1.last
   have hsz:vs.toArray.size=(rec .ready none).params.size:=by rw[hrec];simpa using hps s vs s' hvs
   have hy:=run_yield (P:=P) hl1 hsz;refine ⟨_,_,_,_,hy,roundIn_of_wpIn (F:=fz none) trivial ?_⟩
   have hA:Ag n (prm ps.toList vs l) { tmps:=((rec .ready none).params.zip vs.toArray).foldl (fun tmps (t,a)=>tmps.setIfInBounds t a) (rec .ready none).tmps,defers:=[] }:=by
    have h1:=Ag.prm ps.toList vs ha (fun t ht=>Nat.le_of_ble_eq_true (List.all_eq_true.1 hpn t ht));rw[hrec]
    have e1:(ps.zip vs.toArray).foldl (fun tmps (x:Nat×Value)=>tmps.setIfInBounds x.1 x.2) a.tmps=(ps.toList.zip vs).foldl (fun tmps (x:Nat×Value)=>tmps.setIfInBounds x.1 x.2) a.tmps:=by
     rw[<-Array.foldl_toList];simp
    show Ag n _ { tmps:=(ps.zip vs.toArray).foldl (fun tmps (x:Nat×Value)=>tmps.setIfInBounds x.1 x.2) a.tmps,defers:=[] };rw[e1];exact h1
   have h2:=round (D+1) s vs s' K1 hs' fr (dfr D) (sg (D+1) (.loop (rec .ready none))) hvs hst _ w1 hA hw1;rw[hrec] at h2 ⊢;refine wpIn_mono h2 ?_;intro e a3 w3 hq;cases e with
   | normal=>
    obtain ⟨l',K',hs3,hA3,hS3,hb⟩:=hq;rw[app2] at hS3;refine ⟨_,run_beginRound hS3.last I,?_⟩;have hS4:=hS3.putLast (.loop { rec .ready none with state:=.busy });rw[hrec] at hS4;have h5:=hb _ a3 _ hA3 (by rw[app2];exact hS4);rw[wd_nil hA3] at h5;refine wpIn_mono h5 ?_;intro e a4 w4 hq4;cases e with
    | normal=>
     obtain ⟨K5,hs5,hS5,hs6,rfl,hst5⟩:=hq4;rw[app2] at hS5;refine ⟨_,_,run_endRound none hS5.last,_,K5,_,I,⟨_,I,.inl ⟨I,hs6,I,hst5⟩⟩,(Sat.perm (pf hs6 _ _).symm ?_)⟩;rw[app2];exact hS5.putLast _
    | ret=>
     obtain ⟨K5,hs5,hS5,hs6,rfl,hst5⟩:=hq4;rw[app2] at hS5;refine ⟨_,_,run_endRound (some .ret) hS5.last,_,K5,_,I,⟨_,I,.inr ⟨I,.ret,hs6,I,hst5⟩⟩,(Sat.perm (pf hs6 _ _).symm ?_)⟩;rw[app2];exact hS5.putLast _
    | exit id=>
     obtain ⟨K5,hs5,hS5,hs6,rfl,hst5⟩:=hq4;rw[app2] at hS5;refine ⟨_,_,run_endRound (some (.exit id)) hS5.last,_,K5,_,I,⟨_,I,.inr ⟨I,.exit id,hs6,I,hst5⟩⟩,(Sat.perm (pf hs6 _ _).symm ?_)⟩;rw[app2];exact hS5.putLast _
    | goto l=>exact hq4.elim
    | panic ch=>exact hq4.elim
    | outgrown=>exact hq4.elim
   | exit id=>exact hq.elim
   | goto l=>exact hq.elim
   | ret=>exact hq.elim
   | panic ch=>exact hq.elim
   | outgrown=>exact hq.elim
end it
end
section
attribute [local irreducible] Code.wp wpList Calls
def MpI{κ ν:Type}(enc:κ->Value)(encv:ν->Value)(h hi:PH)(b r:Nat)(m:List (κ×ν))(ks:List κ):Prop:=
 ∃ (es:Array MapEntry) (c since:Nat) (seen:Array Nat) (last:Nat),h=sg b (.map es c)/\es.toList.map (fun e=>(e.key,e.val))=m.map (fun x=>(enc x.1,encv x.2))/\(es.toList.map (·.born)).Pairwise (· < ·)/\(∀ e∈es.toList,e.born<c) /\
  hi=sg r (.mapIter (some b) since seen last)/\(∀ e∈es.toList,e.born<since)/\(∀ e∈es.toList,e.born<last)/\∀ (i:Nat) e x,es[i]?=some e->m[i]?=some x->(e.born∈seen↔x.1∈ks)
def MpS{κ ν:Type}(enc:κ->Value)(encv:ν->Value)(h hi:PH)(b r:Nat)(m:List (κ×ν))(ks:List κ)(k:κ)(v:ν):Prop:=
 MpI enc encv h hi b r m ks/\∃ (es:Array MapEntry) (c since:Nat) (seen:Array Nat) (q:Nat) (e:MapEntry),h=sg b (.map es c)/\(es.toList.map (·.born)).Pairwise (· < ·)/\hi=sg r (.mapIter (some b) since seen c)/\seen.back?=some e.born/\es[q]?=some e/\e.key=enc k/\e.val=encv v
section
variable {κ ν:Type} [DecidableEq κ] {enc:κ->Value} {encv:ν->Value} {h hi:PH} {b r:Nat} {m:List (κ×ν)} {ks:List κ}
omit [DecidableEq κ] in
theorem MpI.map(x:MpI enc encv h hi b r m ks):MpO enc encv h b m:=by
 obtain ⟨es,c,since,seen,last,h1,h2,h3,h4,_⟩:=x;exact ⟨es,c,h1,h2,h3,h4⟩
omit [DecidableEq κ] in
theorem get_of_map{es:Array MapEntry}(h2:es.toList.map (fun e=>(e.key,e.val))=m.map (fun x=>(enc x.1,encv x.2))){i:Nat}{e:MapEntry}(he:es[i]?=some e):∃ x,m[i]?=some x/\e.key=enc x.1/\e.val=encv x.2:=by
 have h3:=congrArg (fun l=>l[i]?) h2;simp only[List.getElem?_map,Array.getElem?_toList,he,Option.map_some] at h3;cases hm:m[i]? with
 | none=>rw[hm] at h3;simp at h3
 | some x=>
  rw[hm] at h3;simp only[Option.map_some,Option.some.injEq,Prod.mk.injEq] at h3;exact ⟨x,I,h3.1,h3.2⟩
omit [DecidableEq κ] in
theorem get_of_mem{es:Array MapEntry}(h2:es.toList.map (fun e=>(e.key,e.val))=m.map (fun x=>(enc x.1,encv x.2))){i:Nat}{x:κ×ν}(hx:m[i]?=some x):∃ e,es[i]?=some e:=by
 have h3:=congrArg List.length h2;simp only[List.length_map,Array.length_toList] at h3;have h4:=(List.getElem?_eq_some_iff.1 hx).1;exact ⟨es[i]'qo,Array.getElem?_eq_getElem qo⟩
omit [DecidableEq κ] in
theorem run_next{P:Program}{w:World}(hI:MpI enc encv h hi b r m ks)(hnd:(m.map (·.1)).Nodup)(hb:∀ b o,h b=some o->w.heap[b]?=some o)(hr:∀ b o,hi b=some o->w.heap[b]?=some o)(ty:Nat):
  (∃ k v w1 o,(w1=w\/w1=w.drew)/\(k,v)∈m/\k∉ks/\(Instr.next (.pointer (some ⟨r,0,none⟩)) false ty).run P w=.ok (.tuple #[.bool true,enc k,encv v]) (w1.putObj r o)/\MpS enc encv h (sg r o) b r m (ks++[k]) k v) \/
  (∃ w1,(w1=w\/w1=w.drew)/\(Instr.next (.pointer (some ⟨r,0,none⟩)) false ty).run P w=.ok (.tuple #[.bool false]) w1/\∀ x∈m,x.1∈ks):=by
 obtain ⟨es,c,since,seen,last,rfl,h2,h3,h4,rfl,h5,h6,h7⟩:=hI;have hbm:w.heap[b]?=some (.map es c):=hb b _ (by simp);have hri:w.heap[r]?=some (.mapIter (some b) since seen last):=hr r _ (by simp)
 have hset:∀ (w1:World) (o:Obj),(w1=w\/w1=w.drew)->(setObj r o).run P w1=.ok () (w1.putObj r o):=fun w1 o hw=>by
  rcases hw with rfl|rfl
  ·simp[setObj,Sem.run,hri,World.putObj]
  ·have hri2:w.drew.heap[r]?=some (.mapIter (some b) since seen last):=hri;simp[setObj,Sem.run,hri2,World.putObj]
 have hall:(!seen.isEmpty && !es.isEmpty && es.all (·.born>=last))=false:=by
  by_cases he:es.isEmpty=true
  ·simp[he]
  ·have hz:0<es.size:=by
    rcases Nat.eq_zero_or_pos es.size with h|h
    ·exact absurd (by simpa[Array.isEmpty] using h) he
    ·exact h
   have hlt:=h6 es[0] (by simp)
   have:es.all (·.born>=last)=false:=by
    rw[Array.all_eq_false];exact ⟨0,hz,by simp;omega⟩
   simp[this]
 have hnew:(es.filter fun e=>!seen.contains e.born).filter (fun e=>decide (e.born>=since))=#[]:=by
  apply Array.filter_eq_empty_iff.2
  intro e he;have:=h5 e (by simpa using (Array.mem_filter.1 he).1)
  simp;omega
 obtain ⟨left,hleft⟩:∃ left,left=es.filter fun e=>!seen.contains e.born:=⟨_,rfl⟩
 have hold:left.filter (fun e=>decide (e.born<since))=left:=by
  apply Array.filter_eq_self.2
  intro e he;rw[hleft] at he;have:=h5 e (by simpa using (Array.mem_filter.1 he).1);simpa using this
 obtain ⟨cand,hcand⟩:∃ cand:Array (Option MapEntry),cand=(if left.isEmpty then #[none] else #[])++(left++#[]).map some:=⟨_,rfl⟩
 have hsz:0<cand.size:=by
  rw[hcand]
  by_cases he:left.isEmpty=true
  ·rw[if_pos he];simp;omega
  ·rw[if_neg he];have:left.size≠0:=by simpa[Array.isEmpty] using he
   simp;omega
 obtain ⟨i,w1,hw1,hi1,hch⟩:∃ i w1,(w1=w\/w1=w.drew)/\i<cand.size/\(choose (.mapNext cand.size)).run P w=.ok i w1:=by
  by_cases hf:cand.size<=1
  ·exact ⟨0,w,.inl I,hsz,by simp[choose,Sem.run,Question.forced,hf]⟩
  ·refine ⟨(Question.mapNext cand.size).cut (w.tape w.drawn (.mapNext cand.size)),w.drew,.inr I,Nat.mod_lt _ hsz,?_⟩;simp[choose,Sem.run,Question.forced,hf]
 have hgm:(getObj b).run P w1=.ok (.map es c) w1/\True:=⟨by rcases hw1 with rfl|rfl <;> exact run_getMap hbm,trivial⟩;have hgo:(getObj r).run P w=.ok (.mapIter (some b) since seen last) w:=by simp[getObj,Sem.run,hri]
 have hrun:(Instr.next (.pointer (some ⟨r,0,none⟩)) false ty).run P w=(match cand[i]? with
   | some (some e)=>(do setObj r (.mapIter (some b) since (seen.push e.born) c);pure (.tuple #[.bool true,e.key,e.val]):Sem Value)
   | some none=>pure (.tuple #[.bool false])
   | none => stuck "Next: no such candidate").run P w1 := by
  unfold Instr.next;simp only[Sem.run_bind,hgo,Result.andThen,run_getMap hbm,hall];have hnew2:left.filter (fun e=>decide (e.born>=since))=#[]:=by rw[hleft];exact hnew
  simp only[Bool.false_eq_true,if_false,<-hleft,hold,hnew2,<-hcand];rw[Sem.run_bind,hch]
  rfl
 have hlast:∀ e∈es.toList,e.born<c:=h4
 by_cases he:left.isEmpty=true
 ·right
  have hc1:cand=#[none]:=by
   have:left=#[]:=by simpa[Array.isEmpty] using he
   rw[hcand,this];simp
  refine ⟨w1,hw1,?_,fun x hx=>?_⟩
  ·rw[hrun];have:i=0:=by rw[hc1] at hi1;simpa using hi1
   subst this;rw[hc1]
   rfl
  ·obtain ⟨q,hq⟩:=List.mem_iff_getElem?.1 hx;obtain ⟨e,hee⟩:=get_of_mem h2 hq;refine (h7 q e x hee hq).1 ?_;have hem:e∈es:=Array.mem_of_getElem? hee
   have hno:e∉left:=by
    have:left=#[]:=by simpa[Array.isEmpty] using he
    rw[this];simp
   rw[hleft,Array.mem_filter] at hno;simpa[hem] using hno
 ·left
  have hc1:cand=left.map some:=by rw[hcand,if_neg he];simp
  have hil:i<left.size:=by rw[hc1] at hi1;simpa using hi1
  have hci:cand[i]?=some (some left[i]):=by rw[hc1];simp[hil]
  obtain ⟨e0,he0⟩:∃ e0,e0=left[i]:=⟨_,rfl⟩;have hmem:e0∈left:=by rw[he0];exact Array.getElem_mem hil
  rw[<-he0] at hci;rw[hleft,Array.mem_filter] at hmem;obtain ⟨q,hq⟩:=Array.mem_iff_getElem?.1 hmem.1;obtain ⟨x,hx,hk,hv⟩:=get_of_map h2 hq;have hxm:x∈m:=List.mem_of_getElem? hx
  have hnks:x.1∉ks:=fun hc=>by
   have:=(h7 q _ x hq hx).2 hc;simp[this] at hmem
  refine ⟨x.1,x.2,w1,.mapIter (some b) since (seen.push e0.born) c,hw1,hxm,hnks,?_,⟨es,c,since,seen.push e0.born,c,I,h2,h3,h4,I,h5,h4,?_⟩,es,c,since,seen.push e0.born,q,e0,I,h3,I,by simp,hq,hk,hv⟩
  ·rw[hrun,hci];simp only[Sem.run_bind,hset w1 _ hw1,Result.andThen];rw[hk,hv]
   rfl
  ·intro j e y hje hjy;rw[Array.mem_push,List.mem_append,List.mem_singleton,h7 j e y hje hjy]
   by_cases hjq:j=q
   ·subst hjq;rw[hje] at hq;cases hq;rw[hx] at hjy;cases hjy
    simp
   ·have hborn:e.born≠e0.born:=by
     have hp:=List.pairwise_iff_getElem.1 h3;obtain ⟨hj1,hj2⟩:=Array.getElem?_eq_some_iff.1 hje;obtain ⟨hq1,hq2⟩:=Array.getElem?_eq_some_iff.1 hq;rcases Nat.lt_or_gt_of_ne hjq with h|h
     ·have:=hp j q (by simpa using hj1) (by simpa using hq1) h;simp[hj2,hq2] at this;omega
     ·have:=hp q j (by simpa using hq1) (by simpa using hj1) h;simp[hj2,hq2] at this;omega
    have hkey:y.1≠x.1:=by
     intro hc;have hp:=List.pairwise_iff_getElem.1 hnd;obtain ⟨hj1,hj2⟩:=List.getElem?_eq_some_iff.1 hjy;obtain ⟨hq1,hq2⟩:=List.getElem?_eq_some_iff.1 hx;rcases Nat.lt_or_gt_of_ne hjq with h|h
     ·exact hp j q (by simpa using hj1) (by simpa using hq1) h (by simp[hj2,hq2,hc])
     ·exact hp q j (by simpa using hq1) (by simpa using hj1) h (by simp[hj2,hq2,hc])
    simp[hborn,hkey]
end
section rules
variable {P:Program} {T:Tab} {w0:World} {ops:Array Oper} {Q:Exit->Act->World->Prop} {rest rest':List Oper} {n:Nat} {l l':Sl} {K:PH} {hs:List PH}
variable {κ ν:Type} [DecidableEq κ] {enc:κ->Value} {encv:ν->Value} {h hi:PH} {b r:Nat} {m:List (κ×ν)} {ks:List κ}
def mrAt(T:Tab)(ops:Array Oper)(n k:Nat)(rest:List Oper)(l:Sl):Option (Nat×Oper×Nat×Value×List Oper×Sl):=
 match ovAt T ops n k rest l with
 | some (d,o,r,l')=>match o.op with
  | .range t x=>match ev l' x with
   | some u=>some (d,o,t,u,r,l')
   | _=>none
  | _=>none
 | none=>none
theorem mrAt_spec{k d t:Nat}{o:Oper}{u:Value}(h:mrAt T ops n k rest l=some (d,o,t,u,rest',l')):ovAt T ops n k rest l=some (d,o,rest',l')/\∀ a,Ag n l' a->execOp a.eval o=(do let x <- Instr.range t u;pure (.value x)):=by
 unfold mrAt at h
 split at h
 ·rename_i d' o' r l2 ho
  split at h
  ·rename_i t' x hop
   split at h
   ·rename_i u' hx;simp only[Option.some.injEq,Prod.mk.injEq] at h;obtain ⟨rfl,rfl,rfl,rfl,rfl,rfl⟩:=h;exact ⟨ho,fun a ha=>by simp only[execOp,hop,ha.ev hx]⟩
   ·simp at h
  ·simp at h
 ·simp at h
def mxAt(T:Tab)(ops:Array Oper)(n k:Nat)(rest:List Oper)(l:Sl):Option (Nat×Oper×Value×Bool×List Oper×Sl):=
 match ovAt T ops n k rest l with
 | some (d,o,r,l')=>match o.op with
  | .next x s=>match ev l' x with
   | some u=>some (d,o,u,s,r,l')
   | _=>none
  | _=>none
 | none=>none
theorem mxAt_spec{k d:Nat}{o:Oper}{u:Value}{s:Bool}(h:mxAt T ops n k rest l=some (d,o,u,s,rest',l')):ovAt T ops n k rest l=some (d,o,rest',l')/\∀ a,Ag n l' a->execOp a.eval o=(do let x <- Instr.next u s o.type;pure (.value x)):=by
 unfold mxAt at h
 split at h
 ·rename_i d' o' r l2 ho
  split at h
  ·rename_i x s' hop
   split at h
   ·rename_i u' hx;simp only[Option.some.injEq,Prod.mk.injEq] at h;obtain ⟨rfl,rfl,rfl,rfl,rfl,rfl⟩:=h;exact ⟨ho,fun a ha=>by simp only[execOp,hop,ha.ev hx]⟩
   ·simp at h
  ·simp at h
 ·simp at h
omit [DecidableEq κ] in
theorem mrg(hT:TabOK P T)(k:Nat){d t kt et:Nat}{o:Oper}(h0:mrAt T ops n k rest l=some (d,o,t,.map (some b),rest',l'))(hu:P.underlying t=some (.map kt et))(hin:In K hs h)(hm:MpO enc encv h b m)
  (hk:∀ r hi,MpI enc encv h hi b r m []->WL P w0 ops Q rest' n ((d,.pointer (some ⟨r,0,none⟩))::l') K (hi::hs)):WL P w0 ops Q rest n l K hs:=by
 obtain ⟨h1,h2⟩:=mrAt_spec h0;refine opa hT k (R:=fun v K' hs'=>∃ r hi,MpI enc encv h hi b r m []/\v=.pointer (some ⟨r,0,none⟩)/\K'=K/\hs'=hi::hs) h1 (fun a w ha hw=>?_) ?_
 ·obtain ⟨es,c,rfl,g2,g3,g4⟩:=hm;have hb:=hw.inn hin b (.map es c) (by simp);refine ⟨.pointer (some ⟨w.heap.size,0,none⟩),_,K,_,?_,hw.alloc (.mapIter (some b) c #[] c),w.heap.size,_,⟨es,c,c,#[],c,I,g2,g3,g4,I,g4,g4,by simp⟩,I,I,I⟩;rw[h2 a ha];unfold Instr.range;simp[Sem.run_bind,run_underlying hu,Result.andThen,run_getMap hb,newObj,Sem.run]
 ·rintro v K' hs' ⟨r,hi,g1,rfl,rfl,rfl⟩;exact hk r hi g1
theorem Sat.putOr{w w1:World}(s:Sat w0 w K hs)(hw:w1=w\/w1=w.drew):Sat w0 w1 K hs:=by
 rcases hw with rfl|rfl
 ·exact s
 ·exact s.drew
omit [DecidableEq κ] in
theorem mnx(hT:TabOK P T)(k i:Nat){d:Nat}{o:Oper}(h0:mxAt T ops n k rest l=some (d,o,.pointer (some ⟨r,0,none⟩),false,rest',l'))(hin:In K hs h)(hii:hs[i]?=some hi)(hI:MpI enc encv h hi b r m ks)(hnd:(m.map (·.1)).Nodup)
  (more:∀ k v hi',(k,v)∈m->k∉ks->MpS enc encv h hi' b r m (ks++[k]) k v->WL P w0 ops Q rest' n ((d,.tuple #[.bool true,enc k,encv v])::l') K (hs.set i hi'))
  (over:(∀ x∈m,x.1∈ks)->WL P w0 ops Q rest' n ((d,.tuple #[.bool false])::l') K hs):WL P w0 ops Q rest n l K hs:=by
 obtain ⟨h1,h2⟩:=mxAt_spec h0;refine opa hT k (R:=fun v K' hs'=>K'=K/\((∃ k x hi',(k,x)∈m/\k∉ks/\MpS enc encv h hi' b r m (ks++[k]) k x/\v=.tuple #[.bool true,enc k,encv x]/\hs'=hs.set i hi')\/((∀ x∈m,x.1∈ks)/\v=.tuple #[.bool false]/\hs'=hs))) h1 (fun a w ha hw=>?_) ?_
 ·rcases run_next (P:=P) hI hnd (hw.inn hin) (hw.inn (.inr ⟨i,hii⟩)) o.type with ⟨k,v,w1,ob,hw1,g1,g2,g3,g4⟩|⟨w1,hw1,g1,g2⟩
  ·have s1:=hw.putOr hw1;obtain ⟨es,c,since,seen,last,_,_,_,_,hhi,_⟩:=id hI;rw[hhi] at hii;exact ⟨_,_,K,_,by rw[h2 a ha,Sem.run_bind,g3];rfl,s1.putObj hii ob,rfl,.inl ⟨k,v,_,g1,g2,g4,rfl,rfl⟩⟩
  ·exact ⟨_,w1,K,hs,by rw[h2 a ha,Sem.run_bind,g1];rfl,hw.putOr hw1,rfl,.inr ⟨g2,rfl,rfl⟩⟩
 ·rintro v K' hs' ⟨rfl,⟨k,x,hi',g1,g2,g3,rfl,rfl⟩|⟨g1,rfl,rfl⟩⟩
  ·exact more k x hi' g1 g2 g3
  ·exact over g1
theorem mrgn(hT:TabOK P T)(k:Nat){d t kt et:Nat}{o:Oper}(h0:mrAt T ops n k rest l=some (d,o,t,.map none,rest',l'))(hu:P.underlying t=some (.map kt et))
  (hk:∀ r,WL P w0 ops Q rest' n ((d,.pointer (some ⟨r,0,none⟩))::l') K (sg r (.mapIter none 0 #[] 0)::hs)):WL P w0 ops Q rest n l K hs:=by
 obtain ⟨h1,h2⟩:=mrAt_spec h0;refine opa hT k (R:=fun v K' hs'=>∃ r,v=.pointer (some ⟨r,0,none⟩)/\K'=K/\hs'=sg r (.mapIter none 0 #[] 0)::hs) h1 (fun a w ha hw=>?_) ?_
 ·refine ⟨.pointer (some ⟨w.heap.size,0,none⟩),_,K,_,?_,hw.alloc (.mapIter none 0 #[] 0),w.heap.size,I,I,I⟩;rw[h2 a ha];unfold Instr.range;simp[Sem.run_bind,run_underlying hu,Result.andThen,newObj,Sem.run]
 ·rintro v K' hs' ⟨r,rfl,rfl,rfl⟩;exact hk r
theorem mnxn(hT:TabOK P T)(k:Nat){d r:Nat}{o:Oper}(h0:mxAt T ops n k rest l=some (d,o,.pointer (some ⟨r,0,none⟩),false,rest',l'))(hin:In K hs (sg r (.mapIter none 0 #[] 0)))
  (hk:WL P w0 ops Q rest' n ((d,.tuple #[.bool false])::l') K hs):WL P w0 ops Q rest n l K hs:=by
 obtain ⟨h1,h2⟩:=mxAt_spec h0;refine opr hT k h1 (fun a w ha hw=>?_) hk;have hr:w.heap[r]?=some (.mapIter none 0 #[] 0):=hw.inn hin r (.mapIter none 0 #[] 0) (by simp);have hgo:(getObj r).run P w=.ok (.mapIter none 0 #[] 0) w:=by simp[getObj,Sem.run,hr]
 rw[h2 a ha];unfold Instr.next;simp[Sem.run_bind,hgo,Result.andThen]
def enAt(T:Tab)(ops:Array Oper)(n k:Nat)(rest:List Oper)(l:Sl):Option (Nat×Oper×Value×List Oper×Sl):=
 match ovAt T ops n k rest l with
 | some (d,o,r,l')=>match o.op with
  | .entry x=>match ev l' x with
   | some u=>some (d,o,u,r,l')
   | _=>none
  | _=>none
 | none=>none
theorem enAt_spec{k d:Nat}{o:Oper}{u:Value}(h:enAt T ops n k rest l=some (d,o,u,rest',l')):ovAt T ops n k rest l=some (d,o,rest',l')/\∀ a,Ag n l' a->execOp a.eval o=(do let x <- Instr.entry u;pure (.value x)):=by
 unfold enAt at h
 split at h
 ·rename_i d' o' r l2 ho
  split at h
  ·rename_i x hop
   split at h
   ·rename_i u' hx;simp only[Option.some.injEq,Prod.mk.injEq] at h;obtain ⟨rfl,rfl,rfl,rfl,rfl⟩:=h;exact ⟨ho,fun a ha=>by simp only[execOp,hop,ha.ev hx]⟩
   ·simp at h
  ·simp at h
 ·simp at h
omit [DecidableEq κ] in
theorem men(hT:TabOK P T)(k:Nat){d:Nat}{o:Oper}{kk:κ}{v:ν}(h0:enAt T ops n k rest l=some (d,o,.pointer (some ⟨r,0,none⟩),rest',l'))(hin:In K hs h)(hini:In K hs hi)(hS:MpS enc encv h hi b r m ks kk v)
  (hk:WL P w0 ops Q rest' n ((d,.tuple #[enc kk,encv v])::l') K hs):WL P w0 ops Q rest n l K hs:=by
 obtain ⟨h1,h2⟩:=enAt_spec h0;refine opr hT k h1 (fun a w ha hw=>?_) hk;obtain ⟨_,es,c,since,seen,q,e,rfl,h3,rfl,h4,h5,h6,h7⟩:=hS;have hb:w.heap[b]?=some (.map es c):=hw.inn hin b (.map es c) (by simp);have hr:w.heap[r]?=some (.mapIter (some b) since seen c):=hw.inn hini r (.mapIter (some b) since seen c) (by simp);have hgo:(getObj r).run P w=.ok (.mapIter (some b) since seen c) w:=by simp[getObj,Sem.run,hr]
 have hfind:es.find? (fun x=>x.born == e.born)=some e:=by
  rw[Array.find?_eq_some_iff_getElem];obtain ⟨hq1,hq2⟩:=Array.getElem?_eq_some_iff.1 h5;refine ⟨by simp,q,hq1,hq2,fun j hj=>?_⟩;have hp:=List.pairwise_iff_getElem.1 h3 j q (by simpa using Nat.lt_trans hj hq1) (by simpa using hq1) hj;simp[hq2] at hp
  simp
  omega
 rw[h2 a ha];unfold Instr.entry;simp[Sem.run_bind,hgo,Result.andThen,h4,run_getMap hb,hfind,h6,h7]
theorem mpuI(hT:TabOK P T)(k i:Nat){t kt et:Nat}{o:Oper}{v y:Value}(j:κ)(x:ν)(h0:muAt T ops n k rest l=some (o,t,.map (some b),v,y,rest',l'))(hi0:hs[i]?=some h)(hu:P.underlying t=some (.map kt et))(hK:KeyOK P kt enc)(hv:v=enc j)(hy:y=encv x)(hI:MpI enc encv h hi b r m ks)
  (hex:(mget j m).isSome=true) (hk:∀ h',MpI enc encv h' hi b r (mset j x m) ks->WL P w0 ops Q rest' n l' K (hs.set i h')):WL P w0 ops Q rest n l K hs:=by
 obtain ⟨h1,h2⟩:=muAt_spec h0;subst hv hy;refine opu hT k (R:=fun K' hs'=>∃ h',MpI enc encv h' hi b r (mset j x m) ks/\K'=K/\hs'=hs.set i h') h1 (fun a w ha hw=>?_) ?_
 ·obtain ⟨es,c,since,seen,last,rfl,g2,g3,g4,g5,g6,g7,g8⟩:=hI;have g2':es.toList.map (fun e=>(e.key,e.val))=(m.map fun x=>(x.1,encv x.2)).map (fun x=>(enc x.1,x.2)):=by rw[g2];simp
  have hb:w.heap[b]?=some (.map es c):=hw.own i _ hi0 b _ (by simp);have hf:=hK.fnd j es.toList _ w g2';have e1:=eset_map (enc:=enc) (encv:=encv) j x c es.toList m g2;have e2:=eset_born (enc j) (encv x) c (fk j (m.map fun x=>(x.1,encv x.2)) 0) es.toList g3 g4;have hset:∀ o:Obj,(setObj b o).run P w=.ok () (w.putObj b o):=fun o=>by simp[setObj,Sem.run,hb,World.putObj]
  cases hk:fk j (m.map fun x=>(x.1,encv x.2)) 0 with
  | none=>
   have:=fk_get (encv:=encv) j m 0;rw[hk] at this;simp only[Option.map_none] at this;cases hm:mget j m with
   | none=>rw[hm] at hex;cases hex
   | some u=>rw[hm] at this;cases this
  | some z=>
   obtain ⟨q,z⟩:=z;rw[hk] at e1 e2;simp only[eset] at e1 e2;have hkey:=fk_key (enc:=enc) j g2' hk;have hkey':((es[q]?).map (·.key)).getD (enc j)=enc j:=by rw[<-Array.getElem?_toList,hkey];rfl
   have hst:(Instr.keyThatStays (enc j) (enc j)).run P w=.ok (enc j) w:=by unfold Instr.keyThatStays;simp[hK.sam]
   have hmod:∀ (i:Nat) e,(es.modify q fun e=>{ e with key:=enc j,val:=encv x })[i]?=some e->∃ e',es[i]?=some e'/\e.born=e'.born:=by
    intro i e he;rw[Array.getElem?_modify] at he
    split at he
    ·cases hh:es[i]? with
     | none=>rw[hh] at he;simp at he
     | some e'=>rw[hh] at he;simp at he;subst he;exact ⟨e',I,I⟩
    ·exact ⟨e,he,I⟩
   have hmem:∀ e∈(es.modify q fun e=>{ e with key:=enc j,val:=encv x }).toList,∃ e'∈es.toList,e.born=e'.born:=by
    intro e he;obtain ⟨i,hi⟩:=List.mem_iff_getElem?.1 he;rw[Array.getElem?_toList] at hi;obtain ⟨e',h5,h6⟩:=hmod i e hi;exact ⟨e',by simpa using Array.mem_of_getElem? h5,h6⟩
   refine ⟨w.putObj b (.map (es.modify q fun e=>{ e with key:=enc j,val:=encv x }) c),K,_,?_,hw.putObj hi0 _,sg b (.map (es.modify q fun e=>{ e with key:=enc j,val:=encv x }) c),
    ⟨es.modify q fun e=>{ e with key:=enc j,val:=encv x },c,since,seen,last,rfl,by rw[Array.toList_modify];exact e1,by rw[Array.toList_modify];exact e2.1,fun e he=>?_,g5,fun e he=>?_,fun e he=>?_,?_⟩,I,I⟩
   ·rw[h2 a ha];unfold Instr.mapUpdate;simp only[Sem.run_bind,run_underlying hu,Result.andThen,run_getMap hb,Sem.run_pure,hK.chk,hf,hk,hkey',hst,hset]
   ·obtain ⟨e',h5,h6⟩:=hmem e he;rw[h6];exact g4 e' h5
   ·obtain ⟨e',h5,h6⟩:=hmem e he;rw[h6];exact g6 e' h5
   ·obtain ⟨e',h5,h6⟩:=hmem e he;rw[h6];exact g7 e' h5
   ·intro i e y he hy;obtain ⟨e',h5,h6⟩:=hmod i e he;have hkk:=mset_keys j x m;rw[if_pos hex] at hkk;have h7:=congrArg (fun l=>l[i]?) hkk;simp only[List.getElem?_map,hy,Option.map_some] at h7;cases hmi:m[i]? with
    | none=>rw[hmi] at h7;simp at h7
    | some u=>
     rw[hmi] at h7;simp only[Option.map_some,Option.some.injEq] at h7;rw[h6,h7];exact g8 i e' u h5 hmi
 ·rintro K' hs' ⟨h',g1,rfl,rfl⟩;exact hk h' g1
end rules
section del
theorem map_era{α β:Type}(f:α->β):∀ (l:List α) (j:Nat),(l.eraseIdx j).map f=(l.map f).eraseIdx j
 | [],_=>rfl
 | a::l,0=>rfl
 | a::l,j+1=>by simp[map_era f l j]
theorem fk_erase{κ:Type}[DecidableEq κ](k:κ):∀ (m:List (κ×Value)),(fk k m 0=none/\mdel k m=m)\/∃ j v,fk k m 0=some (j,v)/\mdel k m=m.eraseIdx j
 | []=>.inl ⟨rfl,rfl⟩
 | (i,u)::m=>by
  by_cases e:k=i
  ·right
   exact ⟨0,u,by simp[fk,e],by simp[mdel,e]⟩
  ·rcases fk_erase k m with ⟨h1,h2⟩|⟨j,v,h1,h2⟩
   ·left
    refine ⟨?_,by simp[mdel,e,h2]⟩;simp only[fk,e,if_false];rw[fk_shift,h1];rfl
   ·right
    refine ⟨j+1,v,?_,by simp[mdel,e,h2]⟩;simp only[fk,e,if_false];rw[fk_shift,h1]
    simp;omega
theorem mdel_map{κ ν:Type}[DecidableEq κ](f:ν->Value)(k:κ):∀ (m:List (κ×ν)),mdel k (m.map fun x=>(x.1,f x.2))=(mdel k m).map fun x=>(x.1,f x.2)
 | []=>rfl
 | (i,u)::m=>by
  by_cases e:k=i
  ·simp[mdel,e]
  ·simp[mdel,e,mdel_map f k m]
theorem run_delete{P:Program}{w0:World}{K:PH}{hs:List PH}{κ ν:Type}[DecidableEq κ]{enc:κ->Value}{encv:ν->Value}{h:PH}{b:Nat}{m:List (κ×ν)}{t kt et i:Nat}(hu:P.underlying t=some (.map kt et))(hK:KeyOK P kt enc)(hm:MpO enc encv h b m){w:World}(s:Sat w0 w K hs)(hi:hs[i]?=some h)(k:κ)(ts:Array TypeId)(hts:ts[0]?=some t)(ty:Nat):
  ∃ h' w',MpO enc encv h' b (mdel k m)/\(Builtin.delete_ ts ty #[.map (some b),enc k]).run P w=.ok (.tuple #[]) w'/\Sat w0 w' K (hs.set i h'):=by
 obtain ⟨es,c,rfl,h2,h3,h4⟩:=hm;have h2':es.toList.map (fun e=>(e.key,e.val))=(m.map fun x=>(x.1,encv x.2)).map (fun x=>(enc x.1,x.2)):=by rw[h2];simp
 have hb:w.heap[b]?=some (.map es c):=s.own i _ hi b _ (by simp);have hf:=hK.fnd k es.toList _ w h2';have hset:∀ o:Obj,(setObj b o).run P w=.ok () (w.putObj b o):=fun o=>by simp[setObj,Sem.run,hb,World.putObj]
 unfold Builtin.delete_;rcases fk_erase k (m.map fun x=>(x.1,encv x.2)) with ⟨g1,g2⟩|⟨j,v,g1,g2⟩
 ·rw[mdel_map] at g2;refine ⟨sg b (.map es c),w.putObj b (.map es c),⟨es,c,I,?_,h3,h4⟩,?_,s.putObj hi _⟩
  ·rw[h2];have:=congrArg (fun l=>l.map fun x:κ×Value=>(enc x.1,x.2)) g2;simpa[Function.comp_def] using this.symm
  ·simp[hts,Sem.run_bind,run_underlying hu,Result.andThen,run_getMap hb,hK.chk,hf,g1,hset]
 ·rw[mdel_map] at g2;refine ⟨sg b (.map (es.eraseIdxIfInBounds j) c),w.putObj b (.map (es.eraseIdxIfInBounds j) c),⟨es.eraseIdxIfInBounds j,c,I,?_,?_,?_⟩,?_,s.putObj hi _⟩
  ·have:=congrArg (fun l=>l.map fun x:κ×Value=>(enc x.1,x.2)) g2;simp only[List.map_map] at this;rw[Array.toList_eraseIdxIfInBounds,map_era,h2];rw[map_era] at this;simpa[Function.comp_def] using this.symm
  ·rw[Array.toList_eraseIdxIfInBounds];exact h3.sublist ((List.eraseIdx_sublist _ _).map _)
  ·intro e he;rw[Array.toList_eraseIdxIfInBounds] at he;exact h4 e ((List.eraseIdx_sublist _ _).subset he)
  ·simp[hts,Sem.run_bind,run_underlying hu,Result.andThen,run_getMap hb,hK.chk,hf,g1,hset]
end del
end
section
def MR{κ α:Type}(R:Value->α->Prop):List (κ×Value)->List (κ×α)->Prop
 | [],[]=>True
 | (k,v)::r,(j,x)::q=>k=j/\R v x/\MR R r q
 | _,_=>False
section
variable {κ α:Type} {R R':Value->α->Prop}
theorem MR.imp(h:∀ v x,R v x->R' v x):∀ {a:List (κ×Value)} {b:List (κ×α)},MR R a b->MR R' a b
 | [],[],g=>g
 | (k,v)::r,(j,x)::q,g=>⟨g.1,h v x g.2.1,MR.imp h g.2.2⟩
 | [],_::_,g=>g.elim
 | _::_,[],g=>g.elim
theorem MR.keys:∀ {a:List (κ×Value)} {b:List (κ×α)},MR R a b->a.map (·.1)=b.map (·.1)
 | [],[],_=>rfl
 | (k,v)::r,(j,x)::q,g=>by simp[g.1,MR.keys g.2.2]
 | [],_::_,g=>g.elim
 | _::_,[],g=>g.elim
theorem MR.len{a:List (κ×Value)}{b:List (κ×α)}(g:MR R a b):a.length=b.length:=by have:=congrArg List.length g.keys;simpa using this
theorem MR.mem{k:κ}{v:Value}:∀ {a:List (κ×Value)} {b:List (κ×α)},MR R a b->(k,v)∈a->∃ x,(k,x)∈b/\R v x
 | (j,u)::r,(i,y)::q,g,hm=>by
  obtain ⟨rfl,h2,g2⟩:=g;rcases List.mem_cons.1 hm with hm|hm
  ·simp only[Prod.mk.injEq] at hm;obtain ⟨rfl,rfl⟩:=hm;exact ⟨y,by simp,h2⟩
  ·obtain ⟨x,h3,h4⟩:=MR.mem g2 hm;exact ⟨x,by simp[h3],h4⟩
 | [],_,_,hm=>by simp at hm
 | _::_,[],g,_=>g.elim
variable [DecidableEq κ]
theorem MR.get(k:κ):∀ {a:List (κ×Value)} {b:List (κ×α)},MR R a b->(mget k a=none/\mget k b=none)\/∃ v x,mget k a=some v/\mget k b=some x/\R v x
 | [],[],_=>.inl ⟨rfl,rfl⟩
 | (j,v)::r,(i,x)::q,g=>by
  obtain ⟨rfl,h,g2⟩:=g
  by_cases e:k=j
  ·exact .inr ⟨v,x,by simp[mget,e],by simp[mget,e],h⟩
  ·rcases MR.get k g2 with ⟨h1,h2⟩|⟨u,y,h1,h2,h3⟩
   ·exact .inl ⟨by simp[mget,e,h1],by simp[mget,e,h2]⟩
   ·exact .inr ⟨u,y,by simp[mget,e,h1],by simp[mget,e,h2],h3⟩
 | [],_::_,g=>g.elim
 | _::_,[],g=>g.elim
theorem MR.set{k:κ}{v:Value}{x:α}(h:R v x):∀ {a:List (κ×Value)} {b:List (κ×α)},MR R a b->MR R (mset k v a) (mset k x b)
 | [],[],_=>⟨rfl,h,trivial⟩
 | (j,u)::r,(i,y)::q,g=>by
  obtain ⟨rfl,h2,g2⟩:=g
  by_cases e:k=j
  ·simp only[mset,e,if_true];exact ⟨I,h,g2⟩
  ·simp only[mset,e,if_false];exact ⟨I,h2,MR.set h g2⟩
 | [],_::_,g=>g.elim
 | _::_,[],g=>g.elim
end
structure Sec where
 vs:List (List UInt8)
 syn:Bool
abbrev Ar:=List (Int×Sec)
structure Dk where
 room:Int
 steps:Int
 areas:List (Int×Ar)
 left:Int
 dead:Bool
def padS(b:List UInt8):List UInt8:=b++List.replicate (64-b.length) 0
def Dk.stp(D:Dk):Dk:={ D with steps:=D.steps+1,dead:=decide (D.left=0),left:=if D.left>0 then D.left-1 else D.left }
def Dk.ar(D:Dk)(a:Int):Ar:=(mget a D.areas).getD []
def Dk.sec(D:Dk)(a n:Int):Option Sec:=mget n (D.ar a)
def secW(s:Option Sec)(b:List UInt8):Sec:=⟨(s.getD ⟨[],false⟩).vs++[padS b],(s.getD ⟨[],false⟩).syn⟩
def Dk.laid(D:Dk)(a n:Int)(b:List UInt8):Dk:=
 { D with room:=if (D.sec a n).isSome=true then D.room else D.room-1,areas:=mset a (mset n (secW (D.sec a n) b) (D.ar a)) D.areas }
def Dk.write(D:Dk)(a n:Int)(b:List UInt8):Dk×Int:=
 if D.dead=true then (D,30) else if n<0\/65536<=n\/64<b.length then (D,31) else if (D.sec a n).isSome=false/\D.room=0 then (D,32)
 else ((D.laid a n b).stp,if (D.laid a n b).stp.dead=true then 30 else 0)
def secS(s:Sec):Sec:=⟨[s.vs.getLastD []],true⟩
def Dk.synA(D:Dk)(a:Int):List (Int×Ar):=
 match mget a D.areas with
 | some l=>mset a (l.map fun x=>(x.1,secS x.2)) D.areas
 | none=>D.areas
def Dk.sync(D:Dk)(a:Int):Dk×Int:=
 if D.dead=true then (D,30) else if D.stp.dead=true then (D.stp,30)
 else ({ D.stp with areas:=D.synA a },0)
def Dk.free(D:Dk)(a:Int):Dk×Int:=
 if D.dead=true then (D,30) else if D.stp.dead=true then (D.stp,30)
 else ({ D.stp with room:=D.room+((D.ar a).length:Int),areas:=mdel a D.areas },0)
def Dk.read(D:Dk)(a n:Int):Option (List UInt8):=(D.sec a n).map fun s=>s.vs.getLastD []
structure Dk.Ok (c:Nat) (D:Dk):Prop where
 keys:(D.areas.map (·.1)).Nodup
 ns:∀ x∈D.areas,(x.2.map (·.1)).Nodup/\x.2.length<=c
 vs:∀ x∈D.areas,∀ y∈x.2,y.2.vs≠[]/\y.2.vs.length<=c/\∀ b∈y.2.vs,b.length=64
 room:0<=D.room/\D.room<=1099511627776
 steps:0<=D.steps/\D.steps<=c
 left : -1<=D.left/\D.left<=9223372036854775807
 at_:∀ x∈D.areas,∀ y∈x.2,0<=y.1/\y.1<65536
section
variable {κ ν:Type} [DecidableEq κ]
theorem mset_mem{k:κ}{v:ν}{x:κ×ν}:∀ {m:List (κ×ν)},x∈mset k v m->x=(k,v)\/x∈m
 | [],h=>by simp[mset] at h;exact .inl h
 | (j,u)::m,h=>by
  by_cases e:k=j
  ·simp only[mset,e,if_true,List.mem_cons] at h;rcases h with h|h
   ·rw[e];exact .inl h
   ·exact .inr (by simp[h])
  ·simp only[mset,e,if_false,List.mem_cons] at h;rcases h with h|h
   ·exact .inr (by simp[h])
   ·rcases mset_mem h with h|h
    ·exact .inl h
    ·exact .inr (by simp[h])
theorem mset_nodup{k:κ}{v:ν}{m:List (κ×ν)}(h:(m.map (·.1)).Nodup):((mset k v m).map (·.1)).Nodup:=by
 rw[mset_keys]
 split
 ·exact h
 ·rename_i hn;rw[List.nodup_append];refine ⟨h,by simp,?_⟩;intro a ha b hb;simp only[List.mem_singleton] at hb;subst hb;intro e;subst e
  have:mget a m=none:=by
   cases hm:mget a m with
   | none=>rfl
   | some u=>rw[hm] at hn;simp at hn
  exact mget_none.1 this ha
theorem mdel_sub{k:κ}:∀ (m:List (κ×ν)),(mdel k m).Sublist m
 | []=>by simp[mdel]
 | (j,u)::m=>by
  by_cases e:k=j
  ·simp only[mdel,e,if_true]
   first|exact List.sublist_cons_self _ _|exact (mdel_sub m).trans (List.sublist_cons_self _ _)
  ·simp only[mdel,e,if_false];exact (mdel_sub m).cons_cons _
end
theorem padS_len{b:List UInt8}(h:b.length<=64):(padS b).length=64:=by simp[padS];omega
theorem Dk.ar_mem{D:Dk}{a:Int}(x:Int×Sec)(h:x∈D.ar a):∃ l,(a,l)∈D.areas/\D.ar a=l:=by
 unfold Dk.ar at h ⊢;cases hg:mget a D.areas with
 | none=>rw[hg] at h;simp at h
 | some l=>exact ⟨l,mget_mem hg,rfl⟩
theorem Dk.Ok.arNodup{c:Nat}{D:Dk}(o:D.Ok c)(a:Int):((D.ar a).map (·.1)).Nodup/\(D.ar a).length<=c:=by
 unfold Dk.ar;cases hg:mget a D.areas with
 | none=>simp
 | some l=>exact o.ns _ (mget_mem hg)
theorem Dk.Ok.secOk{c:Nat}{D:Dk}(o:D.Ok c){a n:Int}{s:Sec}(h:D.sec a n=some s):s.vs≠[]/\s.vs.length<=c/\∀ b∈s.vs,b.length=64:=by
 have hm:=mget_mem h;obtain ⟨l,h1,h2⟩:=Dk.ar_mem _ hm;rw[h2] at hm;exact o.vs _ h1 _ hm
theorem Dk.Ok.up{c d:Nat}{D:Dk}(o:D.Ok c)(h:c<=d):D.Ok d:=
 ⟨o.keys,fun x hx=>⟨(o.ns x hx).1,Nat.le_trans (o.ns x hx).2 h⟩,fun x hx y hy=>⟨(o.vs x hx y hy).1,Nat.le_trans (o.vs x hx y hy).2.1 h,(o.vs x hx y hy).2.2⟩,o.room,⟨o.steps.1,by have:=o.steps.2;omega⟩,o.left,o.at_⟩
theorem stp_left{x:Int}(h : -1<=x/\x<=9223372036854775807): -1<=(if x>0 then x-1 else x)/\(if x>0 then x-1 else x)<=9223372036854775807:=by
 by_cases g:x>0
 ·rw[if_pos g];omega
 ·rw[if_neg g];exact h
theorem Dk.Ok.stp{c:Nat}{D:Dk}(o:D.Ok c):D.stp.Ok (c+1):=
 ⟨o.keys,fun x hx=>⟨(o.ns x hx).1,Nat.le_trans (o.ns x hx).2 (Nat.le_succ c)⟩,fun x hx y hy=>⟨(o.vs x hx y hy).1,Nat.le_trans (o.vs x hx y hy).2.1 (Nat.le_succ c),(o.vs x hx y hy).2.2⟩,o.room,⟨by have:=o.steps.1;simp only[Dk.stp];omega,by have:=o.steps.2;simp only[Dk.stp];omega⟩,stp_left o.left,o.at_⟩
theorem Dk.Ok.write{c:Nat}{D:Dk}(o:D.Ok c)(a n:Int)(b:List UInt8):(D.write a n b).1.Ok (c+1):=by
 unfold Dk.write
 split
 ·exact o.up<|Nat.le_succ c
 ·split
  ·exact o.up<|Nat.le_succ c
  ·rename_i hform
   split
   ·exact o.up<|Nat.le_succ c
   ·rename_i hfull;have hn:0<=n/\n<65536/\b.length<=64:=by omega
    have hsec:(secW (D.sec a n) b).vs≠[]/\(secW (D.sec a n) b).vs.length<=c+1/\∀ d∈(secW (D.sec a n) b).vs,d.length=64:=by
     unfold secW;cases hs:D.sec a n with
     | none=>
      simp only[Option.getD_none,List.nil_append];exact ⟨by simp,by simp,by simpa using padS_len hn.2.2⟩
     | some s=>
      obtain ⟨h1,h2,h3⟩:=o.secOk hs;simp only[Option.getD_some];refine ⟨by simp,by simp;omega,?_⟩;intro d hd;rcases List.mem_append.1 hd with hd|hd
      ·exact h3 d hd
      ·simp only[List.mem_singleton] at hd;subst hd;exact padS_len hn.2.2
    have hrm:0<=(D.laid a n b).room/\(D.laid a n b).room<=1099511627776:=by
     have:=o.room;unfold Dk.laid;dsimp only
     split
     ·exact this
     ·rename_i hns;have:¬D.room=0:=fun h=>hfull ⟨by simpa using hns,h⟩;omega
    obtain ⟨hnd,hlc⟩:=o.arNodup a;refine ⟨?_,?_,?_,hrm,⟨by have:=o.steps.1;simp only[Dk.stp,Dk.laid];omega,by have:=o.steps.2;simp only[Dk.stp,Dk.laid];omega⟩,stp_left o.left,?_⟩
    ·exact mset_nodup o.keys
    ·intro x hx;rcases mset_mem hx with rfl|hx
     ·refine ⟨mset_nodup hnd,?_⟩;rw[mset_length]
      split <;> omega
     ·exact ⟨(o.ns x hx).1,Nat.le_trans (o.ns x hx).2 (Nat.le_succ c)⟩
    ·intro x hx y hy;rcases mset_mem hx with rfl|hx
     ·rcases mset_mem hy with rfl|hy
      ·exact hsec
      ·obtain ⟨l,h1,h2⟩:=Dk.ar_mem _ hy;rw[h2] at hy;obtain ⟨h3,h4,h5⟩:=o.vs _ h1 _ hy;exact ⟨h3,Nat.le_trans h4 (Nat.le_succ c),h5⟩
     ·obtain ⟨h3,h4,h5⟩:=o.vs _ hx _ hy;exact ⟨h3,Nat.le_trans h4 (Nat.le_succ c),h5⟩
    ·intro x hx y hy;rcases mset_mem hx with rfl|hx
     ·rcases mset_mem hy with rfl|hy
      ·exact ⟨hn.1,hn.2.1⟩
      ·obtain ⟨l,h1,h2⟩:=Dk.ar_mem _ hy;rw[h2] at hy;exact o.at_ _ h1 _ hy
     ·exact o.at_ _ hx _ hy
theorem Dk.Ok.sync{c:Nat}{D:Dk}(o:D.Ok c)(a:Int):(D.sync a).1.Ok (c+1):=by
 unfold Dk.sync
 split
 ·exact o.up<|Nat.le_succ c
 ·split
  ·exact o.stp
  ·have os:=o.stp;unfold Dk.synA;cases hg:mget a D.areas with
   | none=>exact os
   | some l=>
    have hl:=mget_mem hg;refine ⟨mset_nodup o.keys,?_,?_,os.room,os.steps,os.left,?_⟩
    ·intro x hx;rcases mset_mem hx with rfl|hx
     ·have h1:=(o.ns _ hl);refine ⟨?_,by rw[List.length_map];exact Nat.le_trans h1.2 (Nat.le_succ c)⟩;rw[List.map_map];exact h1.1
     ·exact os.ns x hx
    ·intro x hx y hy;rcases mset_mem hx with rfl|hx
     ·obtain ⟨z,hz,rfl⟩:=List.mem_map.1 hy;obtain ⟨h3,h4,h5⟩:=o.vs _ hl _ hz;refine ⟨by simp[secS],by simp[secS],?_⟩;intro b hb;simp only[secS,List.mem_singleton] at hb;subst hb;rw[List.getLastD_eq_getLast?,List.getLast?_eq_some_getLast h3];exact h5 _ (List.getLast_mem h3)
     ·exact os.vs x hx y hy
    ·intro x hx y hy;rcases mset_mem hx with rfl|hx
     ·obtain ⟨z,hz,rfl⟩:=List.mem_map.1 hy;exact o.at_ (a,l) hl z hz
     ·exact o.at_ _ hx _ hy
theorem Dk.Ok.free{c:Nat}{D:Dk}(o:D.Ok c)(a:Int)(hr:D.room+((D.ar a).length:Int)<=1099511627776):(D.free a).1.Ok (c+1):=by
 unfold Dk.free
 split
 ·exact o.up<|Nat.le_succ c
 ·split
  ·exact o.stp
  ·have os:=o.stp;have hs:=mdel_sub (k:=a) D.areas;exact ⟨(hs.map _).nodup o.keys,fun x hx=>os.ns x (hs.subset hx),fun x hx=>os.vs x (hs.subset hx),⟨by have:=o.room;dsimp only;omega,hr⟩,os.steps,os.left,fun x hx=>o.at_ x (hs.subset hx)⟩
end
section
section
variable {P:Program} {T:Tab} {w0:World} {ops:Array Oper} {Q:Exit->Act->World->Prop} {rest rest':List Oper} {n:Nat} {l l':Sl} {K:PH} {hs:List PH}
variable {κ:Type} [DecidableEq κ] {enc:κ->Value} {h:PH} {b:Nat} {m:List (κ×Value)}
end
attribute [local irreducible] Code.wp wpList Calls
theorem run_append_full{P:Program}{w0 w:World}{K:PH}{hs:List PH}(t ty e:TypeId)(i:TypeInfo)(z:Value)(ht:P.underlying t=some (.slice e))(hi:P.info? e=some i)(hz:i.zero=some z)
  (hzs:z.cells.size=i.size) (s0:Sat w0 w K hs) {hv h2:PH} {ao ao2:Option Addr} {n cap m c2:Nat} {xs news:List Value} (hm1:In K hs hv) (o:IsS hv ao n cap i.size xs) (hnone:ao=none->cap=0)
  (hm:In K hs h2) (x:IsS h2 ao2 m c2 i.size news) (hsz:0<i.size) (hroom:¬n+m<=cap) (hb:(n+m)*i.bytes<=140737488355328) (h63:n+m<=maxLen):
  ∃ ao' cap' h' w',(Builtin.append_ #[t,t] ty #[.slice ao n cap,.slice ao2 m c2]).run P w=.ok (.slice ao' (n+m) cap') w'/\Own h' ao' (n+m) cap' e i.size (xs++news)/\Sat w0 w' K (h'::hs):=by
 have hlen:(xs++news).length=(n+m)*i.size:=by rw[List.length_append,o.1,x.1,Nat.add_mul]
 have s:Sat w0 w K (em::hs):=s0.addEm;have hm0:0<m:=by have:=o.2.1;omega
 obtain ⟨a2,rfl⟩:=x.addr hm0 hsz
 have hnews:∀ (j:Nat) v,news[j]?=some v->w.cell? (a2.add j)=some v:=fun j v hv=>by
  obtain ⟨a',ha,hc⟩:=x.2.2 j v hv;cases ha;exact s0.cell hm hc
 have grown:∀ old,old<n+m->Own (pt w.heap.size (xs.toArray++news.toArray++Builtin.zeroCells z.cells (grownCap w (n+m) old e-(n+m))) e) (some ⟨w.heap.size,0,none⟩) (n+m) (grownCap w (n+m) old e) e i.size (xs++news) /\
   Sat w0 (w.drew.alloc (.cells (xs.toArray++news.toArray++Builtin.zeroCells z.cells (grownCap w (n+m) old e-(n+m))) e)) K ((em::hs).set 0 (pt w.heap.size (xs.toArray++news.toArray++Builtin.zeroCells z.cells (grownCap w (n+m) old e-(n+m))) e)):=by
  intro old ho;have hge:=grownCap_ge w (n+m) old e;have hcm:grownCap w (n+m) old e<=maxLen:=grownCap_le_maxLen w (n+m) old e h63;refine ⟨⟨hlen,hge,hcm,.inr ⟨_,0,_,I,I,?_,?_⟩⟩,?_⟩
  ·simp only[Array.size_append,List.size_toArray,size_zeroCells,hzs,o.1,x.1,<-Nat.add_mul,Nat.zero_add]
   congr 1
   omega
  ·simp only[Array.toList_append,List.append_assoc,List.drop_zero];rw[<-List.append_assoc,<-hlen];exact List.take_left
  ·refine s.upd (i:=0) I I I I (by simp) ?_ ?_ ?_
   ·intro b ob hb';simp only[pt,sg] at hb'
    split at hb'
    ·rename_i e1;subst e1;cases hb';exact heap_alloc_new w.drew _
    ·cases hb'
   ·intro b hb' _;exact RowKit.Below.heap_alloc w.drew _ b hb'
   ·intro b ob hb' _;simp only[pt,sg] at hb'
    split at hb'
    ·rename_i e1;omega
    ·cases hb'
 cases ao with
 | none=>
  obtain rfl:=hnone rfl;obtain rfl:n=0:=by have:=o.2.1;omega
  obtain rfl:xs=[]:=List.eq_nil_of_length_eq_zero (by simpa using o.1);have hr:=run_append_nil (P:=P) w t ty e i z ht hi hz a2 m c2 news x.1 hnews hm0 (by simp only[maxLen] at h63;omega) (by simp only[Nat.zero_add] at hb;omega);have hgr:=grown 0 qo;simp only[Nat.zero_add,List.nil_append,Array.empty_append] at hgr ⊢;exact ⟨_,_,_,_,hr,hgr.1,hgr.2⟩
 | some a=>
  have holds:∀ (k:Nat) u,xs[k]?=some u->w.cell? (a.add k)=some u:=fun k u hu=>by
   obtain ⟨a',ha,hc⟩:=o.2.2 k u hu;cases ha;exact s0.cell hm1 hc
  have hr:=run_append_grow (P:=P) w t ty e i z ht hi hz a n cap xs o.1 holds a2 m c2 news x.1 hnews qo (by simp only[maxLen] at h63;omega) (growslice_fits qo hb);have hgr:=grown cap qo;exact ⟨_,_,_,_,hr,hgr.1,hgr.2⟩
theorem appf{P:Program}{T:Tab}{w0:World}{ops:Array Oper}{Q:Exit->Act->World->Prop}{rest rest':List Oper}{n:Nat}{l l':Sl}{K:PH}{hs:List PH}
  (hT:TabOK P T) (k:Nat) {d:Nat} {si:SlI} {ao ao2:Option Addr} {n1 c1 n2 c2:Nat} {hv h2:PH} {xs news:List Value} (h0:apAt T ops n k rest l=some (d,si,(ao,n1,c1),(ao2,n2,c2),rest',l'))
  (hm1:In K hs hv) (o:IsS hv ao n1 c1 si.size xs) (hnone:ao=none->c1=0) (hm:In K hs h2) (x:IsS h2 ao2 n2 c2 si.size news) (hz:si.zero.cells.size=si.size) (hsz:0<si.size) (hroom:¬n1+n2<=c1)
  (hb:(n1+n2)*si.bytes<=140737488355328) (h63:n1+n2<=maxLen)
  (hk:∀ ao' cap' h',Own h' ao' (n1+n2) cap' si.elem si.size (xs++news)->WL P w0 ops Q rest' n ((d,.slice ao' (n1+n2) cap')::l') K (h'::hs)):WL P w0 ops Q rest n l K hs:=by
 unfold apAt at h0
 split at h0
 ·rename_i oo r l2 ho
  split at h0
  ·rename_i d' args argTypes hd hop
   split at h0
   ·rename_i x' y' t t' e1 e2
    split at h0
    ·rename_i si' a1 m1 k1 a2 m2 k2 hb' htt hsi hx hy;simp only[Option.some.injEq,Prod.mk.injEq] at h0;obtain ⟨rfl,rfl,⟨rfl,rfl,rfl⟩,⟨rfl,rfl,rfl⟩,rfl,rfl⟩:=h0;have htt':t=t':=Nat.eq_of_beq_eq_true htt;subst htt';have a1':args=#[x',y']:=by cases args;simp_all
     have a2':argTypes=#[t,t]:=by cases argTypes;simp_all
     subst a1';subst a2';obtain ⟨g1,ii,g2,g3,g4,g5⟩:=hT.sl hsi
     refine WL.at' hT ho fun hg=>WL.val (R:=fun u K' hs'=>∃ ao' cap' h',u=.slice ao' (m1+m2) cap'/\Own h' ao' (m1+m2) cap' si'.elem si'.size (xs++news)/\K'=K/\hs'=h'::hs) hd hb' hg
      (fun A w ha hw=>?_) ?_
     ·rw[<-g4] at o x hz hsz;rw[<-g5] at hb;obtain ⟨ao',cap',h',w',hr,ho',hs'⟩:=run_append_full (P:=P) t oo.type si'.elem ii si'.zero g1 g2 g3 hz hw hm1 o hnone hm x hsz hroom hb h63;refine ⟨_,w',K,_,?_,hs',ao',cap',h',I,by rw[<-g4];exact ho',I,I⟩;simp only[execOp,hop];simp[resolve,invoke,builtin,ha.ev hx,ha.ev hy,hr]
     ·rintro u K' hs' ⟨ao',cap',h',rfl,ho',rfl,rfl⟩;exact hk ao' cap' h' ho'
    ·simp at h0
   ·simp at h0
  ·simp at h0
 ·simp at h0
end
section
attribute [local irreducible] Code.wp wpList Calls
def saOp(l:Sl)(o:Oper):Option (Nat×Addr×Option Int×Option Int):=
 match o.op with
 | .slice t x none none none=>match ev l x with
  | some (.pointer (some a))=>some (t,a,none,none)
  | _=>none
 | .slice t x (some lo) none none=>match ev l x,ev l lo with
  | some (.pointer (some a)),some (.int _ i)=>some (t,a,some i,none)
  | _,_=>none
 | .slice t x none (some hi) none=>match ev l x,ev l hi with
  | some (.pointer (some a)),some (.int _ i)=>some (t,a,none,some i)
  | _,_=>none
 | .slice t x (some lo) (some hi) none=>match ev l x,ev l lo,ev l hi with
  | some (.pointer (some a)),some (.int _ i),some (.int _ j)=>some (t,a,some i,some j)
  | _,_,_=>none
 | _=>none
theorem run_bound{P:Program}{w:World}{k:IntKind}{i:Int}{y:Nat}(c:BoundsCode)(H:Nat)(h:i=(H:Int))(hy:H<=y):(Instr.sliceBound (.int k i) y c).run P w=.ok H w:=by
 subst h;have:(0<=((H:Nat):Int)/\((H:Nat):Int)<=(y:Int)):=⟨by omega,by omega⟩;simp[Instr.sliceBound,asIntOf,this]
theorem sla_run{P:Program}{l:Sl}{n:Nat}{o:Oper}{t len e sz:Nat}{a:Addr}{lo hi:Option Int}(L N:Nat)(h1:saOp l o=some (t,a,lo,hi))(hu:P.underlying t=some (.array len e))(he:(P.info? e).map (·.size)=some sz)
  (hL:lo.getD 0=(L:Int)) (hH:hi.getD len=((L+N:Nat):Int)) (hN:L+N<=len) (hlt:L<len):∀ A w,Ag n l A->(execOp A.eval o).run P w=.ok (.value (.slice (some (a.add (L*sz))) N (len-L))) w:=by
 intro A w ha;cases hii:P.info? e with
 | none=>rw[hii] at he;cases he
 | some ii=>
 rw[hii] at he;have hsz:ii.size=sz:=by simpa using he
 have hne:¬len=L:=by omega
 have fin:∀ (lv hv:Option Value),(Instr.sliceBounds false len len lv hv none).run P w=.ok (L,L+N,len) w->(Instr.sliceAt t (.pointer (some a)) lv hv none).run P w=.ok (.slice (some (a.add (L*sz))) N (len-L)) w:=by
  intro lv hv hb;unfold Instr.sliceAt;simp[Sem.run_bind,run_underlying hu,Result.andThen,Instr.sureAddr,hb,sizeOf,typeInfo,hii,hsz,hne]
 unfold saOp at h1
 split at h1
 ·rename_i t' x hop
  split at h1
  ·rename_i a' hx;simp only[Option.some.injEq,Prod.mk.injEq] at h1;obtain ⟨rfl,rfl,rfl,rfl⟩:=h1;simp only[execOp,hop,ha.ev hx,Option.map_none];simp only[Option.getD_none] at hL hH;rw[Sem.run_bind,fin none none (by unfold Instr.sliceBounds;simp;omega)]
   rfl
  ·simp at h1
 ·rename_i t' x lo' hop
  split at h1
  ·rename_i a' k i hx hlo;simp only[Option.some.injEq,Prod.mk.injEq] at h1;obtain ⟨rfl,rfl,rfl,rfl⟩:=h1;simp only[execOp,hop,ha.ev hx,ha.ev hlo,Option.map_none,Option.map_some];simp only[Option.getD_none,Option.getD_some] at hL hH
   rw[Sem.run_bind,fin (some _) none (by
    have hb:(Instr.sliceBound (.int k i) len .sliceB).run P w=.ok L w:=run_bound _ L hL qo;unfold Instr.sliceBounds;simp[Sem.run_bind,Result.andThen,hb];omega)]
   rfl
  ·simp at h1
 ·rename_i t' x hi' hop
  split at h1
  ·rename_i a' k i hx hlo;simp only[Option.some.injEq,Prod.mk.injEq] at h1;obtain ⟨rfl,rfl,rfl,rfl⟩:=h1;simp only[execOp,hop,ha.ev hx,ha.ev hlo,Option.map_none,Option.map_some];simp only[Option.getD_none,Option.getD_some] at hL hH;have hL0:L=0:=by omega
   rw[Sem.run_bind,fin none (some _) (by
    have hb:(Instr.sliceBound (.int k i) len .sliceAlen).run P w=.ok (L+N) w:=run_bound _ (L+N) hH hN;unfold Instr.sliceBounds;simp[Sem.run_bind,Result.andThen,hb,hL0])]
   rfl
  ·simp at h1
 ·rename_i t' x lo' hi' hop
  split at h1
  ·rename_i a' k i k2 j hx hlo hhi;simp only[Option.some.injEq,Prod.mk.injEq] at h1;obtain ⟨rfl,rfl,rfl,rfl⟩:=h1;simp only[execOp,hop,ha.ev hx,ha.ev hlo,ha.ev hhi,Option.map_none,Option.map_some];simp only[Option.getD_some] at hL hH
   rw[Sem.run_bind,fin (some _) (some _) (by
    have hb:(Instr.sliceBound (.int k2 j) len .sliceAlen).run P w=.ok (L+N) w:=run_bound _ (L+N) hH hN;have hb2:(Instr.sliceBound (.int k i) (L+N) .sliceB).run P w=.ok L w:=run_bound _ L hL qo;unfold Instr.sliceBounds;simp[Sem.run_bind,Result.andThen,hb,hb2])]
   rfl
  ·simp at h1
 ·simp at h1
section rules
variable {P:Program} {T:Tab} {w0:World} {ops:Array Oper} {Q:Exit->Act->World->Prop} {rest rest':List Oper} {n:Nat} {l l':Sl} {K:PH} {hs:List PH}
theorem sla(hT:TabOK P T)(k:Nat){d:Nat}{o:Oper}{t len e sz:Nat}{a:Addr}{lo hi:Option Int}(L N:Nat)(h0:ovAt T ops n k rest l=some (d,o,rest',l'))(h1:saOp l' o=some (t,a,lo,hi))(hu:P.underlying t=some (.array len e))(he:(P.info? e).map (·.size)=some sz)
  (hL:lo.getD 0=(L:Int)) (hH:hi.getD len=((L+N:Nat):Int)) (hN:L+N<=len) (hlt:L<len) (hk:WL P w0 ops Q rest' n ((d,.slice (some (a.add (L*sz))) N (len-L))::l') K hs):WL P w0 ops Q rest n l K hs:=
 opr hT k h0 (fun A w ha _=>sla_run L N h1 hu he hL hH hN hlt A w ha) hk
theorem dsla{plan plan':List Nat}{z:Nat}{listed listed':Array Bool}{K0:PH}{A:List PH}(hT:TabOK P T)(hsel:Region.noSelect ops=true)(k:Nat){d:Nat}{o:Oper}{t len e sz:Nat}{a:Addr}{lo hi:Option Int}(L N:Nat)(h0:dlkAt T ops n z k plan listed l=some (d,o,plan',listed',l'))(h1:saOp l' o=some (t,a,lo,hi))(hu:P.underlying t=some (.array len e))(he:(P.info? e).map (·.size)=some sz)
  (hL:lo.getD 0=(L:Int)) (hH:hi.getD len=((L+N:Nat):Int)) (hN:L+N<=len) (hlt:L<len) (hk:WA P w0 ops Q K0 A z plan' listed' n ((d,.slice (some (a.add (L*sz))) N (len-L))::l') K hs):WA P w0 ops Q K0 A z plan listed n l K hs:=
 dopr hT hsel k h0 (fun A w ha _=>sla_run L N h1 hu he hL hH hN hlt A w ha) hk
def dlwAt(T:Tab)(ops:Array Oper)(n z k:Nat)(plan:List Nat)(L:Array Bool)(l:Sl):Option (Nat×Nat×Oper×List Nat×Array Bool×Sl):=
 match headAt T ops n z k plan L l with
 | some (p,o,r,L',l')=>match Nat.beq (p % 2) 0,Nat.beq (p / 2) z,gOK ops l' o.guard,o.dst with
  | true,false,some true,some d=>match Nat.blt d n with
   | true=>some (p,d,o,r,L'.setIfInBounds (p / 2) true,l')
   | false=>none
  | _,_,_,_=>none
 | none=>none
theorem doprw{plan plan':List Nat}{z:Nat}{listed listed':Array Bool}{K0:PH}{A:List PH}(hT:TabOK P T)(hsel:Region.noSelect ops=true)(k:Nat){p d:Nat}{o:Oper}{v:Value}(h0:dlwAt T ops n z k plan listed l=some (p,d,o,plan',listed',l'))(hwf:cond (Nat.blt z ops.size) (Region.waitsFor .any ops z (p / 2)) true=true)
  (hv:∀ a w,Ag n l' a->HasL K0 A w->(execOp a.eval o).run P w=.ok (.value v) w) (hk:WA P w0 ops Q K0 A z plan' listed' n ((d,v)::l') K hs):WA P w0 ops Q K0 A z plan listed n l K hs:=by
 unfold dlwAt at h0
 split at h0
 ·rename_i p' o' r L' l2 hh
  split at h0
  ·rename_i dd hp hz hg hd
   split at h0
   ·rename_i hb;simp only[Option.some.injEq,Prod.mk.injEq] at h0;obtain ⟨rfl,rfl,rfl,rfl,rfl,rfl⟩:=h0;obtain ⟨g1,g2⟩:=headAt_spec hh;refine WA.pures hT hsel k g1 ?_;have hp2:p'=2*(p' / 2):=by have:=Nat.eq_of_beq_eq_true hp;omega
    rw[hp2];refine WA.look g2 hsel hz hd hb (fun A' ha=>.inl ⟨gOK_wanted ha hg,fun w hw=>?_⟩) hk;obtain ⟨L,hcl,hun,hst⟩:=hw;exact hv A' w ha (hst (closed_waits hcl hun hwf))
   ·simp at h0
  ·simp at h0
 ·simp at h0
theorem dslaw{plan plan':List Nat}{z:Nat}{listed listed':Array Bool}{K0:PH}{A:List PH}(hT:TabOK P T)(hsel:Region.noSelect ops=true)(k:Nat){p d:Nat}{o:Oper}{t len e sz:Nat}{a:Addr}{lo hi:Option Int}(L N:Nat)(h0:dlwAt T ops n z k plan listed l=some (p,d,o,plan',listed',l'))(hwf:cond (Nat.blt z ops.size) (Region.waitsFor .any ops z (p / 2)) true=true)(h1:saOp l' o=some (t,a,lo,hi))(hu:P.underlying t=some (.array len e))(he:(P.info? e).map (·.size)=some sz)
  (hL:lo.getD 0=(L:Int)) (hH:hi.getD len=((L+N:Nat):Int)) (hN:L+N<=len) (hlt:L<len) (hk:WA P w0 ops Q K0 A z plan' listed' n ((d,.slice (some (a.add (L*sz))) N (len-L))::l') K hs):WA P w0 ops Q K0 A z plan listed n l K hs:=
 doprw hT hsel k h0 hwf (fun A w ha _=>sla_run L N h1 hu he hL hH hN hlt A w ha) hk
def cvOp(l:Sl)(o:Oper):Option (Nat×Nat×(Option Addr×Nat×Nat)):=
 match o.op with
 | .convert t t' x=>match ev l x with
  | some (.slice ao m c)=>some (t,t',(ao,m,c))
  | _=>none
 | _=>none
theorem dcvsw{plan plan':List Nat}{z:Nat}{listed listed':Array Bool}{K0:PH}{A:List PH}(hT:TabOK P T)(hsel:Region.noSelect ops=true)(k:Nat){p d t t' m c:Nat}{o:Oper}{ao:Option Addr}{h:PH}(xs:List UInt8)(h0:dlwAt T ops n z k plan listed l=some (p,d,o,plan',listed',l'))(hwf:cond (Nat.blt z ops.size) (Region.waitsFor .any ops z (p / 2)) true=true)(h1:cvOp l' o=some (t,t',(ao,m,c)))(hm:In K0 A h)
  (x:IsS h ao m c 1 (xs.map fun b=>Value.int .u8 b.toNat)) (hs':isStr P t t'=true)
  (hk:WA P w0 ops Q K0 A z plan' listed' n ((d,str xs)::l') K hs):WA P w0 ops Q K0 A z plan listed n l K hs:=by
 refine doprw hT hsel k h0 hwf (fun A' w ha hw=>?_) hk;unfold cvOp at h1
 split at h1
 ·rename_i t1 t2 y hop
  split at h1
  ·rename_i ao' m' c' hx;simp only[Option.some.injEq,Prod.mk.injEq] at h1;obtain ⟨rfl,rfl,rfl,rfl,rfl⟩:=h1
   have h2:=run_toStr (P:=P) (w:=w) (c:=c') hs' xs (by have:=x.1;simpa using this) (fun j u hj=>by
    obtain ⟨a,h3,h4⟩:=x.2.2 j u hj;exact ⟨a,h3,hw.cell hm h4⟩)
   simp only[execOp,hop,ha.ev hx];simp[h2]
  ·simp at h1
 ·simp at h1
def luOp(l:Sl)(o:Oper):Option (Nat×Value×Value×Bool):=
 match o.op with
 | .lookup t x y ok=>match ev l x,ev l y with
  | some u,some v=>some (t,u,v,ok)
  | _,_=>none
 | _=>none
theorem luOp_spec{l:Sl}{n:Nat}{o:Oper}{t:Nat}{u v:Value}{ok:Bool}(h:luOp l o=some (t,u,v,ok)):∀ a,Ag n l a->execOp a.eval o=(do let x <- Instr.lookup t u v ok;pure (.value x)):=by
 intro a ha;unfold luOp at h
 split at h
 ·rename_i t' x y ok' hop
  split at h
  ·rename_i u' v' hx hy;simp only[Option.some.injEq,Prod.mk.injEq] at h;obtain ⟨rfl,rfl,rfl,rfl⟩:=h;simp only[execOp,hop,ha.ev hx,ha.ev hy]
  ·simp at h
 ·simp at h
theorem dlkuw{κ ν:Type}[DecidableEq κ]{enc:κ->Value}{encv:ν->Value}{h:PH}{b:Nat}{m:List (κ×ν)}{plan plan':List Nat}{z:Nat}{listed listed':Array Bool}{K0:PH}{A:List PH}(hT:TabOK P T)(hsel:Region.noSelect ops=true)(k:Nat){p d t kt et:Nat}{o:Oper}{zv v:Value}{ok:Bool}(j:κ)(h0:dlwAt T ops n z k plan listed l=some (p,d,o,plan',listed',l'))(hwf:cond (Nat.blt z ops.size) (Region.waitsFor .any ops z (p / 2)) true=true)(h1:luOp l' o=some (t,.map (some b),v,ok))(hu:P.underlying t=some (.map kt et))(hz:(P.info? et).bind (·.zero)=some zv)(hK:KeyOK P kt enc)(hv:v=enc j)(hin:In K0 A h)(hm:MpO enc encv h b m)
  (hk:WA P w0 ops Q K0 A z plan' listed' n ((d,lkV ok (match mget j m with|some v=>encv v|none=>zv) (mget j m).isSome)::l') K hs):WA P w0 ops Q K0 A z plan listed n l K hs:=by
 subst hv;refine doprw hT hsel k h0 hwf (fun a w ha hw=>?_) hk;have:=run_lookup (P:=P) hu hK hz hm (hw.inn hin) j ok;rw[luOp_spec h1 a ha,Sem.run_bind,this]
 rfl
def mlOp(l:Sl)(o:Oper):Option (Nat×Value):=
 match o.op with
 | .call { callee:=.builtin .len,args,argTypes }=>match args.toList,argTypes.toList with
  | [x],[t]=>match ev l x with
   | some u=>some (t,u)
   | _=>none
  | _,_=>none
 | _=>none
theorem mlOp_spec{l:Sl}{n:Nat}{o:Oper}{t:Nat}{u:Value}(h:mlOp l o=some (t,u)){w:World}{N:Int}(hr:(Builtin.len_ #[t] o.type #[u]).run P w=.ok (.int .i64 N) w):∀ a,Ag n l a->(execOp a.eval o).run P w=.ok (.value (.int .i64 N)) w:=by
 intro a ha;unfold mlOp at h
 split at h
 ·rename_i args argTypes hop
  split at h
  ·rename_i x t' e1 e2
   split at h
   ·rename_i u' hx;simp only[Option.some.injEq,Prod.mk.injEq] at h;obtain ⟨rfl,rfl⟩:=h;have a1':args=#[x]:=by cases args;simp_all
    have a2':argTypes=#[t']:=by cases argTypes;simp_all
    subst a1' a2';simp only[execOp,hop];simp[resolve,invoke,builtin,ha.ev hx,hr]
   ·simp at h
  ·simp at h
 ·simp at h
theorem dmlw{κ ν:Type}[DecidableEq κ]{enc:κ->Value}{encv:ν->Value}{h:PH}{b:Nat}{m:List (κ×ν)}{plan plan':List Nat}{z:Nat}{listed listed':Array Bool}{K0:PH}{A:List PH}(hT:TabOK P T)(hsel:Region.noSelect ops=true)(k:Nat){p d t kt et:Nat}{o:Oper}(h0:dlwAt T ops n z k plan listed l=some (p,d,o,plan',listed',l'))(hwf:cond (Nat.blt z ops.size) (Region.waitsFor .any ops z (p / 2)) true=true)(h1:mlOp l' o=some (t,.map (some b)))(hu:P.underlying t=some (.map kt et))(hin:In K0 A h)(hm:MpO enc encv h b m)
  (hk:WA P w0 ops Q K0 A z plan' listed' n ((d,.int .i64 (m.length:Int))::l') K hs):WA P w0 ops Q K0 A z plan listed n l K hs:=
 doprw hT hsel k h0 hwf (fun a w ha hw=>mlOp_spec h1 (run_maplen hu hm (hw.inn hin)) a ha) hk
theorem dmlnw{plan plan':List Nat}{z:Nat}{listed listed':Array Bool}{K0:PH}{A:List PH}(hT:TabOK P T)(hsel:Region.noSelect ops=true)(k:Nat){p d t kt et:Nat}{o:Oper}(h0:dlwAt T ops n z k plan listed l=some (p,d,o,plan',listed',l'))(hwf:cond (Nat.blt z ops.size) (Region.waitsFor .any ops z (p / 2)) true=true)(h1:mlOp l' o=some (t,.map none))(hu:P.underlying t=some (.map kt et))
  (hk:WA P w0 ops Q K0 A z plan' listed' n ((d,.int .i64 0)::l') K hs):WA P w0 ops Q K0 A z plan listed n l K hs:=
 doprw hT hsel k h0 hwf (fun a w ha hw=>mlOp_spec h1 (by unfold Builtin.len_;simp[Sem.run_bind,run_underlying hu,Result.andThen,goInt]) a ha) hk
def mdAt(T:Tab)(ops:Array Oper)(n k:Nat)(rest:List Oper)(l:Sl):Option (Oper×Nat×Value×Value×List Oper×Sl):=
 match opAt T ops n k rest l with
 | some (o,r,l')=>match o.dst,o.op with
  | none,.call { callee:=.builtin .delete,args,argTypes }=>match args.toList,argTypes.toList with
   | [x,y],[t,_]=>match ev l' x,ev l' y with
    | some u,some v=>some (o,t,u,v,r,l')
    | _,_=>none
   | _,_=>none
  | _,_=>none
 | none=>none
theorem mdl{κ ν:Type}[DecidableEq κ]{enc:κ->Value}{encv:ν->Value}{h:PH}{b:Nat}{m:List (κ×ν)}(hT:TabOK P T)(k i:Nat){t kt et:Nat}{o:Oper}{v:Value}(j:κ)(h0:mdAt T ops n k rest l=some (o,t,.map (some b),v,rest',l'))(hi:hs[i]?=some h)(hu:P.underlying t=some (.map kt et))(hK:KeyOK P kt enc)(hv:v=enc j)(hm:MpO enc encv h b m)
  (hk:∀ h',MpO enc encv h' b (mdel j m)->WL P w0 ops Q rest' n l' K (hs.set i h')):WL P w0 ops Q rest n l K hs:=by
 unfold mdAt at h0
 split at h0
 ·rename_i o' r l2 ho
  split at h0
  ·rename_i args argTypes hd hop
   split at h0
   ·rename_i x y t' t2 e1 e2
    split at h0
    ·rename_i u v' hx hy;simp only[Option.some.injEq,Prod.mk.injEq] at h0;obtain ⟨rfl,rfl,rfl,rfl,rfl,rfl⟩:=h0;subst hv;have a1':args=#[x,y]:=by cases args;simp_all
     have a2':argTypes=#[t',t2]:=by cases argTypes;simp_all
     subst a1' a2';refine WL.at' hT ho fun hg=>?_;intro a w ha hw;obtain ⟨h',w',g1,g2,g3⟩:=run_delete (P:=P) hu hK hm hw hi j #[t',t2] rfl o'.type;have hw1:=gOK_wanted ha hg;unfold wpList;rw[if_pos hw1];refine .inl ?_;unfold Oper.wp
     have hrun:(execOp a.eval o').run P w=.ok (.value (.tuple #[])) w':=by
      simp only[execOp,hop];simp[resolve,invoke,builtin,ha.ev hx,ha.ev hy,g2]
     rw[hrun];simp only[Oper.upon,hd,Act.put];exact hk h' g1 _ _ ha g3
    ·simp at h0
   ·simp at h0
  ·simp at h0
 ·simp at h0
end rules
section joink
variable {P:Program} {w0:World} {Q:Exit->Act->World->Prop} {n:Nat} {l:Sl} {K:PH} {hs:List PH}
def JKK(w0:World){σ:Type}(F:σ->Sl)(HK:σ->PH)(H:σ->List PH)(J:σ->Prop)(n:Nat)(Q:Exit->Act->World->Prop):Exit->Act->World->Prop
 | .normal,a,w=>∃ s,J s/\Ag n (F s) a/\Sat w0 w (HK s) (H s)
 | e,a,w=>Q e a w
theorem jnK{σ:Type}{x y:Code}(F:σ->Sl)(HK:σ->PH)(H:σ->List PH)(J:σ->Prop)(h1:WC P w0 x (JKK w0 F HK H J n Q) n l K hs)(h2:∀ s,J s->WC P w0 y Q n (F s) (HK s) (H s)):WC P w0 (.seq x y) Q n l K hs:=
 sq fun a w ha hw=>Code.wp_mono (fun e a w h=>by
  cases e with
  | normal=>obtain ⟨s,hJ,ha,hw⟩:=h;exact h2 s hJ a w ha hw
  | _=>exact h) (h1 a w ha hw)
theorem jxK{σ:Type}{F:σ->Sl}{HK:σ->PH}{H:σ->List PH}{J:σ->Prop}(s:σ)(hJ:J s)(hF:Sub l (F s))(hK:K=HK s)(hH:hs=H s):WQ w0 (JKK w0 F HK H J n Q) .normal n l K hs:=
 fun a w ha hw=>⟨s,hJ,ha.sub hF,by rw[<-hK,<-hH];exact hw⟩
theorem jrK{σ:Type}{F:σ->Sl}{HK:σ->PH}{H:σ->List PH}{J:σ->Prop}(h:WQ w0 Q .ret n l K hs):WQ w0 (JKK w0 F HK H J n Q) .ret n l K hs:=h
end joink
end
section
def tvv(l:List (List UInt8)):List Value:=l.map str
def SecR(K:PH)(v:Value)(s:Sec):Prop:=∃ ao c,v=.agg #[.slice ao s.vs.length c,.bool s.syn]/\IsS K ao s.vs.length c 1 (tvv s.vs)
def encU(n:Int):Value:=.int .u64 n
def encI(n:Int):Value:=.int .i64 n
def encB(b:Nat):Value:=.map (some b)
def dkA(D:Dk)(bo:Nat):Array Value:=#[.int .i64 D.room,.int .i64 D.steps,.map (some bo),.int .i64 D.left,.bool D.dead]
abbrev Ins:=List (Int×Nat×PH)
def InsR(K:PH):Ins->List (Int×Ar)->Prop
 | [],[]=>True
 | x::r,y::q=>x.1=y.1/\(∃ mv,MpO encI id x.2.2 x.2.1 mv/\MR (SecR K) mv y.2)/\InsR K r q
 | _,_=>False
theorem SecR.le{K K':PH}(l:Le K K'){v:Value}{s:Sec}(h:SecR K v s):SecR K' v s:=let ⟨a,c,h1,h2⟩:=h;⟨a,c,h1,h2.le l⟩
theorem InsR.le{K K':PH}(l:Le K K'):∀ {i:Ins} {q:List (Int×Ar)},InsR K i q->InsR K' i q
 | [],[],h=>h
 | x::r,y::q,⟨h1,⟨mv,h2,h3⟩,h4⟩=>⟨h1,⟨mv,h2,h3.imp fun _ _ h=>h.le l⟩,InsR.le l h4⟩
 | [],_::_,h=>h.elim
 | _::_,[],h=>h.elim
theorem insGet{K:PH}{a:Int}:∀ {i:Ins} {q:List (Int×Ar)} {l:Ar},InsR K i q->mget a q=some l->∃ i1 bi hi mv i2 q1 q2,i=i1++(a,bi,hi)::i2/\q=q1++(a,l)::q2/\a∉q1.map (·.1)/\InsR K i1 q1/\InsR K i2 q2/\MpO encI id hi bi mv/\MR (SecR K) mv l
 | [],[],_,_,h=>by cases h
 | x::r,y::q,l,⟨h1,⟨mv,h2,h3⟩,h4⟩,h=>by
  obtain ⟨y1,y2⟩:=y;obtain ⟨x1,x2,x3⟩:=x;dsimp only at h1 h2 h3;subst h1
  by_cases e:a=x1
  ·subst e;simp only[mget,if_true,Option.some.injEq] at h;subst h;exact ⟨[],x2,x3,mv,r,[],q,I,I,by simp,trivial,h4,h2,h3⟩
  ·simp only[mget,e,if_false] at h;obtain ⟨i1,bi,hi,mv',i2,q1,q2,g1,g2,g3,g4,g5,g6,g7⟩:=insGet h4 h;exact ⟨(x1,x2,x3)::i1,bi,hi,mv',i2,(x1,y2)::q1,q2,by rw[g1];rfl,by rw[g2];rfl,by simp[e];simpa using g3,⟨rfl,⟨mv,h2,h3⟩,g4⟩,g5,g6,g7⟩
 | [],_::_,_,h,_=>h.elim
 | _::_,[],_,h,_=>h.elim
theorem insKeys{K:PH}:∀ {i:Ins} {q:List (Int×Ar)},InsR K i q->i.map (·.1)=q.map (·.1)
 | [],[],_=>rfl
 | x::r,y::q,⟨h1,_,h4⟩=>by simp[h1,insKeys h4]
 | [],_::_,h=>h.elim
 | _::_,[],h=>h.elim
theorem InsR.app{K:PH}:∀ {i j:Ins} {q r:List (Int×Ar)},InsR K i q->InsR K j r->InsR K (i++j) (q++r)
 | [],_,[],_,_,h=>h
 | x::i,_,y::q,_,⟨h1,h2,h3⟩,h=>⟨h1,h2,InsR.app h3 h⟩
 | [],_,_::_,_,h,_=>h.elim
 | _::_,_,[],_,h,_=>h.elim
theorem mset_at{κ ν:Type}[DecidableEq κ]{k:κ}{u v:ν}{q2:List (κ×ν)}:∀ {q1:List (κ×ν)},k∉q1.map (·.1)->mset k v (q1++(k,u)::q2)=q1++(k,v)::q2
 | [],_=>by simp[mset]
 | (j,w)::q1,h=>by
  simp only[List.map_cons,List.mem_cons,not_or] at h;simp only[List.cons_append,mset,h.1,if_false];rw[mset_at h.2]
theorem mdel_at{κ ν:Type}[DecidableEq κ]{k:κ}{u:ν}{q2:List (κ×ν)}:∀ {q1:List (κ×ν)},k∉q1.map (·.1)->mdel k (q1++(k,u)::q2)=q1++q2
 | [],_=>by simp[mdel]
 | (j,w)::q1,h=>by
  simp only[List.map_cons,List.mem_cons,not_or] at h;simp only[List.cons_append,mdel,h.1,if_false];rw[mdel_at h.2]
theorem mget_at{κ ν:Type}[DecidableEq κ]{k:κ}{u:ν}{q2:List (κ×ν)}:∀ {q1:List (κ×ν)},k∉q1.map (·.1)->mget k (q1++(k,u)::q2)=some u
 | [],_=>by simp[mget]
 | (j,w)::q1,h=>by
  simp only[List.map_cons,List.mem_cons,not_or] at h;simp only[List.cons_append,mget,h.1,if_false];exact mget_at h.2
theorem mset_new{κ ν:Type}[DecidableEq κ]{k:κ}{v:ν}:∀ {q:List (κ×ν)},mget k q=none->mset k v q=q++[(k,v)]
 | [],_=>rfl
 | (j,w)::q,h=>by
  by_cases e:k=j
  ·simp[mget,e] at h
  ·simp only[mget,e,if_false] at h;simp only[mset,e,if_false,List.cons_append];rw[mset_new h]
def insO(i:Ins):List (Int×Nat):=i.map fun x=>(x.1,x.2.1)
def insH(i:Ins):List PH:=i.map (·.2.2)
attribute [local irreducible] Code.wp wpList Calls
def DskM(K:PH)(b:Nat)(D:Dk)(m:List PH):Prop:=∃ bo ho ins,m=pt b (dkA D bo) 108::ho::insH ins/\MpO encU encB ho bo (insO ins)/\InsR K ins D.areas
theorem DskM.le{K K':PH}(l:Le K K'){b:Nat}{D:Dk}{m:List PH}(h:DskM K b D m):DskM K' b D m:=let ⟨bo,ho,ins,h1,h2,h3⟩:=h;⟨bo,ho,ins,h1,h2,h3.le l⟩
theorem clipSC{w0:World}{K:PH}{hs:List PH}(ao:Option Addr)(n c:Nat)(hn:n<=c):Ct Tryz.prog w0 148 [.slice ao n c] K hs (fun v K' hs'=>K'=K/\hs'=hs/\v=.slice (cutA ao n 0 1) n n):=by
 exact enter Tryz.func148 qk I I I<|sq (rg<|fin hT 1 I (th<|sq (rg<|sl3g hT 5 0 n n I I (by simp) I qo hn (fin hT 1 I<|th (rt<|ret1 I I ⟨I,I,I⟩)))))
theorem keyU:KeyOK Tryz.prog 23 encU:=keyInt Tryz.underlying23
theorem keyI:KeyOK Tryz.prog 3 encI:=keyInt Tryz.underlying3
theorem stepC{w0:World}{K:PH}{hs:List PH}(b bo:Nat)(D:Dk)(h1:0<=D.steps/\D.steps<=1099511627776)(h2 : -1<=D.left/\D.left<=9223372036854775807):
  Ct Tryz.prog w0 102 [.pointer (some ⟨b,0,none⟩)] K (pt b (dkA D bo) 108::hs) (fun v K' hs'=>K'=K/\hs'=pt b (dkA D.stp bo) 108::hs/\v=.bool D.stp.dead):=by
 refine enter Tryz.func102 qk I I I (sq (rg (fin hT 1 I (th (sq (rg (ldp hT 3 0 I I I (ar hT 0 I (i64w qo) (stp hT 2 0 I I I I (fin hT 0 I (th (sq (rg (ldp hT 4 0 I I I (ar hT 0 I (v':=.bool (decide (D.left=0))) (congrArg Value.bool (by rw[Bool.eq_iff_iff];simp)) (stp hT 2 0 rfl rfl rfl rfl (fin hT 0 rfl (th (jn (σ:=Unit) (fun _=>[(0,.pointer (some ⟨b,0,none⟩))]) (fun _=>pt b (dkA D.stp bo) 108::hs) (fun _=>True) ?_ ?_)))))))))))))))))))
 ·refine sq<|rg (ldp hT 3 0 I I I (cmpS hT 0 I fun b22 h22=>fin hT 0 I<|th (ifP h22 I (fun e1=>?_) (fun e1=>?_))))
  ·exact rg (ldp hT 3 0 I I I (ar hT 0 I (i64w qo) (stp hT 2 0 I I I I (fin hT 0 I (jx () trivial ⟨I,trivial⟩ I (by simp only[dkA,Dk.stp,if_pos e1];rfl))))))
  ·exact sk (jx () trivial ⟨I,trivial⟩ I (by simp only[dkA,Dk.stp,if_neg e1];rfl))
 ·rintro - -;exact sq (rg (ldp hT 3 0 I I I (fin hT 1 I (th (rt (ret1 I I ⟨I,I,I⟩))))))
end
section
theorem In.tail{K x:PH}{hs:List PH}(l:List PH)(hm:In K hs x):In K (l++hs) x:=by
 induction l with
 | nil=>exact hm
 | cons a l ih=>exact ih.cons
def ArH(K:PH)(D:Dk)(a:Int)(ins:Ins)(hs:List PH)(bi:Option Nat)(h:PH)(tl:List PH):Prop:=
 (mget a D.areas=none/\bi=none/\h=em/\tl=insH ins++hs) \/
 ∃ b i1 mv i2 q1 q2,bi=some b/\ins=i1++(a,b,h)::i2/\D.areas=q1++(a,D.ar a)::q2/\a∉q1.map (·.1)/\InsR K i1 q1/\InsR K i2 q2/\MpO encI id h b mv/\MR (SecR K) mv (D.ar a)/\tl=insH i1++(insH i2++hs)
theorem insO_keys(i:Ins):(insO i).map (·.1)=i.map (·.1):=by simp[insO]
theorem mget_insO{K:PH}{D:Dk}{a:Int}{ins:Ins}(hI:InsR K ins D.areas){hs:List PH}{bi:Option Nat}{h:PH}{tl:List PH}(x:ArH K D a ins hs bi h tl):mget a (insO ins)=bi:=by
 rcases x with ⟨h1,h2,_⟩|⟨b,i1,mv,i2,q1,q2,h1,h2,h3,h4,h5,h6,_⟩
 ·rw[h2,mget_none,insO_keys,insKeys hI];exact mget_none.1 h1
 ·rw[h1,h2];have:a∉(insO i1).map (·.1):=by rw[insO_keys,insKeys h5];exact h4
  unfold insO at this ⊢;rw[List.map_append,List.map_cons];generalize (i1.map fun x:Int×Nat×PH=>(x.1,x.2.1))=z at this ⊢
  induction z with
  | nil=>simp[mget]
  | cons y z ih=>
   simp only[List.map_cons,List.mem_cons,not_or] at this;simp only[List.cons_append,mget,this.1,if_false];exact ih this.2
theorem arH{K:PH}{D:Dk}{ins:Ins}(hI:InsR K ins D.areas)(a:Int)(hs:List PH):∃ bi h tl,ArH K D a ins hs bi h tl/\∀ P O:PH,(bi=none->(P::O::(insH ins++hs))=(P::O::tl))/\(bi≠none->(P::O::(insH ins++hs)).Perm (h::P::O::tl)):=by
 cases hg:mget a D.areas with
 | none=>exact ⟨none,em,_,.inl ⟨hg,rfl,rfl,rfl⟩,fun P O=>⟨fun _=>rfl,fun h=>absurd rfl h⟩⟩
 | some l=>
  obtain ⟨i1,bi,hi,mv,i2,q1,q2,g1,g2,g3,g4,g5,g6,g7⟩:=insGet hI hg;have hl:D.ar a=l:=by unfold Dk.ar;rw[hg];rfl
  refine ⟨some bi,hi,insH i1++(insH i2++hs),.inr ⟨bi,i1,mv,i2,q1,q2,I,g1,by rw[hl];exact g2,g3,g4,g5,g6,by rw[hl];exact g7,I⟩,fun P O=>⟨fun h=>(by cases h),fun _=>?_⟩⟩;rw[g1];unfold insH;rw[List.map_append,List.map_cons,List.append_assoc,List.cons_append];have p:(i1.map (·.2.2)++hi::(i2.map (·.2.2)++hs)).Perm (hi::(i1.map (·.2.2)++(i2.map (·.2.2)++hs))):=List.perm_middle;exact ((p.cons O).trans (List.Perm.swap hi O _)).cons P |>.trans (List.Perm.swap hi P _)
theorem cpyk(k:Nat)(bs:List UInt8):(List.take 0 (Array.replicate k (Value.int .u8 0)).toList++List.take (bs.length*1) (bv bs)++List.drop (0+bs.length*1) (Array.replicate k (Value.int .u8 0)).toList).toArray=(bv (bs++List.replicate (k-bs.length) 0)).toArray:=by
 have h1:List.take (bs.length*1) (bv bs)=bv bs:=List.take_of_length_le (by simp[bv]);rw[h1];simp[bv]
theorem cpy64(bs:List UInt8):(List.take 0 (Array.replicate 64 (Value.int .u8 0)).toList++List.take (bs.length*1) (bv bs)++List.drop (0+bs.length*1) (Array.replicate 64 (Value.int .u8 0)).toList).toArray=(bv (padS bs)).toArray:=cpyk 64 bs
attribute [local irreducible] Code.wp wpList Calls
theorem writeC{w0:World}{K hv:PH}{hs m:List PH}(b:Nat)(D:Dk)(c:Nat)(o:D.Ok c)(hc:c<=1099511627)(hm:DskM K b D m)(area n:Int)(ha:0<=area/\area<=18446744073709551615)(ao:Option Addr)(cap:Nat)(bs:List UInt8)(hin:In K hs hv)(x:IsS hv ao bs.length cap 1 (bv bs)):
  Ct Tryz.prog w0 124 [.pointer (some ⟨b,0,none⟩),.int .u64 area,.int .i64 n,.slice ao bs.length cap] K (m++hs)
   (fun v K' hs'=>Le K K'/\∃ m',hs'=m'++hs/\DskM K' b (D.write area n bs).1 m'/\v=.int .i64 (D.write area n bs).2):=by
 obtain ⟨bo,ho,ins,rfl,hO,hI⟩:=hm;obtain ⟨bi,hA,tl,hAr,hperm⟩:=arH hI area hs;have hmo:=mget_insO hI hAr;obtain ⟨old,hold⟩:∃ old,old=(D.sec area n).getD ⟨[],false⟩:=⟨_,rfl⟩;have hro:=o.room;refine enter Tryz.func124 qk I I I (sq (rg ?_))
 refine fin hT 1 I (th (jn (σ:=Option Addr×Nat×Nat) (fun s=>[(0,.pointer (some ⟨b,0,none⟩)),(1,.int .u64 area),(2,.int .i64 n),(3,.slice ao bs.length cap),(8,.int .i64 0),(9,.pointer (some ⟨s.2.2,0,none⟩)),(10,.bool (D.sec area n).isSome)])
  (fun s=>pt s.2.2 #[.slice s.1 old.vs.length s.2.1,.bool old.syn] 120::hA::pt b (dkA D bo) 108::ho::tl) (fun s=>IsS K s.1 old.vs.length s.2.1 1 (tvv old.vs)) ?_ ?_))
 ·cases hbi:bi with
  | none=>
   rw[hbi] at hmo hAr;rw[show ((pt b (dkA D bo) 108::ho::insH ins)++hs)=(pt b (dkA D bo) 108::ho::tl) from (hperm _ _).1 hbi];rcases hAr with ⟨g1,_,rfl,g3⟩|⟨b',_,_,_,_,_,g1,_⟩
   ·have hs0:D.sec area n=none:=by unfold Dk.sec Dk.ar;rw[g1];rfl
    rw[hs0] at hold;refine rg (WL.em (ldp hT 3 1 I I I (lku hT 1 (z:=.map none) area I Tryz.underlying106 qk keyU I (.inr ⟨2,I⟩) hO ?_)));rw[hmo];refine lkn hT 1 (z:=.agg #[.slice none 0 0,.bool false]) n I Tryz.underlying113 qk keyI I (al hT 3 (.agg #[.slice none 0 0,.bool false]) I qk fun b9=>stS hT 0 0 I I qk I I (fin hT 1 I ?_));rw[show old=⟨[],false⟩ from hold];exact jx (none,0,b9) (IsS.nil _ _ _ _) ⟨I,I,I,I,I,I,by rw[hs0];rfl,trivial⟩ rfl rfl
   ·cases g1
  | some bi=>
   rw[hbi] at hmo hAr;rcases hAr with ⟨_,g1,_⟩|⟨b',i1,mv,i2,q1,q2,g1,g2,g3,g4,g5,g6,hMv,hMR,g9⟩
   ·cases g1
   ·cases g1;refine WC.perm ((hperm _ _).2 (by rw[hbi];simp)) ?_;have hsec:D.sec area n=mget n (D.ar area):=rfl;rcases MR.get n hMR with ⟨h1,h2⟩|⟨v,s,h1,h2,aoV,cV,rfl,h3⟩
    ·rw[hsec,h2] at hold;refine rg (ldp hT 3 1 I I I (lku hT 1 (z:=.map none) area I Tryz.underlying106 qk keyU I (.inr ⟨2,I⟩) hO ?_));rw[hmo];refine lku hT 1 (z:=.agg #[.slice none 0 0,.bool false]) n I Tryz.underlying113 qk keyI I (.inr ⟨0,I⟩) hMv ?_;rw[h1];refine al hT 3 (.agg #[.slice none 0 0,.bool false]) I qk fun b9=>stS hT 0 0 I I qk I I (fin hT 1 I ?_);rw[show old=⟨[],false⟩ from hold];exact jx (none,0,b9) (IsS.nil _ _ _ _) ⟨I,I,I,I,I,I,by rw[hsec,h2];rfl,trivial⟩ rfl rfl
    ·rw[hsec,h2] at hold;refine rg (ldp hT 3 1 I I I (lku hT 1 (z:=.map none) area I Tryz.underlying106 qk keyU I (.inr ⟨2,I⟩) hO ?_));rw[hmo];refine lku hT 1 (z:=.agg #[.slice none 0 0,.bool false]) n I Tryz.underlying113 qk keyI I (.inr ⟨0,I⟩) hMv ?_;rw[h1];refine al hT 3 (.agg #[.slice none 0 0,.bool false]) I qk fun b9=>stS hT 0 0 I I qk I I (fin hT 1 I ?_);rw[show old=s from hold];exact jx (aoV,cV,b9) h3 ⟨I,I,I,I,I,I,by rw[hsec,h2];rfl,trivial⟩ rfl rfl
 ·rintro ⟨aoV,cV,b9⟩ hV;dsimp only at *
  have back:∀ (P O:PH),bi=none/\hA=em/\(P::O::tl)=(P::O::(insH ins++hs))\/(hA::P::O::tl).Perm (P::O::(insH ins++hs)):=fun P O=>by
   cases hbi:bi with
   | none=>
    left
    rcases hAr with ⟨_,_,g2,g3⟩|⟨b',_,_,_,_,_,g1,_⟩
    ·exact ⟨I,g2,by rw[g3]⟩
    ·rw[hbi] at g1;cases g1
   | some z=>exact .inr ((hperm P O).2 (by rw[hbi];simp)).symm
  have giveup:∀ {fn:Func} {R:Value->PH->List PH->Prop} {l:Sl},WQ w0 (bodyPost Tryz.prog fn (endR w0 R)) .ret 93 l K (pt b (dkA D bo) 108::ho::(insH ins++hs))->WQ w0 (bodyPost Tryz.prog fn (endR w0 R)) .ret 93 l K (pt b9 #[.slice aoV old.vs.length cV,.bool old.syn] 120::hA::pt b (dkA D bo) 108::ho::tl):=fun {fn R l} h=>by
   refine WQ.drop ?_;rcases back (pt b (dkA D bo) 108) ho with ⟨_,_,e⟩|p
   ·rw[e];exact WQ.drop h
   ·exact WQ.perm p h
  refine jn (σ:=Unit) (fun _=>[(0,.pointer (some ⟨b,0,none⟩)),(1,.int .u64 area),(2,.int .i64 n),(3,.slice ao bs.length cap),(9,.pointer (some ⟨b9,0,none⟩)),(10,.bool (D.sec area n).isSome)]) (fun _=>pt b9 #[.slice aoV old.vs.length cV,.bool old.syn] 120::hA::pt b (dkA D bo) 108::ho::tl) (fun _=>¬D.dead=true/\¬(n<0\/65536<=n\/64<bs.length)/\¬((D.sec area n).isSome=false/\D.room=0)) ?_ ?_
  ·refine bk (sq (rg (ldp hT 3 2 (v:=.bool D.dead) I I I ?_)));cases hdead:D.dead with
   | true=>
    refine fin hT 1 I (th (ifT I (sq (rg (fin hT 1 I (th (rt (rB (jr (giveup ?_))))))))));have e:D.write area n bs=(D,30):=by unfold Dk.write;rw[if_pos hdead]
    rw[e];exact ret1 I I ⟨Le.refl _,_,I,⟨bo,ho,ins,I,hO,hI⟩,I⟩
   | false=>
    refine fin hT 1 I (th (ifF I ?_));have hd0:¬D.dead=true:=by rw[hdead];simp
    refine sq<|rg (cmp hT 1 I (fun h2=>?_) (fun h2=>?_))
    ·refine fin hT 10 I (th (ifT I (sq (rg (fin hT 1 I (th (rt (rB (jr (giveup ?_))))))))));have e:D.write area n bs=(D,31):=by unfold Dk.write;rw[if_neg hd0,if_pos (.inl h2)]
     rw[e];exact ret1 I I ⟨Le.refl _,_,I,⟨bo,ho,ins,I,hO,hI⟩,I⟩
    ·refine cmp hT 2 I (fun h3=>?_) (fun h3=>?_)
     ·refine fin hT 7 I (th (ifT I (sq (rg (fin hT 1 I (th (rt (rB (jr (giveup ?_))))))))));have e:D.write area n bs=(D,31):=by unfold Dk.write;rw[if_neg hd0,if_pos (.inr (.inl qo))]
      rw[e];exact ret1 I I ⟨Le.refl _,_,I,⟨bo,ho,ins,I,hO,hI⟩,I⟩
     ·refine cmp hT 4 I (fun h4=>?_) (fun h4=>?_)
      ·refine fin hT 2 I (th (ifT I (sq (rg (fin hT 1 I (th (rt (rB (jr (giveup ?_))))))))));have e:D.write area n bs=(D,31):=by unfold Dk.write;rw[if_neg hd0,if_pos (.inr (.inr qo))]
       rw[e];exact ret1 I I ⟨Le.refl _,_,I,⟨bo,ho,ins,I,hO,hI⟩,I⟩
      ·have hnf:¬(n<0\/65536<=n\/64<bs.length):=by omega
       refine fin hT 2 I<|th (ifF I ?_)
       by_cases hfull:(D.sec area n).isSome=false/\D.room=0
       ·refine sq (rg ?_);rw[hfull.1];refine ldp hT 6 2 I I I (cmp hT 0 I (fun h5=>fin hT 2 I (th (ifT I (sq (rg (fin hT 1 I (th (rt (rB (jr (giveup ?_))))))))))) (fun h5=>absurd hfull.2 h5));have e:D.write area n bs=(D,32):=by unfold Dk.write;rw[if_neg hd0,if_neg hnf,if_pos hfull]
        rw[e];exact ret1 I I ⟨Le.refl _,_,I,⟨bo,ho,ins,I,hO,hI⟩,I⟩
       ·refine sq (rg ?_);have hg:¬D.dead=true/\¬(n<0\/65536<=n\/64<bs.length)/\¬((D.sec area n).isSome=false/\D.room=0):=⟨hd0,hnf,hfull⟩;cases hse:(D.sec area n).isSome with
        | true=>
         exact fin hT 10 I (th (ifF I (sk (bl (jx () (by rw[hse,hdead] at hg;exact hg) ⟨I,I,I,I,I,I,trivial⟩ I I)))))
        | false=>
         exact ldp hT 6 2 I I I (cmp hT 0 I (fun h5=>absurd ⟨hse,h5⟩ hfull) (fun h5=>fin hT 2 I (th (ifF I (sk (bl (jx () (by rw[hse,hdead] at hg;exact hg) ⟨I,I,I,I,I,I,trivial⟩ I I)))))))
  ·rintro-⟨hd0,hnf,hfull⟩;have e:D.write area n bs=((D.laid area n bs).stp,if (D.laid area n bs).stp.dead=true then 30 else 0):=by unfold Dk.write;rw[if_neg hd0,if_neg hnf,if_neg hfull]
   rw[e];obtain ⟨D1,hD1⟩:∃ D1:Dk,D1={ D with room:=if (D.sec area n).isSome=true then D.room else D.room-1 }:=⟨_,rfl⟩;refine jn (σ:=Unit) (fun _=>[(0,.pointer (some ⟨b,0,none⟩)),(1,.int .u64 area),(2,.int .i64 n),(3,.slice ao bs.length cap),(9,.pointer (some ⟨b9,0,none⟩)),(10,.bool (D.sec area n).isSome)]) (fun _=>pt b9 #[.slice aoV old.vs.length cV,.bool old.syn] 120::hA::pt b (dkA D1 bo) 108::ho::tl) (fun _=>True) ?_ ?_
   ·refine sq (rg ?_);cases hse:(D.sec area n).isSome with
    | true=>
     exact fin hT 2 I<|th (ifF I<|sk (jx () trivial ⟨I,I,I,I,I,I,trivial⟩ I (by rw[hD1,if_pos hse])))
    | false=>
     have hr0:0<D.room:=by
      have:¬D.room=0:=fun h=>hfull ⟨hse,h⟩;omega
     exact fin hT 2 I (th (ifT I (rg (ldp hT 3 2 I I I (ar hT 0 I (i64w qo) (stp hT 2 2 I I I I (fin hT 0 I (jx () trivial ⟨I,I,I,I,I,I,trivial⟩ I (by rw[hD1,if_neg (by rw[hse];simp)];rfl)))))))))
   ·rintro - -
    refine jn (σ:=PH×PH×List PH) (fun _=>[(0,.pointer (some ⟨b,0,none⟩)),(1,.int .u64 area),(2,.int .i64 n),(3,.slice ao bs.length cap),(9,.pointer (some ⟨b9,0,none⟩)),(10,.bool (D.sec area n).isSome)]) (fun s=>pt b9 #[.slice aoV old.vs.length cV,.bool old.syn] 120::s.1::pt b (dkA D1 bo) 108::s.2.1::s.2.2)
     (fun s=>∃ i1 bi mv i2 q1 q2,MpO encI id s.1 bi mv/\MR (SecR K) mv (D.ar area)/\MpO encU encB s.2.1 bo (insO (i1++(area,bi,s.1)::i2))/\InsR K i1 q1/\InsR K i2 q2/\area∉q1.map (·.1)/\(∀ l,mset area l D.areas=q1++(area,l)::q2)/\s.2.2=insH i1++(insH i2++hs)) ?_ ?_
    ·refine sq (rg (ldp hT 3 2 I I I (lku hT 1 (z:=.map none) area I Tryz.underlying106 qk keyU I (.inr ⟨3,I⟩) hO ?_)));rw[hmo];cases hbi:bi with
     | none=>
      rw[hbi] at hmo hAr;rcases hAr with ⟨g1,_,rfl,rfl⟩|⟨b',_,_,_,_,_,g1,_⟩
      ·refine cbS hT 0 True I (by simp) fun b65 h65=>fin hT 0 I<|th (ifP h65 I (fun _=>rg<|ldp hT 3 2 I I I (mkm hT 1 I fun bm=>mpu hT 0 4 area bm I I Tryz.underlying106 keyU I I hO fun ho' hO'=>fin hT 0 I<|WQ.perm (perm_front _ 2 _ I) (WQ.drop<|WQ.perm (List.Perm.swap _ _ _) (jx (sg bm (.map #[] 0),ho',insH ins++hs) ⟨ins,bm,[],[],D.areas,[],MpO.empty _ _,?_,?_,hI,trivial,mget_none.1 g1,fun l=>by rw[mset_new g1],I⟩ ⟨I,I,I,I,I,I,trivial⟩ I I)))) (fun h=>absurd trivial h))
       ·unfold Dk.ar;rw[g1];trivial
       ·rw[mset_new hmo] at hO';simpa[insO] using hO'
      ·cases g1
     | some bi=>
      rw[hbi] at hmo hAr;rcases hAr with ⟨_,g1,_⟩|⟨b',i1,mv,i2,q1,q2,g1,g2,g3,g4,g5,g6,hMv,hMR,g9⟩
      ·cases g1
      ·cases g1;refine cbS hT 0 False I (by simp[encB]) fun b65 h65=>fin hT 0 I (th (ifP h65 I (fun h=>h.elim) (fun _=>sk (jx (hA,ho,tl) ⟨i1,bi,mv,i2,q1,q2,hMv,hMR,by rw[<-g2];exact hO,g5,g6,g4,fun l=>?_,g9⟩ ⟨I,I,I,I,I,I,trivial⟩ I I))));rw[g3];exact mset_at g4
    ·rintro ⟨hA1,ho1,tl1⟩ ⟨i1,bi1,mv,i2,q1,q2,hMv,hMR,hO1,g5,g6,g4,hset,rfl⟩;dsimp only at *;have hb64:bs.length<=64:=by omega
     have hk:old.vs.length<=c:=by
      cases hs0:D.sec area n with
      | none=>rw[hold,hs0];simp
      | some s=>rw[hold,hs0];exact (o.secOk hs0).2.1
     have hnone:aoV=none->old.vs.length=0:=fun h=>by
      rcases Nat.eq_zero_or_pos old.vs.length with h2|h2
      ·exact h2
      ·obtain ⟨a,ha⟩:=hV.addr h2 (by decide);rw[h] at ha;cases ha
     have xC:IsS K (cutA aoV old.vs.length 0 1) old.vs.length old.vs.length 1 (tvv old.vs):=by rw[cutA_0];exact ⟨hV.1,Nat.le_refl _,hV.2.2⟩
     refine sq (rg (al hT 0 (.agg (Array.replicate 64 (.int .u8 0))) I qk fun b11=>fin hT 0 I (th (sq (rg (sla hT 0 (sz:=1) 0 64 I I Tryz.underlying191 qk I I (Nat.le_refl _) (by decide) ?_))))));simp only[add_mk,Nat.zero_mul,Nat.add_zero];refine cpy hT 1 0 bs.length I I I (In.tail (_::_::_::_::_::insH i1) (In.tail (insH i2) hin)) x qo (fun u hu=>bv_one bs u (List.mem_of_mem_take hu)) (by show 0+bs.length*1<=64;omega) (WL.hs (pt b11 (bv (padS bs)).toArray 191::pt b9 #[.slice aoV old.vs.length cV,.bool old.syn] 120::hA1::pt b (dkA D1 bo) 108::ho1::(insH i1++(insH i2++hs))) (congrArg (fun z=>pt b11 z 191::pt b9 #[.slice aoV old.vs.length cV,.bool old.syn] 120::hA1::pt b (dkA D1 bo) 108::ho1::(insH i1++(insH i2++hs))) (cpy64 bs)) ?_)
     have xW:IsS (pt b11 (bv (padS bs)).toArray 191) (some ⟨b11,0,none⟩) 64 64 1 ((padS bs).map fun b=>Value.int .u8 b.toNat):=by
      have:=(Own.ofPt (b:=b11) (c:=(bv (padS bs)).toArray) (e:=191) (n:=64) (size:=1) (by simp[bv,padS_len hb64]) (by simp[maxLen])).isS;simpa[bv] using this
     refine fin hT 0 I (th (jnK (σ:=PH×Option Addr×Nat) (fun _=>[(0,.pointer (some ⟨b,0,none⟩)),(1,.int .u64 area),(2,.int .i64 n),(9,.pointer (some ⟨b9,0,none⟩))]) (fun s=>s.1) (fun s=>pt b9 #[.slice s.2.1 (old.vs.length+1) s.2.2,.bool old.syn] 120::hA1::pt b (dkA D1 bo) 108::ho1::(insH i1++(insH i2++hs)))
      (fun s=>Le K s.1/\IsS s.1 s.2.1 (old.vs.length+1) s.2.2 1 (tvv (old.vs++[padS bs]))) ?_ ?_))
     ·refine rga [pt b9 #[.slice aoV old.vs.length cV,.bool old.syn] 120,pt b11 (bv (padS bs)).toArray 191] 8 [0,2,6,8,5,11,13,14,17] (by simp) qk qk (dldpw hT qk 1 0 I qk I I (dslaw hT qk 0 (sz:=1) 0 64 I qk I Tryz.underlying191 qk I I (Nat.le_refl _) (by decide) ?_));simp only[add_mk,Nat.zero_mul,Nat.add_zero];refine dcvsw hT qk 0 (padS bs) I qk I (.inr ⟨1,I⟩) xW qk (dfork 5 hT qk 0 [5,13,14,17] I qk ?_ ?_)
      ·refine cl hT 0 I (clipSC aoV old.vs.length cV hV.2.1) ?_;rintro v77 K77 hs77 ⟨rfl,rfl,rfl⟩;exact dnex [pt b9 #[.slice aoV old.vs.length cV,.bool old.syn] 120,pt b11 (bv (padS bs)).toArray 191] (by simp) (by simp) I (dact hT qk 0 I (lit hT 0 #[str (padS bs)] I (by decide) qk fun b80=>dnex [pt b9 #[.slice aoV old.vs.length cV,.bool old.syn] 120,pt b11 (bv (padS bs)).toArray 191] (by simp) (by simp) I (dact hT qk 0 I (appf hT 0 I (.inl I) xC (by rw[cutA_0];exact hnone) (.inr ⟨0,I⟩) (Own.ofPt (b:=b80) (c:=#[str (padS bs)]) (e:=9) (n:=1) (size:=1) I (by simp[maxLen])).isS I (by decide) qo (by show (old.vs.length+1)*16<=_;omega) (by simp only[maxLen];omega) fun ao81 c81 g81 o81=>WL.frz fun K2 le2 l2=>WL.drop (dnexL [pt b9 #[.slice aoV old.vs.length cV,.bool old.syn] 120,pt b11 (bv (padS bs)).toArray 191] (by simp) (by simp) le2 (dact hT qk 1 rfl (stp hT 0 1 rfl rfl rfl rfl (dnext (.inl qk) (dend hT qk 0 rfl (WQ.drop (jxK (K2,ao81,c81) ⟨le2,by simpa[tvv] using o81.isS.le l2⟩ ⟨rfl,rfl,rfl,rfl,trivial⟩ rfl rfl)))))))))))
      ·refine lit hT 0 #[str (padS bs)] I (by decide) qk fun b80=>dnex [pt b9 #[.slice aoV old.vs.length cV,.bool old.syn] 120,pt b11 (bv (padS bs)).toArray 191] (by simp) (by simp) I (dact hT qk 0 I (cl hT 0 I (clipSC aoV old.vs.length cV hV.2.1) ?_));rintro v77 K77 hs77 ⟨rfl,rfl,rfl⟩;exact dnex [pt b9 #[.slice aoV old.vs.length cV,.bool old.syn] 120,pt b11 (bv (padS bs)).toArray 191] (by simp) (by simp) I (dact hT qk 0 I (appf hT 0 I (.inl I) xC (by rw[cutA_0];exact hnone) (.inr ⟨0,I⟩) (Own.ofPt (b:=b80) (c:=#[str (padS bs)]) (e:=9) (n:=1) (size:=1) I (by simp[maxLen])).isS I (by decide) qo (by show (old.vs.length+1)*16<=_;omega) (by simp only[maxLen];omega) fun ao81 c81 g81 o81=>WL.frz fun K2 le2 l2=>WL.drop (dnexL [pt b9 #[.slice aoV old.vs.length cV,.bool old.syn] 120,pt b11 (bv (padS bs)).toArray 191] (by simp) (by simp) le2 (dact hT qk 1 rfl (stp hT 0 1 rfl rfl rfl rfl (dnext (.inl qk) (dend hT qk 0 rfl (WQ.drop (jxK (K2,ao81,c81) ⟨le2,by simpa[tvv] using o81.isS.le l2⟩ ⟨rfl,rfl,rfl,rfl,trivial⟩ rfl rfl)))))))))
     ·rintro ⟨K2,ao81,c81⟩ ⟨le2,x81⟩;dsimp only at *
      have hsec2:SecR K2 (.agg #[.slice ao81 (old.vs.length+1) c81,.bool old.syn]) (secW (D.sec area n) bs):=by
       refine ⟨ao81,c81,?_,?_⟩
       ·unfold secW;rw[<-hold];simp
       ·unfold secW;rw[<-hold];simpa using x81
      refine sq<|rga [pt b (dkA D1 bo) 108,ho1,pt b9 #[.slice ao81 (old.vs.length+1) c81,.bool old.syn] 120] 9 [0,2,4,6,8,10,12,14,17] (by simp) qk qk (dldp hT qk 3 0 I I I<|dlku hT qk 1 (zv:=.map none) area I Tryz.underlying106 qk keyU I (.inr ⟨1,I⟩) hO1 ?_)
      have hmo1:mget area (insO (i1++(area,bi1,hA1)::i2))=some bi1:=by
       have h0:area∉(insO i1).map (·.1):=by rw[insO_keys,insKeys g5];exact g4
       have:=mget_at (u:=bi1) (q2:=insO i2) h0;simpa[insO] using this
      rw[hmo1];refine dldS hT qk 1 2 I qk I qk (dact hT qk 0 I (mpu hT 0 1 n (.agg #[.slice ao81 (old.vs.length+1) c81,.bool old.syn]) I I Tryz.underlying113 keyI I I hMv fun hA2 hMv2=>dnex [pt b (dkA D1 bo) 108,ho1,pt b9 #[.slice ao81 (old.vs.length+1) c81,.bool old.syn] 120] (by simp) (by simp) I (dend hT qk 0 I (th (WC.drop (WC.perm (List.Perm.swap _ _ _) (sq (sq (rg ?_)))))))));have e1:dkA D1 bo=dkA (D.laid area n bs) bo:=by rw[hD1];rfl
      refine WL.hs (pt b (dkA (D.laid area n bs) bo) 108::hA2::ho1::(insH i1++(insH i2++hs))) (by rw[e1]) (cl hT 1 I (stepC b bo (D.laid area n bs) (by have:=o.steps;simp only[Dk.laid];omega) o.left) ?_);rintro v92 K92 hs92 ⟨rfl,rfl,rfl⟩
      have fin:∀ {fn:Func} {R:Value->PH->List PH->Prop} {l:Sl},(∀ m',DskM K92 b (D.laid area n bs).stp m'->WQ w0 (bodyPost Tryz.prog fn (endR w0 R)) .ret 93 l K92 (m'++hs))->WQ w0 (bodyPost Tryz.prog fn (endR w0 R)) .ret 93 l K92 (pt b (dkA (D.laid area n bs).stp bo) 108::hA2::ho1::(insH i1++(insH i2++hs))):=fun {fn R l} h=>by
       have hm':DskM K92 b (D.laid area n bs).stp (pt b (dkA (D.laid area n bs).stp bo) 108::ho1::insH (i1++(area,bi1,hA2)::i2)):=by
        refine ⟨bo,ho1,i1++(area,bi1,hA2)::i2,I,by simpa[insO] using hO1,?_⟩;show InsR K92 _ (mset area (mset n (secW (D.sec area n) bs) (D.ar area)) D.areas);rw[hset];exact (g5.le le2).app ⟨I,⟨_,hMv2,MR.set hsec2 (hMR.imp fun _ _ h=>h.le le2)⟩,g6.le le2⟩
       refine WQ.perm ?_ (h _ hm');unfold insH;rw[List.map_append,List.map_cons,List.cons_append,List.cons_append,List.append_assoc,List.cons_append];exact ((List.Perm.swap ho1 hA2 _).trans (List.perm_middle.symm.cons ho1)).cons _
      cases hst:(D.laid area n bs).stp.dead with
      | true=>
       exact WL.perm (List.Perm.refl _)<|En.fin hT 0 I (th<|ifT I (sq<|rg (En.fin hT 1 I<|th (rt<|rT (fin fun m' hm'=>ret1 I I ⟨le2,m',I,hm',I⟩)))))
      | false=>
       exact En.fin hT 0 I<|th (ifF I<|sk (th<|sq (rg<|En.fin hT 1 I (th<|rt (fin fun m' hm'=>ret1 I I ⟨le2,m',I,hm',I⟩)))))
end
section
theorem mdel_none{κ ν:Type}[DecidableEq κ]{k:κ}:∀ {q:List (κ×ν)},mget k q=none->mdel k q=q
 | [],_=>rfl
 | (j,w)::q,h=>by
  by_cases e:k=j
  ·simp[mget,e] at h
  ·simp only[mget,e,if_false] at h;simp only[mdel,e,if_false];rw[mdel_none h]
attribute [local irreducible] Code.wp wpList Calls
def dk0(r:Int):Dk:=⟨r,0,[],-1,false⟩
theorem dk0_ok{r:Int}(h:0<=r/\r<=1099511627776):(dk0 r).Ok 0:=⟨by simp[dk0],by simp[dk0],by simp[dk0],h,by simp[dk0],by simp[dk0],by simp[dk0]⟩
theorem newDC{w0:World}{K:PH}{hs:List PH}(r:Int)(hr:0<=r/\r<=1099511627776):Ct Tryz.prog w0 24 [.int .i64 r] K hs
  (fun v K' hs'=>K'=K/\∃ b m,hs'=m++hs/\DskM K b (dk0 r) m/\v=.pointer (some ⟨b,0,none⟩)):=by
 exact enter Tryz.func24 qk I I I<|sq (rg<|fin hT 1 I (th<|sq (rg<|ar hT 1 I (v':=.int .i64 r) (by rw[show (if r<0 then (0:Int) else r)=r from by rw[if_neg qo]]) (mkm hT 0 I fun bm=>bd hT 0 (.agg<|dkA (dk0 r) bm) I (fun w=>by kernel_rfl) (bx hT 0 I fun b7=>fin hT 1 I<|th (rt<|ret1 I I ⟨I,b7,_,I,⟨bm,_,[],I,MpO.empty _ _,trivial⟩,I⟩))))))
theorem deadC{w0:World}{K:PH}{hs m:List PH}(b:Nat)(D:Dk)(hm:DskM K b D m):Ct Tryz.prog w0 51 [.pointer (some ⟨b,0,none⟩)] K (m++hs)
  (fun v K' hs'=>K'=K/\hs'=m++hs/\v=.bool D.dead):=by
 obtain ⟨bo,ho,ins,rfl,hO,hI⟩:=hm;exact enter Tryz.func51 qk I I I (sq (rg (fin hT 1 I (th (sq (rg (ldp hT 3 0 (v:=.bool D.dead) I I I (fin hT 1 I (th (rt (ret1 I I ⟨I,I,I⟩)))))))))))
theorem readDC{w0:World}{K:PH}{hs m:List PH}(b:Nat)(D:Dk)(c:Nat)(o:D.Ok c)(hc:c<=1099511627)(hm:DskM K b D m)(area n:Int):
  Ct Tryz.prog w0 101 [.pointer (some ⟨b,0,none⟩),.int .u64 area,.int .i64 n] K (m++hs)
   (fun v K' hs'=>Le K K'/\hs'=m++hs/\((D.read area n=none/\v=.tuple #[.slice none 0 0,.bool false]) \/
    ∃ bs ao cap,D.read area n=some bs/\bs.length=64/\v=.tuple #[.slice ao bs.length cap,.bool true]/\IsS K' ao bs.length cap 1 (bv bs))):=by
 obtain ⟨bo,ho,ins,rfl,hO,hI⟩:=hm;obtain ⟨bi,hA,tl,hAr,hperm⟩:=arH hI area hs;have hmo:=mget_insO hI hAr;refine enter Tryz.func101 qk I I I (sq (rg (fin hT 2 I (th ?_))));cases hbi:bi with
 | none=>
  rw[hbi] at hmo hAr;rcases hAr with ⟨g1,_,rfl,g3⟩|⟨b',_,_,_,_,_,g1,_⟩
  ·have hs0:D.read area n=none:=by unfold Dk.read Dk.sec Dk.ar;rw[g1];rfl
   refine sq (rg (ldp hT 3 0 I I I (lku hT 1 (z:=.map none) area I Tryz.underlying106 qk keyU I (.inr ⟨1,I⟩) hO ?_)));rw[hmo];exact lkn hT 1 (z:=.agg #[.slice none 0 0,.bool false]) n I Tryz.underlying113 qk keyI I (al hT 3 (.agg #[.slice none 0 0,.bool false]) I qk fun b9=>stS hT 0 0 I I qk I I (fin hT 1 I (th (sq (sq (rg (fin hT 2 I (th (ifT I (sq (rg (fin hT 2 I (th (rt (rT (WQ.drop (ret2 I I I ⟨Le.refl _,I,.inl ⟨hs0,I⟩⟩)))))))))))))))))
  ·cases g1
 | some bi=>
  rw[hbi] at hmo hAr;rcases hAr with ⟨_,g1,_⟩|⟨b',i1,mv,i2,q1,q2,g1,g2,g3,g4,g5,g6,hMv,hMR,g9⟩
  ·cases g1
  ·cases g1;have hp:=(hperm (pt b (dkA D bo) 108) ho).2 (by rw[hbi];simp);refine WC.perm hp ?_;have hsec:D.sec area n=mget n (D.ar area):=rfl;rcases MR.get n hMR with ⟨h1,h2⟩|⟨v,s,h1,h2,aoV,cV,rfl,h3⟩
   ·have hs0:D.read area n=none:=by unfold Dk.read;rw[hsec,h2];rfl
    refine sq (rg (ldp hT 3 1 I I I (lku hT 1 (z:=.map none) area I Tryz.underlying106 qk keyU I (.inr ⟨2,I⟩) hO ?_)));rw[hmo];refine lku hT 1 (z:=.agg #[.slice none 0 0,.bool false]) n I Tryz.underlying113 qk keyI I (.inr ⟨0,I⟩) hMv ?_;rw[h1];exact al hT 3 (.agg #[.slice none 0 0,.bool false]) I qk fun b9=>stS hT 0 0 I I qk I I (fin hT 1 I (th (sq (sq (rg (fin hT 2 I (th (ifT I (sq (rg (fin hT 2 I (th (rt (rT (WQ.drop (WQ.perm hp.symm (ret2 I I I ⟨Le.refl _,I,.inl ⟨hs0,I⟩⟩)))))))))))))))))
   ·obtain ⟨k1,k2,k3⟩:=o.secOk (show D.sec area n=some s by rw[hsec,h2])
    have hlen:0<s.vs.length:=by
     rcases Nat.eq_zero_or_pos s.vs.length with h|h
     ·exact absurd (List.eq_nil_of_length_eq_zero h) k1
     ·exact h
    have hs0:D.read area n=some (s.vs.getLastD []):=by unfold Dk.read;rw[hsec,h2];rfl
    have hget:(tvv s.vs)[s.vs.length-1]?=some (str (s.vs.getLastD [])):=by
     unfold tvv;rw[List.getElem?_map,List.getLastD_eq_getLast?,List.getLast?_eq_getElem?];rw[List.getElem?_eq_getElem qo]
     rfl
    have hl64:(s.vs.getLastD []).length=64:=by
     rw[List.getLastD_eq_getLast?,List.getLast?_eq_some_getLast k1];exact k3 _ (List.getLast_mem k1)
    refine sq (rg (ldp hT 3 1 I I I (lku hT 1 (z:=.map none) area I Tryz.underlying106 qk keyU I (.inr ⟨2,I⟩) hO ?_)));rw[hmo];refine lku hT 1 (z:=.agg #[.slice none 0 0,.bool false]) n I Tryz.underlying113 qk keyI I (.inr ⟨0,I⟩) hMv ?_;rw[h1];exact al hT 3 (.agg #[.slice none 0 0,.bool false]) I qk fun b9=>stS hT 0 0 I I qk I I (fin hT 1 I (th (sq (sq (rg (fin hT 2 I (th (ifF I (sk (th (sq (rg (ldp hT 1 0 I I I (ldp hT 1 0 I I I (ar hT 1 I (i64w qo) (ix1 hT 0 (s.vs.length-1) I qo I h3 hget fun a29 hc29=>ld hT 0 I (.inl I) hc29 (cvb hT 0 I qk fun b31 c31 g31 x31=>WL.frz fun K2 le2 l2=>fin hT 2 I (th (rt (WQ.drop (WQ.perm hp.symm (ret2 I I I ⟨le2,I,.inr ⟨_,_,c31,hs0,hl64,I,x31.le l2⟩⟩))))))))))))))))))))))
theorem freeC{w0:World}{K:PH}{hs m:List PH}(b:Nat)(D:Dk)(c:Nat)(o:D.Ok c)(hc:c<=1099511627)(hm:DskM K b D m)(area:Int):
  Ct Tryz.prog w0 62 [.pointer (some ⟨b,0,none⟩),.int .u64 area] K (m++hs)
   (fun v K' hs'=>K'=K/\∃ m',hs'=m'++hs/\DskM K b (D.free area).1 m'/\v=.int .i64 (D.free area).2):=by
 obtain ⟨bo,ho,ins,rfl,hO,hI⟩:=hm;have hr:=o.room;have har:=(o.arNodup area).2;refine enter Tryz.func62 qk I I I (sq (rg (fin hT 1 I (th (sq (sq (rg (ldp hT 3 0 (v:=.bool D.dead) I I I ?_))))))));cases hd:D.dead with
 | true=>
  have e:D.free area=(D,30):=by unfold Dk.free;rw[if_pos hd]
  rw[e];exact fin hT 4 I (th (ifT I (sq (rg (fin hT 1 I (th (rt (rT (ret1 I I ⟨I,_,I,⟨bo,ho,ins,I,hO,hI⟩,I⟩)))))))))
 | false=>
  refine cl hT 2 I (stepC b bo D (by have:=o.steps;omega) o.left) ?_;rintro v11 K11 hs11 ⟨rfl,rfl,rfl⟩;cases hst:D.stp.dead with
  | true=>
   have e:D.free area=(D.stp,30):=by unfold Dk.free;rw[if_neg (by rw[hd];simp),if_pos hst]
   rw[e];exact fin hT 1 I (th (ifT I (sq (rg (fin hT 1 I (th (rt (rT (ret1 I I ⟨I,pt b (dkA D.stp bo) 108::ho::insH ins,I,⟨bo,ho,ins,I,hO,hI⟩,I⟩)))))))))
  | false=>
   have e:D.free area=({ D.stp with room:=D.room+((D.ar area).length:Int),areas:=mdel area D.areas },0):=by unfold Dk.free;rw[if_neg (by rw[hd];simp),if_neg (by rw[hst];simp)]
   rw[e];refine fin hT 1 I (th (ifF I (sk (th ?_))));obtain ⟨bi,hA,tl,hAr,hperm⟩:=arH hI area hs;have hmo:=mget_insO hI hAr;cases hbi:bi with
   | none=>
    rw[hbi] at hmo hAr;rcases hAr with ⟨g1,_,rfl,g3⟩|⟨b',_,_,_,_,_,g1,_⟩
    ·have hl0:D.ar area=[]:=by unfold Dk.ar;rw[g1];rfl
     refine sq (rga [pt b (dkA D.stp bo) 108,ho] 14 [0,2,4,6,8,10,12,14,16,18,20,22,24,26,29] (by simp) qk qk (dldpw hT qk 3 0 (v:=.int .i64 D.room) I qk I I (dldpw hT qk 3 0 I qk I I (dlkuw hT qk 1 (zv:=.map none) area I qk I Tryz.underlying106 qk keyU I (.inr ⟨1,I⟩) hO ?_))));rw[hmo];refine dmlnw hT qk 0 I qk I Tryz.underlying113 (dar hT qk 0 I (v':=.int .i64 (D.room+((D.ar area).length:Int))) (by rw[hl0];exact i64w (by simp;omega)) (dact hT qk 2 rfl (stp hT 0 0 rfl rfl rfl rfl (dnext (.inl qk) (dend hT qk 0 rfl (th (sq (rg (ldp hT 3 0 rfl rfl rfl (mdl hT 1 1 area rfl rfl Tryz.underlying106 keyU rfl hO fun ho' hO'=>fin hT 0 rfl (th (sq (rg (fin hT 1 rfl (th (rt ?_))))))))))))))));rw[mdel_none hmo] at hO';refine ret1 I I ⟨I,pt b (dkA { D.stp with room:=D.room+((D.ar area).length:Int),areas:=mdel area D.areas } bo) 108::ho'::insH ins,I,⟨bo,ho',ins,I,hO',?_⟩,I⟩
     show InsR K11 ins (mdel area D.areas);rw[mdel_none g1];exact hI
    ·cases g1
   | some bi=>
    rw[hbi] at hmo hAr;rcases hAr with ⟨_,g1,_⟩|⟨b',i1,mv,i2,q1,q2,g1,g2,g3,g4,g5,g6,hMv,hMR,rfl⟩
    ·cases g1
    ·cases g1;have hp:=(hperm (pt b (dkA D.stp bo) 108) ho).2 (by rw[hbi];simp);refine WC.perm hp (sq (rga [pt b (dkA D.stp bo) 108,ho,hA] 14 [0,2,4,6,8,10,12,14,16,18,20,22,24,26,29] (by simp) qk qk (dldpw hT qk 3 0 (v:=.int .i64 D.room) I qk I I (dldpw hT qk 3 0 I qk I I (dlkuw hT qk 1 (zv:=.map none) area I qk I Tryz.underlying106 qk keyU I (.inr ⟨1,I⟩) hO ?_)))));rw[hmo];refine dmlw hT qk 0 I qk I Tryz.underlying113 (.inr ⟨2,I⟩) hMv ?_;rw[hMR.len];refine dar hT qk 0 I (v':=.int .i64 (D.room+((D.ar area).length:Int))) (i64w qo) (dact hT qk 2 I (stp hT 0 1 I I I I (dnext (.inl qk) (dend hT qk 0 I (th (WC.drop (sq (rg (ldp hT 3 0 I I I (mdl hT 1 1 area I I Tryz.underlying106 keyU I hO fun ho' hO'=>fin hT 0 I (th (sq (rg (fin hT 1 I (th (rt (ret1 I I ⟨I,pt b (dkA { D.stp with room:=D.room+((D.ar area).length:Int),areas:=mdel area D.areas } bo) 108::ho'::insH (i1++i2),by simp[insH];rfl,⟨bo,ho',i1++i2,rfl,?_,?_⟩,rfl⟩)))))))))))))))))
     ·rw[g2] at hO';have h0:area∉(insO i1).map (·.1):=by rw[insO_keys,insKeys g5];exact g4
      have:=mdel_at (u:=bi) (q2:=insO i2) h0;have h3:insO (i1++(area,bi,hA)::i2)=insO i1++(area,bi)::insO i2:=by simp[insO]
      rw[h3,this] at hO';simpa[insO] using hO'
     ·show InsR K11 (i1++i2) (mdel area D.areas);rw[g3,mdel_at g4];exact g5.app g6
end
section
def synF(ks:List Int)(x:Int×Sec):Int×Sec:=if x.1∈ks then (x.1,secS x.2) else x
theorem synF_key(ks:List Int)(x:Int×Sec):(synF ks x).1=x.1:=by unfold synF;split <;> rfl
theorem synF_keys(ks:List Int)(l:Ar):(l.map (synF ks)).map (·.1)=l.map (·.1):=by
 rw[List.map_map];exact List.map_congr_left fun x _=>synF_key ks x
theorem synF_other{ks:List Int}{k:Int}{x:Int×Sec}(h:x.1≠k):synF (ks++[k]) x=synF ks x:=by
 unfold synF
 by_cases e:x.1∈ks
 ·rw[if_pos e,if_pos (by simp[e])]
 ·rw[if_neg e,if_neg (by simp[e,h])]
theorem syn_set{k:Int}{s:Sec}{ks:List Int}(hk:k∉ks):∀ {l:Ar},(l.map (·.1)).Nodup->(k,s)∈l.map (synF ks)->mset k (secS s) (l.map (synF ks))=l.map (synF (ks++[k]))
 | [],_,h=>by simp at h
 | (j,t)::l,hnd,h=>by
  simp only[List.map_cons,List.nodup_cons] at hnd
  by_cases e:k=j
  ·subst e;have hf:synF ks (k,t)=(k,t):=by unfold synF;rw[if_neg hk]
   have hf2:synF (ks++[k]) (k,t)=(k,secS t):=by unfold synF;rw[if_pos (by simp)]
   have hst:s=t:=by
    rw[List.map_cons,List.mem_cons,hf] at h;rcases h with h|h
    ·exact (Prod.mk.injEq _ _ _ _ ▸ h).2
    ·exfalso
     obtain ⟨x,hx,hxe⟩:=List.mem_map.1 h;have:x.1=k:=by rw[<-synF_key ks x,hxe]
     exact hnd.1<|List.mem_map.2 ⟨x,hx,this⟩
   subst hst;rw[List.map_cons,hf,List.map_cons,hf2];simp only[mset,if_true]
   congr 1
   exact List.map_congr_left fun x hx=>(synF_other (fun h=>hnd.1<|List.mem_map.2 ⟨x,hx,h⟩)).symm
  ·have hj:(synF ks (j,t)).1=j:=synF_key ks _
   have h2:(k,s)∈l.map (synF ks):=by
    rw[List.map_cons,List.mem_cons] at h;rcases h with h|h
    ·exact absurd (by rw[<-h] at hj;exact hj) e
    ·exact h
   rw[List.map_cons,List.map_cons,synF_other (by exact fun h=>e h.symm)];cases hq:synF ks (j,t) with
   | mk a b=>
    rw[hq] at hj;dsimp only at hj;subst hj;simp only[mset,e,if_false];rw[syn_set hk hnd.2 h2]
theorem syn_all{ks:List Int}{l:Ar}(h:∀ x∈l,x.1∈ks):l.map (synF ks)=l.map fun x=>(x.1,secS x.2):=
 List.map_congr_left fun x hx=>by unfold synF;rw[if_pos (h x hx)]
def todoK:Ar->List Int->Nat
 | [],_=>0
 | x::l,ks=>(if x.1∈ks then 0 else 1)+todoK l ks
theorem todo_le(ks:List Int)(k:Int):∀ l:Ar,todoK l (ks++[k])<=todoK l ks
 | []=>Nat.le_refl _
 | x::l=>by
  have:=todo_le ks k l;simp only[todoK]
  by_cases e:x.1∈ks
  ·rw[if_pos e,if_pos (by simp[e])];omega
  ·rw[if_neg e];split <;> omega
theorem todo_lt{ks:List Int}{k:Int}(hk:k∉ks):∀ {l:Ar},k∈l.map (·.1)->todoK l (ks++[k])<todoK l ks
 | [],h=>by simp at h
 | x::l,h=>by
  simp only[todoK]
  by_cases e:x.1=k
  ·have:=todo_le ks k l;rw[if_pos (by simp[e]),if_neg (by rw[e];exact hk)];omega
  ·have h2:k∈l.map (·.1):=by
    rw[List.map_cons,List.mem_cons] at h;rcases h with h|h
    ·exact absurd h.symm e
    ·exact h
   have:=todo_lt hk h2
   by_cases e1:x.1∈ks
   ·rw[if_pos e1,if_pos (by simp[e1])];omega
   ·rw[if_neg e1,if_neg (by simp[e1,e])];omega
attribute [local irreducible] Code.wp wpList Calls
theorem syncC{w0:World}{K:PH}{hs m:List PH}(b:Nat)(D:Dk)(c:Nat)(o:D.Ok c)(hc:c<=1099511627)(hm:DskM K b D m)(area:Int):
  Ct Tryz.prog w0 125 [.pointer (some ⟨b,0,none⟩),.int .u64 area] K (m++hs)
   (fun v K' hs'=>K'=K/\∃ m',hs'=m'++hs/\DskM K b (D.sync area).1 m'/\v=.int .i64 (D.sync area).2):=by
 obtain ⟨bo,ho,ins,rfl,hO,hI⟩:=hm;have hr:=o.room;refine enter Tryz.func125 qk I I I (sq (rg (fin hT 1 I (th (sq (sq (rg (ldp hT 3 0 (v:=.bool D.dead) I I I ?_))))))));cases hd:D.dead with
 | true=>
  have e:D.sync area=(D,30):=by unfold Dk.sync;rw[if_pos hd]
  rw[e];exact fin hT 4 I (th (ifT I (sq (rg (fin hT 1 I (th (rt (rT (ret1 I I ⟨I,_,I,⟨bo,ho,ins,I,hO,hI⟩,I⟩)))))))))
 | false=>
  refine cl hT 2 I (stepC b bo D (by have:=o.steps;omega) o.left) ?_;rintro v11 K11 hs11 ⟨rfl,rfl,rfl⟩;cases hst:D.stp.dead with
  | true=>
   have e:D.sync area=(D.stp,30):=by unfold Dk.sync;rw[if_neg (by rw[hd];simp),if_pos hst]
   rw[e];exact fin hT 1 I (th (ifT I (sq (rg (fin hT 1 I (th (rt (rT (ret1 I I ⟨I,pt b (dkA D.stp bo) 108::ho::insH ins,I,⟨bo,ho,ins,I,hO,hI⟩,I⟩)))))))))
  | false=>
   have e:D.sync area=({ D.stp with areas:=D.synA area },0):=by unfold Dk.sync;rw[if_neg (by rw[hd];simp),if_neg (by rw[hst];simp)]
   rw[e];refine fin hT 1 I (th (ifF I (sk (th ?_))));obtain ⟨bi,hA,tl,hAr,hperm⟩:=arH hI area hs;have hmo:=mget_insO hI hAr;cases hbi:bi with
   | none=>
    rw[hbi] at hmo hAr;rcases hAr with ⟨g1,_,rfl,g3⟩|⟨b',_,_,_,_,_,g1,_⟩
    ·refine sq (sq (rg (ldp hT 3 0 I I I (lku hT 1 (z:=.map none) area I Tryz.underlying106 qk keyU I (.inr ⟨1,I⟩) hO ?_))));rw[hmo];refine mrgn hT 0 I Tryz.underlying113 fun r=>fin hT 0 I (th (bk (loop (σ:=Unit) (fun _=>[(21,.pointer (some ⟨r,0,none⟩))]) (fun _=>K11) (fun _=>sg r (.mapIter none 0 #[] 0)::pt b (dkA D.stp bo) 108::ho::(insH ins++hs)) (fun _=>True) (fun _=>0) () trivial ⟨I,trivial⟩ I I ?_)));rintro - -;refine sq (rg (mnxn hT 0 I (.inr ⟨0,I⟩) (fin hT 1 I (th (sq (ifF I (ex (xt (xt (xb (th (sq (rg (fin hT 1 I (th (rt (WQ.drop (ret1 I I ⟨I,pt b (dkA D.stp bo) 108::ho::insH ins,I,⟨bo,ho,ins,I,hO,?_⟩,I⟩))))))))))))))))));show InsR K11 ins (D.synA area);unfold Dk.synA;rw[g1];exact hI
    ·cases g1
   | some bi=>
    rw[hbi] at hmo hAr;rcases hAr with ⟨_,g1,_⟩|⟨b',i1,mv,i2,q1,q2,g1,g2,g3,g4,g5,g6,hMv,hMR,rfl⟩
    ·cases g1
    ·cases g1;have hp:=(hperm (pt b (dkA D.stp bo) 108) ho).2 (by rw[hbi];simp);have hnd:=(o.arNodup area).1;have hga:mget area D.areas=some (D.ar area):=by rw[g3];exact mget_at g4
     refine WC.perm hp (sq (sq (rg (ldp hT 3 1 I I I (lku hT 1 (z:=.map none) area I Tryz.underlying106 qk keyU I (.inr ⟨2,I⟩) hO ?_)))));rw[hmo];refine mrg hT 0 I Tryz.underlying113 (.inr ⟨0,I⟩) hMv fun r hi hI0=>fin hT 0 I (th (bk ?_))
     refine loop (σ:=PH×PH×List (Int×Value)×List Int) (fun _=>[(0,.pointer (some ⟨b,0,none⟩)),(1,.int .u64 area),(21,.pointer (some ⟨r,0,none⟩))]) (fun _=>K11)
      (fun s=>s.1::s.2.1::pt b (dkA D.stp bo) 108::ho::(insH i1++(insH i2++hs))) (fun s=>MpI encI id s.2.1 s.1 bi r s.2.2.1 s.2.2.2/\MR (SecR K11) s.2.2.1 ((D.ar area).map (synF s.2.2.2))) (fun s=>todoK (D.ar area) s.2.2.2)
      (hi,hA,mv,[]) ⟨hI0,by rw[show (D.ar area).map (synF [])=D.ar area from by rw[List.map_congr_left (g:=id) (fun x _=>by simp[synF])];simp];exact hMR⟩ ⟨I,I,I,trivial⟩ I I ?_
     rintro ⟨hi,hA,mv,ks⟩ ⟨hJ,hR⟩;dsimp only at *;have hkeys:mv.map (·.1)=(D.ar area).map (·.1):=by rw[hR.keys,synF_keys]
     refine sq (rg (mnx hT 0 0 I (.inr ⟨1,I⟩) I hJ (by rw[hkeys];exact hnd) (fun k v hi' hmem hnk hS=>?_) (fun hall=>?_)))
     ·obtain ⟨s,hsm,ao,cv,rfl,hV⟩:=hR.mem hmem;have hkm:k∈(D.ar area).map (·.1):=by rw[<-hkeys];exact List.mem_map.2 ⟨_,hmem,I⟩
      have hs2:(k,s)∈D.ar area:=by
       obtain ⟨x,hx,hxe⟩:=List.mem_map.1 hsm;have hx1:x.1=k:=by rw[<-synF_key ks x,hxe]
       have:synF ks x=x:=by unfold synF;rw[if_neg (by rw[hx1];exact hnk)]
       rw[this] at hxe;rw[<-hxe];exact hx
      obtain ⟨l0,hl1,hl2⟩:=Dk.ar_mem _ hs2;rw[hl2] at hs2;obtain ⟨v1,v2,_⟩:=o.vs _ hl1 _ hs2
      replace v2:s.vs.length<=c:=v2
      replace v1:s.vs≠[]:=v1
      have hlen:0<s.vs.length:=by
       rcases Nat.eq_zero_or_pos s.vs.length with h|h
       ·exact absurd (List.eq_nil_of_length_eq_zero h) v1
       ·exact h
      have hlast:((tvv s.vs).drop ((s.vs.length-1)*1)).take (1*1)=tvv [s.vs.getLastD []]:=by
       unfold tvv
       have hdr:s.vs.drop (s.vs.length-1)=[s.vs.getLast v1]:=by
        rw[List.drop_eq_getElem_cons qo,List.getLast_eq_getElem,List.drop_of_length_le qo]
       rw[Nat.mul_one,Nat.mul_one,<-List.map_drop,<-List.map_take,hdr];rw[List.getLastD_eq_getLast?,List.getLast?_eq_some_getLast v1]
       rfl
      have hcut:=hV.cut (s.vs.length-1) 1 qo hlast;refine fin hT 1 I (th (sq (ifT I (sk (th (bk (sq (rg (men hT 0 I (.inr ⟨1,I⟩) (.inr ⟨0,I⟩) hS (al hT 2 (.agg #[.slice none 0 0,.bool false]) I qk fun b6=>stS hT 1 0 I I qk I I (fin hT 0 I (th (rga [pt b (dkA D.stp bo) 108,ho,pt b6 #[.slice ao s.vs.length cv,.bool s.syn] 120] 16 [0,2,4,6,8,10,12,14,16,18,20,22,24,26,28,31] (by simp) qk qk (dldp hT qk 3 0 I I I (dlku hT qk 1 (zv:=.map none) area I Tryz.underlying106 qk keyU I (.inr ⟨1,I⟩) hO ?_)))))))))))))));rw[hmo];refine dldp hT qk 2 2 I I I (dldp hT qk 1 2 I I I (dar hT qk 1 I (v':=.int .i64 (s.vs.length-1:Nat)) (by rw[show ((s.vs.length:Nat):Int)-1=((s.vs.length-1:Nat):Int) from by omega];exact i64w qo) (dslx hT qk 0 (s.vs.length-1) 1 I I I (by simp;omega) (by have:=hV.2.1;omega) (dbd hT qk 0 (.agg #[.slice (cutA ao cv (s.vs.length-1) 1) 1 (cv-(s.vs.length-1)),.bool true]) rfl (fun w=>by kernel_rfl) (dact hT qk 0 rfl (mpuI hT 0 2 k (.agg #[.slice (cutA ao cv (s.vs.length-1) 1) 1 (cv-(s.vs.length-1)),.bool true]) rfl rfl Tryz.underlying113 keyI rfl rfl hS.1 ?_ fun hA2 hJ2=>?_))))))
      ·cases hg:mget k mv with
       | some u=>rfl
       | none=>exact absurd (List.mem_map.2 ⟨_,hmem,rfl⟩) (mget_none.1 hg)
      refine dnex [pt b (dkA D.stp bo) 108,ho,pt b6 #[.slice ao s.vs.length cv,.bool s.syn] 120] (by simp) (by simp) I (dend hT qk 0 I (bl (WQ.drop (again (x:=(hi,hA,mv,ks)) (hi',hA2,mset k _ mv,ks++[k]) ⟨I,I,I,trivial⟩ I I ⟨hJ2,?_⟩ (todo_lt hnk hkm)))));dsimp only;rw[<-syn_set hnk hnd hsm];exact hR.set ⟨_,_,I,hcut⟩
     ·refine fin hT 1 I<|th (sq<|ifF I (ex<|xt (xt<|xb (th<|sq (rg<|fin hT 1 I (th<|rt (WQ.drop ?_)))))))
      have hall2:∀ x∈D.ar area,x.1∈ks:=fun x hx=>by
       have:x.1∈mv.map (·.1):=by rw[hkeys];exact List.mem_map.2 ⟨x,hx,I⟩
       obtain ⟨y,hy,hye⟩:=List.mem_map.1 this;rw[<-hye];exact hall y hy
      have hm':DskM K11 b { D.stp with areas:=D.synA area } (pt b (dkA D.stp bo) 108::ho::insH (i1++(area,bi,hA)::i2)):=by
       refine ⟨bo,ho,i1++(area,bi,hA)::i2,I,?_,?_⟩
       ·rw[g2] at hO;simpa[insO] using hO
       ·show InsR K11 _ (D.synA area);unfold Dk.synA;rw[hga];dsimp only
        rw[show mset area ((D.ar area).map fun x=>(x.1,secS x.2)) D.areas=q1++(area,(D.ar area).map fun x=>(x.1,secS x.2))::q2 from by
         conv=>lhs;rw[g3]
         exact mset_at g4]
        rw[syn_all hall2] at hR;exact g5.app ⟨I,⟨_,hJ.map,hR⟩,g6⟩
      refine WQ.perm ?_ (ret1 I I ⟨I,_,I,hm',I⟩);unfold insH;rw[List.map_append,List.map_cons,List.cons_append,List.cons_append,List.append_assoc,List.cons_append];exact ((List.Perm.swap (pt b (dkA D.stp bo) 108) hA _).trans (((List.Perm.swap ho hA _).trans (List.perm_middle.symm.cons ho)).cons _))
end
section
def swp(i j:Nat)(xs:List Nat):List Nat:=(xs.set i (xs.getD j 0)).set j (xs.getD i 0)
theorem swp_len(i j:Nat)(xs:List Nat):(swp i j xs).length=xs.length:=by simp[swp]
theorem swp_get{i j:Nat}{xs:List Nat}(hi:i<xs.length)(hj:j<xs.length)(k:Nat):(swp i j xs)[k]?=if k=j then some (xs.getD i 0) else if k=i then some (xs.getD j 0) else xs[k]?:=by
 unfold swp;rw[List.getElem?_set]
 by_cases e1:j=k
 ·rw[if_pos e1,if_pos e1.symm,if_pos (by simpa using hj)]
 ·rw[if_neg e1,if_neg (Ne.symm e1),List.getElem?_set]
  by_cases e2:i=k
  ·rw[if_pos e2,if_pos e2.symm,if_pos qo]
  ·rw[if_neg e2,if_neg (Ne.symm e2)]
structure SegP (a b:Nat) (xs ys:List Nat):Prop where
 len:ys.length=xs.length
 out:∀ i,i<a\/b<=i->ys[i]?=xs[i]?
 perm:ys.Perm xs
theorem SegP.refl(a b:Nat)(xs:List Nat):SegP a b xs xs:=⟨rfl,fun _ _=>rfl,List.Perm.refl _⟩
theorem SegP.trans{a b:Nat}{xs ys zs:List Nat}(h:SegP a b xs ys)(g:SegP a b ys zs):SegP a b xs zs:=
 ⟨g.len.trans h.len,fun i hi=>(g.out i hi).trans (h.out i hi),g.perm.trans h.perm⟩
theorem SegP.wide{a b c d:Nat}{xs ys:List Nat}(h:SegP a b xs ys)(h1:c<=a)(h2:b<=d):SegP c d xs ys:=
 ⟨h.len,fun i hi=>h.out i qo,h.perm⟩
theorem swp_perm{i j:Nat}{xs:List Nat}(hi:i<xs.length)(hj:j<xs.length):(swp i j xs).Perm xs:=by
 rw[List.perm_iff_count];intro v;unfold swp;have hgi:xs.getD i 0=xs[i]:=by rw[List.getD_eq_getElem?_getD,List.getElem?_eq_getElem hi];rfl
 have hgj:xs.getD j 0=xs[j]:=by rw[List.getD_eq_getElem?_getD,List.getElem?_eq_getElem hj];rfl
 rw[hgi,hgj,List.count_set (by simpa using hj),List.count_set hi]
 by_cases e:i=j
 ·subst e
  simp
  by_cases h:xs[i]=v
  ·have:0<List.count v xs:=List.count_pos_iff.2 (by rw[<-h];exact List.getElem_mem hi);simp[h];omega
  ·simp[h]
 ·have h3:(xs.set i xs[j])[j]'(by simpa using hj)=xs[j]:=by rw[List.getElem_set_ne (fun h=>e h)]
  rw[h3]
  have c1:(if (xs[i] == v)=true then 1 else 0)<=List.count v xs:=by
   split
   ·rename_i h;have h:=eq_of_beq h;exact List.count_pos_iff.2 (by rw[<-h];exact List.getElem_mem hi)
   ·exact Nat.zero_le _
  omega
theorem SegP.swp{a b i j:Nat}{xs:List Nat}(h1:a<=i/\i<b)(h2:a<=j/\j<b)(hb:b<=xs.length):SegP a b xs (swp i j xs):=
 ⟨swp_len i j xs,fun k hk=>by rw[swp_get qo qo,if_neg qo,if_neg qo],swp_perm qo qo⟩
def Srt(a b:Nat)(xs:List Nat):Prop:=∀ i j,a<=i->i<j->j<b->xs.getD i 0<=xs.getD j 0
def uvv(l:List Nat):List Value:=l.map fun x=>Value.int .u64 (x:Nat)
abbrev kI(kd:Bool):IntKind:=match kd with|true=>.u64|false=>.i64
abbrev sf(kd:Bool)(a b:Nat):Nat:=match kd with|true=>a|false=>b
def kvv(kd:Bool)(l:List Nat):List Value:=l.map fun x=>Value.int (kI kd) ((x:Nat):Int)
def encK(kd:Bool)(n:Int):Value:=.int (kI kd) n
def kA(kd:Bool)(pre:List Value)(xs:List Nat)(post:List Value):Array Value:=(pre++kvv kd xs++post).toArray
theorem kA_get{kd:Bool}{pre:List Value}{xs:List Nat}{post:List Value}{i:Nat}(h:i<xs.length):(kA kd pre xs post)[pre.length+i]?=some (.int (kI kd) ((xs.getD i 0:Nat):Int)):=by
 unfold kA;rw[List.getElem?_toArray,List.append_assoc,List.getElem?_append_right qo,Nat.add_sub_cancel_left,List.getElem?_append_left (by simpa[kvv] using h)];simp[kvv,h,List.getD_eq_getElem?_getD]
theorem kA_set{kd:Bool}{pre:List Value}{xs:List Nat}{post:List Value}{i v:Nat}(h:i<xs.length):(kA kd pre xs post).setIfInBounds (pre.length+i) (.int (kI kd) ((v:Nat):Int))=kA kd pre (xs.set i v) post:=by
 unfold kA;rw[List.setIfInBounds_toArray,List.append_assoc,List.set_append_right _ _ qo,Nat.add_sub_cancel_left,List.set_append_left _ _ (by simpa[kvv] using h)];simp[kvv]
theorem kA_isS{kd:Bool}{g e:Nat}{pre:List Value}{xs:List Nat}{post:List Value}{cap:Nat}(hc:xs.length<=cap):IsS (pt g (kA kd pre xs post) e) (some ⟨g,pre.length,none⟩) xs.length cap 1 (kvv kd xs):=by
 refine ⟨by simp[kvv],hc,fun j u hu=>⟨_,I,?_⟩⟩
 have hj:j<xs.length:=by
  have:=(List.getElem?_eq_some_iff.1 hu).1;simpa[kvv] using this
 rw[add_mk];refine Cell.pt ?_;rw[kA_get hj];simp[kvv,hj] at hu;rw[<-hu];simp[List.getD_eq_getElem?_getD,hj]
end
section
def InvI(a i j:Nat)(xs:List Nat):Prop:=∀ p q,a<=p->p<q->q<=i->q≠j->xs.getD p 0<=xs.getD q 0
theorem InvI.start{a i:Nat}{xs:List Nat}(h:Srt a i xs):InvI a i i xs:=fun p q h1 h2 h3 h4=>h p q h1 h2 qo
theorem InvI.done{a i:Nat}{xs:List Nat}(h:InvI a i a xs):Srt a (i+1) xs:=fun p q h1 h2 h3=>h p q h1 h2 qo qo
theorem InvI.stop{a i j:Nat}{xs:List Nat}(h:InvI a i j xs)(hj:a<j)(hle:xs.getD (j-1) 0<=xs.getD j 0):Srt a (i+1) xs:=fun p q h1 h2 h3=>by
 by_cases e:q=j
 ·subst e
  by_cases e2:p=q-1
  ·subst e2;exact hle
  ·exact Nat.le_trans (h p (q-1) h1 qo qo qo) hle
 ·exact h p q h1 h2 qo e
theorem swp_getD{i j:Nat}{xs:List Nat}(hi:i<xs.length)(hj:j<xs.length)(k:Nat):(swp i j xs).getD k 0=if k=j then xs.getD i 0 else if k=i then xs.getD j 0 else xs.getD k 0:=by
 rw[List.getD_eq_getElem?_getD,swp_get hi hj]
 split
 ·rfl
 ·split
  ·rfl
  ·rw[List.getD_eq_getElem?_getD]
theorem InvI.swap{a i j:Nat}{xs:List Nat}(h:InvI a i j xs)(hj:a<j)(hi:j<=i)(hl:i<xs.length)(hlt:xs.getD j 0<xs.getD (j-1) 0):InvI a i (j-1) (swp j (j-1) xs):=fun p q h1 h2 h3 h4=>by
 rw[swp_getD qo qo,swp_getD qo qo];rw[if_neg h4]
 by_cases e1:q=j
 ·rw[if_pos e1]
  by_cases e2:p=j-1
  ·rw[if_pos e2];omega
  ·rw[if_neg e2,if_neg qo];exact h p (j-1) h1 qo qo qo
 ·rw[if_neg e1]
  by_cases e2:p=j-1
  ·rw[if_pos e2];exact h j q qo qo h3 e1
  ·rw[if_neg e2]
   by_cases e3:p=j
   ·rw[if_pos e3];exact h (j-1) q qo qo h3 e1
   ·rw[if_neg e3];exact h p q h1 h2 h3 e1
theorem Srt.zero(a:Nat)(xs:List Nat):Srt a (a+1) xs:=fun i j h1 h2 h3=>by omega
attribute [local irreducible] Code.wp wpList Calls
theorem nanC(kd:Bool){w0:World}{K:PH}{hs:List PH}(x:Nat):Ct Tryz.prog w0 (sf kd 188 182) [.int (kI kd) ((x:Nat):Int)] K hs (fun v K' hs'=>K'=K/\hs'=hs/\v=.bool false):=by
 cases kd
 let kd:Bool:=false
 rewrite [show sf false=sf kd from rfl]
 try rewrite [show kI false=kI kd from rfl]
 refine enter Tryz.func182 qk I I I ?_
 rotate_left
 let kd:Bool:=true
 rewrite [show sf true=sf kd from rfl]
 try rewrite [show kI true=kI kd from rfl]
 refine enter Tryz.func188 qk I I I ?_
 rotate_left
 all_goals
  exact sq<|rg (fin hT 1 I<|th (sq<|rg (cmp hT 2 I (fun h=>absurd I h) (fun h=>fin hT 1 I<|th (rt<|ret1 I I ⟨I,I,I⟩)))))
theorem lessC(kd:Bool){w0:World}{K:PH}{hs:List PH}(x y:Nat):Ct Tryz.prog w0 (sf kd 174 158) [.int (kI kd) ((x:Nat):Int),.int (kI kd) ((y:Nat):Int)] K hs (fun v K' hs'=>K'=K/\hs'=hs/\v=.bool (decide (x<y))):=by
 cases kd
 let kd:Bool:=false
 rewrite [show sf false=sf kd from rfl]
 try rewrite [show kI false=kI kd from rfl]
 refine enter Tryz.func158 qk I I I ?_
 rotate_left
 let kd:Bool:=true
 rewrite [show sf true=sf kd from rfl]
 try rewrite [show kI true=kI kd from rfl]
 refine enter Tryz.func174 qk I I I ?_
 rotate_left
 all_goals
  refine sq (rg (fin hT 1 I (th (sq (rg (cl hT 1 I (nanC kd x) ?_))))));rintro v6 K6 hs6 ⟨rfl,rfl,rfl⟩
  by_cases h:x<y
  ·exact cmp hT 8 I (fun h15=>fin hT 2 I<|th (rt<|ret1 I I ⟨I,I,by rw[decide_eq_true h]⟩)) (fun h15=>absurd qo h15)
  ·exact cmp hT 8 I (fun h15=>absurd h15 qo) (fun h15=>fin hT 2 I<|th (rt<|ret1 I I ⟨I,I,by rw[decide_eq_false h]⟩))
theorem insC(kd:Bool){w0:World}{K:PH}{hs:List PH}(g cap:Nat)(pre post:List Value)(xs:List Nat)(a b:Nat)(hab:a<=b)(hb:b<=xs.length)(hc:xs.length<=cap)(hl:xs.length<=1099511627776):
  Ct Tryz.prog w0 (sf kd 168 152) [.slice (some ⟨g,pre.length,none⟩) xs.length cap,.int .i64 (a:Nat),.int .i64 (b:Nat)] K (pt g (kA kd pre xs post) (sf kd 23 3)::hs)
   (fun v K' hs'=>K'=K/\∃ ys,hs'=pt g (kA kd pre ys post) (sf kd 23 3)::hs/\SegP a b xs ys/\Srt a b ys):=by
 cases kd
 let kd:Bool:=false
 rewrite [show sf false=sf kd from rfl]
 try rewrite [show kA false=kA kd from rfl]
 refine enter Tryz.func152 qk I I I ?_
 rotate_left
 let kd:Bool:=true
 rewrite [show sf true=sf kd from rfl]
 try rewrite [show kA true=kA kd from rfl]
 refine enter Tryz.func168 qk I I I ?_
 rotate_left
 all_goals
  refine sq<|rg (ar hT 1 I (i64w (x:=((a+1:Nat):Int)) qo)<|fin hT 1 I (th<|bk ?_))
  refine loop (σ:=Nat×List Nat) (fun s=>[(0,.slice (some ⟨g,pre.length,none⟩) xs.length cap),(1,.int .i64 (a:Nat)),(2,.int .i64 (b:Nat)),(6,.int .i64 s.1)]) (fun _=>K) (fun s=>pt g (kA kd pre s.2 post) (sf kd 23 3)::hs)
   (fun s=>a+1<=s.1/\(s.1<=b\/s.1=a+1)/\SegP a b xs s.2/\Srt a s.1 s.2) (fun s=>b-s.1) (a+1,xs) ⟨Nat.le_refl _,.inr rfl,SegP.refl _ _ _,Srt.zero _ _⟩ ⟨rfl,rfl,rfl,rfl,trivial⟩ rfl rfl ?_
  rintro ⟨i,ys⟩ ⟨hi1,hi2,hP,hS⟩;dsimp only at *;refine sq (sq (rg (cmpS hT 2 I fun b12 h12=>fin hT 0 I (th (ifP h12 I (fun e2=>?_) (fun e2=>?_))))))
  ·have hib:i<b:=by omega
   refine sk<|th (sq<|bk (sq<|rg (fin hT 2 I<|th (bk ?_))))
   refine loop (σ:=Nat×List Nat) (fun s=>[(0,.slice (some ⟨g,pre.length,none⟩) xs.length cap),(1,.int .i64 (a:Nat)),(2,.int .i64 (b:Nat)),(6,.int .i64 (i:Nat)),(7,.int .i64 s.1)]) (fun _=>K) (fun s=>pt g (kA kd pre s.2 post) (sf kd 23 3)::hs)
    (fun s=>a<=s.1/\s.1<=i/\SegP a b xs s.2/\InvI a i s.1 s.2) (fun s=>s.1) (i,ys) ⟨by omega,Nat.le_refl _,hP,InvI.start hS⟩ ⟨rfl,rfl,rfl,rfl,rfl,trivial⟩ rfl rfl ?_
   rintro ⟨j,zs⟩ ⟨hj1,hj2,hQ,hV⟩;dsimp only at *;have hzl:zs.length=xs.length:=hQ.len;refine sq (sq (rga [pt g (kA kd pre zs post) (sf kd 23 3)] 15 [0,2,4,6,8,10,12,14,16,18,20,22,24,27,28] (by simp) qk qk (dcmp hT qk 2 (a<j) I (by simp) (fun h3=>?_) (fun h3=>?_))))
   ·refine dixs hT qk 3 j I I qo ?_;simp only[add_mk,Nat.mul_one];refine dldp hT qk 0 0 I I (kA_get qo) (dar hT qk 2 I (v':=.int .i64 (j-1:Nat)) (by rw[show ((j:Nat):Int)-1=((j-1:Nat):Int) from by omega];exact i64w qo) (dixs hT qk 0 (j-1) I I qo ?_));simp only[add_mk,Nat.mul_one];refine dldp hT qk 0 0 I I (kA_get qo) (dact hT qk 0 I (cl hT 0 I (lessC kd (zs.getD j 0) (zs.getD (j-1) 0)) ?_));rintro v29 K29 hs29 ⟨rfl,rfl,rfl⟩;refine dnex [pt g (kA kd pre zs post) (sf kd 23 3)] (by simp) (by simp) I ?_
    by_cases hlt:zs.getD j 0<zs.getD (j-1) 0
    ·rw[decide_eq_true hlt];refine dend hT qk 1 I (th (ifT I ?_));have hgj:(kA kd pre zs post)[pre.length+j]?=some (.int (kI kd) ((zs.getD j 0:Nat):Int)):=kA_get qo;have hgj1:(kA kd pre zs post)[pre.length+(j-1)]?=some (.int (kI kd) ((zs.getD (j-1) 0:Nat):Int)):=kA_get qo;have hgj2:(kA kd pre (zs.set j (zs.getD (j-1) 0)) post)[pre.length+(j-1)]?=some (.int (kI kd) (((zs.set j (zs.getD (j-1) 0)).getD (j-1) 0:Nat):Int)):=kA_get (by rw[List.length_set];omega);refine sk (th (sq (bk (rga [pt g (kA kd pre zs post) (sf kd 23 3)] 15 [0,2,4,6,8,10,12,14,16,18,20,22,24,26,28,31,32,35] (by simp) qk qk (dar hT qk 4 I (v':=.int .i64 (j-1:Nat)) (by rw[show ((j:Nat):Int)-1=((j-1:Nat):Int) from by omega];exact i64w qo) (dar hT qk 2 I (v':=.int .i64 (j-1:Nat)) (by rw[show ((j:Nat):Int)-1=((j-1:Nat):Int) from by omega];exact i64w qo) (dixs hT qk 0 (j-1) I I qo ?_)))))))
     simp only[add_mk,Nat.mul_one];refine dldpw hT qk 0 0 I qk I hgj1 (dixs hT qk 2 j I I qo ?_);simp only[add_mk,Nat.mul_one];refine dldpw hT qk 0 0 I qk I hgj (dixs hT qk 0 j I I qo ?_);simp only[add_mk,Nat.mul_one];refine dact hT qk 0 I (stp hT 0 0 I I hgj I (dnext (.inl qk) (dixs hT qk 0 (j-1) I I qo ?_)));simp only[add_mk,Nat.mul_one];exact dact hT qk 0 I (WL.hs (pt g (kA kd pre (zs.set j (zs.getD (j-1) 0)) post) (sf kd 23 3)::hs) (congrArg (fun z=>pt g z (sf kd 23 3)::hs) (kA_set qo)) (stp hT 0 0 I I hgj2 I (dnext (.inl qk) (dend hT qk 0 I (bl (th (rg (ar hT 1 I (v':=.int .i64 (j-1:Nat)) (by rw[show ((j:Nat):Int)-1=((j-1:Nat):Int) from by omega];exact i64w qo) (fin hT 1 I (again (x:=(j,zs)) (j-1,swp j (j-1) zs) ⟨I,I,I,I,I,trivial⟩ I (congrArg (fun z=>pt g z (sf kd 23 3)::hs) (kA_set (by rw[List.length_set];omega))) ⟨by omega,by omega,hQ.trans (SegP.swp ⟨by omega,by omega⟩ ⟨by omega,by omega⟩ qo),hV.swap h3 hj2 qo hlt⟩ (by dsimp only;omega)))))))))))
    ·rw[decide_eq_false hlt];have hdone:Srt a (i+1) zs:=hV.stop h3 qo;exact dend hT qk 1 I (th (ifF I (ex (xt (xt (xb (bl (th (rg (ar hT 1 I (i64w (x:=((i+1:Nat):Int)) qo) (fin hT 1 I (again (x:=(i,ys)) (i+1,zs) ⟨I,I,I,I,trivial⟩ I I ⟨by omega,.inl qo,hQ,hdone⟩ (by dsimp only;omega)))))))))))))
   ·obtain rfl:j=a:=by omega
    have hdone:Srt j (i+1) zs:=hV.done;exact dact hT qk 10 I (WL.pures hT 1 I (dnex [pt g (kA kd pre zs post) (sf kd 23 3)] (by simp) (by simp) I (dend hT qk 1 I (th (ifF I (ex (xt (xt (xb (bl (th (rg (ar hT 1 I (i64w (x:=((i+1:Nat):Int)) qo) (fin hT 1 I (again (x:=(i,ys)) (i+1,zs) ⟨I,I,I,I,trivial⟩ I I ⟨by omega,.inl qo,hQ,hdone⟩ (by dsimp only;omega))))))))))))))))
  ·refine ex (xt (xt (xb (end0 I ⟨I,ys,I,hP,?_⟩))));intro p q h1 h2 h3;exact hS p q h1 h2 qo
end
section
attribute [local irreducible] Code.wp wpList Calls
theorem ord2C(kd:Bool){w0:World}{K:PH}{hs:List PH}(g cap s:Nat)(pre post:List Value)(xs:List Nat)(a b:Nat)(n:Nat)(ha:a<xs.length)(hb:b<xs.length)(hc:xs.length<=cap)(hl:xs.length<=1099511627776)(hn:n<=1000):
  Ct Tryz.prog w0 (sf kd 195 189) [.slice (some ⟨g,pre.length,none⟩) xs.length cap,.int .i64 (a:Nat),.int .i64 (b:Nat),.pointer (some ⟨s,0,none⟩)] K (pt s #[.int .i64 (n:Nat)] 3::pt g (kA kd pre xs post) (sf kd 23 3)::hs)
   (fun v K' hs'=>K'=K/\∃ x y m:Nat,hs'=pt s #[.int .i64 (m:Nat)] 3::pt g (kA kd pre xs post) (sf kd 23 3)::hs/\v=.tuple #[.int .i64 (x:Nat),.int .i64 (y:Nat)]/\(x=a/\y=b\/x=b/\y=a)/\n<=m/\m<=n+1):=by
 cases kd
 let kd:Bool:=false
 rewrite [show sf false=sf kd from rfl]
 try rewrite [show kA false=kA kd from rfl]
 refine enter Tryz.func189 qk I I I ?_
 rotate_left
 let kd:Bool:=true
 rewrite [show sf true=sf kd from rfl]
 try rewrite [show kA true=kA kd from rfl]
 refine enter Tryz.func195 qk I I I ?_
 rotate_left
 all_goals
  refine sq (rg (fin hT 2 I (th (sq (sq (rga [pt g (kA kd pre xs post) (sf kd 23 3)] 9 [0,2,4,6,8,10,12,14,17] (by simp) qk qk (dixs hT qk 2 b I I qo ?_)))))));simp only[add_mk,Nat.mul_one];refine dldp hT qk 0 0 I I (kA_get hb) (dixs hT qk 2 a I I qo ?_);simp only[add_mk,Nat.mul_one];refine dldp hT qk 0 0 I I (kA_get ha) (dact hT qk 0 I (cl hT 0 I (lessC kd (xs.getD b 0) (xs.getD a 0)) ?_));rintro v18 K18 hs18 ⟨rfl,rfl,rfl⟩;refine dnex [pt g (kA kd pre xs post) (sf kd 23 3)] (by simp) (by simp) I ?_
  by_cases hlt:xs.getD b 0<xs.getD a 0
  ·rw[decide_eq_true hlt];exact dend hT qk 0 I (th (ifT I (sq (rg (ldp hT 2 0 I I I (ar hT 0 I (i64w (x:=((n+1:Nat):Int)) qo) (stp hT 1 0 I I I I (fin hT 0 I (th (sq (rg (fin hT 4 I (th (rt (rT (ret2 I I I ⟨I,b,a,n+1,I,I,.inr ⟨I,I⟩,by omega,Nat.le_refl _⟩))))))))))))))))
  ·rw[decide_eq_false hlt];exact dend hT qk 0 I (th (ifF I (sk (th (sq (rg (fin hT 4 I (th (rt (ret2 I I I ⟨I,a,b,n,I,I,.inl ⟨I,I⟩,Nat.le_refl _,Nat.le_succ _⟩))))))))))
theorem medC(kd:Bool){w0:World}{K:PH}{hs:List PH}(g cap s:Nat)(pre post:List Value)(xs:List Nat)(a b c lo hi:Nat)(n:Nat)(ha:lo<=a/\a<hi)(hb:lo<=b/\b<hi)(hcc:lo<=c/\c<hi)(hh:hi<=xs.length)(hc:xs.length<=cap)(hl:xs.length<=1099511627776)(hn:n<=900):
  Ct Tryz.prog w0 (sf kd 187 181) [.slice (some ⟨g,pre.length,none⟩) xs.length cap,.int .i64 (a:Nat),.int .i64 (b:Nat),.int .i64 (c:Nat),.pointer (some ⟨s,0,none⟩)] K (pt s #[.int .i64 (n:Nat)] 3::pt g (kA kd pre xs post) (sf kd 23 3)::hs)
   (fun v K' hs'=>K'=K/\∃ x m:Nat,hs'=pt s #[.int .i64 (m:Nat)] 3::pt g (kA kd pre xs post) (sf kd 23 3)::hs/\v=.int .i64 (x:Nat)/\(lo<=x/\x<hi)/\n<=m/\m<=n+3):=by
 cases kd
 let kd:Bool:=false
 rewrite [show sf false=sf kd from rfl]
 try rewrite [show kA false=kA kd from rfl]
 refine enter Tryz.func181 qk I I I ?_
 rotate_left
 let kd:Bool:=true
 rewrite [show sf true=sf kd from rfl]
 try rewrite [show kA true=kA kd from rfl]
 refine enter Tryz.func187 qk I I I ?_
 rotate_left
 all_goals
  refine sq (rg (fin hT 1 I (th (sq (rg (cl hT 4 I (ord2C kd g cap s pre post xs a b n qo qo hc hl qo) ?_))))));rintro v16 K16 hs16 ⟨rfl,x1,y1,m1,rfl,rfl,h1,h2,h3⟩;refine fin hT 5 I (th (sq (rg (cl hT 4 I (ord2C kd g cap s pre post xs y1 c m1 qo qo hc hl qo) ?_))));rintro v24 K24 hs24 ⟨rfl,x2,y2,m2,rfl,rfl,h4,h5,h6⟩;refine fin hT 5 I (th (sq (rg (cl hT 4 I (ord2C kd g cap s pre post xs x1 x2 m2 qo qo hc hl qo) ?_))));rintro v32 K32 hs32 ⟨rfl,x3,y3,m3,rfl,rfl,h7,h8,h9⟩;exact fin hT 5 I (th (sq (rg (fin hT 2 I (th (rt (ret1 I I ⟨I,y3,m3,I,I,by omega,by omega,by omega⟩)))))))
theorem medAC(kd:Bool){w0:World}{K:PH}{hs:List PH}(g cap s:Nat)(pre post:List Value)(xs:List Nat)(a lo hi:Nat)(n:Nat)(ha:lo+1<=a/\a+1<hi)(hh:hi<=xs.length)(hc:xs.length<=cap)(hl:xs.length<=1099511627776)(hn:n<=900):
  Ct Tryz.prog w0 (sf kd 186 180) [.slice (some ⟨g,pre.length,none⟩) xs.length cap,.int .i64 (a:Nat),.pointer (some ⟨s,0,none⟩)] K (pt s #[.int .i64 (n:Nat)] 3::pt g (kA kd pre xs post) (sf kd 23 3)::hs)
   (fun v K' hs'=>K'=K/\∃ x m:Nat,hs'=pt s #[.int .i64 (m:Nat)] 3::pt g (kA kd pre xs post) (sf kd 23 3)::hs/\v=.int .i64 (x:Nat)/\(lo<=x/\x<hi)/\n<=m/\m<=n+3):=by
 cases kd
 let kd:Bool:=false
 rewrite [show sf false=sf kd from rfl]
 try rewrite [show kA false=kA kd from rfl]
 refine enter Tryz.func180 qk I I I ?_
 rotate_left
 let kd:Bool:=true
 rewrite [show sf true=sf kd from rfl]
 try rewrite [show kA true=kA kd from rfl]
 refine enter Tryz.func186 qk I I I ?_
 rotate_left
 all_goals
  refine sq (rg (fin hT 1 I (th (sq (rg (ar hT 2 I (v':=.int .i64 (a-1:Nat)) (by rw[show ((a:Nat):Int)-1=((a-1:Nat):Int) from by omega];exact i64w qo) (ar hT 2 I (i64w (x:=((a+1:Nat):Int)) qo) (cl hT 1 I (medC kd g cap s pre post xs (a-1) a (a+1) lo hi n qo qo qo hh hc hl hn) ?_))))))));rintro v14 K14 hs14 ⟨rfl,x,m,rfl,rfl,h1,h2,h3⟩;exact fin hT 1 I (th (rt (ret1 I I ⟨I,x,m,I,I,h1,h2,h3⟩)))
end
section
attribute [local irreducible] Code.wp wpList Calls
theorem quoN(n m:Nat)(h:n<9223372036854775808):Value.int .i64 (IntKind.i64.wrap (((n:Nat):Int).tdiv ((m:Nat):Int)))=.int .i64 (n / m:Nat):=by
 have h2:((n:Nat):Int).tdiv ((m:Nat):Int)=((n / m:Nat):Int):=by rw[Int.ofNat_tdiv]
 rw[h2];have h3:n / m<=n:=Nat.div_le_self n m;generalize n / m=z at h3 ⊢;exact i64w qo
theorem pivC(kd:Bool){w0:World}{K:PH}{hs:List PH}(g cap:Nat)(pre post:List Value)(xs:List Nat)(a b:Nat)(hab:a+8<=b)(hb:b<=xs.length)(hc:xs.length<=cap)(hl:xs.length<=1099511627776):
  Ct Tryz.prog w0 (sf kd 171 155) [.slice (some ⟨g,pre.length,none⟩) xs.length cap,.int .i64 (a:Nat),.int .i64 (b:Nat)] K (pt g (kA kd pre xs post) (sf kd 23 3)::hs)
   (fun v K' hs'=>K'=K/\hs'=pt g (kA kd pre xs post) (sf kd 23 3)::hs/\∃ x h:Nat,v=.tuple #[.int .i64 (x:Nat),.int .i64 (h:Nat)]/\(a<=x/\x<b)/\h<=2):=by
 cases kd
 let kd:Bool:=false
 rewrite [show sf false=sf kd from rfl]
 try rewrite [show kA false=kA kd from rfl]
 refine enter Tryz.func155 qk I I I ?_
 rotate_left
 let kd:Bool:=true
 rewrite [show sf true=sf kd from rfl]
 try rewrite [show kA true=kA kd from rfl]
 refine enter Tryz.func171 qk I I I ?_
 rotate_left
 all_goals
  refine sq (rg (fin hT 2 I (th (sq (rg (ar hT 2 I (v':=.int .i64 (b-a:Nat)) (by rw[show ((b:Nat):Int)-((a:Nat):Int)=((b-a:Nat):Int) from by omega];exact i64w qo) (fin hT 1 I (th (sq (rg (al hT 0 (.int .i64 0) I qk fun b9=>fin hT 0 I (th (sq (rg ?_))))))))))))));obtain ⟨q,hq⟩:∃ q,q=(b-a) / 4:=⟨_,rfl⟩;have hq1:4*q<=b-a/\2<=q:=by omega
  refine ar hT 2 I (v':=.int .i64 (q:Nat)) (by rw[hq];exact quoN (b-a) 4 qo) (ar hT 0 I (i64w (x:=((q*1:Nat):Int)) qo) (ar hT 0 I (i64w (x:=((a+q*1:Nat):Int)) qo) (fin hT 1 I (th (sq (rg (ar hT 2 I (v':=.int .i64 (q:Nat)) (by rw[hq];exact quoN (b-a) 4 qo) (ar hT 0 I (i64w (x:=((q*2:Nat):Int)) qo) (ar hT 0 I (i64w (x:=((a+q*2:Nat):Int)) qo) (fin hT 1 I (th (sq (rg (ar hT 2 I (v':=.int .i64 (q:Nat)) (by rw[hq];exact quoN (b-a) 4 qo) (ar hT 0 I (i64w (x:=((q*3:Nat):Int)) qo) (ar hT 0 I (i64w (x:=((a+q*3:Nat):Int)) qo) (fin hT 1 I (th ?_))))))))))))))))));refine sq (sq (rg (cmp hT 1 I (fun h32=>fin hT 0 I (th (ifT I ?_))) (fun h32=>absurd qo h32))))
  refine jn (σ:=Nat×Nat×Nat×Nat) (fun s=>[(0,.slice (some ⟨g,pre.length,none⟩) xs.length cap),(9,.pointer (some ⟨b9,0,none⟩)),(10,.int .i64 s.1),(11,.int .i64 s.2.1),(12,.int .i64 s.2.2.1)])
   (fun s=>pt b9 #[.int .i64 s.2.2.2] 3::pt g (kA kd pre xs post) (sf kd 23 3)::hs) (fun s=>(a<=s.1/\s.1<b)/\(a<=s.2.1/\s.2.1<b)/\(a<=s.2.2.1/\s.2.2.1<b)/\s.2.2.2<=9) ?_ ?_
  ·refine sq<|rg (cmpS hT 1 I fun b34 h34=>fin hT 0 I<|th (ifP h34 I (fun e4=>?_) (fun e4=>?_)))
   ·refine sq (rg (cl hT 2 I (medAC kd g cap b9 pre post xs (a+q*1) a b 0 qo hb hc hl qo) ?_));rintro v37 K37 hs37 ⟨rfl,x1,m1,rfl,rfl,h1,h2,h3⟩;refine fin hT 1 I (th (sq (rg (cl hT 2 I (medAC kd g cap b9 pre post xs (a+q*2) a b m1 qo hb hc hl qo) ?_))));rintro v40 K40 hs40 ⟨rfl,x2,m2,rfl,rfl,h4,h5,h6⟩;refine fin hT 1 I (th (rg (cl hT 2 I (medAC kd g cap b9 pre post xs (a+q*3) a b m2 qo hb hc hl qo) ?_)));rintro v43 K43 hs43 ⟨rfl,x3,m3,rfl,rfl,h7,h8,h9⟩;exact fin hT 1 I (jx (x1,x2,x3,m3) ⟨h1,h4,h7,by dsimp only;omega⟩ ⟨rfl,rfl,rfl,rfl,rfl,trivial⟩ rfl rfl)
   ·exact sk (jx (a+q*1,a+q*2,a+q*3,0) ⟨by dsimp only;omega,by dsimp only;omega,by dsimp only;omega,by dsimp only;omega⟩ ⟨rfl,rfl,rfl,rfl,rfl,trivial⟩ rfl rfl)
  ·rintro ⟨i,j,k,n⟩ ⟨hi,hj,hk,hn⟩;dsimp only at *;refine rg (cl hT 4 I (medC kd g cap b9 pre post xs i j k a b n hi hj hk hb hc hl qo) ?_);rintro v48 K48 hs48 ⟨rfl,x,m,rfl,rfl,h1,h2,h3⟩;refine fin hT 1 I (th (sq (rg (ldp hT 0 0 I I I (fin hT 0 I (th (bk (sq (rg (cmpS hT 0 I fun b52 h52=>fin hT 1 I (th (ifP h52 I (fun e6=>?_) (fun e6=>?_)))))))))))))
   ·exact sq<|rg (fin hT 3 I<|th (rt<|rB (WQ.drop<|ret2 I I I ⟨I,I,x,1,I,h1,by decide⟩)))
   ·refine sq<|rg (cmpS hT 0 I fun b55 h55=>fin hT 1 I<|th (ifP h55 I (fun e8=>?_) (fun e8=>?_)))
    ·exact sq<|rg (fin hT 3 I<|th (rt<|rB (WQ.drop<|ret2 I I I ⟨I,I,x,2,I,h1,by decide⟩)))
    ·exact sq<|rg (fin hT 3 I<|th (rt<|rB (WQ.drop<|ret2 I I I ⟨I,I,x,0,I,h1,by decide⟩)))
end
section
attribute [local irreducible] Code.wp wpList Calls
theorem revRC(kd:Bool){w0:World}{K:PH}{hs:List PH}(g cap:Nat)(pre post:List Value)(xs:List Nat)(a b:Nat)(hab:a<b)(hb:b<=xs.length)(hc:xs.length<=cap)(hl:xs.length<=1099511627776):
  Ct Tryz.prog w0 (sf kd 172 156) [.slice (some ⟨g,pre.length,none⟩) xs.length cap,.int .i64 (a:Nat),.int .i64 (b:Nat)] K (pt g (kA kd pre xs post) (sf kd 23 3)::hs)
   (fun v K' hs'=>K'=K/\∃ ys,hs'=pt g (kA kd pre ys post) (sf kd 23 3)::hs/\SegP a b xs ys):=by
 cases kd
 let kd:Bool:=false
 rewrite [show sf false=sf kd from rfl]
 try rewrite [show kA false=kA kd from rfl]
 refine enter Tryz.func156 qk I I I ?_
 rotate_left
 let kd:Bool:=true
 rewrite [show sf true=sf kd from rfl]
 try rewrite [show kA true=kA kd from rfl]
 refine enter Tryz.func172 qk I I I ?_
 rotate_left
 all_goals
  refine sq (rg (fin hT 2 I (th (sq (rg (ar hT 1 I (v':=.int .i64 (b-1:Nat)) (by rw[show ((b:Nat):Int)-1=((b-1:Nat):Int) from by omega];exact i64w qo) (fin hT 1 I (th (bk ?_)))))))))
  refine loop (σ:=Nat×Nat×List Nat) (fun s=>[(0,.slice (some ⟨g,pre.length,none⟩) xs.length cap),(6,.int .i64 s.1),(7,.int .i64 s.2.1)]) (fun _=>K) (fun s=>pt g (kA kd pre s.2.2 post) (sf kd 23 3)::hs)
   (fun s=>a<=s.1/\s.1<=b/\s.2.1<b/\SegP a b xs s.2.2) (fun s=>b-s.1) (a,b-1,xs) ⟨Nat.le_refl _,by dsimp only;omega,by dsimp only;omega,SegP.refl _ _ _⟩ ⟨rfl,rfl,rfl,trivial⟩ rfl rfl ?_
  rintro ⟨i,j,ys⟩ ⟨hi1,hi2,hj,hP⟩;dsimp only at *;have hyl:ys.length=xs.length:=hP.len;refine sq (sq (rg (cmpS hT 2 I fun b13 h13=>fin hT 0 I (th (ifP h13 I (fun e2=>?_) (fun e2=>?_))))))
  ·have hij:i<j:=by omega
   have hgi:(kA kd pre ys post)[pre.length+i]?=some (.int (kI kd) ((ys.getD i 0:Nat):Int)):=kA_get qo;have hgj:(kA kd pre ys post)[pre.length+j]?=some (.int (kI kd) ((ys.getD j 0:Nat):Int)):=kA_get qo;have hgj2:(kA kd pre (ys.set i (ys.getD j 0)) post)[pre.length+j]?=some (.int (kI kd) (((ys.set i (ys.getD j 0)).getD j 0:Nat):Int)):=kA_get (by rw[List.length_set];omega);refine sk (th (bk (sq (rga [pt g (kA kd pre ys post) (sf kd 23 3)] 13 [0,2,4,6,8,10,12,14,16,18,20,22,24,27,28,31] (by simp) qk qk (dixs hT qk 6 j I I qo ?_)))));simp only[add_mk,Nat.mul_one];refine dldpw hT qk 0 0 I qk I hgj (dixs hT qk 2 i I I qo ?_);simp only[add_mk,Nat.mul_one];refine dldpw hT qk 0 0 I qk I hgi (dixs hT qk 0 i I I qo ?_);simp only[add_mk,Nat.mul_one];refine dact hT qk 0 I (stp hT 0 0 I I hgi I (dnext (.inl qk) (dixs hT qk 0 j I I qo ?_)))
   simp only[add_mk,Nat.mul_one];exact dact hT qk 0 I (WL.hs (pt g (kA kd pre (ys.set i (ys.getD j 0)) post) (sf kd 23 3)::hs) (congrArg (fun z=>pt g z (sf kd 23 3)::hs) (kA_set qo)) (stp hT 0 0 I I hgj2 I (dnext (.inl qk) (dend hT qk 0 I (th (sq (rg (ar hT 1 I (i64w (x:=((i+1:Nat):Int)) qo) (fin hT 1 I (th (rg (ar hT 1 I (v':=.int .i64 (j-1:Nat)) (by rw[show ((j:Nat):Int)-1=((j-1:Nat):Int) from by omega];exact i64w qo) (fin hT 1 I (bl (again (x:=(i,j,ys)) (i+1,j-1,swp i j ys) ⟨I,I,I,trivial⟩ I (congrArg (fun z=>pt g z (sf kd 23 3)::hs) (kA_set (by rw[List.length_set];omega))) ⟨by dsimp only;omega,by dsimp only;omega,by dsimp only;omega,hP.trans (SegP.swp ⟨by omega,by omega⟩ ⟨by omega,by omega⟩ qo)⟩ (by dsimp only;omega))))))))))))))))
  ·exact ex<|xt (xt<|xb (end0 I ⟨I,ys,I,hP⟩))
end
section
def HpX(f lo hi:Nat)(ex:Nat->Prop)(xs:List Nat):Prop:=∀ i c,lo<=i->¬ex i->(c=2*i+1\/c=2*i+2)->c<hi->xs.getD (f+c) 0<=xs.getD (f+i) 0
def SftI(f lo hi r:Nat)(xs:List Nat):Prop:=
 HpX f lo hi (fun i=>i=r) xs/\∀ p c,lo<=p->(r=2*p+1\/r=2*p+2)->(c=2*r+1\/c=2*r+2)->c<hi->xs.getD (f+c) 0<=xs.getD (f+p) 0
theorem SftI.start{f lo hi:Nat}{xs:List Nat}(h:HpX f (lo+1) hi (fun _=>False) xs):SftI f lo hi lo xs:=
 ⟨fun i c h1 h2 h3 h4=>h i c qo (by simp) h3 h4,fun p c h1 h2=>by omega⟩
theorem SftI.leaf{f lo hi r:Nat}{xs:List Nat}(h:SftI f lo hi r xs)(hr:hi<=2*r+1):HpX f lo hi (fun _=>False) xs:=fun i c h1 _ h3 h4=>by
 by_cases e:i=r
 ·subst e;omega
 ·exact h.1 i c h1 e h3 h4
theorem SftI.stop{f lo hi r k:Nat}{xs:List Nat}(h:SftI f lo hi r xs)(hk:∀ c,(c=2*r+1\/c=2*r+2)->c<hi->xs.getD (f+c) 0<=xs.getD (f+k) 0)(hle:xs.getD (f+k) 0<=xs.getD (f+r) 0):HpX f lo hi (fun _=>False) xs:=fun i c h1 _ h3 h4=>by
 by_cases e:i=r
 ·subst e;exact Nat.le_trans (hk c h3 h4) hle
 ·exact h.1 i c h1 e h3 h4
theorem SftI.sink{f lo hi r k:Nat}{xs:List Nat}(h:SftI f lo hi r xs)(hlo:lo<=r)(hk0:k=2*r+1\/k=2*r+2)(hkh:k<hi)(hl:f+hi<=xs.length)(hk:∀ c,(c=2*r+1\/c=2*r+2)->c<hi->xs.getD (f+c) 0<=xs.getD (f+k) 0)(hlt:xs.getD (f+r) 0<xs.getD (f+k) 0):SftI f lo hi k (swp (f+r) (f+k) xs):=by
 have hg:∀ z,(swp (f+r) (f+k) xs).getD (f+z) 0=if z=k then xs.getD (f+r) 0 else if z=r then xs.getD (f+k) 0 else xs.getD (f+z) 0:=by
  intro z;rw[swp_getD qo qo]
  by_cases e1:z=k
  ·rw[if_pos e1,if_pos qo]
  ·rw[if_neg e1,if_neg qo]
   by_cases e2:z=r
   ·rw[if_pos e2,if_pos qo]
   ·rw[if_neg e2,if_neg qo]
 constructor
 ·intro i c h1 h2 h3 h4;rw[hg,hg];rw[if_neg h2]
  by_cases e2:i=r
  ·subst e2;rw[if_pos rfl]
   by_cases e1:c=k
   ·rw[if_pos e1];omega
   ·rw[if_neg e1,if_neg qo];exact hk c h3 h4
  ·rw[if_neg e2]
   by_cases e1:c=k
   ·omega
   ·rw[if_neg e1]
    by_cases e3:c=r
    ·rw[if_pos e3];exact h.2 i k h1 qo hk0 hkh
    ·rw[if_neg e3];exact h.1 i c h1 e2 h3 h4
 ·intro p c h1 h2 h3 h4;have hp:p=r:=by omega
  subst hp;rw[hg,hg,if_neg qo,if_neg qo,if_neg qo,if_pos rfl];exact h.1 k c qo qo h3 h4
end
section
attribute [local irreducible] Code.wp wpList Calls
theorem siftC(kd:Bool){w0:World}{K:PH}{hs:List PH}(g cap:Nat)(pre post:List Value)(xs:List Nat)(lo hi f:Nat)(hb:f+hi<=xs.length)(hc:xs.length<=cap)(hl:xs.length<=1099511627776)(hlo:lo<=hi)(hp:HpX f (lo+1) hi (fun _=>False) xs):
  Ct Tryz.prog w0 (sf kd 185 177) [.slice (some ⟨g,pre.length,none⟩) xs.length cap,.int .i64 (lo:Nat),.int .i64 (hi:Nat),.int .i64 (f:Nat)] K (pt g (kA kd pre xs post) (sf kd 23 3)::hs)
   (fun v K' hs'=>K'=K/\∃ ys,hs'=pt g (kA kd pre ys post) (sf kd 23 3)::hs/\SegP (f+lo) (f+hi) xs ys/\HpX f lo hi (fun _=>False) ys):=by
 cases kd
 let kd:Bool:=false
 rewrite [show sf false=sf kd from rfl]
 try rewrite [show kA false=kA kd from rfl]
 refine enter Tryz.func177 qk I I I ?_
 rotate_left
 let kd:Bool:=true
 rewrite [show sf true=sf kd from rfl]
 try rewrite [show kA true=kA kd from rfl]
 refine enter Tryz.func185 qk I I I ?_
 rotate_left
 all_goals
  refine sq<|rg (fin hT 2 I<|th (bk ?_))
  refine loop (σ:=Nat×List Nat) (fun s=>[(0,.slice (some ⟨g,pre.length,none⟩) xs.length cap),(2,.int .i64 (hi:Nat)),(3,.int .i64 (f:Nat)),(8,.int .i64 s.1)]) (fun _=>K) (fun s=>pt g (kA kd pre s.2 post) (sf kd 23 3)::hs)
   (fun s=>lo<=s.1/\s.1<=hi/\SegP (f+lo) (f+hi) xs s.2/\SftI f lo hi s.1 s.2) (fun s=>hi-s.1) (lo,xs) ⟨Nat.le_refl _,hlo,SegP.refl _ _ _,SftI.start hp⟩ ⟨rfl,rfl,rfl,rfl,trivial⟩ rfl rfl ?_
  rintro ⟨r,ys⟩ ⟨hr1,hr2,hP,hS⟩;dsimp only at *;have hyl:ys.length=xs.length:=hP.len;refine bk (sq (rg (ar hT 1 I (i64w (x:=((2*r:Nat):Int)) qo) (ar hT 0 I (i64w (x:=((2*r+1:Nat):Int)) qo) (fin hT 1 I (th (sq (sq (rg (cmpS hT 2 I fun b16 h16=>fin hT 0 I (th (ifP h16 I (fun e2=>?_) (fun e2=>?_)))))))))))))
  ·exact ex<|xt (xn I<|xt (xb<|end0 I ⟨I,ys,I,hP,hS.leaf qo⟩))
  ·have hch:2*r+1<hi:=by omega
   refine sk<|th ?_
   refine jn (σ:=Nat) (fun k=>[(0,.slice (some ⟨g,pre.length,none⟩) xs.length cap),(2,.int .i64 (hi:Nat)),(3,.int .i64 (f:Nat)),(8,.int .i64 (r:Nat)),(9,.int .i64 (k:Nat))]) (fun _=>pt g (kA kd pre ys post) (sf kd 23 3)::hs)
    (fun k=>(k=2*r+1\/k=2*r+2)/\k<hi/\∀ c,(c=2*r+1\/c=2*r+2)->c<hi->ys.getD (f+c) 0<=ys.getD (f+k) 0) ?_ ?_
   ·refine sq (rga [pt g (kA kd pre ys post) (sf kd 23 3)] 20 [0,2,4,6,8,10,12,14,16,18,20,22,24,26,28,30,32,34,37,38] (by simp) qk qk (dar hT qk 1 I (i64w (x:=((2*r+1+1:Nat):Int)) qo) (dcmp hT qk 1 (2*r+1+1<hi) I (by simp;omega) (fun h3=>?_) (fun h3=>?_))))
    ·refine dar hT qk 4 I (i64w (x:=((f+(2*r+1):Nat):Int)) qo) (dixs hT qk 0 (f+(2*r+1)) I I qo ?_);simp only[add_mk,Nat.mul_one];refine dldp hT qk 0 0 I I (kA_get qo) (dar hT qk 3 I (i64w (x:=((f+(2*r+1):Nat):Int)) qo) (dar hT qk 0 I (i64w (x:=((f+(2*r+1)+1:Nat):Int)) qo) (dixs hT qk 0 (f+(2*r+1)+1) I I qo ?_)));simp only[add_mk,Nat.mul_one];refine dldp hT qk 0 0 I I (kA_get qo) (dact hT qk 0 I (cl hT 0 I (lessC kd (ys.getD (f+(2*r+1)) 0) (ys.getD (f+(2*r+1)+1) 0)) ?_));rintro v35 K35 hs35 ⟨rfl,rfl,rfl⟩;refine dnex [pt g (kA kd pre ys post) (sf kd 23 3)] (by simp) (by simp) I ?_
     by_cases hlt:ys.getD (f+(2*r+1)) 0<ys.getD (f+(2*r+1)+1) 0
     ·rw[decide_eq_true hlt];refine dend hT qk 1 I (th (ifT I (rg (ar hT 1 I (i64w (x:=((2*r+1+1:Nat):Int)) qo) (fin hT 1 I (jx (2*r+1+1) ⟨.inr I,h3,fun c h4 h5=>?_⟩ ⟨I,I,I,I,I,trivial⟩ I I))))));rcases h4 with rfl|rfl
      ·exact Nat.le_of_lt hlt
      ·exact Nat.le_refl _
     ·rw[decide_eq_false hlt];refine dend hT qk 1 I (th (ifF I (sk (jx (2*r+1) ⟨.inl I,hch,fun c h4 h5=>?_⟩ ⟨I,I,I,I,I,trivial⟩ I I))));rcases h4 with rfl|rfl
      ·exact Nat.le_refl _
      ·exact Nat.le_of_not_lt hlt
    ·refine dact hT qk 14 I (WL.pures hT 1 I (dnex [pt g (kA kd pre ys post) (sf kd 23 3)] (by simp) (by simp) I (dend hT qk 1 I (th (ifF I (sk (jx (2*r+1) ⟨.inl I,hch,fun c h4 h5=>?_⟩ ⟨I,I,I,I,I,trivial⟩ I I)))))));have:c=2*r+1:=by omega
     rw[this];exact Nat.le_refl _
   ·rintro k ⟨hk1,hk2,hk3⟩;have hrl:f+r<ys.length:=by omega
    have hkl:f+k<ys.length:=by omega
    have hgr:(kA kd pre ys post)[pre.length+(f+r)]?=some (.int (kI kd) ((ys.getD (f+r) 0:Nat):Int)):=kA_get hrl;have hgk:(kA kd pre ys post)[pre.length+(f+k)]?=some (.int (kI kd) ((ys.getD (f+k) 0:Nat):Int)):=kA_get hkl;have hgk2:(kA kd pre (ys.set (f+r) (ys.getD (f+k) 0)) post)[pre.length+(f+k)]?=some (.int (kI kd) (((ys.set (f+r) (ys.getD (f+k) 0)).getD (f+k) 0:Nat):Int)):=kA_get (by rw[List.length_set];exact hkl);refine sq (sq (rga [pt g (kA kd pre ys post) (sf kd 23 3)] 14 [0,2,4,6,8,10,12,14,16,18,20,22,25,26] (by simp) qk qk (dar hT qk 3 I (i64w (x:=((f+r:Nat):Int)) qo) (dixs hT qk 0 (f+r) I I qo ?_))));simp only[add_mk,Nat.mul_one];refine dldp hT qk 0 0 I I hgr (dar hT qk 3 I (i64w (x:=((f+k:Nat):Int)) qo) (dixs hT qk 0 (f+k) I I qo ?_));simp only[add_mk,Nat.mul_one]
    refine dldp hT qk 0 0 I I hgk (dact hT qk 0 I (cl hT 0 I (lessC kd (ys.getD (f+r) 0) (ys.getD (f+k) 0)) ?_));rintro v51 K51 hs51 ⟨rfl,rfl,rfl⟩;refine dnex [pt g (kA kd pre ys post) (sf kd 23 3)] (by simp) (by simp) I ?_
    by_cases hlt:ys.getD (f+r) 0<ys.getD (f+k) 0
    ·rw[decide_eq_true hlt];refine dend hT qk 1 I (th (ifF I (sk (th (sq (rga [pt g (kA kd pre ys post) (sf kd 23 3)] 21 [0,2,4,6,8,10,12,14,16,18,20,22,24,26,28,30,32,34,36,38,40,43,44,47] (by simp) qk qk (dar hT qk 3 I (i64w (x:=((f+r:Nat):Int)) qo) (dar hT qk 3 I (i64w (x:=((f+k:Nat):Int)) qo) (dar hT qk 3 I (i64w (x:=((f+k:Nat):Int)) qo) (dixs hT qk 0 (f+k) I I qo ?_))))))))));simp only[add_mk,Nat.mul_one];refine dldpw hT qk 0 0 I qk I hgk (dar hT qk 3 I (i64w (x:=((f+r:Nat):Int)) qo) (dixs hT qk 0 (f+r) I I qo ?_));simp only[add_mk,Nat.mul_one];refine dldpw hT qk 0 0 I qk I hgr (dixs hT qk 0 (f+r) I I qo ?_);simp only[add_mk,Nat.mul_one];refine dact hT qk 0 I (stp hT 0 0 I I hgr I (dnext (.inl qk) (dixs hT qk 0 (f+k) I I qo ?_)))
     simp only[add_mk,Nat.mul_one];exact dact hT qk 0 I (WL.hs (pt g (kA kd pre (ys.set (f+r) (ys.getD (f+k) 0)) post) (sf kd 23 3)::hs) (congrArg (fun z=>pt g z (sf kd 23 3)::hs) (kA_set hrl)) (stp hT 0 0 I I hgk2 I (dnext (.inl qk) (dend hT qk 0 I (th (rg (fin hT 2 I (bl (again (x:=(r,ys)) (k,swp (f+r) (f+k) ys) ⟨I,I,I,I,trivial⟩ I (congrArg (fun z=>pt g z (sf kd 23 3)::hs) (kA_set (by rw[List.length_set];exact hkl))) ⟨by dsimp only;omega,by dsimp only;omega,hP.trans (SegP.swp ⟨by omega,by omega⟩ ⟨by omega,by omega⟩ qo),hS.sink hr1 hk1 hk2 qo hk3 hlt⟩ (by dsimp only;omega))))))))))
    ·rw[decide_eq_false hlt];exact dend hT qk 1 I (th (ifT I (rt (rT (rB (rT (rB (ret0 I ⟨I,ys,I,hP,hS.stop hk3 qo⟩))))))))
end
section
theorem HpX.max{f n:Nat}{xs:List Nat}(h:HpX f 0 n (fun _=>False) xs):∀ c,c<n->xs.getD (f+c) 0<=xs.getD (f+0) 0
 | 0,_=>Nat.le_refl _
 | c+1,hc=>by
  have hp:c / 2<c+1:=by omega
  have h1:=h (c / 2) (c+1) (Nat.zero_le _) (by simp) qo hc;have h2:=HpX.max h (c / 2) qo;exact Nat.le_trans h1 h2
theorem HpX.none{f lo hi:Nat}{xs:List Nat}(h:hi<=2*lo+1):HpX f lo hi (fun _=>False) xs:=fun i c h1 _ h3 h4=>by omega
theorem split3{a b:Nat}(xs:List Nat)(hab:a<=b):xs=xs.take a++((xs.drop a).take (b-a)++xs.drop b):=by
 have h1:xs.drop b=(xs.drop a).drop (b-a):=by rw[List.drop_drop];congr 1;omega
 rw[h1,List.take_append_drop,List.take_append_drop]
theorem SegP.seg{a b:Nat}{xs ys:List Nat}(h:SegP a b xs ys)(hab:a<=b):((ys.drop a).take (b-a)).Perm ((xs.drop a).take (b-a)):=by
 have e1:ys.take a=xs.take a:=by
  apply List.ext_getElem?
  intro i
  by_cases hi:i<a
  ·rw[List.getElem?_take_of_lt hi,List.getElem?_take_of_lt hi,h.out i (.inl hi)]
  ·rw[List.getElem?_eq_none (by simp;omega),List.getElem?_eq_none (by simp;omega)]
 have e2:ys.drop b=xs.drop b:=by
  apply List.ext_getElem?
  intro i;rw[List.getElem?_drop,List.getElem?_drop,h.out (b+i) (.inr qo)]
 have hp:=h.perm;rw[split3 xs hab,split3 ys hab,e1,e2] at hp;exact (List.perm_append_right_iff _).1 ((List.perm_append_left_iff _).1 hp)
theorem SegP.mem{a b:Nat}{xs ys:List Nat}(h:SegP a b xs ys)(hb:b<=xs.length){p:Nat}(h1:a<=p)(h2:p<b):∃ q,a<=q/\q<b/\ys.getD p 0=xs.getD q 0:=by
 have hs:=h.seg qo;have hyl:=h.len
 have hm:ys.getD p 0∈(ys.drop a).take (b-a):=by
  rw[List.mem_iff_getElem?];refine ⟨p-a,?_⟩;rw[List.getElem?_take_of_lt qo,List.getElem?_drop,show a+(p-a)=p from by omega,List.getD_eq_getElem?_getD,List.getElem?_eq_getElem qo]
  rfl
 obtain ⟨i,hi⟩:=List.mem_iff_getElem?.1 (hs.mem_iff.1 hm);have hil:=(List.getElem?_eq_some_iff.1 hi).1;simp only[List.length_take,List.length_drop] at hil;rw[List.getElem?_take_of_lt qo,List.getElem?_drop] at hi;exact ⟨a+i,by omega,by omega,by rw[List.getD_eq_getElem?_getD (l:=xs),hi];rfl⟩
def HsI(f n hi:Nat)(xs:List Nat):Prop:=HpX f 0 n (fun _=>False) xs/\∀ p q,n<=q->q<hi->p<q->xs.getD (f+p) 0<=xs.getD (f+q) 0
theorem HsI.swap{f i hi:Nat}{xs:List Nat}(h:HsI f (i+1) hi xs)(hh:i<hi)(hl:f+hi<=xs.length):HpX f (0+1) i (fun _=>False) (swp f (f+i) xs):=fun j c h1 h2 h3 h4=>by
 rw[swp_getD qo qo,swp_getD qo qo,if_neg qo,if_neg qo,if_neg qo,if_neg qo];exact h.1 j c (Nat.zero_le _) (by simp) h3 qo
theorem HsI.step{f i hi:Nat}{xs zs:List Nat}(h:HsI f (i+1) hi xs)(hh:i<hi)(hl:f+hi<=xs.length)(hP:SegP (f+0) (f+i) (swp f (f+i) xs) zs)(hz:HpX f 0 i (fun _=>False) zs):HsI f i hi zs:=by
 refine ⟨hz,fun p q h1 h2 h3=>?_⟩;have hsl:=swp_len f (f+i) xs
 have hz1:∀ z,i<=z->z<hi->zs.getD (f+z) 0=(swp f (f+i) xs).getD (f+z) 0:=fun z g1 g2=>by
  rw[List.getD_eq_getElem?_getD,hP.out (f+z) (.inr qo),List.getD_eq_getElem?_getD]
 have hs:∀ z,z<hi->(swp f (f+i) xs).getD (f+z) 0=if z=i then xs.getD f 0 else if z=0 then xs.getD (f+i) 0 else xs.getD (f+z) 0:=fun z g=>by
  rw[swp_getD qo qo]
  by_cases e1:z=i
  ·rw[if_pos e1,if_pos qo]
  ·rw[if_neg e1,if_neg qo]
   by_cases e2:z=0
   ·rw[if_pos e2,if_pos qo]
   ·rw[if_neg e2,if_neg qo]
 have hlow:∀ z,z<i->∃ y,y<=i/\zs.getD (f+z) 0=xs.getD (f+y) 0:=fun z g=>by
  obtain ⟨w,w1,w2,w3⟩:=hP.mem qo (p:=f+z) qo qo;rw[w3,show w=f+(w-f) from by omega,hs (w-f) qo]
  by_cases e1:w-f=i
  ·exact ⟨0,Nat.zero_le _,by rw[if_pos e1];rfl⟩
  ·rw[if_neg e1]
   by_cases e2:w-f=0
   ·exact ⟨i,Nat.le_refl _,by rw[if_pos e2]⟩
   ·exact ⟨w-f,by omega,by rw[if_neg e2]⟩
 have hmax:∀ y,y<=i->xs.getD (f+y) 0<=xs.getD f 0:=fun y g=>h.1.max y qo;have hbig:∀ y q,y<=i->i<q->q<hi->xs.getD (f+y) 0<=xs.getD (f+q) 0:=fun y q g1 g2 g3=>h.2 y q qo g3 qo;rw[hz1 q h1 h2,hs q h2]
 by_cases e:q=i
 ·rw[if_pos e];obtain ⟨y,g1,g2⟩:=hlow p qo;rw[g2];exact hmax y g1
 ·rw[if_neg e,if_neg qo]
  by_cases e1:p<i
  ·obtain ⟨y,g1,g2⟩:=hlow p e1;rw[g2];exact hbig y q g1 qo h2
  ·rw[hz1 p qo qo,hs p qo]
   by_cases e2:p=i
   ·rw[if_pos e2];exact hbig 0 q (Nat.zero_le _) qo h2
   ·rw[if_neg e2,if_neg qo];exact h.2 p q qo h2 h3
theorem HsI.start{f hi:Nat}{xs:List Nat}(h:HpX f 0 hi (fun _=>False) xs):HsI f hi hi xs:=⟨h,fun p q h1 h2=>by omega⟩
theorem HsI.done{a b:Nat}{xs:List Nat}(h:HsI a 0 (b-a) xs):Srt a b xs:=fun i j h1 h2 h3=>by
 have:=h.2 (i-a) (j-a) (Nat.zero_le _) qo qo
 rwa [show a+(i-a)=i from by omega,show a+(j-a)=j from by omega] at this
end
section
attribute [local irreducible] Code.wp wpList Calls
theorem heapC(kd:Bool){w0:World}{K:PH}{hs:List PH}(g cap:Nat)(pre post:List Value)(xs:List Nat)(a b:Nat)(hab:a<b)(hb:b<=xs.length)(hc:xs.length<=cap)(hl:xs.length<=1099511627776):
  Ct Tryz.prog w0 (sf kd 169 153) [.slice (some ⟨g,pre.length,none⟩) xs.length cap,.int .i64 (a:Nat),.int .i64 (b:Nat)] K (pt g (kA kd pre xs post) (sf kd 23 3)::hs)
   (fun v K' hs'=>K'=K/\∃ ys,hs'=pt g (kA kd pre ys post) (sf kd 23 3)::hs/\SegP a b xs ys/\Srt a b ys):=by
 cases kd
 let kd:Bool:=false
 rewrite [show sf false=sf kd from rfl]
 try rewrite [show kA false=kA kd from rfl]
 rotate_left
 let kd:Bool:=true
 rewrite [show sf true=sf kd from rfl]
 try rewrite [show kA true=kA kd from rfl]
 rotate_left
 all_goals
  obtain ⟨hi,hhi⟩:∃ hi,hi=b-a:=⟨_,rfl⟩
 refine enter Tryz.func153 qk I I I ?_
 rotate_left
 refine enter Tryz.func169 qk I I I ?_
 rotate_left
 all_goals
  refine sq (rg (fin hT 2 I (th (sq (rg (fin hT 1 I (th (sq (rg (ar hT 2 I (v':=.int .i64 (hi:Nat)) (by rw[show ((b:Nat):Int)-((a:Nat):Int)=((hi:Nat):Int) from by omega];exact i64w qo) (fin hT 1 I (th (sq (sq (rg (ar hT 1 I (v':=.int .i64 (hi-1:Nat)) (by rw[show ((hi:Nat):Int)-1=((hi-1:Nat):Int) from by omega];exact i64w qo) (ar hT 0 I (v':=.int .i64 ((((hi-1) / 2+1:Nat):Int)-1)) (by rw[show ((((hi-1) / 2+1:Nat):Int)-1)=(((hi-1) / 2:Nat):Int) from by omega];exact quoN (hi-1) 2 qo) (fin hT 1 I (th (bk ?_))))))))))))))))))))
  refine loop (σ:=Nat×List Nat) (fun s=>[(0,.slice (some ⟨g,pre.length,none⟩) xs.length cap),(6,.int .i64 (a:Nat)),(7,.int .i64 0),(8,.int .i64 (hi:Nat)),(9,.int .i64 (((s.1:Nat):Int)-1))]) (fun _=>K) (fun s=>pt g (kA kd pre s.2 post) (sf kd 23 3)::hs)
   (fun s=>s.1<=hi/\SegP a b xs s.2/\HpX a s.1 hi (fun _=>False) s.2) (fun s=>s.1) ((hi-1) / 2+1,xs) ⟨by dsimp only;omega,SegP.refl _ _ _,HpX.none qo⟩ ⟨rfl,rfl,rfl,rfl,rfl,trivial⟩ rfl rfl ?_
  rintro ⟨n,ys⟩ ⟨hn,hP,hH⟩;dsimp only at *;have hyl:ys.length=xs.length:=hP.len;refine sq (sq (rg (cmpS hT 1 I fun b19 h19=>fin hT 0 I (th (ifP h19 I (fun e2=>?_) (fun e2=>?_))))))
  ·obtain ⟨k,rfl⟩:∃ k,n=k+1:=⟨n-1,by omega⟩;rw[show ((k+1:Nat):Int)-1=((k:Nat):Int) from by omega];refine sk (th (sq (bk (rg ?_))));have hs1:=siftC kd (w0:=w0) (K:=K) (hs:=hs) g cap pre post ys k hi a qo qo qo qo hH;rw[hyl] at hs1;refine cl hT 4 I hs1 ?_;rintro v26 K26 hs26 ⟨rfl,zs,rfl,hQ,hH2⟩;exact fin hT 0 I (bl (th (rg (ar hT 1 I (i64w qo) (fin hT 1 I (again (x:=(k+1,ys)) (k,zs) ⟨I,I,I,I,I,trivial⟩ I I ⟨by dsimp only;omega,hP.trans (hQ.wide qo qo),hH2⟩ (by dsimp only;omega)))))))
  ·obtain rfl:n=0:=by omega
   refine ex<|xt (xt<|xb (th<|sq (rg<|ar hT 1 I (i64w qo) (fin hT 1 I<|th (bk ?_)))))
   refine loop (σ:=Nat×List Nat) (fun s=>[(0,.slice (some ⟨g,pre.length,none⟩) xs.length cap),(6,.int .i64 (a:Nat)),(7,.int .i64 0),(10,.int .i64 (((s.1:Nat):Int)-1))]) (fun _=>K) (fun s=>pt g (kA kd pre s.2 post) (sf kd 23 3)::hs)
    (fun s=>s.1<=hi/\SegP a b xs s.2/\HsI a s.1 hi s.2) (fun s=>s.1) (hi,ys) ⟨Nat.le_refl _,hP,HsI.start hH⟩ ⟨rfl,rfl,rfl,rfl,trivial⟩ rfl rfl ?_
   rintro ⟨n,zs⟩ ⟨hn2,hQ,hI⟩;dsimp only at *;have hzl:zs.length=xs.length:=hQ.len;refine sq (sq (rg (cmpS hT 1 I fun b30 h30=>fin hT 0 I (th (ifP h30 I (fun e4=>?_) (fun e4=>?_))))))
   ·obtain ⟨k,rfl⟩:∃ k,n=k+1:=⟨n-1,by omega⟩;rw[show ((k+1:Nat):Int)-1=((k:Nat):Int) from by omega];have hg0:(kA kd pre zs post)[pre.length+a]?=some (.int (kI kd) ((zs.getD a 0:Nat):Int)):=kA_get qo;have hgk:(kA kd pre zs post)[pre.length+(a+k)]?=some (.int (kI kd) ((zs.getD (a+k) 0:Nat):Int)):=kA_get qo;have hgk2:(kA kd pre (zs.set a (zs.getD (a+k) 0)) post)[pre.length+(a+k)]?=some (.int (kI kd) (((zs.set a (zs.getD (a+k) 0)).getD (a+k) 0:Nat):Int)):=kA_get (by rw[List.length_set];omega);refine sk (th (sq (bk (sq (rga [pt g (kA kd pre zs post) (sf kd 23 3)] 17 [0,2,4,6,8,10,12,14,16,18,20,22,24,26,28,30,32,35,36,39] (by simp) qk qk (dar hT qk 5 I (i64w (x:=((a+k:Nat):Int)) qo) (dar hT qk 3 I (i64w (x:=((a+k:Nat):Int)) qo) (dixs hT qk 0 (a+k) I I qo ?_))))))));simp only[add_mk,Nat.mul_one]
    refine dldpw hT qk 0 0 I qk I hgk (dixs hT qk 2 a I I qo ?_);simp only[add_mk,Nat.mul_one];refine dldpw hT qk 0 0 I qk I hg0 (dixs hT qk 0 a I I qo ?_);simp only[add_mk,Nat.mul_one];refine dact hT qk 0 I (stp hT 0 0 I I hg0 I (dnext (.inl qk) (dixs hT qk 0 (a+k) I I qo ?_)));simp only[add_mk,Nat.mul_one];refine dact hT qk 0 I (WL.hs (pt g (kA kd pre (zs.set a (zs.getD (a+k) 0)) post) (sf kd 23 3)::hs) (congrArg (fun z=>pt g z (sf kd 23 3)::hs) (kA_set qo)) (stp hT 0 0 I I hgk2 I (WL.hs (pt g (kA kd pre (swp a (a+k) zs) post) (sf kd 23 3)::hs) (congrArg (fun z=>pt g z (sf kd 23 3)::hs) (kA_set (by rw[List.length_set];omega))) (dnext (.inl qk) (dend hT qk 0 rfl (th (rg ?_)))))));have hs1:=siftC kd (w0:=w0) (K:=K) (hs:=hs) g cap pre post (swp a (a+k) zs) 0 k a (by rw[swp_len];omega) (by rw[swp_len];omega) (by rw[swp_len];omega) (Nat.zero_le _) (hI.swap qo qo)
    rw[swp_len,hzl] at hs1;refine cl hT 4 I hs1 ?_;rintro v55 K55 hs55 ⟨rfl,us,rfl,hU,hH2⟩;exact fin hT 0 I (bl (th (rg (ar hT 1 I (i64w qo) (fin hT 1 I (again (x:=(k+1,zs)) (k,us) ⟨I,I,I,I,trivial⟩ I I ⟨by dsimp only;omega,(hQ.trans (SegP.swp ⟨by omega,by omega⟩ ⟨by omega,by omega⟩ qo)).trans (hU.wide qo qo),hI.step qo qo hU hH2⟩ (by dsimp only;omega)))))))
   ·obtain rfl:n=0:=by omega
    refine ex (xt (xt (xb ?_)));subst hhi;exact end0 I ⟨I,zs,I,hQ,hI.done⟩
end
end Go.En
