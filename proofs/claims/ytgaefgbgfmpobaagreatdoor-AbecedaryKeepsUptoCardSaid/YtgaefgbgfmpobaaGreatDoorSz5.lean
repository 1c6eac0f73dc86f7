/-
  Part 5.
-/
import Derived.Test.YtgaefgbgfmpobaaGreatDoorSz4
set_option linter.defProp false
set_option linter.unusedSectionVars false
set_option linter.unusedSimpArgs false
set_option linter.unusedVariables false
namespace Go.En
open Go.Proofs Go.Proofs.YtgaefgbgfmpobaaGreatDoor
open List renaming length -> ba
attribute [local irreducible] Code.wp wpList Calls
variable {w0 : World} {K : PH} {hs : List PH} {P : Program}
section
def lR(D:Dk)(area:Nat):Nat->df
 | 0=>⟨0,[]⟩
 | i+1=>(lR D area i).pick (jR D area i)
def JP(b:List UInt8)(i:Nat)(hb:ba b=64):(j9 b i).1<18446744073709551616/\ba (j9 b i).2<=48:=by
 unfold j9
 split
 ·simp
 rename_i h
 split
 ·have h1:=sG (b.take 8) 8 (by rw[aam];omega);refine ⟨ax,?_⟩;dsimp only;rw[aam];omega
 simp
def xd{c:Nat}{D:Dk}(o:D.Ok c)(area i:Nat):(jR D area i).1<18446744073709551616/\ba (jR D area i).2<=48:=by
 unfold jR;cases hr:D.read area i with
 | none=>simp
 | some b=>
  refine JP b i ?_;unfold Dk.read at hr;cases hs:D.sec area i with
  | none=>rw[hs] at hr;cases hr
  | some s=>
   rw[hs] at hr;simp only[aa2,aad] at hr;obtain ⟨h1,_,h3⟩:=o.secOk hs;rw[<-hr,abF,acu h1];exact h3 _ (List.getLast_mem h1)
def df.bd(S:df):Prop:=S.num<18446744073709551616/\ba S.val<=48
theorem ua{c:Nat}{D:Dk}(o:D.Ok c)(area:Nat):∀ i,(lR D area i).bd
 | 0=>by simp[lR,df.bd]
 | i+1=>by
  have h:=ua o area i;unfold lR df.pick
  split
  ·exact xd o area i
  exact h
def df.save_bd{S:df}(h:S.bd)(area:Nat)(D:Dk)(v:List UInt8):(S.save area D v).1.bd:=by
 unfold df.save
 split
 ·exact h
 rename_i hn;obtain ⟨h1,h2⟩:=h
 split
 ·dsimp only
  split
  ·exact ⟨ax,ax⟩
  exact ⟨h1,h2⟩
 exact ⟨h1,h2⟩
def vj(b area:Nat)(S:df)(ao:Option Addr)(cap:Nat):Array Value:=#[SX b,.int .u64 (area:Nat),.slice ao (ba S.val) cap,.int .u64 S.num]
theorem bf.save{c:Nat}{D:Dk}(o:bf c D)(S:df)(area:Nat)(ha:area<=18446744073709551615)(v:List UInt8):bf (c+2) (S.save area D v).2.1:=by
 unfold df.save
 split
 ·exact o.up qo
 split
 ·exact (o.write _ _ _ qo).sync _
 exact (o.write _ _ _ qo).up qo
def ku(K:PH)(sb b area:Nat)(S:df)(h:PH):Prop:=∃ ao cap,h=pt sb (vj b area S ao cap) 130/\aH K ao (ba S.val) cap 1 (bv S.val)
theorem ku.le{K K':PH}(l:Le K K'){sb b area:Nat}{S:df}{h:PH}(x:ku K sb b area S h):ku K' sb b area S h:=let ⟨a,c,h1,h2⟩:=x;⟨a,c,h1,h2.le l⟩
def OU{h:PH}(b:Nat)(D:Dk)(c:Nat)(o:D.Ok c)(hc:c<=1099511627)(hm:da K b D h)(area:Nat):
  aj w0 19 [SX b,.int .u64 (area:Nat)] K (h::hs)
   (fun v K' hs'=>(D.dead=true/\K'=K/\hs'=h::hs/\v=.tuple #[.pointer none,.int .i64 30]) \/
    (D.dead=false/\Le K K'/\∃ sb s,hs'=s::h::hs/\ku K' sb b area (jz D area) s/\v=.tuple #[SX sb,.int .i64 0])):=by
 refine bH Tryz.func19 ?_;refine cl 1 I (G2 b D hm) ?_;rintro v11 K11 hs11 ⟨rfl,rfl,rfl⟩;refine fin 0 I (th (nt I (fun e1=>?_) (fun e1=>?_)))
 ·refine au ?_;exact bL I I I (.inl ⟨e1,I,I,I⟩)
 refine sk<|ac6 (bd 2 (.agg<|vj b area ⟨0,[]⟩ none 0) I (fun w=>by kernel_rfl) (bx 0 I fun b15=>au ?_))
 refine loop (σ:=Nat×PH×Option Addr×Nat) (fun s=>[(6,SX b15),(16,.int .i64 s.1)]) (fun s=>s.2.1) (fun s=>pt b15 (vj b area (lR D area s.1) s.2.2.1 s.2.2.2) 130::h::hs)
  (fun s=>s.1<=2/\Le K11 s.2.1/\aH s.2.1 s.2.2.1 (ba (lR D area s.1).val) s.2.2.2 1 (bv (lR D area s.1).val)) (fun s=>2-s.1) (0,K11,none,0) ⟨ax,Le.refl _,aH.nil _ _ _ _⟩ ⟨rfl,rfl,trivial⟩ rfl rfl ?_
 rintro ⟨i,K1,ao,cap⟩ ⟨hi,le,x⟩;dsimp only at *;have hbd:=ua o area i;refine ac9 (aX 0 I (fun e3=>?_) (fun e3=>?_))
 ·refine au ?_;refine cl 2 I (OO b15 b D c o hc (hm.le le) area _ _ i qo) ?_;rintro v22 K22 hs22 ⟨rfl,le2,ao2,cap2,rfl,x2⟩;refine au ?_;refine af 0 I fun b30 h30=>fin 0 I (th (ah h30 I (fun e5=>?_) (fun e5=>?_)))
  ·have e:lR D area (i+1)=⟨(jR D area i).1,(jR D area i).2⟩:=by rw[lR,df.pick,aab qo]
   refine au ?_;exact ar 0 I (ac (x:=((i+1:Nat):Int)) qo) (fin 1 I (bc (x:=(i,K1,ao,cap)) (i+1,K22,ao2,cap2) sb I (by dsimp only;rw[e];rfl) ⟨ax,le.trans le2,by dsimp only;rw[e];exact x2⟩ ax))
  have e:lR D area (i+1)=lR D area i:=by rw[lR,df.pick,aaa qo]
  exact sk (ac7 (ar 0 I (ac (x:=((i+1:Nat):Int)) qo) (fin 1 I (bc (x:=(i,K1,ao,cap)) (i+1,K22,ao,cap) sb I (by dsimp only;rw[e];rfl) ⟨ax,le.trans le2,by dsimp only;rw[e];exact x.le le2⟩ ax))))
 refine au ?_;obtain rfl:i=2:=qo
 refine au ?_;exact bL I I I (.inr ⟨e1,le,b15,_,I,⟨ao,cap,I,x⟩,I⟩)
def Eq{s:PH}(sb b area:Nat)(S:df)(hS:ku K sb b area S s)(hb:S.bd):
  aj w0 57 [SX sb] K (s::hs)
   (fun v K' hs'=>∃ h',hs'=h'::hs/\h'=s/\Le K K'/\∃ ao c,v=.slice ao (ba S.val) c/\aH K' ao (ba S.val) c 1 (bv S.val)):=by
 obtain ⟨ao,cap,rfl,x⟩:=hS;refine bH Tryz.func57 ?_;refine cl 0 I (nF ao cap S.val (.inl I) x (by have:=hb.2;omega)) ?_;rintro v7 K7 hs7 ⟨rfl,h',ao',c',rfl,rfl,o⟩;exact fin 1 I (adb (WQ.frz fun K' l1 l2=>ay I I ⟨_,I,I,l1,ao',c',I,o.isS.le l2⟩))
def Ds{s:PH}(sb b area:Nat)(S:df)(hS:ku K sb b area S s):
  aj w0 55 [SX sb] K (s::hs)
   (fun v K' hs'=>K'=K/\hs'=s::hs/\v=.int .u64 S.num):=by
 obtain ⟨ao,cap,rfl,x⟩:=hS;refine bH Tryz.func55 ?_;exact ay I I ⟨I,I,I⟩
def OF{w0:World}{K s h hv:PH}{hs:List PH}(sb b area:Nat)(S:df)(hS:ku K sb b area S s)(hbd:S.bd)(D:Dk)(c:Nat)(o:D.Ok c)(hc:c<=1099511626)(hm:da K b D h)(ha:area<=18446744073709551615)
  (v:List UInt8) (ao:Option Addr) (cap:Nat) (hl:ba v<1099511627776) (hin:In K hs hv) (x:aH hv ao (ba v) cap 1 (bv v)):
  aj w0 104 [SX sb,.slice ao (ba v) cap] K (s::h::hs)
   (fun u K' hs'=>Le K K'/\∃ s' h',hs'=s'::h'::hs/\ku K' sb b area (S.save area D v).1 s'/\da K' b (S.save area D v).2.1 h'/\u=.int .i64 (S.save area D v).2.2):=by
 obtain ⟨aS,cS,rfl,xS⟩:=hS;obtain ⟨hb1,hb2⟩:=hbd;refine bH Tryz.func104 ?_;refine af 2 I fun b9 h9=>?_
 refine' eB 1 6 16 [9,10] h9 I I I I I I I (fun _=>?x2) (fun b16 h16=>?_)
 case x2=>
  refine au ?_;exact af 0 I fun b15 h15=>fin 1 I (dk h15 I I I)
 refine fin 0 I<|th (ah h16 I (fun e4=>?_) (fun e4=>?_))
 ·have e:S.save area D v=(S,D,40):=by unfold df.save;rw[aab qo]
  rw[e];refine au ?_;exact ay I I ⟨Le.refl _,_,_,I,⟨aS,cS,I,xS⟩,hm,I⟩
 have hvl:ba v<=48:=qo
 have e:S.save area D v=if (D.write area (((S.num+1) % 2:Nat):Int) (du (S.num+1) v)).2=0 then
   (if ((D.write area (((S.num+1) % 2:Nat):Int) (du (S.num+1) v)).1.sync area).2=0 then ⟨S.num+1,v⟩ else S,((D.write area (((S.num+1) % 2:Nat):Int) (du (S.num+1) v)).1.sync area).1,((D.write area (((S.num+1) % 2:Nat):Int) (du (S.num+1) v)).1.sync area).2)
  else (S,(D.write area (((S.num+1) % 2:Nat):Int) (du (S.num+1) v)).1,(D.write area (((S.num+1) % 2:Nat):Int) (du (S.num+1) v)).2):=by unfold df.save;rw[aaa qo]
 rw[e];refine au ?_;refine ar 0 I (cJ (x:=((S.num+1:Nat):Int)) qo) (cl 1 I (EK (S.num+1) v ao cap hvl (In.cons (In.cons hin)) x) ?_);rintro v23 K23 hs23 ⟨rfl,rfl,rfl⟩;have hsl:ba (du (S.num+1) v)=64:=qc hvl;have hss:(bv (du (S.num+1) v)).toArray.size=64:=by simp[bv,hsl]
 refine al 0 (.agg (bv (List.replicate 64 0)).toArray) I qk fun b5=>?_;refine bJ 0 0 I I (by rw[hss];kernel_rfl) (by rw[hss];rfl) (by simp only[acW,aa6];first|exact iZ _|(simp;intro u hu;exact iZ _ u hu)) ?_
 have xR:aH (pt b5 (bv (du (S.num+1) v)).toArray 224) (some ⟨b5,0,none⟩) (ba (du (S.num+1) v)) 64 1 (bv (du (S.num+1) v)):=by
  have:=uL (g:=b5) (ty:=224) (A:=[]) (B:=du (S.num+1) v) (C:=[]) (off:=0) (n:=ba (du (S.num+1) v)) (cap:=64) rfl rfl qo;simpa using this
 refine au ?_;refine jH [1] 18 [0,2,4,6,8,10,12,14,16,18,20,22,24,26,28,30,33,34] ?_;refine au ?_;refine bQ qk 0 I (cJ (x:=((S.num+1:Nat):Int)) qo) (bQ qk 0 I (kc .u64 (S.num+1) 2) (bQ qk 0 I (ac (x:=(((S.num+1) % 2:Nat):Int)) qo) (zq qk 0 (sz:=1) 0 64 I I Tryz.underlying224 qk I I (aac _) SU ?_)));simp only[bz,abr,aa7,abH];refine au ?_;have hw:=yl (w0:=w0) (K:=K23) (h:=h) (hs:=[pt b5 (bv (du (S.num+1) v)).toArray 224,pt sb (vj b area S aS cS) 130]++hs) b D c o qo hm area (((S.num+1) % 2:Nat):Int) qo (some ⟨b5,0,none⟩) 64 (du (S.num+1) v) (.inr ⟨0,rfl⟩) xR;rw[hsl] at hw;obtain ⟨W,hW⟩:=bC (D.write area (((S.num+1) % 2:Nat):Int) (du (S.num+1) v));have oW:W.1.Ok (c+1):=by rw[hW];exact o.write _ _ _
 rw[<-hW] at hw ⊢;refine cl 0 I (Ct.at 2 I hw) ?_;rintro v40 K40 hs40 ⟨h',rfl,le,hm',rfl⟩;refine fF ST le (au ?_);refine aX 1 I (fun e6=>?_) (fun e6=>?_)
 ·refine au ?_;rw[aab e6];refine jH [1] 10 [0,2,4,6,8,10,12,14,17,18] ?_;refine au ?_;refine cl 0 I (Ct.at 2 I (uS b W.1 (c+1) oW qo hm' area)) ?_;rintro v51 K51 hs51 ⟨h2,rfl,rfl,hm2,rfl⟩;refine bp ST I (be qk 1 I (ac5 (af 1 I fun b53 h53=>fin 0 I (th (ah h53 I (fun e8=>?_) (fun e8=>?_))))))
  ·rw[aab e8];refine au ?_;refine ar 0 I (cJ (x:=((S.num+1:Nat):Int)) qo) (au ?_);obtain ⟨hv',hin',lev⟩:=hin.le le;refine cl 2 I (nF ao cap v (In.cons (In.cons (In.cons hin'))) (x.le lev) qo) ?_;rintro v63 K63 hs63 ⟨rfl,g,ao',c',rfl,rfl,og⟩;refine stp 2 2 I I I I (fin 0 I (ac6 (fin 2 I (adb (WQ.frz fun K' l1 l2=>WQ.drop ?_)))));exact ay I I ⟨le.trans l1,_,_,I,⟨ao',c',I,og.isS.le l2⟩,hm2.le l1,by rw[e8]⟩
  rw[aaa e8];exact sk (ac6 (fin 2 I (adb (WQ.drop (ay I I ⟨le,_,_,I,⟨aS,cS,I,xS.le le⟩,hm2,I⟩)))))
 refine au ?_;rw[aaa e6];refine au ?_;exact af 1 I fun b53 h53=>fin 0 I (th (Hm h53 e6 I (sk (ac6 (fin 2 I (adb (WQ.drop (ay I I ⟨le,_,_,I,⟨aS,cS,I,xS.le le⟩,hm',I⟩))))))))
end
section
def Ct.bun2{f:FuncId}{args:List Value}{m:List PH}{R R':Value->PH->List PH->Prop}(d:jw m)(c:Ct P w0 f args K (m++hs) R)
  (h:∀ v K' hs',R v K' hs'->∃ m' t',hs'=m'++t'/\(jw m'->R' v K' (fp m'::t'))):Ct P w0 f args K (fp m::hs) R':=
 ⟨c.1,fun w hw=>(c.2 w (hw.split d)).mono fun e w' he=>by
  obtain ⟨v,K',hs',rfl,hR,hS⟩:=he;obtain ⟨m',t',rfl,h2⟩:=h v K' hs' hR;obtain ⟨d',hS'⟩:=aY.join m' hS;exact ⟨v,K',_,I,h2 d',hS'⟩⟩
def qW(K:PH)(c:List Value)(r:List UInt8):Prop:=∃ ao k,c=[.slice ao (ba r) k]/\aH K ao (ba r) k 1 (bv r)
theorem qW.le{K K':PH}(l:Le K K'){c:List Value}{r:List UInt8}(h:qW K c r):qW K' c r:=let ⟨a,k,h1,h2⟩:=h;⟨a,k,h1,h2.le l⟩
def zi(c:List Value)(s:Nat×Nat):Prop:=c=[.int .u64 s.1,.int .u64 s.2]
def eI(db:Nat)(ob:Option Nat)(first:Nat)(lv ov:Value)(next:Nat)(code:Int):Array Value:=
 #[.pointer (ob.map fun b=>⟨b,0,none⟩),SX db,.int .u64 (first:Nat),lv,ov,.int .u64 (next:Nat),.int .i64 code]
def lu(o:gH)(aR:Option Addr)(cR:Nat):Array Value:=#[.int .u64 o.num,.int .u64 o.idx,.int .i64 o.full,.slice aR (ba o.rest) cR]
def Ny{h:PH}{ao:Option Addr}{n n' cap e size:Nat}{xs ys:List Value}(o:jf h ao n cap e size xs)(h1:n=n')(h2:xs=ys):jf h ao n' cap e size ys:=by subst h1;subst h2;exact o
def qi(f:Nat)(o:gH)(D:Dk):wrL (f+1) o D =
  if (D.write (aJ o.num) o.full (UInt8.ofNat (min (ba o.rest) 63)::o.rest.take (min (ba o.rest) 63))).2≠0\/ba o.rest<63 then
   (o,(D.write (aJ o.num) o.full (UInt8.ofNat (min (ba o.rest) 63)::o.rest.take (min (ba o.rest) 63))).1,(D.write (aJ o.num) o.full (UInt8.ofNat (min (ba o.rest) 63)::o.rest.take (min (ba o.rest) 63))).2)
  else if ba o.rest=63 then ({ o with full:=o.full+1,rest:=[] },(D.write (aJ o.num) o.full (UInt8.ofNat (min (ba o.rest) 63)::o.rest.take (min (ba o.rest) 63))).1,0)
  else wrL f { o with full:=o.full+1,rest:=o.rest.drop 63 } (D.write (aJ o.num) o.full (UInt8.ofNat (min (ba o.rest) 63)::o.rest.take (min (ba o.rest) 63))).1:=rfl
def SQ(ob:Option Nat)(op:Option gH)(oH rH:PH):Prop:=match op with
 | none=>ob=none/\oH=em/\rH=em
 | some o=>∃ b aR cR,ob=some b/\oH=pt b (lu o aR cR) 237/\jf rH aR (ba o.rest) cR 5 1 (bv o.rest)
def eP(K:PH)(wb db:Nat)(W:Wl)(m:List PH):Prop:=
 ∃ ob aL cL aO cO oH rH gL gO,m=[pt wb (eI db ob W.first (.slice aL (ba W.recs) cL) (.slice aO (ba W.old) cO) W.next W.code) 148,oH,rH,gL,gO]/\SQ ob W.op oH rH /\
  bN 1 39 (qW K) gL aL (ba W.recs) cL W.recs/\bN 2 153 zi gO aO (ba W.old) cO W.old
theorem eP.le{K K':PH}(l:Le K K'){wb db:Nat}{W:Wl}{m:List PH}(h:eP K wb db W m):eP K' wb db W m:=by
 obtain ⟨ob,aL,cL,aO,cO,oH,rH,gL,gO,h1,h2,h3,h4⟩:=h;exact ⟨ob,aL,cL,aO,cO,oH,rH,gL,gO,h1,h2,h3.imp fun _ _ h=>h.le l,h4⟩
def qP(n:Nat)(hn:n<=2305843009213693952):aj w0 109 [.int .u64 (n:Nat)] K hs (fun v K' hs'=>K'=K/\hs'=hs/\v=.int .u64 (aJ n)):=by
 refine bH Tryz.func109 ?_;refine ar 1 I (cJ (x:=((4*n:Nat):Int)) qo) (ar 0 I (cJ (x:=((4*n+1:Nat):Int)) qo) (au ?_));exact ay I I ⟨I,I,I⟩
def zu(wb db:Nat)(ob:Option Nat)(first:Nat)(lv ov:Value)(next:Nat)(code e:Int):
  aj w0 108 [SX wb,.int .i64 e] K (pt wb (eI db ob first lv ov next code) 148::hs)
   (fun v K' hs'=>∃ h',hs'=h'::hs/\K'=K/\h'=pt wb (eI db ob first lv ov next (if code=0 then e else code)) 148/\v=.int .i64 (if code=0 then e else code)):=by
 refine bH Tryz.func108 ?_;refine aX 0 I (fun e2=>?_) (fun e2=>?_)
 ·refine au ?_;rw[aab e2];refine au ?_;exact ay I I ⟨_,I,I,I,I⟩
 refine au ?_;rw[aaa e2];refine au ?_;exact ay I I ⟨_,I,I,I,I⟩
def D8{hv rH gL gO dh:PH}(wb db ob:Nat)(first:Nat)(lv ov:Value)(next:Nat)(o:gH)(aR:Option Addr)(cR:Nat)(oR:jf rH aR (ba o.rest) cR 5 1 (bv o.rest))(hrl:ba o.rest<=63)
  (D:Dk) (c:Nat) (oD:D.Ok c) (hc:c<=1099510000) (hd:da K db D dh) (hnum:o.num<=2305843009213693952) (hfull:o.full<=1099511627776) (ab:Option Addr) (cb:Nat) (b:List UInt8) (hb:0<ba b/\ba b<=600) (hin:In K hs hv) (x:aH hv ab (ba b) cb 1 (bv b)):
  aj w0 132 [SX wb,.slice ab (ba b) cb] K (pt wb (eI db (some ob) first lv ov next 0) 148::pt ob (lu o aR cR) 237::rH::gL::gO::dh::hs)
   (fun v K' hs'=>Le K K'/\∃ aR' cR' rH' dh',hs'=pt wb (eI db (some ob) first lv ov next (wrO o b D).2.2) 148::pt ob (lu (wrO o b D).1 aR' cR') 237::rH'::gL::gO::dh'::hs /\
    jf rH' aR' (ba (wrO o b D).1.rest) cR' 5 1 (bv (wrO o b D).1.rest)/\da K' db (wrO o b D).2.1 dh'/\v=.int .i64 (wrO o b D).2.2):=by
 refine bH Tryz.func132 ?_;refine jH [0,1] 15 [0,2,4,6,8,10,12,14,16,18,20,22,25,26,28,31] ?_;refine au ?_;refine HE 0 2 I I oR (In.cons (In.cons (In.cons (In.cons (In.cons (In.cons hin)))))) x I SU (iZ b) hb.1 (by grind) (by simp only[maxLen];omega) fun ao19 c19 g19 o19=>bp ST rfl (aG qk 2 rfl (stp 0 1 rfl rfl rfl rfl (di (.inl qk) (be qk 0 rfl (th (bk ?_))))));obtain ⟨F,hF⟩:=bC (ba o.rest+ba b+1)
 refine loop (σ:=(Nat×gH×Dk)×(Option Addr×Nat×PH×PH)×PH) (fun _=>[(0,SX wb)]) (fun s=>s.2.2) (fun s=>pt wb (eI db (some ob) first lv ov next 0) 148::pt ob (lu s.1.2.1 s.2.1.1 s.2.1.2.1) 237::s.2.1.2.2.1::gL::gO::s.2.1.2.2.2::hs)
  (fun s=>wrL s.1.1 s.1.2.1 s.1.2.2=wrO o b D/\ba s.1.2.1.rest<s.1.1/\s.1.1<=F/\s.1.2.2.Ok (c+(F-s.1.1))/\s.1.2.1.full+s.1.1<=o.full+F/\s.1.2.1.num=o.num/\Le K s.2.2/\da s.2.2 db s.1.2.2 s.2.1.2.2.2/\jf s.2.1.2.2.1 s.2.1.1 (ba s.1.2.1.rest) s.2.1.2.1 5 1 (bv s.1.2.1.rest)) (fun s=>s.1.1)
  ((F,{ o with rest:=o.rest++b },D),(ao19,c19,g19,dh),K) ⟨by dsimp only;unfold wrO;rw[hF],by dsimp only;simp;omega,aac _,by dsimp only;exact oD.up qo,ST,I,Le.refl _,hd,.inl (by
   simp_all [nz])⟩ sb rfl (by simp[lu]) ?_
 rintro ⟨⟨f,q,E⟩,⟨aQ,cQ,rQ,eh⟩,K1⟩ ⟨hw,hlf,hfF,oE,hfu,hqn,le,hE,oQ⟩;dsimp only at *;obtain ⟨f,rfl⟩:∃ g,f=g+1:=⟨f-1,qo⟩;rw[qi] at hw;have hcQ:=oQ.caps;obtain ⟨n,hn⟩:=bC (min (ba q.rest) 63);obtain ⟨s,hs1⟩:=bC (UInt8.ofNat n::q.rest.take n);have hsl:ba s=1+n:=by rw[hs1];simp;omega
 rw[<-hn,<-hs1] at hw;refine bk (ac9 (bE 3 0 I I I (bE 2 1 I I I ?_)))
 refine ar 1 I (v':=.int .i64 (n:Nat)) (by
  congr 1
  omega) ?_
 refine au ?_;refine ar 1 I (iJ (x:=((n:Nat):Int)) qo) (lit 0 #[.int .u8 (n:Nat)] I SU qk fun b33=>au ?_)
 refine sl 1 0 n I oQ.isS I ST qo (ys:=bv (q.rest.take n)) (by
  simp[bv]) fun ao42 c42 x42=>?_
 have o33:aZ (pt b33 #[Value.int .u8 (n:Nat)] 5) (some ⟨b33,0,none⟩) 1 1 5 1 (bv [UInt8.ofNat n]):=sc b33 n qo;refine app 0 0 I I o33 (.inr ⟨3,I⟩) x42 I SU (iZ _) (by show (1+n)*1<=_;omega) (by simp only[maxLen];omega) fun ao43 c43 g43 o43=>?_
 have x43:aH g43 ao43 (ba s) c43 1 (bv s):=by
  rw[hsl,hs1];exact o43.isS
 obtain ⟨R,hR⟩:=bC (E.write (aJ q.num) q.full s);have oR':R.1.Ok (c+(F-(f+1))+1):=by rw[hR];exact oE.write _ _ _
 rw[<-hR] at hw;refine au ?_;refine jH [1,2] 23 [0,2,4,6,8,10,12,14,16,18,20,22,24,28,30,32,34,36,38,40,42,27,45,47,48,50,52,54,56] ?_;refine fJ [22] qk 4 0 I qk I I (fJ [22,13,12,11,10,9] qk 3 0 I qk I I (fJ [22,13] qk 3 1 I qk I I (fJ [22,20,19,18] qk 3 0 I qk I I (fJ [22] qk 2 1 I qk I I (aG qk 1 I (cl 0 I (qP q.num qo) ?_))))));rintro v57 K57 hs57 ⟨rfl,rfl,rfl⟩;refine bp ST I (aG qk 0 I ?_);have hwr:=yl (w0:=w0) (K:=K57) (h:=eh) (hs:=[g43,pt wb (eI db (some ob) first lv ov next 0) 148,pt ob (lu q aQ cQ) 237,rQ,gL,gO]++hs) db E (c+(F-(f+1))) oE qo hE (aJ q.num) ((q.full:Nat):Int) (by unfold aJ;omega) ao43 c43 s (.inr ⟨0,rfl⟩) x43;rw[hsl,<-hR] at hwr;refine cl 0 I (Ct.at 6 I hwr) ?_
 rintro v66 K66 hs66 ⟨eh',rfl,le2,hE',rfl⟩;refine fF ST le2 (au ?_);refine cl 0 I (Ct.at 1 I (zu wb db (some ob) first lv ov next 0 R.2)) ?_;rintro v67 K67 hs67 ⟨_,rfl,rfl,rfl,rfl⟩;rw[aab rfl];refine au ?_;refine gD qk 0 (R.2≠0) I ST (fun h1=>?_) (fun h1=>?_)
 ·rw[aab (.inl h1)] at hw;refine be qk 4 I (th (dY I (ac9 (bE 3 1 I I I (fin 1 I (adb (rT (rB (rT (rB (WQ.drop ?_)))))))))));rw[<-hw];exact ay I I ⟨le.trans le2,aQ,cQ,rQ,eh',I,oQ,hE',I⟩
 have h1:R.2=0:=Decidable.not_not.1 h1;refine gE qk 2 (((n:Nat):Int)<63) I ST fun b71 h71=>au ?_;refine ah h71 I (fun e2=>?_) (fun e2=>?_)
 ·rw[aab (.inr qo)] at hw;refine ac9 (bE 3 1 I I I (fin 1 I (adb (rT (rB (rT (rB (WQ.drop ?_))))))));rw[<-hw];exact ay I I ⟨le.trans le2,aQ,cQ,rQ,eh',I,oQ,hE',I⟩
 have hn63:n=63:=qo
 rw[aaa qo] at hw;rw[h1];refine au ?_;refine ar 0 I (ac (x:=((q.full+1:Nat):Int)) qo) (au ?_);refine jH [1,2] 15 [0,2,4,6,8,10,12,14,16,18,20,22,24,26,28,31] ?_;refine au ?_;refine q9 qk 1 63 (ba q.rest-63) I I (by show ((n:Nat):Int)=_;omega) (by grind) qo (aG qk 2 rfl (stp 0 2 rfl rfl rfl rfl (di (.inl qk) ?_)))
 obtain ⟨rQ2,hrQ2,oQ2⟩:=oQ.cut 63 (ba q.rest-63) qo (ys:=bv (q.rest.drop 63)) (by
  simp[aar,bv])
 refine be qk 0 I<|th (sq<|WC.loss 3 rQ2 I hrQ2 (rg<|bE 3 1 I I I (bE 2 2 I I I (af 1 I fun b110 h110=>fin 0 I<|th (ah h110 I (fun e4=>?_) (fun e4=>?_))))))
 ·rw[aab qo] at hw;refine ac9 (bE 3 1 I I I (fin 1 I (adb (rB (rT (rB (WQ.drop ?_)))))));rw[<-hw];refine ay I I ⟨le.trans le2,ez aQ cQ 63 1,cQ-63,rQ2,eh',?_,Ny oQ2 (show ba q.rest-63=0 by omega) (by rw[abh qo]),hE',I⟩;show [_,_,_,_,_,_]++hs=[_,_,_,_,_,_]++hs
  grind [lu]
 rw[aaa qo] at hw;refine sk (bl (WQ.drop (bc (x:=((f+1,q,E),(aQ,cQ,rQ,eh),K57)) ((f,{ q with full:=q.full+1,rest:=q.rest.drop 63 },R.1),(ez aQ cQ 63 1,cQ-63,rQ2,eh'),K67) sb I ?_ ⟨hw,?_,ax,by dsimp only;exact oR'.up qo,ax,hqn,le.trans le2,hE',?_⟩ ST)))
 ·simp[lu]
 all_goals grind
end
section
def aY.del{w:World}(s:aY w0 w K hs)(i:Nat){h:PH}(hi:hs[i]?=some h):aY w0 w K (hs.eraseIdx i):=(s.perm (ig hs i h hi)).dropHead
theorem WC.del{P:Program}{w0:World}{Q:Exit->Act->World->Prop}{n:Nat}{l:Sl}{K:PH}{hs:List PH}{c:Code}(i:Nat){h:PH}(hi:hs[i]?=some h)(hk:WC P w0 c Q n l K (hs.eraseIdx i)):WC P w0 c Q n l K hs:=fun a w ha hw=>hk a w ha (hw.del i hi)
theorem WQ.del{w0:World}{Q:Exit->Act->World->Prop}{e:Exit}{n:Nat}{l:Sl}{K:PH}{hs:List PH}(i:Nat){h:PH}(hi:hs[i]?=some h)(hk:WQ w0 Q e n l K (hs.eraseIdx i)):WQ w0 Q e n l K hs:=fun a w ha hw=>hk a w ha (hw.del i hi)
theorem WL.del{P:Program}{w0:World}{ops:Array Oper}{Q:Exit->Act->World->Prop}{rest:List Oper}{n:Nat}{l:Sl}{K:PH}{hs:List PH}(i:Nat){h:PH}(hi:hs[i]?=some h)(hk:WL P w0 ops Q rest n l K (hs.eraseIdx i)):WL P w0 ops Q rest n l K hs:=fun a w ha hw=>hk a w ha (hw.del i hi)
structure dB (c:Nat) (W:Wl):Prop where
 last:W.first+ba W.recs<=bP
 recs:ba W.recs<=70000000000+c
 old:ba W.old<=c
 next:W.next<=eV+c
 op:∀ o,W.op=some o->o.num<=eV+c/\o.full<=c
 rest:∀ o,W.op=some o->W.code=0->ba o.rest<=62
 olds:∀ s∈W.old,s.1<=eV+c/\s.2<=bP
 recl:∀ r∈W.recs,ba r<=512
def dB.up{c d:Nat}{W:Wl}(o:dB c W)(h:c<=d):dB d W:=
 ⟨o.last,by have:=o.recs;omega,by have:=o.old;omega,by have:=o.next;omega,fun q hq=>by have:=o.op q hq;omega,o.rest,fun s hs=>by have:=o.olds s hs;omega,o.recl⟩
def oq(n:Nat):Int:=if n=0 then 18446744073709551615 else ((n:Nat):Int)-1
def MP(n:Nat)(h:n<18446744073709551616):Value.int .u64 (IntKind.u64.wrap (((n:Nat):Int)-1))=.int .u64 (oq n):=by
 unfold oq
 split
 ·rename_i e;subst e;rfl
 exact cJ qo
def ul(n:Nat)(h:n<18446744073709551616):Value.int .u64 (IntKind.u64.wrap (oq n+1))=.int .u64 (n:Nat):=by
 unfold oq
 split
 ·rename_i e;subst e;rfl
 rw[Int.sub_add_cancel];exact cJ qo
theorem bN.get{α:Type}{R:List Value->α->Prop}{e:Nat}{h:PH}{ao:Option Addr}{n cap:Nat}{xs:List α}(x:bN 1 e R h ao n cap xs){i:Nat}{y:α}(hy:xs[i]?=some y):∃ v,R [v] y/\∃ g off cur,ao=some ⟨g,off,none⟩/\h=pt g cur e/\cur[off+i]?=some v:=by
 obtain ⟨css,h1,h2,h3,h4⟩:=x;obtain ⟨c,hc,hR⟩:=h3.get hy;have hl:=h4 c (aap hc)
 obtain ⟨v,rfl⟩:∃ v,c=[v]:=by
  match c,hl with
  | [v],_=>simp
 have hi:i<n:=by grind
 refine ⟨v,hR,?_⟩;have hf:=qq h4 hc 0 v rfl;rcases h2 with ⟨g1,g2,g3,⟨g4,g5,g6⟩|⟨g,off,cur,g4,g5,g6,g7⟩⟩|⟨rfl,_⟩
 all_goals grind
def N1{m:List PH}(wb db:Nat)(W:Wl)(hW:eP K wb db W m):aj w0 72 [SX wb] K (m++hs)
  (fun v K' hs'=>K'=K/\hs'=m++hs/\v=.int .u64 W.first):=by
 obtain ⟨ob,aL,cL,aO,cO,oH,rH,gL,gO,rfl,hop,hL,hO⟩:=hW;refine dj Tryz.func72 ?_;exact ac9 (fin 1 I (ac6 (bE 3 0 I I I (fin 1 I (adb (ay I I ⟨I,I,I⟩))))))
def sK{m:List PH}(wb db:Nat)(W:Wl)(hW:eP K wb db W m)(hb:W.first+ba W.recs<=bP):aj w0 73 [SX wb] K (m++hs)
  (fun v K' hs'=>K'=K/\hs'=m++hs/\v=.int .u64 (oq (W.first+ba W.recs))):=by
 obtain ⟨ob,aL,cL,aO,cO,oH,rH,gL,gO,rfl,hop,hL,hO⟩:=hW;unfold bP at hb;refine bH Tryz.func73 ?_;refine bI [pt wb (eI db ob W.first (.slice aL (ba W.recs) cL) (.slice aO (ba W.old) cO) W.next W.code) 148] 13 [0,2,4,6,8,10,12,14,16,18,20,22,24] ST qk qk (au ?_);refine bQ qk 1 I (cJ (x:=((ba W.recs:Nat):Int)) qo) (bQ qk 0 I (cJ (x:=((W.first+ba W.recs:Nat):Int)) qo) (bQ qk 0 I (MP _ qo) (au ?_)));exact ay I I ⟨I,I,I⟩
def QD{m:List PH}(wb db:Nat)(W:Wl)(c:Nat)(hc:c<=1000000000)(hb:dB c W)(hW:eP K wb db W m)(i:Nat)(hi:i<18446744073709551616)(hrl:∀ r∈W.recs,ba r<=512):aj w0 74 [SX wb,.int .u64 (i:Nat)] K (m++hs)
  (fun v K' hs'=>Le K K'/\hs'=m++hs/\((¬(W.first<=i/\i-W.first<ba W.recs)/\v=.tuple #[.slice none 0 0,.bool false]) \/
   ∃ r ao k,W.first<=i/\W.recs[i-W.first]?=some r/\v=.tuple #[.slice ao (ba r) k,.bool true]/\aH K' ao (ba r) k 1 (bv r))):=by
 obtain ⟨ob,aL,cL,aO,cO,oH,rH,gL,gO,rfl,hop,hL,hO⟩:=hW;have h1:=hb.last;have h2:=hb.recs;unfold bP at h1;refine bH Tryz.func74 ?_;refine bI [pt wb (eI db ob W.first (.slice aL (ba W.recs) cL) (.slice aO (ba W.old) cO) W.next W.code) 148] 21 [0,2,4,6,8,10,12,14,16,18,20,22,24,26,28,30,32,34,36,38,40] ST qk qk (au ?_);refine gD qk 0 (i<W.first) I ST (fun g1=>?_) (fun g1=>?_)
 ·refine au ?_;exact bL I I I ⟨Le.refl _,I,.inl ⟨qo,I⟩⟩
 refine au ?_;refine bQ qk 0 I (v':=.int .u64 (i-W.first:Nat)) (by grind [cJ]) (au ?_);refine bQ qk 1 I (cJ (x:=((ba W.recs:Nat):Int)) qo) (gE qk 0 (ba W.recs<=i-W.first) I ST fun b25 h25=>au ?_);refine ah h25 I (fun e2=>?_) (fun e2=>?_)
 ·refine au ?_;exact bL I I I ⟨Le.refl _,I,.inl ⟨qo,I⟩⟩
 obtain ⟨r,hr⟩:∃ r,W.recs[i-W.first]?=some r:=⟨W.recs[i-W.first]'qo,aae qo⟩;obtain ⟨v,⟨ao,k,hv,xr⟩,g,off,cur,rfl,rfl,hcur⟩:=hL.get hr;simp only[List.cons.injEq,and_true] at hv;subst hv;have hrl2:=hrl r (aap hr);refine sk (th (sq (bI [pt wb (eI db ob W.first (.slice (some ⟨g,off,none⟩) (ba W.recs) cL) (.slice aO (ba W.old) cO) W.next W.code) 148,pt g cur 39] 15 [0,2,4,6,8,10,12,14,16,18,20,22,25,26,28] ST qk qk (au ?_))));refine bQ qk 0 I (v':=.int .u64 (i-W.first:Nat)) (by grind [cJ]) (bh qk 0 (i-W.first) I I qo ?_);simp only[bz,aah];refine dF qk 0 1 I I hcur (au ?_);refine cl 0 I (nF ao k r (.inl I) xr qo) ?_;rintro v39 K39 hs39 ⟨rfl,h',ao',c',rfl,rfl,o⟩;exact bp ST I (be qk 2 I (adb (WQ.frz fun K' l1 l2=>bL I I I ⟨l1,I,.inr ⟨r,ao',c',qo,hr,I,o.isS.le l2⟩⟩)))
def yq{w0:World}{K dh:PH}{m hs:List PH}(wb db:Nat)(W:Wl)(hW:eP K wb db W m)(D:Dk)(c:Nat)(oD:D.Ok c)(hc:c<=1000000000)(hb:dB c W)(hd:da K db D dh):
  aj w0 81 [SX wb] K (m++dh::hs)
   (fun v K' hs'=>K'=K/\∃ m' dh',hs'=m'++dh'::hs/\eP K wb db (W.sync D).1 m'/\da K db (W.sync D).2 dh'/\v=.int .i64 (W.sync D).1.code):=by
 obtain ⟨ob,aL,cL,aO,cO,oH,rH,gL,gO,rfl,hop,hL,hO⟩:=hW;obtain ⟨op,first,recs,old,next,code⟩:=W;dsimp only at *;refine bH Tryz.func81 ?_;refine af 0 I fun b7 h7=>?_
 refine' eB 1 6 14 [7,8] h7 I I I I I I I (fun _=>?x2) (fun b14 h14=>?_)
 case x2=>
  refine au ?_
  refine eE 0 (op=none) I (by
   cases op with
   | none=>obtain ⟨rfl,_⟩:=hop;simp
   | some o=>obtain ⟨b,_,_,rfl,_⟩:=hop;simp) fun b13 h13=>?_
  exact fin 1 I<|dk h13 I I I
 refine fin 0 I<|th (ah h14 I (fun e4=>?_) (fun e4=>?_))
 ·have e:Wl.sync ⟨op,first,recs,old,next,code⟩ D=(⟨op,first,recs,old,next,code⟩,D):=by
   unfold Wl.sync
   grind
  rw[e];refine au ?_;exact ay I I ⟨I,_,_,I,⟨ob,aL,cL,aO,cO,oH,rH,gL,gO,I,hop,hL,hO⟩,hd,I⟩
 have hcode:code=0:=qo
 subst hcode;cases op with
 | none=>exact absurd (.inr rfl) e4
 | some o=>
  obtain ⟨b,aR,cR,rfl,rfl,oR⟩:=hop;have hnum:=(hb.op o rfl).1;unfold eV at hnum;have e:Wl.sync ⟨some o,first,recs,old,next,0⟩ D=(⟨some o,first,recs,old,next,(D.sync (aJ o.num)).2⟩,(D.sync (aJ o.num)).1):=rfl;rw[e];refine sk (th (sq (bI [pt wb (eI db (some b) first (.slice aL (ba recs) cL) (.slice aO (ba old) cO) next 0) 148,pt b (lu o aR cR) 237] 15 [0,2,4,6,8,10,12,14,16,18,20,22,24,27,29,31,32] ST qk qk (fJ [14] qk 4 0 I qk I I (fJ [14,13,12,11,10,9] qk 3 0 I qk I I (fJ [14,13] qk 3 1 I qk I I (aG qk 0 I (cl 0 I (qP o.num qo) ?_))))))));rintro v32 K32 hs32 ⟨rfl,rfl,rfl⟩;refine bp ST I (aG qk 0 I (cl 0 I (Ct.at 5 I (uS db D c oD qo hd (aJ o.num))) ?_));rintro v33 K33 hs33 ⟨dh',rfl,rfl,hd',rfl⟩;refine bp ST I (aG qk 0 I (cl 0 I (zu wb db (some b) first _ _ next 0 _) ?_))
  rintro v34 K34 hs34 ⟨_,rfl,rfl,rfl,rfl⟩;rw[aab rfl];refine au ?_;exact ay I I ⟨I,_,_,I,⟨some b,aL,cL,aO,cO,_,rH,gL,gO,I,⟨b,aR,cR,I,I,oR⟩,hL,hO⟩,hd',I⟩
def yj{dh:PH}{m:List PH}(wb db:Nat)(W:Wl)(hW:eP K wb db W m)(D:Dk)(c:Nat)(oD:D.Ok c)(hc:c<=1000000000)(hb:dB c W)(hd:da K db D dh)(i:Nat)(hi:i<18446744073709551616):
  aj w0 106 [SX wb,.int .u64 (i:Nat)] K (m++dh::hs)
   (fun v K' hs'=>Le K K'/\∃ m' dh',hs'=m'++dh'::hs/\eP K' wb db (W.begin i D).1 m'/\da K' db (W.begin i D).2 dh'/\v=.int .i64 (W.begin i D).1.code):=by
 refine bH Tryz.func106 ?_;refine cl 1 I (yq wb db W hW D c oD hc hb hd) ?_;rintro v6 K6 hs6 ⟨rfl,m1,dh1,rfl,hW1,ma,rfl⟩
 have oS:(W.sync D).2.Ok (c+1):=by
  unfold Wl.sync
  split
  ·exact oD.up qo
  split
  ·exact oD.up qo
  exact oD.sync _
 have hS:(W.sync D).1={ W with code:=(W.sync D).1.code }:=by
  unfold Wl.sync
  split
  ·rfl
  split
  all_goals rfl
 refine af 0 I fun b7 h7=>fin 0 I<|th (ah h7 I (fun e2=>?_) (fun e2=>?_))
 ·have e:W.begin i D=W.sync D:=by unfold Wl.begin;rw[aab e2]
  rw[e];obtain ⟨ob,aL,cL,aO,cO,oH,rH,gL,gO,rfl,hop,hL,hO⟩:=hW1;refine au ?_;exact ay I I ⟨Le.refl _,_,_,I,⟨ob,aL,cL,aO,cO,oH,rH,gL,gO,I,hop,hL,hO⟩,ma,I⟩
 have e2:(W.sync D).1.code=0:=Decidable.not_not.1 e2
 have e:W.begin i D=({ (W.sync D).1 with op:=some (wrO ⟨W.next,i,0,[]⟩ (aU i) (W.sync D).2).1,next:=W.next+1,old:=W.old++[(W.next,i)],code:=(wrO ⟨W.next,i,0,[]⟩ (aU i) (W.sync D).2).2.2 },(wrO ⟨W.next,i,0,[]⟩ (aU i) (W.sync D).2).2.1):=by
  grind [Wl.begin]
 rw[e];obtain ⟨E,hE⟩:=bC ((W.sync D).2);rw[hS,e2] at hW1;rw[hS];rw[<-hE] at oS ma ⊢;clear hE e hS e2 h7;obtain ⟨op,first,recs,old,next,code⟩:=W;dsimp only at *;obtain ⟨ob,aL,cL,aO,cO,oH,rH,gL,gO,rfl,hop,hL,hO⟩:=hW1;dsimp only at *;have hnx:=hb.next;have hol:=hb.old;unfold eV at hnx;dsimp only at hnx hol;refine au ?_;refine bd 1 (.agg #[.int .u64 (next:Nat),.int .u64 (i:Nat)]) I (fun w=>by kernel_rfl) (bd 0 (.agg (lu ⟨next,i,0,[]⟩ none 0)) I (fun w=>by kernel_rfl) (bx 0 I fun b20=>stp 2 1 I I I I (fin 0 I (th (WC.perm (aaq _ _ _) (WC.loss 3 em I (.inr I) (WC.del 2 I (ac9 (au ?_)))))))));refine ar 0 I (cJ (x:=((next+1:Nat):Int)) qo) (au ?_);refine bI [pt wb (eI db (some b20) first (.slice aL (ba recs) cL) (.slice aO (ba old) cO) (next+1) 0) 148,pt b20 (lu ⟨next,i,0,[]⟩ none 0) 237] 16 [0,2,4,6,8,10,12,14,16,18,20,22,25,27,28,30,33] (by intro h hm;simp at hm;rcases hm with rfl|rfl;exact aaT ..;exact aaQ _ (aaT ..)) qk qk (dC qk 4 0 I qk I I (dC qk 3 0 I qk I I ?_))
 refine ip qk 2 [.int .u64 (next:Nat),.int .u64 (i:Nat)] I qk qk (.inr ⟨1,I⟩) (mI _ (fun j v hj=>by
  match j,hj with
  | 0,hj=>exact hj
  | 1,hj=>exact hj)) ?_
 refine au ?_;refine lit 0 #[.int .u64 (next:Nat),.int .u64 (i:Nat)] I SU qk fun b42=>nb [pt wb (eI db (some b20) first (.slice aL (ba recs) cL) (.slice aO (ba old) cO) (next+1) 0) 148,pt b20 (lu ⟨next,i,0,[]⟩ none 0) 237] (by intro h hm;simp at hm;rcases hm with rfl|rfl;exact aaQ _ (aaT ..);exact aaQ _ (aaQ _ (aaT ..))) ST I (au ?_);refine jU 0 5 [.int .u64 (next:Nat),.int .u64 (i:Nat)] (next,i) I I I hO I I (by simp[Value.oneCell']) I SU (by show (ba old+1)*16<=_;omega) (by simp only[maxLen];omega) fun ao43 c43 g43 o43=>nb [pt wb (eI db (some b20) first (.slice aL (ba recs) cL) (.slice aO (ba old) cO) (next+1) 0) 148,pt b20 (lu ⟨next,i,0,[]⟩ none 0) 237] (by intro h hm;simp at hm;rcases hm with rfl|rfl;exact aaQ _ (aaT ..);exact aaQ _ (aaQ _ (aaT ..))) ST I (aG qk 2 I (stp 0 1 I I I I (di (.inl qk) (be qk 0 I (th (WC.drop (ac9 (WL.em ?_))))))))
 have hul:=eY (n:=i) hi;have hu0:0<ba (aU i):=by rw[aU];split <;> simp
 refine cl 2 I (kD none 0 [] i (aZ.nil _ _) hi SU) ?_;rintro v48 K48 hs48 ⟨hu,rfl,rfl,ao',c',rfl,ou⟩;rw[aaL] at ou;refine WL.frz fun K1 l1 l2=>cl 0 I (D8 wb db b20 first _ _ (next+1) ⟨next,i,0,[]⟩ none 0 (jf.nil _ _) ST E (c+1) oS qo (ma.le l1) ax ST ao' c' (aU i) ⟨hu0,qo⟩ (.inl rfl) (ou.isS.le l2)) ?_;rintro v49 K49 hs49 ⟨le,aR,cR,rH',dh',rfl,oR,hd',rfl⟩;refine au ?_;refine ay I I ⟨l1.trans le,[_,_,_,_,_],dh',I,⟨some b20,aL,cL,ao43,c43,_,rH',gL,g43,?_,⟨b20,aR,cR,I,I,oR⟩,hL.imp fun _ _ h=>h.le (l1.trans le),?_⟩,hd',I⟩
 all_goals simp_all
end
section
theorem rX(n:Nat):0<ba (aU n):=by rw[aU];split <;> simp
def Nf{n:Nat}(h:n<=2305843009213693952):0<=aJ n/\aJ n<=18446744073709551615:=by unfold aJ;omega
theorem bf.wrL:∀ (f:Nat) (o:gH) (D:Dk) (c:Nat),bf c D->o.num<=2305843009213693952->bf (c+(ba o.rest / 63+1)) (wrL f o D).2.1
 | 0,o,D,c,h,_=>h.up qo
 | f+1,o,D,c,h,hn=>by
  have hw:=h.write (aJ o.num) o.full (UInt8.ofNat (min (ba o.rest) 63)::o.rest.take (min (ba o.rest) 63)) (Nf hn);rw[qi]
  split
  ·exact hw.up qo
  split
  ·exact hw.up qo
  rename_i h1 h2;refine (bf.wrL f _ _ _ hw (by exact hn)).up ?_;dsimp only;rw[aan];omega
theorem Eb:∀ (f:Nat) (o:gH) (D:Dk),(wrL f o D).1.num=o.num/\(wrL f o D).1.idx=o.idx/\(wrL f o D).1.full<=o.full+ba o.rest / 63
 | 0,o,D=>⟨rfl,rfl,acX _ _⟩
 | f+1,o,D=>by
  rw[qi]
  split
  ·simp
  split
  ·exact ⟨I,I,ax⟩
  obtain ⟨h1,h2,h3⟩:=Eb f { o with full:=o.full+1,rest:=o.rest.drop 63 } (D.write (aJ o.num) o.full (UInt8.ofNat (min (ba o.rest) 63)::o.rest.take (min (ba o.rest) 63))).1;refine ⟨h1,h2,aat h3 ?_⟩;dsimp only;rw[aan];omega
theorem CH:∀ (f:Nat) (o:gH) (D:Dk),ba o.rest<f->(wrL f o D).2.2=0->ba (wrL f o D).1.rest<=62
 | 0,o,D,h,_=>by omega
 | f+1,o,D,h,he=>by
  rw[qi] at he ⊢
  split
  ·grind
  rename_i h1;rw[aaa h1] at he
  split
  ·simp
  rename_i h2;rw[aaa h2] at he;exact CH f _ _ (by dsimp only;rw[aan];omega) he
theorem bf.wrO{c:Nat}{D:Dk}(h:bf c D)(o:gH)(b:List UInt8)(hn:o.num<=2305843009213693952):bf (c+((ba o.rest+ba b) / 63+1)) (wrO o b D).2.1:=by
 have:=bf.wrL (ba o.rest+ba b+1) { o with rest:=o.rest++b } D c h hn;dsimp only at this
 rwa [aaf] at this
theorem sw(o:gH)(b:List UInt8)(D:Dk):(wrO o b D).1.num=o.num/\(wrO o b D).1.idx=o.idx/\(wrO o b D).1.full<=o.full+(ba o.rest+ba b) / 63:=by
 have:=Eb (ba o.rest+ba b+1) { o with rest:=o.rest++b } D;dsimp only at this
 rwa [aaf] at this
def CF(o:gH)(b:List UInt8)(D:Dk)(h:(wrO o b D).2.2=0):ba (wrO o b D).1.rest<=62:=CH _ _ _ ST h
theorem Wl.sync_eq(W:Wl)(D:Dk):(W.sync D).1={ W with code:=(W.sync D).1.code }:=by
 unfold Wl.sync
 split
 ·rfl
 split <;> rfl
def bf.syncW{c:Nat}{D:Dk}(h:bf c D)(W:Wl):bf (c+1) (W.sync D).2:=by
 unfold Wl.sync
 split
 ·exact h.up qo
 split
 ·exact h.up qo
 exact h.sync _
def Wl.sync_code{W:Wl}{D:Dk}(h:(W.sync D).1.code=0):W.code=0:=by
 grind [Wl.sync]
theorem dB.sync{c:Nat}{W:Wl}(o:dB c W)(D:Dk):dB c (W.sync D).1:=by
 rw[Wl.sync_eq];exact ⟨o.last,o.recs,o.old,o.next,o.op,fun q hq hc=>o.rest q hq (Wl.sync_code hc),o.olds,o.recl⟩
theorem bf.begin{c:Nat}{D:Dk}(h:bf c D){W:Wl}(o:dB c W)(i:Nat)(hi:i<18446744073709551616)(hc:c<=1000000000):bf (c+2) (W.begin i D).2:=by
 have h1:=h.syncW W;have hn:=o.next;unfold eV at hn;have hu:=eY hi;unfold Wl.begin
 split
 ·exact h1.up qo
 refine (h1.wrO ⟨W.next,i,0,[]⟩ (aU i) ax).up ?_;dsimp only[List.length_nil];omega
theorem dB.begin{c:Nat}{W:Wl}(o:dB c W)(i:Nat)(hi:i<=bP)(D:Dk):dB (c+1) (W.begin i D).1:=by
 have h1:=o.sync D;unfold Wl.begin
 split
 ·exact h1.up qo
 have hn:=sw ⟨W.next,i,0,[]⟩ (aU i) (W.sync D).2;have hu:=eY (n:=i) (by unfold bP at hi;omega);dsimp only[List.length_nil] at hn;rw[Wl.sync_eq];refine ⟨o.last,aat o.recs qo,?_,?_,?_,?_,?_,o.recl⟩
 ·have:=o.old;simp_all
 ·have:=o.next;dsimp only;omega
 ·intro q hq;simp only[aad] at hq;rw[<-hq];have:=o.next;omega
 ·simp_all [CF]
 intro s hs;rcases aal.1 hs with hs|hs
 ·have:=o.olds s hs;omega
 simp only[aaK] at hs;subst hs;have:=o.next;omega
def Mr{W:Wl}{i:Nat}{D:Dk}(h:(W.begin i D).1.code=0):(W.begin i D).1.op≠none/\(W.begin i D).1.first=W.first/\(W.begin i D).1.recs=W.recs/\(W.sync D).1.code=0:=by
 unfold Wl.begin at h ⊢
 split
 ·simp_all
 rename_i h2;rw[Wl.sync_eq]
 simp_all
def tG(W:Wl)(i:Nat)(D:Dk):(W.begin i D).1.first=W.first/\(W.begin i D).1.recs=W.recs:=by
 unfold Wl.begin
 split
 ·rw[Wl.sync_eq];simp
 rw[Wl.sync_eq];simp
def rG{b:List UInt8}(h:ba b<=512):0<ba (dg b)/\ba (dg b)<=522:=by
 grind [rX,eY,qa]
def bf.lay{c:Nat}{D:Dk}(h:bf c D){W:Wl}(o:dB c W)(hc:c<=1000000000)(hw:W.code=0){b:List UInt8}(hb:ba b<=512):bf (c+10) (ef W b D).2.1:=by
 unfold ef;cases hop:W.op with
 | none=>exact h.up qo
 | some q=>
  have hq:=o.op q hop;unfold eV at hq;have hr:=o.rest q hop hw;have hp:=rG hb;exact (h.wrO q (dg b) qo).up qo
def dB.lay{c:Nat}{W:Wl}(o:dB c W)(hw:W.code=0)(hl:W.first+ba W.recs<bP){b:List UInt8}(hb:ba b<=512)(D:Dk):dB (c+10) (ef W b D).1:=by
 unfold ef;cases hop:W.op with
 | none=>exact o.up qo
 | some q=>
  have hq:=o.op q hop;have hr:=o.rest q hop hw;have hp:=rG hb;have hn:=sw q (dg b) D;have h1:=o.recs;have h2:=o.old;have h3:=o.next;have h4:=o.last;refine ⟨?_,?_,ax,ax,?_,?_,?_,?_⟩
  ·grind
  ·grind
  ·grind
  ·simp_all [CF]
  ·intro s hs;have:=o.olds s hs;omega
  intro r hr;dsimp only at hr
  split at hr
  ·rcases aal.1 hr with hr|hr
   ·exact o.recl r hr
   simp_all
  exact o.recl r hr
theorem bf.append{c:Nat}{D:Dk}(h:bf c D){W:Wl}(o:dB c W)(hc:c<=999999990)(b:List UInt8):bf (c+12) (W.append b D).2.1:=by
 have hl:=o.last;unfold Wl.append
 split
 ·exact h.up qo
 rename_i hw;have hw:=Decidable.not_not.1 hw
 split
 ·exact h.up qo
 split
 ·exact h.up qo
 split
 ·have hb:=h.begin o (W.first+ba W.recs) (by unfold bP at hl;omega) qo
  split
  ·exact hb.up qo
  rename_i h2;exact (hb.lay ((o.begin _ hl D).up qo) qo (Decidable.not_not.1 h2) qo).up qo
 exact (h.lay o qo hw qo).up qo
theorem dB.append{c:Nat}{W:Wl}(o:dB c W)(b:List UInt8)(D:Dk):dB (c+12) (W.append b D).1:=by
 have hl:=o.last;unfold Wl.append
 split
 ·exact o.up qo
 rename_i hw;have hw:=Decidable.not_not.1 hw
 split
 ·exact o.up qo
 split
 ·exact o.up qo
 split
 ·have hb:=o.begin (W.first+ba W.recs) hl D
  split
  ·exact hb.up qo
  rename_i h2;have hr:=tG W (W.first+ba W.recs) D;exact (hb.lay (Decidable.not_not.1 h2) (by rw[hr.1,hr.2];omega) qo _).up qo
 exact (o.lay hw qo qo D).up qo
theorem bf.truncate{c:Nat}{D:Dk}(h:bf c D){W:Wl}(o:dB c W)(hc:c<=1000000000)(i:Nat)(hi:i<18446744073709551616):bf (c+2) (W.truncate i D).2.1:=by
 unfold Wl.truncate
 split
 ·exact h.up qo
 split
 ·exact h.up qo
 split
 ·exact h.up qo
 exact h.begin o i hi hc
def dB.cutR{c:Nat}{W:Wl}(o:dB c W)(n:Nat):dB c { W with recs:=W.recs.take n }:=by
 have h1:ba (W.recs.take n)<=ba W.recs:=by rw[aam];omega
 exact ⟨by have:=o.last;dsimp only;omega,by have:=o.recs;dsimp only;omega,o.old,o.next,o.op,o.rest,o.olds,fun r hr=>o.recl r (aaR hr)⟩
theorem dB.truncate{c:Nat}{W:Wl}(o:dB c W)(i:Nat)(D:Dk):dB (c+1) (W.truncate i D).1:=by
 have hl:=o.last;unfold Wl.truncate
 split
 ·exact o.up qo
 split
 ·exact o.up qo
 split
 ·exact o.up qo
 have hb:=o.begin i qo D;dsimp only
 split
 ·have hr:=tG W i D;rw[<-hr.2];exact hb.cutR _
 exact hb
theorem bf.compact1{c:Nat}{D:Dk}(h:bf c D){W:Wl}(o:dB c W)(hc:c<=1000000000)(i:Nat)(hi:i<18446744073709551616):bf (c+2) (W.compact1 i D).2:=by
 unfold Wl.compact1
 split
 ·exact h.begin o i hi hc
 exact h.up qo
theorem dB.compact1{c:Nat}{W:Wl}(o:dB c W)(i:Nat)(D:Dk):dB (c+1) (W.compact1 i D).1:=by
 have hl:=o.last;unfold Wl.compact1
 split
 ·exact o.begin i qo D
 exact o.up qo
theorem bf.compact2{c:Nat}{D:Dk}(h:bf c D){W:Wl}(o:dB c W)(hc:c<=1000000000)(i:Nat)(hi:i<18446744073709551616):bf (c+3) (W.compact2 i D).2:=(h.compact1 o hc i hi).syncW _
theorem dB.compact2{c:Nat}{W:Wl}(o:dB c W)(i:Nat)(D:Dk):dB (c+1) (W.compact2 i D).1:=(o.compact1 i D).sync _
def Ax(W:Wl)(i:Nat)(D:Dk):(W.compact2 i D).1.first=W.first/\(W.compact2 i D).1.recs=W.recs:=by
 unfold Wl.compact2;rw[Wl.sync_eq];unfold Wl.compact1
 split
 ·simp[tG]
 simp
theorem bf.wfree(i:Nat):∀ (f:Nat) (old:List (Nat×Nat)) (D:Dk) (c:Nat),bf c D->bf (c+ba old) (wfree i f old D).2.1/\(wfree i f old D).1 <:+ old
 | 0,old,D,c,h=>⟨h.up qo,abI _⟩
 | f+1,old,D,c,h=>by
  have hf:=h.free (aJ (old.headD (0,0)).1);unfold Go.En.wfree
  split
  ·rename_i h1
   split
   ·exact ⟨hf.up qo,abI _⟩
   obtain ⟨g1,g2⟩:=bf.wfree i f (old.drop 1) _ _ hf;refine ⟨g1.up (by rw[aan];omega),g2.trans (acY 1 old)⟩
  exact ⟨h.up qo,abI _⟩
theorem bf.compact{c:Nat}{D:Dk}(h:bf c D){W:Wl}(o:dB c W)(hc:c<=1000000000)(i:Nat)(hi:i<18446744073709551616):bf (c+3+ba (W.compact2 i D).1.old) (W.compact i D).2.1:=by
 have h2:=h.compact2 o hc i hi;have h3:=(bf.wfree i (ba (W.compact2 i D).1.old+1) (W.compact2 i D).1.old (W.compact2 i D).2 _ h2).1;unfold Wl.compact
 split
 ·exact h.up qo
 split
 ·exact h.up qo
 split
 ·exact h.up qo
 split
 ·exact h2.up qo
 grind
theorem dB.compact{c:Nat}{W:Wl}(o:dB c W)(i:Nat)(D:Dk):dB (c+1) (W.compact i D).1:=by
 have h2:=o.compact2 i D;have hr:=Ax W i D
 have hs:(Go.En.wfree i (ba (W.compact2 i D).1.old+1) (W.compact2 i D).1.old (W.compact2 i D).2).1 <:+ (W.compact2 i D).1.old:=by
  generalize (W.compact2 i D).1.old=old;generalize (W.compact2 i D).2=E;generalize (ba old)+1=f
  induction f generalizing old E with
  | zero=>exact abI _
  | succ f ih=>
   grind [List.drop_suffix,Go.En.wfree]
 have hl:=o.last;unfold Wl.compact
 split
 ·exact o.up qo
 rename_i hcode
 split
 ·exact o.up qo
 split
 ·exact o.up qo
 split
 ·exact h2
 rename_i hc2
 split
 ·rename_i h6;exact ⟨h2.last,h2.recs,aat hs.length_le h2.old,h2.next,h2.op,fun q hq hc=>absurd hc h6,fun s hm=>h2.olds s (hs.subset hm),h2.recl⟩
 refine ⟨?_,?_,aat hs.length_le h2.old,h2.next,h2.op,h2.rest,fun s hm=>h2.olds s (hs.subset hm),fun r hm=>o.recl r (abe hm)⟩
 ·dsimp only;rw[aan];omega
 have:=o.recs;dsimp only;rw[aan];omega
end
section
def Mv{dh hv:PH}{m:List PH}(wb db:Nat)(W:Wl)(hW:eP K wb db W m)(D:Dk)(c:Nat)(oD:bf c D)(hc:c<=999999000)(hb:dB c W)(hd:da K db D dh)(ab:Option Addr)(cb:Nat)(b:List UInt8)(hbl:ba b<1099511627776)(hin:In K hs hv)(x:aH hv ab (ba b) cb 1 (bv b)):
  aj w0 79 [SX wb,.slice ab (ba b) cb] K (m++dh::hs)
   (fun v K' hs'=>Le K K'/\∃ m' dh',hs'=m'++dh'::hs/\eP K' wb db (W.append b D).1 m'/\da K' db (W.append b D).2.1 dh'/\v=.int .i64 (W.append b D).2.2):=by
 obtain ⟨ob,aL,cL,aO,cO,oH,rH,gL,gO,rfl,hop,hL,hO⟩:=id hW;have hlast:=hb.last;refine bH Tryz.func79 ?_;refine af 0 I fun b10 h10=>fin 1 I (th (ah h10 I (fun e2=>?_) (fun e2=>?_)))
 ·have e:W.append b D=(W,D,W.code):=by unfold Wl.append;rw[aab e2]
  rw[e];refine au ?_;exact ay I I ⟨Le.refl _,_,_,I,hW,hd,I⟩
 have hcode:W.code=0:=Decidable.not_not.1 e2;refine ac9 (af 2 I fun b18 h18=>fin 1 I (th (ah h18 I (fun e4=>?_) (fun e4=>?_))))
 ·have e:W.append b D=(W,D,50):=by grind [Wl.append]
  rw[e];refine au ?_;exact ay I I ⟨Le.refl _,_,_,I,hW,hd,I⟩
 refine ac9 (cl 1 I (sK wb db W hW hlast) ?_);rintro v21 K21 hs21 ⟨rfl,rfl,rfl⟩;refine ar 0 I (ul _ (by unfold bP at hlast;omega)) (af 0 rfl fun b23 h23=>fin 1 rfl (th (ah h23 rfl (fun e6=>?_) (fun e6=>?_))))
 ·have e:W.append b D=(W,D,51):=by grind [Wl.append,bP]
  rw[e];refine au ?_;exact ay I I ⟨Le.refl _,_,_,I,hW,hd,I⟩
 have e0:W.append b D=if mR W.op=true then
   (if (W.begin (W.first+ba W.recs) D).1.code≠0 then ((W.begin (W.first+ba W.recs) D).1,(W.begin (W.first+ba W.recs) D).2,(W.begin (W.first+ba W.recs) D).1.code)
    else ef (W.begin (W.first+ba W.recs) D).1 b (W.begin (W.first+ba W.recs) D).2)
  else ef W b D:=by grind [Wl.append,bP]
 rw[e0];obtain ⟨B,hB⟩:=bC (W.begin (W.first+ba W.recs) D);have oB:bf (c+2) B.2:=by rw[hB];exact oD.begin hb _ (by unfold bP at hlast;omega) qo
 have bB:dB (c+2) B.1:=by rw[hB];exact (hb.begin _ hlast D).up qo
 have rB2:=tG W (W.first+ba W.recs) D;have oB2:B.1.code=0->B.1.op≠none:=by rw[hB];exact fun h=>(Mr h).1
 rw[<-hB] at rB2 ⊢
 refine sk (bl (th (ti (σ:=(Wl×Dk)×(List PH×PH)×PH) (fun _=>[(0,SX wb),(1,.slice ab (ba b) cb)]) (fun s=>s.2.2) (fun s=>s.2.1.1++s.2.1.2::hs)
  (fun s=>Le K21 s.2.2/\eP s.2.2 wb db s.1.1 s.2.1.1/\da s.2.2 db s.1.2 s.2.1.2/\bf (c+2) s.1.2/\dB (c+2) s.1.1/\s.1.1.code=0/\s.1.1.op≠none/\s.1.1.first+ba s.1.1.recs<bP /\
   (if mR W.op=true then (if B.1.code≠0 then (B.1,B.2,B.1.code) else ef B.1 b B.2) else ef W b D)=ef s.1.1 b s.1.2) ?_ ?_)))
 ·refine au ?_;cases hwo:W.op with
  | none=>
   rw[hwo] at hop;obtain ⟨rfl,rfl,rfl⟩:=hop;refine En.cb 0 I (fun h=>cl 13 I (sK wb db W hW hlast) ?_) (fun h=>by simp at h);rintro v42 K42 hs42 ⟨rfl,rfl,rfl⟩;refine ar 0 I (ul _ (by unfold bP at hlast;omega)) (cl 0 rfl (yj wb db W hW D c oD.ok qo hb hd (W.first+ba W.recs) (by unfold bP at hlast;omega)) ?_);rintro v44 K44 hs44 ⟨le,m',dh',rfl,hW',hd',rfl⟩;rw[<-hB] at hW' hd' ⊢;refine af 0 I fun b45 h45=>fin 1 I (th (ah h45 I (fun e12=>?_) (fun e12=>?_)))
   ·rw[aab (by rfl),aab e12];obtain ⟨ob2,aL2,cL2,aO2,cO2,oH2,rH2,gL2,gO2,rfl,hop2,hL2,hO2⟩:=id hW';refine au ?_;exact ay I I ⟨le,_,_,I,hW',hd',I⟩
   have e12:=Decidable.not_not.1 e12;refine sk ?_;exact mt ((B.1,B.2),(m',dh'),K44) ⟨le,hW',hd',oB,bB,e12,oB2 e12,by rw[rB2.1,rB2.2];unfold bP at hlast ⊢;omega,by rw[aab (by rfl),aaa qo]⟩ sb rfl rfl
  | some o=>
   rw[hwo] at hop;obtain ⟨b1,aR,cR,rfl,rfl,oR⟩:=hop;refine En.cb 0 I (fun h=>by simp at h) (fun h=>au ?_);refine aX 0 I (fun h37=>?_) (fun h37=>?_)
   ·have hneed:mR (some o)=true:=decide_eq_true qo;refine cl 4 I (sK wb db W hW hlast) ?_;rintro v42 K42 hs42 ⟨rfl,rfl,rfl⟩;refine ar 0 I (ul _ (by unfold bP at hlast;omega)) (cl 0 rfl (yj wb db W hW D c oD.ok qo hb hd (W.first+ba W.recs) (by unfold bP at hlast;omega)) ?_);rintro v44 K44 hs44 ⟨le,m',dh',rfl,hW',hd',rfl⟩;rw[<-hB] at hW' hd' ⊢;refine af 0 I fun b45 h45=>fin 1 I (th (ah h45 I (fun e12=>?_) (fun e12=>?_)))
    ·rw[aab hneed,aab e12];obtain ⟨ob2,aL2,cL2,aO2,cO2,oH2,rH2,gL2,gO2,rfl,hop2,hL2,hO2⟩:=id hW';refine au ?_;exact ay I I ⟨le,_,_,I,hW',hd',I⟩
    have e12:=Decidable.not_not.1 e12;refine sk ?_;exact mt ((B.1,B.2),(m',dh'),K44) ⟨le,hW',hd',oB,bB,e12,oB2 e12,by rw[rB2.1,rB2.2];unfold bP at hlast ⊢;omega,by simp_all⟩ sb rfl rfl
   have hneed:¬mR (some o)=true:=by simp only[mR,decide_eq_true_eq];omega
   refine fin 9 I (th (dt I (sk ?_)));exact mt ((W,D),([_,_,_,_,_],dh),K21) ⟨Le.refl _,hW,hd,oD.up qo,hb.up qo,hcode,by rw[hwo];simp,by dsimp only;unfold bP at hlast ⊢;omega,by rw[aaa hneed]⟩ sb rfl rfl
 clear oB2 rB2 bB oB hop hL hO;rintro ⟨⟨V,E⟩,⟨m1,eh⟩,K1⟩ ⟨le,hV,hE,oE,bV,hcV,hoV,hlV,heq⟩;dsimp only at *;rw[heq];clear heq;obtain ⟨ob,aL,cL,aO,cO,oH,rH,gL,gO,rfl,hop,hL,hO⟩:=id hV;obtain ⟨op,first,recs,old,next,code⟩:=V;dsimp only at *;subst hcV;cases op with
 | none=>exact absurd rfl hoV
 | some o=>
  obtain ⟨b1,aR,cR,rfl,rfl,oR⟩:=hop;have hq:=bV.op o rfl;have hr:=bV.rest o rfl rfl;have hrl:=bV.recs;unfold eV at hq;dsimp only at hq hr hrl;have hpb:=rG (b:=b) qo;have eL:ef ⟨some o,first,recs,old,next,0⟩ b E=(⟨some (wrO o (dg b) E).1,first,if (wrO o (dg b) E).2.2=0 then recs++[b] else recs,old,next,(wrO o (dg b) E).2.2⟩,(wrO o (dg b) E).2.1,(wrO o (dg b) E).2.2):=rfl;rw[eL];refine sq (ac9 (WL.em ?_));obtain ⟨hv',hin',lev⟩:=hin.le le;refine cl 2 I (pp none 0 [] ab cb b (aZ.nil _ _) (hin'.tail (_::_::_::_::_::[eh])) (x.le lev) SU qo) ?_;rintro v53 K53 hs53 ⟨hu,rfl,rfl,ao',c',rfl,ou⟩;rw[aaL] at ou;refine WL.frz fun K2 l1 l2=>?_;obtain ⟨hv2,hin2,lev2⟩:=hin'.le l1;refine cl 0 I (D8 wb db b1 first _ _ next o aR cR oR qo E (c+2) oE.ok qo (hE.le l1) qo qo ao' c' (dg b) ⟨hpb.1,qo⟩ (.inl I) (ou.isS.le l2)) ?_
  rintro v54 K54 hs54 ⟨le3,aR',cR',rH',dh',rfl,oR',hd',rfl⟩;obtain ⟨hv3,hin3,lev3⟩:=hin2.le le3;have dm:=le.trans (l1.trans le3);refine aX 0 I (fun e14=>?_) (fun e14=>?_)
  ·refine au ?_;rw[aab e14];refine bI [pt wb (eI db (some b1) first (.slice aL (ba recs) cL) (.slice aO (ba old) cO) next (wrO o (dg b) E).2.2) 148] 11 [0,2,4,6,8,10,13,15,17,18,20,23] ST qk qk (au ?_);refine cl 0 I (nF ab cb b (hin3.tail (_::_::_::_::_::[dh'])) (((x.le lev).le lev2).le lev3) qo) ?_;rintro v62 K62 hs62 ⟨rfl,g,aoc,cc,rfl,rfl,og⟩;refine WL.frz fun K3 l3 l4=>fF ST l3 (au ?_);refine lit 0 #[.slice aoc (ba b) cc] I SU qk fun b63=>bp ST I (aG qk 0 I (jU (R:=qW K3) 0 4 [.slice aoc (ba b) cc] b I I I (hL.imp fun _ _ h=>((h.le l1).le le3).le l3) ⟨aoc,cc,I,og.isS.le l4⟩ I (by simp[Value.oneCell']) I SU (by show (ba recs+1)*24<=_;omega) (by simp only[maxLen];omega) fun ao64 c64 g64 o64=>bp ST rfl (aG qk 2 rfl (stp 0 1 rfl rfl rfl rfl (di (.inl qk) (be qk 0 rfl (ac6 (WL.drop (au ?_)))))))))
   refine ay I I ⟨dm.trans l3,[_,_,_,_,_],dh',I,⟨some b1,ao64,c64,aO,cO,_,rH',g64,gO,?_,⟨b1,aR',cR',I,I,oR'⟩,?_,hO⟩,hd'.le l3,I⟩
   ·dsimp only;rw[aaf];rfl
   simp_all
  refine au ?_;rw[aaa e14];refine au ?_;exact ay I I ⟨dm,[_,_,_,_,_],dh',I,⟨some b1,aL,cL,aO,cO,_,rH',gL,gO,I,⟨b1,aR',cR',I,I,oR'⟩,hL.imp fun _ _ h=>(h.le l1).le le3,hO⟩,hd',I⟩
end
section
def bN.gets{α:Type}{R:List Value->α->Prop}{size e:Nat}{h:PH}{ao:Option Addr}{n cap:Nat}{xs:List α}(x:bN size e R h ao n cap xs)(hs:0<size){i:Nat}{y:α}(hy:xs[i]?=some y):
  ∃ c,R c y/\ba c=size/\∃ g off cur,ao=some ⟨g,off,none⟩/\h=pt g cur e/\∀ (j:Nat) v,c[j]?=some v->cur[off+i*size+j]?=some v:=by
 obtain ⟨css,h1,h2,h3,h4⟩:=x;obtain ⟨c,hc,hR⟩:=h3.get hy;have hl:=h4 c (aap hc);have hi:i<n:=by grind
 refine ⟨c,hR,hl,?_⟩;rcases h2 with ⟨g1,g2,g3,⟨g4,g5,g6⟩|⟨g,off,cur,g4,g5,g6,g7⟩⟩|⟨rfl,_⟩
 ·omega
 ·refine ⟨g,off,cur,g4,g5,fun j v hv=>?_⟩;have hj:j<size:=by grind
  have hf:=qq h4 hc j v hv
  grind
 omega
def IR(i f:Nat)(old:List (Nat×Nat))(D:Dk):wfree i (f+1) old D=if 1<ba old/\mK old i=true then
   (if (D.free (aJ (old.headD (0,0)).1)).2≠0 then (old,(D.free (aJ (old.headD (0,0)).1)).1,(D.free (aJ (old.headD (0,0)).1)).2)
    else wfree i f (old.drop 1) (D.free (aJ (old.headD (0,0)).1)).1)
  else (old,D,0):=rfl
def Pc{oH rH gL gO:PH}(wb db:Nat)(ob:Option Nat)(first:Nat)(lv:Value)(next:Nat)(code:Int)(aO:Option Addr)(cO:Nat)(old:List (Nat×Nat))(hO:bN 2 153 zi gO aO (ba old) cO old)(h1:1<ba old)(hl:ba old<=1099511627776)(i:Nat):
  aj w0 107 [SX wb,.int .u64 (i:Nat)] K (pt wb (eI db ob first lv (.slice aO (ba old) cO) next code) 148::oH::rH::gL::gO::hs)
   (fun v K' hs'=>K'=K/\hs'=pt wb (eI db ob first lv (.slice aO (ba old) cO) next code) 148::oH::rH::gL::gO::hs/\v=.bool (mK old i)):=by
 have hcap:=hO.caps;have hS:=hO.slS.cut 1 qo;obtain ⟨a,ha⟩:=hS.addr qo SU;rw[ha] at hS;obtain ⟨vs,xs⟩:=hS.isS;refine bH Tryz.func107 ?_;refine oZ 0 1 (ba old-1) I I (by show ((ba old:Nat):Int)=_;omega) qo ?_;rw[show ez aO cO 1 2=some a from ha];refine au ?_
 refine loop (σ:=Nat) (fun j=>[(1,.int .u64 (i:Nat)),(11,.slice (some a) (ba old-1) (cO-1)),(12,.int .i64 (ba old-1:Nat)),(13,.int .i64 (j:Nat))]) (fun _=>K) (fun _=>pt wb (eI db ob first lv (.slice aO (ba old) cO) next code) 148::oH::rH::gL::gO::hs)
  (fun j=>j<=ba old-1/\((old.drop 1).take j).any (fun s=>decide (s.2<=i))=false) (fun j=>ba old-1-j) 0 ⟨aag _,rfl⟩ ⟨rfl,rfl,rfl,rfl,trivial⟩ rfl rfl ?_
 rintro j ⟨hj,hno⟩;refine ac9 (aX 0 I (fun e2=>?_) (fun e2=>?_))
 ·refine au ?_;have hjl:j<ba (old.drop 1):=by rw[aan];omega
  obtain ⟨cs,hc,hcl,hcell⟩:=hS.cells (i:=j) (x:=(old.drop 1)[j]) (aae hjl);obtain ⟨s,hs0⟩:=bC ((old.drop 1)[j]);rw[<-hs0] at hc;have hc:cs=[.int .u64 s.1,.int .u64 s.2]:=hc;subst hc;refine au ?_;refine dz 0 j I I xs qo SU fun a15 h15=>?_;cases h15;refine eD 0 [.int .u64 s.1,.int .u64 s.2] I qk (.inr ⟨4,I⟩) hcell (al 0 (.agg #[.int .u64 0,.int .u64 0]) I qk fun b6=>?_);refine bJ 0 0 I I qk I I ?_;refine fin 0 I (ac6 (bE 1 0 I I I (af 1 I fun b20 h20=>?_)));have htk:((old.drop 1).take (j+1))=((old.drop 1).take j)++[s]:=by simp_all [aaA]
  refine fin 0 I<|th (ah h20 I (fun e4=>?_) (fun e4=>?_))
  ·have he:mK old i=true:=by
    grind [mK]
   rw[he];exact ac9 (fin 1 I (adb (rB (rT (rT (rB (rT (WQ.drop (ay I I ⟨I,I,I⟩)))))))))
  refine sk<|ac7 (ar 0 I (ac (x:=((j+1:Nat):Int)) qo)<|fin 1 I (WQ.drop<|bc (x:=j) (j+1) sb I I ⟨qo,?_⟩ qo))
  grind
 refine au ?_
 have he:mK old i=false:=by
  grind [List.length_drop,mK]
 rw[he];refine au ?_;exact ay I I ⟨I,I,I⟩
def Ky{w0:World}{K dh:PH}{m hs:List PH}(wb db:Nat)(W:Wl)(hW:eP K wb db W m)(D:Dk)(c:Nat)(oD:bf c D)(hc:c<=499999000)(hb:dB c W)(hol:ba W.old<=c)(hd:da K db D dh)(i:Nat)(hi:i<18446744073709551616):
  aj w0 39 [SX wb,.int .u64 (i:Nat)] K (m++dh::hs)
   (fun v K' hs'=>Le K K'/\∃ m' dh',hs'=m'++dh'::hs/\eP K' wb db (W.compact i D).1 m'/\da K' db (W.compact i D).2.1 dh'/\v=.int .i64 (W.compact i D).2.2):=by
 obtain ⟨ob,aL,cL,aO,cO,oH,rH,gL,gO,rfl,hop,hL,hO⟩:=id hW;have hlast:=hb.last;have hlast0:=hb.last;have hrl:=hb.recs;unfold bP at hlast;refine bH Tryz.func39 ?_;refine aX 0 I (fun e2=>?_) (fun e2=>?_)
 ·refine au ?_;have e:W.compact i D=(W,D,W.code):=by unfold Wl.compact;rw[aab e2]
  rw[e];refine au ?_;exact ay I I ⟨Le.refl _,_,_,I,hW,hd,I⟩
 refine au ?_;have hcode:W.code=0:=Decidable.not_not.1 e2;refine au ?_;refine af 0 I fun b21 h21=>fin 1 I (th (ah h21 I (fun e4=>?_) (fun e4=>?_)))
 ·have e:W.compact i D=(W,D,0):=by simp_all [Wl.compact]
  rw[e];refine au ?_;exact ay I I ⟨Le.refl _,_,_,I,hW,hd,I⟩
 refine sq (bI [pt wb (eI db ob W.first (.slice aL (ba W.recs) cL) (.slice aO (ba W.old) cO) W.next W.code) 148] 14 [0,2,4,6,8,10,12,14,16,18,20,22,24,26] ST qk qk (au ?_));refine bQ qk 0 I (v':=.int .u64 (i-W.first:Nat)) (by grind [cJ]) (au ?_);refine bQ qk 1 I (cJ (x:=((ba W.recs:Nat):Int)) qo) (gE qk 0 (ba W.recs<i-W.first) I ST fun b35 h35=>au ?_);refine ah h35 I (fun e5=>?_) (fun e5=>?_)
 ·have e:W.compact i D=(W,D,51):=by simp_all [Wl.compact]
  rw[e];refine au ?_;exact ay I I ⟨Le.refl _,_,_,I,hW,hd,I⟩
 refine sk (bl (th (ti (σ:=(List PH×PH)×PH) (fun _=>[(0,SX wb),(1,.int .u64 (i:Nat))]) (fun s=>s.2) (fun s=>s.1.1++s.1.2::hs)
  (fun s=>Le K s.2/\eP s.2 wb db (W.compact1 i D).1 s.1.1/\da s.2 db (W.compact1 i D).2 s.1.2) ?_ ?_)))
 ·refine ac9 (cl 2 I (sK wb db W hW hlast0) ?_);rintro v38 K38 hs38 ⟨rfl,rfl,rfl⟩;refine ar 0 I (ul _ qo) (af 0 I fun b40 h40=>fin 0 I (th (ah h40 I (fun e7=>?_) (fun e7=>?_))))
  ·have e:W.compact1 i D=W.begin i D:=by unfold Wl.compact1;rw[aab qo]
   rw[e];refine rg (cl 2 I (yj wb db W hW D c oD.ok qo hb hd i hi) ?_);rintro v43 K43 hs43 ⟨le,m',dh',rfl,hW',hd',rfl⟩;exact fin 0 I (mt ((m',dh'),K43) ⟨le,hW',hd'⟩ sb I I)
  have e:W.compact1 i D=(W,D):=by unfold Wl.compact1;rw[aaa qo]
  rw[e];refine sk ?_;exact mt (([_,_,_,_,_],dh),K38) ⟨Le.refl _,hW,hd⟩ ⟨I,I,trivial⟩ I I
 rintro ⟨⟨m1,eh⟩,K1⟩ ⟨le,hV,hE⟩;dsimp only at *;have o1:=oD.compact1 hb qo i hi;have b1:=hb.compact1 i D;have o2:=oD.compact2 hb qo i hi;have b2:=hb.compact2 i D;have r2:=Ax W i D
 have hol2:ba (W.compact2 i D).1.old<=c+1:=by
  grind [Wl.sync_eq,Wl.compact2,Wl.compact1,Wl.begin]
 refine sq (ac9 (cl 1 I (yq wb db (W.compact1 i D).1 hV (W.compact1 i D).2 (c+2) o1.ok qo (b1.up qo) hE) ?_));rintro v45 K45 hs45 ⟨rfl,m2,eh2,rfl,hV2,hE2,rfl⟩;have hc2:((W.compact1 i D).1.sync (W.compact1 i D).2)=W.compact2 i D:=rfl;rw[hc2] at hV2 hE2 ⊢
 have e0:W.compact i D=if (W.compact2 i D).1.code≠0 then ((W.compact2 i D).1,(W.compact2 i D).2,(W.compact2 i D).1.code)
  else if (wfree i (ba (W.compact2 i D).1.old+1) (W.compact2 i D).1.old (W.compact2 i D).2).2.2≠0 then
   ({ (W.compact2 i D).1 with old:=(wfree i (ba (W.compact2 i D).1.old+1) (W.compact2 i D).1.old (W.compact2 i D).2).1,code:=(wfree i (ba (W.compact2 i D).1.old+1) (W.compact2 i D).1.old (W.compact2 i D).2).2.2 },(wfree i (ba (W.compact2 i D).1.old+1) (W.compact2 i D).1.old (W.compact2 i D).2).2.1,(wfree i (ba (W.compact2 i D).1.old+1) (W.compact2 i D).1.old (W.compact2 i D).2).2.2)
  else ({ (W.compact2 i D).1 with old:=(wfree i (ba (W.compact2 i D).1.old+1) (W.compact2 i D).1.old (W.compact2 i D).2).1,recs:=W.recs.drop (i-W.first),first:=i },(wfree i (ba (W.compact2 i D).1.old+1) (W.compact2 i D).1.old (W.compact2 i D).2).2.1,0):=by
  simp_all [aaa,Wl.compact]
 rw[e0];clear e0 hc2;obtain ⟨Z,hZ⟩:=bC (W.compact2 i D);rw[<-hZ] at hV2 hE2 r2 o2 b2 hol2 ⊢;clear hZ hV hE o1 b1;obtain ⟨⟨op,first,recs,old,next,code⟩,E⟩:=Z;dsimp only at *;obtain ⟨rfl,rfl⟩:=r2;refine af 0 I fun b46 h46=>fin 0 I (th (ah h46 I (fun e9=>?_) (fun e9=>?_)))
 ·rw[aab e9];obtain ⟨ob2,aL2,cL2,aO2,cO2,oH2,rH2,gL2,gO2,rfl,hop2,hL2,hO2⟩:=id hV2;refine au ?_;exact ay I I ⟨le,_,_,I,hV2,hE2,I⟩
 obtain rfl:code=0:=Decidable.not_not.1 e9;rw[aaa ST];obtain ⟨ob2,aL2,cL2,aO2,cO2,oH2,rH2,gL2,gO2,rfl,hop2,hL2,hO2⟩:=hV2;dsimp only at *;have hcapL:=hL2.caps;obtain ⟨R,hR⟩:=bC (wfree i (ba old+1) old E);rw[<-hR];refine sk (th (sq (bk ?_)))
 refine loop (σ:=(Nat×List (Nat×Nat)×Dk)×(Option Addr×Nat×PH×PH)) (fun _=>[(0,SX wb),(1,.int .u64 (i:Nat))]) (fun _=>K45)
  (fun s=>pt wb (eI db ob2 W.first (.slice aL2 (ba W.recs) cL2) (.slice s.2.1 (ba s.1.2.1) s.2.2.1) next 0) 148::oH2::rH2::gL2::s.2.2.2.1::s.2.2.2.2::hs)
  (fun s=>wfree i s.1.1 s.1.2.1 s.1.2.2=R/\ba s.1.2.1<s.1.1/\ba s.1.2.1<=ba old/\(∀ x∈s.1.2.1,x.1<=eV+(c+1))/\bf (c+3+(ba old-ba s.1.2.1)) s.1.2.2/\da K45 db s.1.2.2 s.2.2.2.2/\bN 2 153 zi s.2.2.2.1 s.2.1 (ba s.1.2.1) s.2.2.1 s.1.2.1)
  (fun s=>s.1.1) ((ba old+1,old,E),(aO2,cO2,gO2,eh2)) ⟨hR.symm,ST,aac _,fun x hx=>(b2.olds x hx).1,by dsimp only;exact o2.up qo,hE2,hO2⟩ sb I I ?_
 rintro ⟨⟨f,old1,E1⟩,⟨aO1,cO1,gO1,eh1⟩⟩ ⟨hw,hlf,hlo,hmany,oE,hE1,hO1⟩;dsimp only at *;obtain ⟨f,rfl⟩:∃ g,f=g+1:=⟨f-1,qo⟩;rw[IR] at hw;refine au ?_;refine af 1 I fun b56 h56=>?_
 refine' gu (q:=mK old1 i=true) 1 4 61 [56,57] h56 I I I I I I I (fun hp1=>?x11) (fun b61 h61=>?_)
 case x11=>
  refine cl 2 I (Pc wb db ob2 W.first _ next 0 aO1 cO1 old1 hO1 qo qo i) ?_;rintro v60 K60 hs60 ⟨rfl,rfl,rfl⟩;exact nP fun b60 h60=>fin 1 I (dk h60 I I I)
 refine fin 0 I<|th (ah h61 I (fun e12=>?_) (fun e12=>?_))
 ·rw[aab ⟨qo,e12.2⟩] at hw;have hl1:1<ba old1:=qo
  obtain ⟨s,hs0⟩:∃ s,old1[0]?=some s:=⟨old1[0]'qo,aae qo⟩
  have hhd:old1.headD (0,0)=s:=by
   cases old1 with
   | nil=>simp at hl1
   | cons a l=>simpa using hs0
  rw[hhd] at hw;have hs1:=hmany s (aap hs0);unfold eV at hs1;obtain ⟨cs,hcs,hcl,g,off,cur,rfl,rfl,hcur⟩:=hO1.gets SU hs0;have hcs:cs=[.int .u64 s.1,.int .u64 s.2]:=hcs;subst hcs;have hcap1:=hO1.caps;refine au ?_;refine bI [pt wb (eI db ob2 W.first (.slice aL2 (ba W.recs) cL2) (.slice (some ⟨g,off,none⟩) (ba old1) cO1) next 0) 148,pt g cur 153] 14 [0,2,4,6,8,10,12,14,16,18,20,22,25,27,29,30] ST qk qk (fJ [13] qk 4 0 I qk I I (fJ [13,12,11,10,9] qk 3 0 I qk I I (bh qk 0 0 I I qo ?_)));simp only[bz,abr,aa7];refine fJ [13,12] qk 1 1 I qk I (by simpa using hcur 0 _ rfl) (au ?_);refine cl 0 I (qP s.1 qo) ?_;rintro v74 K74 hs74 ⟨rfl,rfl,rfl⟩;refine bp ST I (aG qk 0 I (cl 0 I (Ct.at 5 I (uX db E1 _ oE.ok qo hE1 (aJ s.1))) ?_))
  rintro v75 K75 hs75 ⟨eh3,rfl,rfl,hE3,rfl⟩;refine bp ST I (aG qk 0 I (cl 0 I (zu wb db ob2 W.first _ _ next 0 _) ?_));rintro v76 K76 hs76 ⟨_,rfl,rfl,rfl,rfl⟩;rw[aab rfl];refine au ?_;refine gE qk 0 ((E1.free (aJ s.1)).2≠0) I ST fun b77 h77=>au ?_;refine ah h77 I (fun e13=>?_) (fun e13=>?_)
  ·rw[aab e13] at hw;rw[<-hw,aab e13];refine au ?_;exact ay I I ⟨le,[_,_,_,_,_],eh3,I,⟨ob2,aL2,cL2,some ⟨g,off,none⟩,cO1,oH2,rH2,gL2,_,I,hop2,hL2,hO1⟩,hE3,I⟩
  rw[aaa e13] at hw;rw[Decidable.not_not.1 e13];obtain ⟨gO3,hg3,hO3⟩:=hO1.cut 1 (ba old1-1) qo;refine au ?_;refine oZ 0 1 (ba old1-1) I I (by show ((ba old1:Nat):Int)=_;omega) qo (stp 2 0 rfl rfl rfl rfl (fin 0 rfl (bl (WQ.loss 4 gO3 rfl hg3 ?_))));have hdl:ba (old1.drop 1)=ba old1-1:=by simp
  refine bc (x:=((f+1,old1,E1),(some ⟨g,off,none⟩,cO1,pt g cur 153,eh1))) ((f,old1.drop 1,(E1.free (aJ s.1)).1),(ez (some ⟨g,off,none⟩) cO1 1 2,cO1-1,gO3,eh3)) sb I ?_ ⟨hw,ax,ax,fun x hx=>hmany x (abe hx),by dsimp only;exact (oE.free _).up qo,hE3,?_⟩ ST
  ·dsimp only;rw[hdl];rfl
  grind
 rw[aaa (by grind)] at hw;rw[<-hw,aaa ST];dsimp only;refine au ?_;refine bI [pt wb (eI db ob2 W.first (.slice aL2 (ba W.recs) cL2) (.slice aO1 (ba old1) cO1) next 0) 148] 14 [0,2,4,6,8,10,12,14,16,18,20,22,24,26,29] ST qk qk (au ?_);refine bQ qk 0 I (v':=.int .u64 (i-W.first:Nat)) (by grind [cJ]) (q9 qk 0 (i-W.first) (ba W.recs-(i-W.first)) I I I (by simp_all) qo (aG qk 2 I (stp 0 0 I I I I (di (.inl qk) ?_))));obtain ⟨gL3,hg3,hL3⟩:=hL2.cut (i-W.first) (ba W.recs-(i-W.first)) qo;refine be qk 0 I (th (sq (WC.loss 3 gL3 I hg3 (rg (au ?_)))));have hlen:ba (W.recs.drop (i-W.first))=ba W.recs-(i-W.first):=by simp
 refine ay I I ⟨le,[_,_,_,_,_],eh1,I,⟨ob2,ez aL2 cL2 (i-W.first) 1,cL2-(i-W.first),aO1,cO1,oH2,rH2,gL3,gO1,?_,hop2,?_,hO1⟩,hE1,I⟩
 ·dsimp only;rw[hlen];rfl
 grind
end
section
def tX{c:Nat}{D:Dk}(o:bf c D):∀ k∈a8 D,0<=k/\k<=18446744073709551615:=fun k hk=>o.ar k ((fb _).mem_iff.1 hk)
def tH{c:Nat}{D:Dk}(o:bf c D):ba (a8 D)<=c:=by
 unfold a8;rw[(fb _).length_eq,aaP];exact o.len
def E5{l:List Int}{j:Nat}{a:Int}(h:l[j]?=some a):(rq l)[j]?=some (.int .u64 a):=by simp[rq,h]
end
section
def tZ(D:Dk)(num f n:Nat):ni D num (f+1) n=match D.read (aJ num) n with
  | none=>[]
  | some s=>(s.drop 1).take (jB s)++(if jB s<63 then [] else ni D num f (n+1)):=rfl
theorem D5(D:Dk)(num:Nat):∀ (f n:Nat),ba (ni D num f n)<=63*f
 | 0,n=>by simp[ni]
 | f+1,n=>by
  rw[tZ];have ih:=D5 D num f (n+1)
  split
  ·simp
  rename_i s _;have:jB s<=63:=by unfold jB;omega
  rw[aaf,aam]
  split
  ·simp;omega
  omega
theorem wG(D:Dk)(num:Nat):ba (gM D num)<=4128831:=D5 D num 65537 0
def Dk.Ok.noRead{c:Nat}{D:Dk}(o:D.Ok c)(a n:Int)(h:65536<=n):D.read a n=none:=by
 unfold Dk.read;cases hs:D.sec a n with
 | none=>rfl
 | some s=>
  have hm:=iY hs;obtain ⟨l,h1,h2⟩:=Dk.ar_mem _ hm;rw[h2] at hm;have:=o.at_ _ h1 _ hm;omega
def PW{dh:PH}(db:Nat)(D:Dk)(c:Nat)(oD:D.Ok c)(hc:c<=1000000000)(hd:da K db D dh)(num:Nat)(hn:num<=2305843009213693952):
  aj w0 128 [SX db,.int .u64 (num:Nat)] K (dh::hs)
   (fun v K' hs'=>∃ h',hs'=h'::hs/\h'=dh/\Le K K'/\∃ ao k,v=.slice ao (ba (gM D num)) k/\aH K' ao (ba (gM D num)) k 1 (bv (gM D num))):=by
 refine dj Tryz.func128 ?_;refine ac9 (fin 1 I (ac6 (fin 1 I (ac6 (fin 1 I (th (bk (WC.em ?_))))))))
 refine loop (σ:=(Nat×List UInt8)×(Option Addr×Nat×PH)×PH) (fun s=>[(0,SX db),(1,.int .u64 (num:Nat)),(5,.slice s.2.1.1 (ba s.1.2) s.2.1.2.1),(6,.int .i64 s.1.1)]) (fun s=>s.2.2) (fun s=>s.2.1.2.2::dh::hs)
  (fun s=>s.1.2++ni D num (65537-s.1.1) s.1.1=gM D num/\s.1.1<=65536/\Le K s.2.2/\aZ s.2.1.2.2 s.2.1.1 (ba s.1.2) s.2.1.2.1 5 1 (bv s.1.2)) (fun s=>65537-s.1.1) ((0,[]),(none,0,em),K) ⟨by dsimp only;rw[aaL,abH,gM],ST,Le.refl _,aZ.nil _ _⟩ ⟨rfl,rfl,rfl,rfl,trivial⟩ rfl rfl ?_
 rintro ⟨⟨n,b⟩,⟨ao,k,g⟩,K1⟩ ⟨hw,hn2,le,o⟩;dsimp only at *;rw[show 65537-n=(65536-n)+1 from qo,tZ] at hw;have hlen:=wG D num
 have hbl:ba b<=4128831:=by
  grind
 refine sq (bk (ac9 (cl 2 I (qP num hn) ?_)));rintro v15 K15 hs15 ⟨rfl,rfl,rfl⟩;refine cl 1 I (Ct.at 1 I (yO db D c oD qo (hd.le le) (aJ num) ((n:Nat):Int))) ?_;rintro v17 K17 hs17 ⟨_,rfl,rfl,le2,⟨hr,rfl⟩|⟨s,as',cs,hr,hsl,rfl,xs⟩⟩
 ·rw[hr] at hw;simp only[aaw] at hw;refine fin 5 I (ac5 (fin 2 I (th (dY I (ac9 (fin 2 I (adb (rT (rB (rT (rT (rB (WQ.frz fun K2 l1 l2=>ay I I ⟨_,I,I,(le.trans le2).trans l1,ao,k,by rw[<-hw],?_⟩)))))))))))));rw[<-hw];exact o.isS.le l2
 rw[hr] at hw;dsimp only at hw
 have hn3:n<65536:=by
  rcases aaU n 65536 with h|h
  ·exact h
  rw[oD.noRead _ _ qo] at hr;cases hr
 obtain ⟨c0,hc0⟩:∃ c0,s[0]?=some c0:=⟨s[0]'qo,aae qo⟩;have hg0:s.getD 0 0=c0:=by rw[aaB,hc0];rfl
 have hx0:(bv s)[0]?=some (.int .u8 c0.toNat):=by simp[bv,hc0]
 have hcl:=c0.toNat_lt;have hu:jB s=min c0.toNat 63:=by unfold jB;rw[hg0]
 obtain ⟨u,hu0⟩:=bC (jB s);have hu63:u<=63:=qo
 rw[<-hu0] at hw hu;obtain ⟨t,ht⟩:=bC ((s.drop 1).take u);have htl:ba t=u:=by simp_all
 rw[<-ht] at hw;refine au ?_;refine fe 1 0 I I I xs hx0 fun a24 hc24=>ld 0 I (.inl I) hc24 (ar 0 I (ac qo) ?_)
 refine ar 0 I (v':=.int .i64 (u:Nat)) (by
  congr 1
  omega) ?_
 refine au ?_;refine ar 3 I (ac (x:=((1+u:Nat):Int)) qo) ?_
 refine sl 0 1 u I xs I I qo (ys:=bv t) (by
  simp_all [bv]) fun ao32 c32 x32=>?_
 refine app 0 0 I I o (.inl I) x32 I SU (iZ _) (by show (ba b+u)*1<=_;omega) (by simp only[maxLen];omega) fun ao33 c33 g33 o33=>au ?_;have o33':aZ g33 ao33 (ba (b++t)) c33 5 1 (bv (b++t)):=sJ o33 (by rw[aaf,htl]) (by rw[nz]);refine af 1 I fun b35 h35=>fin 0 I (th (ah h35 I (fun e3=>?_) (fun e3=>?_)))
 ·rw[aab qo,aaw] at hw;refine ac9 (fin 2 I (adb (rB (rT (rT (rB (WQ.frz fun K2 l1 l2=>ay I I ⟨_,I,I,(le.trans le2).trans l1,ao33,c33,by rw[<-hw,aaf,htl],?_⟩)))))));rw[<-hw];exact o33'.isS.le l2
 rw[aaa qo,<-aax] at hw;refine sk (ac7 (ar 1 I (ac (x:=((n+1:Nat):Int)) qo) (fin 1 I (bc (x:=((n,b),(ao,k,g),K15)) ((n+1,b++t),(ao33,c33,g33),K17) ⟨I,I,?_,I,trivial⟩ I I ⟨by simp_all,ax,le.trans le2,o33'⟩ ax))));dsimp only;rw[aaf,htl]
 rfl
def zn{h hb:PH}{R:List PH}(rb:Nat)(s:Rd)(r:gg rb hb s h):aj w0 129 [SX rb] K (h::R) (fun v K' hs'=>K'=K/\hs'=h::R/\v=.int .i64 s.2):=by
 obtain ⟨ao,cap,rfl,x⟩:=r;refine bH Tryz.func129 ?_;exact ay I I ⟨I,I,I⟩
def L9{m:List PH}(wb db:Nat)(W:Wl)(hW:eP K wb db W m)(hb:W.first+ba W.recs<=bP)(hr:ba W.recs<=1000000000000)(hol:ba W.old<=10000000000)(n idx:Nat)(hi:idx<=bP):
  aj w0 69 [SX wb,.agg #[.int .u64 (n:Nat),.int .u64 (idx:Nat)]] K (m++hs)
   (fun v K' hs'=>K'=K/\∃ m',hs'=m'++hs/\eP K wb db (W.follows n idx).1 m'/\v=.bool (W.follows n idx).2):=by
 obtain ⟨ob,aL,cL,aO,cO,oH,rH,gL,gO,rfl,hop,hL,hO⟩:=hW;obtain ⟨op,first,recs,old,next,code⟩:=W;dsimp only at *;unfold bP at hb hi;refine dj Tryz.func69 ?_;refine ac9 (bx 0 I fun b3=>WL.h 0 (pt b3 #[.int .u64 (n:Nat),.int .u64 (idx:Nat)] 153) (fin 1 I (th ?_)))
 refine jn (σ:=Nat×List (List UInt8)×(Option Addr×Nat×PH)) (fun _=>[(0,SX wb),(3,SX b3)])
  (fun s=>pt b3 #[.int .u64 (n:Nat),.int .u64 (idx:Nat)] 153::pt wb (eI db ob s.1 (.slice s.2.2.1 (ba s.2.1) s.2.2.2.1) (.slice aO (ba old) cO) next code) 148::oH::rH::s.2.2.2.2::gO::hs)
  (fun s=>bN 1 39 (qW K) s.2.2.2.2 s.2.2.1 (ba s.2.1) s.2.2.2.1 s.2.1/\s.1<=idx/\idx-s.1<=ba s.2.1/\(Wl.follows ⟨op,first,recs,old,next,code⟩ n idx)=(⟨op,s.1,s.2.1.take (idx-s.1),old++[(n,idx)],next,code⟩,true)) ?_ ?_
 ·refine bk (sq (jH [0,1] 16 [0,2,4,6,8,10,12,14,16,18,20,22,24,26,28,30] ?_));refine au ?_;refine gD qk 1 (ba old=0) I ST (fun h1=>?_) (fun h1=>?_)
  ·have e:(Wl.follows ⟨op,first,recs,old,next,code⟩ n idx)=(⟨op,idx,[],old++[(n,idx)],next,code⟩,true):=by unfold Wl.follows;rw[aab (.inl h1)]
   refine be qk 10 I (th (dY I (rg (bE 3 0 I I I (stp 2 1 I I I I (stp 2 1 I I I I (fin 0 I (bl (WQ.loss 4 em I (.inr I) ?_)))))))));exact jx (idx,[],(none,0,em)) ⟨bN.nil _ _,aac _,qo,by rw[e];simp⟩ sb rfl rfl
  refine au ?_;refine gE qk 0 (idx<first) I ST fun b19 h19=>au ?_;refine ah h19 I (fun e2=>?_) (fun e2=>?_)
  ·have e:(Wl.follows ⟨op,first,recs,old,next,code⟩ n idx)=(⟨op,idx,[],old++[(n,idx)],next,code⟩,true):=by unfold Wl.follows;rw[aab (.inr e2)]
   refine rg (bE 3 0 I I I (stp 2 1 I I I I (stp 2 1 I I I I (fin 0 I (bl (WQ.loss 4 em I (.inr I) ?_))))));exact jx (idx,[],(none,0,em)) ⟨bN.nil _ _,aac _,qo,by rw[e];simp⟩ sb rfl rfl
  refine sq (jH [0,1] 15 [0,2,4,6,8,10,12,14,16,18,20,22,24,26,28] ?_);refine au ?_;refine bQ qk 0 I (v':=.int .u64 (idx-first:Nat)) (by grind [cJ]) (au ?_);refine bQ qk 1 I (cJ (x:=((ba recs:Nat):Int)) qo) (gE qk 0 (ba recs<idx-first) I ST fun b43 h43=>au ?_);refine ah h43 I (fun e3=>?_) (fun e3=>?_)
  ·have e:(Wl.follows ⟨op,first,recs,old,next,code⟩ n idx)=(⟨op,first,recs,old,next,code⟩,false):=by simp_all [Wl.follows]
   rw[e];refine au ?_;refine jr (WQ.drop ?_);exact ay I I ⟨I,[_,_,_,_,_],I,⟨ob,aL,cL,aO,cO,oH,rH,gL,gO,I,hop,hL,hO⟩,I⟩
  have e:(Wl.follows ⟨op,first,recs,old,next,code⟩ n idx)=(⟨op,first,recs.take (idx-first),old++[(n,idx)],next,code⟩,true):=by simp_all [aaa,Wl.follows]
  exact sk (bl (jx (first,recs,(aL,cL,gL)) ⟨hL,qo,ax,e⟩ sb rfl rfl))
 clear hL;rintro ⟨fi,rs,⟨aR,cR,gR⟩⟩ ⟨hL,h1,h2,e⟩;dsimp only at *;rw[e];have hcap:=hL.caps;refine sq (bI [pt b3 #[.int .u64 (n:Nat),.int .u64 (idx:Nat)] 153,pt wb (eI db ob fi (.slice aR (ba rs) cR) (.slice aO (ba old) cO) next code) 148] 15 [0,2,4,6,8,10,12,14,16,18,20,22,24,26,28,31] ST qk qk (au ?_));refine bQ qk 0 I (v':=.int .u64 (idx-fi:Nat)) (by grind [cJ]) (q9 qk 0 0 (idx-fi) I I I ST qo (aG qk 2 I (stp 0 1 I I I I (di (.inl qk) ?_))));obtain ⟨gR2,hg2,hL2⟩:=hL.cut 0 (idx-fi) qo;have hlen:ba (rs.take (idx-fi))=idx-fi:=by rw[aam];omega
 refine be qk 0 I (th (WC.loss 4 gR2 I hg2 (sq (bI [pt wb (eI db ob fi (.slice (ez aR cR 0 1) (idx-fi) (cR-0)) (.slice aO (ba old) cO) next code) 148,pt b3 #[.int .u64 (n:Nat),.int .u64 (idx:Nat)] 153] 10 [0,2,4,6,8,10,13,15,16,18,21] (by intro h hm;simp at hm;rcases hm with rfl|rfl;exact aaQ _ (aaT ..);simp) qk qk (dC qk 4 0 rfl qk rfl rfl (ja qk 0 1 rfl qk rfl qk (aG qk 0 rfl (lit 0 #[.int .u64 (n:Nat),.int .u64 (idx:Nat)] rfl SU qk fun b65=>?_))))))))
 have hA:∀ h∈[pt wb (eI db ob fi (.slice (ez aR cR 0 1) (idx-fi) (cR-0)) (.slice aO (ba old) cO) next code) 148,pt b3 #[.int .u64 (n:Nat),.int .u64 (idx:Nat)] 153],∀ x:PH,∀ t:List PH,h∈x::pt b3 #[.int .u64 (n:Nat),.int .u64 (idx:Nat)] 153::pt wb (eI db ob fi (.slice (ez aR cR 0 1) (idx-fi) (cR-0)) (.slice aO (ba old) cO) next code) 148::t:=by
  simp
 refine nb [pt wb (eI db ob fi (.slice (ez aR cR 0 1) (idx-fi) (cR-0)) (.slice aO (ba old) cO) next code) 148,pt b3 #[.int .u64 (n:Nat),.int .u64 (idx:Nat)] 153] (fun h hm=>hA h hm _ _) ST I (au ?_);refine jU 0 6 [.int .u64 (n:Nat),.int .u64 (idx:Nat)] (n,idx) I I I hO I I (by simp[Value.oneCell']) I SU (by show (ba old+1)*16<=_;omega) (by simp only[maxLen];omega) fun ao66 c66 g66 o66=>nb [pt wb (eI db ob fi (.slice (ez aR cR 0 1) (idx-fi) (cR-0)) (.slice aO (ba old) cO) next code) 148,pt b3 #[.int .u64 (n:Nat),.int .u64 (idx:Nat)] 153] (fun h hm=>hA h hm _ _) ST rfl (aG qk 2 rfl (stp 0 2 rfl rfl rfl rfl (di (.inl qk) (be qk 0 rfl (th (WC.drop (WC.drop (ac9 (au ?_)))))))));refine ay I I ⟨I,[_,_,_,_,_],I,⟨ob,ez aR cR 0 1,cR-0,ao66,c66,oH,rH,gR2,g66,?_,hop,?_,?_⟩,I⟩
 ·dsimp only;rw[hlen,aaf];rfl
 all_goals simp_all
def OX{rd:PH}{m:List PH}(wb db b8 b12:Nat)(W:Wl)(hW:eP K wb db W m)(hb:W.first+ba W.recs<=bP)(hr:ba W.recs<=1000000000000)(hol:ba W.old<=10000000000)(n idx:Nat)(hi:idx<=bP):
  aj w0 68 [.int .u64 (idx:Nat),SX b8,SX b12] K (m++(rd::pt b12 #[.int .u64 (n:Nat)] 37::pt b8 #[SX wb] 67::hs))
   (fun v K' hs'=>K'=K/\∃ m',hs'=m'++(rd::pt b12 #[.int .u64 (n:Nat)] 37::pt b8 #[SX wb] 67::hs)/\eP K wb db (W.follows n idx).1 m'/\v=.bool (W.follows n idx).2):=by
 obtain ⟨ob,aL,cL,aO,cO,oH,rH,gL,gO,rfl,hop,hL,hO⟩:=id hW;refine bH Tryz.func68 ?_;refine bd 1 (.agg #[.int .u64 (n:Nat),.int .u64 (idx:Nat)]) I (fun w=>by kernel_rfl) (cl 0 I (L9 wb db W hW hb hr hol n idx hi) ?_);rintro v9 K9 hs9 ⟨rfl,m',rfl,hW',rfl⟩;refine au ?_;exact ay I I ⟨I,m',I,hW',I⟩
def OW{rd b12:PH}{m:List PH}(wb db b8:Nat)(W:Wl)(hW:eP K wb db W m)(hr:ba W.recs<=1000000000000)(r:List UInt8)(ao:Option Addr)(k:Nat)(x:aH K ao (ba r) k 1 (bv r)):
  aj w0 70 [.slice ao (ba r) k,SX b8] K (m++(rd::b12::pt b8 #[SX wb] 67::hs))
   (fun v K' hs'=>K'=K/\∃ m',hs'=m'++(rd::b12::pt b8 #[SX wb] 67::hs)/\eP K wb db { W with recs:=W.recs++[r] } m'):=by
 obtain ⟨ob,aL,cL,aO,cO,oH,rH,gL,gO,rfl,hop,hL,hO⟩:=id hW;refine dj Tryz.func70 ?_;refine jH [0,7] 10 [0,2,4,6,8,10,13,15,16,18,21] ?_;refine au ?_;refine lit 0 #[.slice ao (ba r) k] I SU qk fun b9=>bp ST I (aG qk 0 I (jU 0 4 [.slice ao (ba r) k] r I I I hL ⟨ao,k,I,x⟩ I (by simp[Value.oneCell']) I SU (by show (ba W.recs+1)*24<=_;omega) (by simp only[maxLen];omega) fun ao10 c10 g10 o10=>bp ST rfl (aG qk 2 rfl (stp 0 1 rfl rfl rfl rfl (di (.inl qk) (be qk 0 rfl (WQ.drop ?_)))))));refine gW I ⟨I,[_,_,_,_,_],I,⟨ob,ao10,c10,aO,cO,oH,rH,g10,gO,?_,hop,?_,hO⟩⟩
 ·dsimp only;rw[aaf];rfl
 simp_all
end
section
def Bp{m:Int}{b:List UInt8}(h:(dw m (b,0)).2.2=0):ba (dw m (b,0)).2.1<ba b/\(ba (dw m (b,0)).1:Int)<=m.toNat:=by
 unfold dw at h ⊢;dsimp only at h ⊢
 by_cases h1:(aM m.toNat (b,0)).2.2=0
 ·rw[aab h1] at h ⊢;obtain ⟨g1,g2⟩:=ql h1
  grind [aU]
 rw[aaa h1] at h;exact absurd h h1
def rJ(f:Nat)(r:Rd):lp (f+1) r=if (dw 512 r).2.2=0 then (dw 512 r).1::lp f (dw 512 r).2 else []:=rfl
def ui{l:List Nat}{j n:Nat}(h:l[j]?=some n):(kT l)[j]?=some (.int .u64 (n:Nat)):=by simp[kT,h]
def Et(a b:List Nat):kT (a++b)=kT a++kT b:=by simp[kT]
def BH(a b:List Int):cZ (a++b)=cZ a++cZ b:=by simp[cZ]
def AX(a:List Int)(x:Int):jA (a++[x])=if x % 4=1 then x.toNat / 4+1 else jA a:=by
 grind [jA,cZ]
theorem rN(a:List Int):ba (cZ a)<=ba a:=by
 simp[act,cZ]
def Az(g:List Nat)(n:Nat)(r:List Nat)(D:Dk):wsettle g (n::r) D=if (gP D g n).2=0 then wsettle g r (gP D g n).1 else gP D g n:=rfl
def bf.set1{c:Nat}{D:Dk}(o:bf c D)(g:List Nat)(n:Nat):bf (c+1) (gP D g n).1:=by
 unfold gP
 split
 ·exact o.free _
 exact o.sync _
theorem bf.settle:∀ (l:List Nat) (g:List Nat) (D:Dk) (c:Nat),bf c D->bf (c+ba l) (wsettle g l D).1
 | [],g,D,c,o=>o.up qo
 | n::r,g,D,c,o=>by
  rw[Az]
  split
  ·exact (bf.settle r g _ _ (o.set1 g n)).up (by simp only[aaj];omega)
  exact (o.set1 g n).up (by simp only[aaj];omega)
def gg.up{rb:Nat}{hb hb':PH}{s:Rd}{h:PH}(l:Le hb hb')(r:gg rb hb s h):gg rb hb' s h:=let ⟨a,c,h1,h2⟩:=r;⟨a,c,h1,h2.le l⟩
def ON{dh:PH}{m:List PH}(wb db b8 b12:Nat)(W:Wl)(hW:eP K wb db W m)(hb:W.first+ba W.recs<=bP)(hr:ba W.recs<=900000000000)(hol:ba W.old<=10000000000)(D:Dk)(c:Nat)(oD:D.Ok c)(hc:c<=1000000000)(hd:da K db D dh)(n:Nat)(hn:n<=2305843009213693952):
  aj w0 67 [SX db,.int .u64 (n:Nat),.func (.func 68) #[] #[SX b8,SX b12],.func (.func 70) #[] #[SX b8]] K
   (m++(pt b12 #[.int .u64 (n:Nat)] 37::pt b8 #[SX wb] 67::dh::hs))
   (fun v K' hs'=>Le K K'/\∃ m',hs'=m'++(pt b12 #[.int .u64 (n:Nat)] 37::pt b8 #[SX wb] 67::dh::hs)/\eP K' wb db (lQ D n W).1 m'/\v=.tuple #[.bool (lQ D n W).2.1,.bool (lQ D n W).2.2]):=by
 obtain ⟨ob,aL,cL,aO,cO,oH,rH,gL,gO,rfl,hop,hL,hO⟩:=id hW;obtain ⟨X,hX⟩:=bC (gM D n);have hXl:=wG D n;rw[<-hX] at hXl
 have e0:lQ D n W=if (aM bP (X,0)).2.2≠0 then (W,true,true)
  else if (W.follows n (aM bP (X,0)).1).2=false then ((W.follows n (aM bP (X,0)).1).1,false,false)
  else ({ (W.follows n (aM bP (X,0)).1).1 with recs:=(W.follows n (aM bP (X,0)).1).1.recs++lp (ba X+1) (aM bP (X,0)).2 },true,false):=by rw[hX];rfl
 rw[e0];clear e0;refine bH Tryz.func67 ?_;refine cl 2 I (Ct.at 7 I (PW db D c oD hc hd n hn)) ?_;rintro v15 K15 hs15 ⟨dh,rfl,rfl,le,ao,k,rfl,xX⟩;rw[<-hX] at xX ⊢;refine cl 0 I (pH ao k X (.inl I) xX qo) ?_;rintro v16 K16 hs16 ⟨rfl,rb,rd,hbb,rfl,rfl,ir⟩;refine WL.perm (aaq _ _ _) (WL.frz fun K1 l1 l2=>?_)
 replace ir:=ir.up l2
 refine WL.perm (hs':=[_,_,_,_,_]++(rd::_::_::_::hs)) (aaI (l₁:=[_,_,_,_,_])).symm ?_;have le1:=le.trans l1;have hW1:eP K1 wb db W [pt wb (eI db ob W.first (.slice aL (ba W.recs) cL) (.slice aO (ba W.old) cO) W.next W.code) 148,oH,rH,gL,gO]:=hW.le le1;refine au ?_;refine cl 1 I (Ct.at 5 I (fU (.inl I) bP (X,0) ax ir)) ?_;rintro v18 K18 hs18 ⟨rd2,rfl,rfl,rfl,ir2⟩;obtain ⟨U,hU⟩:=bC (aM bP (X,0));have hUl:=(qm bP X 0).2;have hU0:U.2.2=0->U.1<=bP:=by rw[hU];exact fun h=>(ql h).2
 rw[<-hU] at ir2 hUl ⊢;refine au ?_;refine cl 1 I (Ct.keep 5 I (zn rb U.2 ir2)) ?_;rintro v20 K20 hs20 ⟨rfl,rfl,rfl⟩;refine af 0 I fun b21 h21=>fin 0 I (th (ah h21 I (fun e2=>?_) (fun e2=>?_)))
 ·rw[aab e2];refine ac9 (fin 2 I (adb (rT (WQ.del 5 I ?_))));exact bL I I I ⟨le1,[_,_,_,_,_],I,hW1,I⟩
 have e2:=Decidable.not_not.1 e2;have hUt:=hU0 e2;rw[aaa (by rw[e2];simp)];refine au ?_;refine cl 2 I (OX wb db b8 b12 W hW1 hb qo hol n U.1 hUt) ?_;rintro v24 K24 hs24 ⟨rfl,m2,rfl,hW2,rfl⟩;obtain ⟨V,hV⟩:=bC (W.follows n U.1)
 have hVr:ba V.1.recs<=ba W.recs:=by
  grind [Wl.follows]
 rw[<-hV] at hW2 ⊢;refine nP fun b24 h24=>eE 0 _ I (jc h24) fun b25 h25=>fin 0 I (th (ah h25 I (fun e3=>?_) (fun e3=>?_)))
 ·have e3:V.2=false:=by simp_all
  rw[aab e3];obtain ⟨ob2,aL2,cL2,aO2,cO2,oH2,rH2,gL2,gO2,rfl,_⟩:=id hW2;refine ac9 (fin 2 I (adb (rT (WQ.del 5 I ?_))));exact bL I I I ⟨le1,[_,_,_,_,_],I,hW2,I⟩
 have e3:V.2=true:=Decidable.not_not.1 e3;rw[aaa (by rw[e3];simp)];refine sk (th (bk ?_))
 refine loop (σ:=(Wl×Rd×Nat)×(List PH×PH)×PH) (fun _=>[(3,.func (.func 70) #[] #[SX b8]),(10,SX rb)]) (fun s=>s.2.2) (fun s=>s.2.1.1++(s.2.1.2::pt b12 #[.int .u64 (n:Nat)] 37::pt b8 #[SX wb] 67::dh::hs))
  (fun s=>{ s.1.1 with recs:=s.1.1.recs++lp s.1.2.2 s.1.2.1 }={ V.1 with recs:=V.1.recs++lp (ba X+1) U.2 }/\ba s.1.2.1.1<s.1.2.2/\s.1.2.1.2=0/\ba s.1.1.recs+ba s.1.2.1.1<=999000000000/\ba s.1.2.1.1<=4128831/\Le K s.2.2/\eP s.2.2 wb db s.1.1 s.2.1.1/\gg rb s.2.2 s.1.2.1 s.2.1.2) (fun s=>s.1.2.2)
  ((V.1,U.2,ba X+1),(m2,rd2),K24) ⟨rfl,ax,e2,ax,ax,le1,hW2,ir2⟩ sb rfl rfl ?_
 clear hW2 hVr;clear m2;rintro ⟨⟨Y,⟨rs,re⟩,f⟩,⟨m2,rd3⟩,K2⟩ ⟨hw,hlf,rfl,hbd,hrs,le2,hW2,ir3⟩;dsimp only at *;obtain ⟨f,rfl⟩:∃ g,f=g+1:=⟨f-1,qo⟩;rw[rJ] at hw;obtain ⟨G,hG⟩:=bC (dw 512 (rs,0));have hGd:G.2.2=0->ba G.2.1<ba rs:=by rw[hG];exact fun h=>(Bp h).1
 rw[<-hG] at hw;obtain ⟨ob2,aL2,cL2,aO2,cO2,oH2,rH2,gL2,gO2,rfl,hop2,hL2,hO2⟩:=id hW2;refine bk (ac9 (cl 1 I (Ct.atN 5 I (qC (.inl I) 512 SU (rs,0) ax ir3)) ?_));rintro v27 K27 hs27 ⟨rd4,_,rfl,rfl,hx,ao',c',rfl,rfl,ox,ir4⟩;rw[<-hG] at ox ir4 ⊢;refine WL.frz fun K3 l3 l4=>au ?_;refine cl 1 I (Ct.keep 5 I (zn rb G.2 (ir4.up l3))) ?_;rintro v29 K29 hs29 ⟨rfl,rfl,rfl⟩;refine af 0 I fun b30 h30=>fin 0 I (th (ah h30 I (fun e5=>?_) (fun e5=>?_)))
 ·rw[aaa e5,aaw] at hw;refine ac9 (fin 2 I (adb (rT (rB (rT (rB (WQ.del 5 I ?_)))))));rw[<-hw];exact bL I I I ⟨le2.trans l3,[_,_,_,_,_],I,hW2.le l3,I⟩
 have e5:=Decidable.not_not.1 e5;have hgd:=hGd e5;rw[aab e5] at hw;refine sk (ac8 ?_);have hW3:eP K29 wb db Y [pt wb (eI db ob2 Y.first (.slice aL2 (ba Y.recs) cL2) (.slice aO2 (ba Y.old) cO2) Y.next Y.code) 148,oH2,rH2,gL2,gO2]:=hW2.le l3;refine cl 2 I (OW wb db b8 Y hW3 qo G.1 ao' c' (ox.isS.le l4)) ?_;rintro v33 K33 hs33 ⟨rfl,m5,rfl,hW5⟩;refine fin 0 I (bl ?_);refine bc (x:=((Y,(rs,0),f+1),(m5,rd4),K33)) (({ Y with recs:=Y.recs++[G.1] },G.2,f),(m5,rd4),K33) sb I I ⟨by dsimp only;rw[aax];exact hw,ax,e5,by grind,ax,le2.trans l3,hW5,ir4.up l3⟩ ax
def LN{dh x:PH}{m:List PH}(wb db:Nat)(W:Wl)(hW:eP K wb db W m)(D:Dk)(c:Nat)(oD:bf c D)(hc:c<=1000000000)(hd:da K db D dh)(h0:W.next=0):
  aj w0 66 [SX wb] K (m++(x::dh::hs))
   (fun v K' hs'=>Le K K'/\∃ m',hs'=m'++(x::dh::hs)/\eP K' wb db { W with next:=jA (a8 D) } m'/\∃ ao k,v=.slice ao (ba (cZ (a8 D))) k/\aH K' ao (ba (cZ (a8 D))) k 1 (kT (cZ (a8 D)))):=by
 obtain ⟨ob,aL,cL,aO,cO,oH,rH,gL,gO,rfl,hop,hL,hO⟩:=hW;obtain ⟨op,first,recs,old,next,code⟩:=W;dsimp only at *;subst h0;have hbd:=tX oD;have hal:=tH oD;obtain ⟨l,hl⟩:=bC (a8 D);rw[<-hl] at hbd hal ⊢;refine bH Tryz.func66 ?_;refine cl 0 I (Ct.at 6 I (GA db D c oD qo hd)) ?_;rintro v10 K10 hs10 ⟨dh,rfl,rfl,le,ao,cc,rfl,xA⟩;rw[<-hl] at xA ⊢;refine fin 2 I (th (bk (WC.em ?_)))
 refine loop (σ:=Nat×(Option Addr×Nat×PH)) (fun s=>[(0,SX wb),(3,.slice s.2.1 (ba (cZ (l.take s.1))) s.2.2.1),(10,.slice ao (ba l) cc),(11,.int .i64 (ba l)),(12,.int .i64 s.1)]) (fun _=>K10)
  (fun s=>s.2.2.2::pt wb (eI db ob first (.slice aL (ba recs) cL) (.slice aO (ba old) cO) (jA (l.take s.1)) code) 148::oH::rH::gL::gO::x::dh::hs)
  (fun s=>s.1<=ba l/\aZ s.2.2.2 s.2.1 (ba (cZ (l.take s.1))) s.2.2.1 37 1 (kT (cZ (l.take s.1)))) (fun s=>ba l-s.1) (0,(none,0,em)) ⟨aag _,aZ.nil _ _⟩ ⟨rfl,rfl,rfl,rfl,rfl,trivial⟩ rfl rfl ?_
 rintro ⟨j,⟨an,cn,gn⟩⟩ ⟨hj,o⟩;dsimp only at *;refine ac9 (af 0 I fun b13 h13=>au ?_);refine ah h13 I (fun e2=>?_) (fun e2=>?_)
 ·have hjl:j<ba l:=qo
  obtain ⟨a,ha⟩:∃ a,l[j]?=some a:=⟨l[j],aae hjl⟩;have hab:=hbd a (aap ha);obtain ⟨n,rfl⟩:=abE hab.1;have htk:l.take (j+1)=l.take j++[((n:Nat):Int)]:=by rw[aaA,ha];rfl
  have hnl:=rN (l.take j);rw[aam] at hnl;refine au ?_;refine fe 0 j I I I xA (E5 ha) fun a14 hc14=>ld 0 I (.inl I) hc14 (au ?_);refine ar 1 I (kc .u64 n 4) (af 0 I fun b18 h18=>fin 0 I (th (ah h18 I (fun e4=>?_) (fun e4=>?_))))
  ·have en:cZ [((n:Nat):Int)]=[n / 4]:=by
    simp_all [cZ]
   have en1:cZ (l.take (j+1))=cZ (l.take j)++[n / 4]:=by rw[htk,BH,en]
   have en2:jA (l.take (j+1))=n / 4+1:=by rw[htk,AX,aab qo];rfl
   refine ac9 (ar 2 I (FB n 4 qo) (lit 0 #[.int .u64 (n / 4:Nat)] I SU qk fun b22=>app 0 1 I I o (.inr ⟨0,I⟩) (aZ.ofPt (n:=1) (size:=1) I SU).isS I SU (by simp[Value.oneCell']) (by grind) (by simp only[maxLen];omega) fun ao23 c23 g23 o23=>au ?_));refine ar 2 I (FB n 4 qo) (ar 0 I (cJ (x:=((n / 4+1:Nat):Int)) qo) (stp 2 2 I I I I (fin 0 I (ac7 (WL.drop (ar 0 I (ac (x:=((j+1:Nat):Int)) qo) (fin 1 I (bc (x:=(j,(an,cn,gn))) (j+1,(ao23,c23,g23)) ⟨I,?_,I,I,I,trivial⟩ I ?_ ⟨ax,?_⟩ qo))))))))
   ·dsimp only;rw[en1,aaf];rfl
   ·dsimp only;rw[en2];rfl
   dsimp only;rw[en1,aaf,Et];exact o23
  have en:cZ [((n:Nat):Int)]=[]:=by
   simp_all [cZ]
  have en1:cZ (l.take (j+1))=cZ (l.take j):=by rw[htk,BH,en,aaw]
  have en2:jA (l.take (j+1))=jA (l.take j):=by rw[htk,AX,aaa qo]
  refine sk (ac7 (ar 0 I (ac (x:=((j+1:Nat):Int)) qo) (fin 1 I ?_)));refine bc (x:=(j,(an,cn,gn))) (j+1,(an,cn,gn)) ⟨I,by dsimp only;rw[en1];rfl,rfl,rfl,rfl,trivial⟩ rfl (by dsimp only;rw[en2]) ⟨ax,by dsimp only;rw[en1];exact o⟩ qo
 obtain rfl:j=ba l:=qo
 rw[aav] at o ⊢;refine ex (xt (xt (xb (ac6 (fin 2 I (adb (WQ.frz fun K2 l1 l2=>?_)))))));exact ay I I ⟨le.trans l1,[_,_,_,_,_],I,⟨ob,aL,cL,aO,cO,oH,rH,gL,gO,I,hop,hL.imp fun _ _ h=>h.le (le.trans l1),hO⟩,an,cn,I,o.isS.le l2⟩
def Kw(ao:Option Addr)(k:Nat)(l:List Nat)(x:aH K ao (ba l) k 1 (kT l))(hl:ba l<=1099511627776)(n:Nat):
  aj w0 130 [.slice ao (ba l) k,.int .u64 (n:Nat)] K hs (fun v K' hs'=>K'=K/\hs'=hs/\∃ t:Bool,v=.bool t/\(t=true↔n∈l)):=by
 have hidx:aj w0 165 [.slice ao (ba l) k,.int .u64 (n:Nat)] K hs (fun v K' hs'=>K'=K/\hs'=hs/\∃ i:Int,v=.int .i64 i/\(0<=i↔n∈l)):=by
  refine bH Tryz.func165 ?_;refine loop (σ:=Nat) (fun j=>[(0,.slice ao (ba l) k),(1,.int .u64 (n:Nat)),(7,.int .i64 (ba l)),(8,.int .i64 (j:Nat))]) (fun _=>K) (fun _=>hs) (fun j=>j<=ba l/\n∉l.take j) (fun j=>ba l-j) 0 ⟨aag _,ST⟩ ⟨I,I,I,I,trivial⟩ I I ?_;rintro j ⟨hj,hno⟩;refine ac9 (aX 0 I (fun e2=>?_) (fun e2=>?_))
  ·refine au ?_;have hjl:j<ba l:=qo
   obtain ⟨a,ha⟩:∃ a,l[j]?=some a:=⟨l[j],aae hjl⟩;refine au ?_;refine fe 3 j I I I x (ui ha) fun a14 hc14=>ld 0 I (.inl I) hc14 (af 0 I fun b16 h16=>fin 0 I (th (ah h16 I (fun e4=>?_) (fun e4=>?_))))
   ·refine au ?_;refine ay I I ⟨I,I,((j:Nat):Int),I,fun _=>?_,fun _=>by omega⟩
    grind [List.mem_of_getElem?]
   refine sk (ac7 (ar 0 I (ac (x:=((j+1:Nat):Int)) qo) (fin 1 I (bc (x:=j) (j+1) sb I I ⟨qo,?_⟩ qo))));rw[aaA,ha]
   grind
  refine au ?_;rw[aar qo] at hno;refine au ?_;exact ay I I ⟨I,I,-1,I,fun h=>absurd h SU,fun h=>absurd h hno⟩
 refine bH Tryz.func130 ?_;refine cl 2 I hidx ?_;rintro v7 K7 hs7 ⟨rfl,rfl,i,rfl,hi⟩;refine af 0 I fun b8 h8=>au ?_;exact ay I I ⟨I,I,b8,I,h8.trans hi⟩
def Nc{dh x:PH}{m:List PH}(wb db:Nat)(W:Wl)(hW:eP K wb db W m)(D:Dk)(c:Nat)(oD:bf c D)(hc:c<=499000000)(hd:da K db D dh)(l g:List Nat)(al:Option Addr)(kl:Nat)(xl:aH K al (ba l) kl 1 (kT l))(ag:Option Addr)(kg:Nat)(xg:aH K ag (ba g) kg 1 (kT g))(hll:ba l<=c)(hgl:ba g<=c)(hbd:∀ n∈l,n<=2305843009213693952):
  aj w0 71 [SX wb,.slice al (ba l) kl,.slice ag (ba g) kg] K (m++(x::dh::hs))
   (fun v K' hs'=>K'=K/\∃ dh',hs'=m++(x::dh'::hs)/\da K db (wsettle g l D).1 dh'/\v=.int .i64 (wsettle g l D).2):=by
 obtain ⟨ob,aL,cL,aO,cO,oH,rH,gL,gO,rfl,hop,hL,hO⟩:=hW;obtain ⟨R,hR⟩:=bC (wsettle g l D);rw[<-hR];obtain ⟨S,hS⟩:=bC (eI db ob W.first (.slice aL (ba W.recs) cL) (.slice aO (ba W.old) cO) W.next W.code)
 have hS1:S[1]?=some (SX db):=by rw[hS];rfl
 rw[<-hS];refine bH Tryz.func71 ?_
 refine loop (σ:=Nat×Dk×PH) (fun s=>[(0,SX wb),(2,.slice ag (ba g) kg),(10,.slice al (ba l) kl),(11,.int .i64 (ba l)),(12,.int .i64 s.1)]) (fun _=>K)
  (fun s=>pt wb S 148::oH::rH::gL::gO::x::s.2.2::hs)
  (fun s=>s.1<=ba l/\wsettle g (l.drop s.1) s.2.1=R/\bf (c+s.1) s.2.1/\da K db s.2.1 s.2.2) (fun s=>ba l-s.1) (0,D,dh) ⟨aag _,hR.symm,oD,hd⟩ ⟨rfl,rfl,rfl,rfl,rfl,trivial⟩ rfl rfl ?_
 rintro ⟨j,E,eh⟩ ⟨hj,hw,oE,hE⟩;dsimp only at *;refine ac9 (aX 0 I (fun e2=>?_) (fun e2=>?_))
 ·refine au ?_;have hjl:j<ba l:=qo
  obtain ⟨n,ha⟩:∃ a,l[j]?=some a:=⟨l[j],aae hjl⟩;have hnb:=hbd n (aap ha);rw[aaF hjl,show l[j]=n from by simp_all,Az] at hw;refine au ?_;refine fe 0 j I I I xl (ui ha) fun a14 hc14=>ld 0 I (.inl I) hc14 (fin 1 I (ac6 (fin 1 I (th ?_))))
  refine jn (σ:=PH) (fun _=>[(0,SX wb),(2,.slice ag (ba g) kg),(9,.int .i64 (gP E g n).2),(10,.slice al (ba l) kl),(11,.int .i64 (ba l)),(12,.int .i64 (j:Nat))])
   (fun s=>pt wb S 148::oH::rH::gL::gO::x::s::hs) (fun s=>da K db (gP E g n).1 s) ?_ ?_
  ·refine ac9 (cl 2 I (Kw ag kg g xg qo n) ?_);rintro v18 K18 hs18 ⟨rfl,rfl,t18,rfl,h18⟩;refine fin 0 I (th (ah h18 I (fun e3=>?_) (fun e3=>?_)))
   ·have e:gP E g n=E.free (aJ n):=by unfold gP;rw[aab e3]
    rw[e];refine bI [pt wb S 148] 8 [0,2,4,6,8,11,13,14] ST qk qk (dF qk 3 0 I I hS1 (au ?_));refine cl 0 I (qP n hnb) ?_;rintro v24 K24 hs24 ⟨rfl,rfl,rfl⟩;refine bp ST I (aG qk 0 I (cl 0 I (Ct.at 6 I (uX db E _ oE.ok qo hE (aJ n))) ?_));rintro v25 K25 hs25 ⟨eh2,rfl,rfl,hE2,rfl⟩;exact bp ST I (be qk 1 I (jx eh2 hE2 sb I I))
   have e:gP E g n=E.sync (aJ n):=by unfold gP;rw[aaa e3]
   rw[e];refine bI [pt wb S 148] 8 [0,2,4,6,8,11,13,14] ST qk qk (dF qk 3 0 I I hS1 (au ?_));refine cl 0 I (qP n hnb) ?_;rintro v24 K24 hs24 ⟨rfl,rfl,rfl⟩;refine bp ST I (aG qk 0 I (cl 0 I (Ct.at 6 I (uS db E _ oE.ok qo hE (aJ n))) ?_));rintro v25 K25 hs25 ⟨eh2,rfl,rfl,hE2,rfl⟩;exact bp ST I (be qk 1 I (jx eh2 hE2 sb I I))
  rintro eh2 hE2;refine ac9 (af 1 I fun b34 h34=>fin 0 I (th (ah h34 I (fun e5=>?_) (fun e5=>?_))))
  ·rw[aaa e5] at hw;refine au ?_;rw[<-hw];exact ay I I ⟨I,eh2,I,hE2,I⟩
  rw[aab (Decidable.not_not.1 e5)] at hw;exact sk (ac7 (ar 0 I (ac (x:=((j+1:Nat):Int)) qo) (fin 1 I (bc (x:=(j,E,eh)) (j+1,(gP E g n).1,eh2) sb I I ⟨ax,hw,(oE.set1 g n).up qo,hE2⟩ ax))))
 refine au ?_;obtain rfl:j=ba l:=qo
 rw[aaS] at hw;have hw:(E,(0:Int))=R:=hw;rw[<-hw];refine au ?_;exact ay I I ⟨I,eh,I,hE,I⟩
end
section
theorem D4(D:Dk)(num:Nat):∀ (f n:Nat),∃ m,ba (ni D num f n)<=63*m/\∀ i,i<m->(((n+i:Nat):Int))∈(D.ar (aJ num)).map (·.1)
 | 0,n=>⟨0,by simp[ni],fun i h=>by omega⟩
 | f+1,n=>by
  obtain ⟨m,h1,h2⟩:=D4 D num f (n+1);rw[tZ];cases hr:D.read (aJ num) n with
  | none=>exact ⟨0,ST,fun i h=>by omega⟩
  | some s=>
   refine ⟨m+1,?_,fun i hi=>?_⟩
   ·have:jB s<=63:=by unfold jB;omega
    dsimp only;rw[aaf,aam]
    grind
   by_cases e:i=0
   ·subst e;unfold Dk.read Dk.sec at hr;cases hg:aK ((n:Nat):Int) (D.ar (aJ num)) with
    | none=>rw[hg] at hr;cases hr
    | some x=>exact aak.2 ⟨_,iY hg,rfl⟩
   have:=h2 (i-1) qo
   grind
def KK{c:Nat}{D:Dk}(o:D.Ok c)(num:Nat):ba (gM D num)<=63*ba (D.ar (aJ num)):=by
 obtain ⟨m,h1,h2⟩:=D4 D num 65537 0
 have hm:m<=ba (D.ar (aJ num)):=by
  have hnd:((List.range m).map fun i=>((i:Nat):Int)).Nodup:=by
   rw[abJ,abp];exact (abJ.1 List.nodup_range).imp fun h e=>h qo
  have:=hnd.length_le_of_subset (l₂:=(D.ar (aJ num)).map (·.1)) (fun x hx=>by
   grind)
  simpa using this
 grind [gM]
def mn(m:List (Int×Ar))(ks:List Int):Nat:=(ks.map fun k=>ba ((aK k m).getD [])).sum
theorem BQ(k0:Int)(u:Ar)(m:List (Int×Ar)):∀ ks:List Int,ks.Nodup->mn ((k0,u)::m) ks<=(if k0∈ks then ba u else 0)+mn m ks
 | [],_=>by simp[mn]
 | k::ks,h=>by
  simp only[abk] at h;have ih:=BQ k0 u m ks h.2;have e0:∀ mm,mn mm (k::ks)=ba ((aK k mm).getD [])+mn mm ks:=fun mm=>rfl;have e1:aK k ((k0,u)::m)=if k=k0 then some u else aK k m:=rfl
  grind
theorem EH:∀ (m:List (Int×Ar)) (ks:List Int),ks.Nodup->mn m ks<=fD m
 | [],ks,_=>by
  have:∀ ks:List Int,mn [] ks=0:=fun ks=>by
   induction ks with
   | nil=>rfl
   | cons k ks ih=>
    have e0:mn [] (k::ks)=0+mn [] ks:=rfl;rw[e0,ih]
  rw[this];omega
 | (k0,u)::m,ks,h=>by
  have h1:=BQ k0 u m ks h;have h2:=EH m ks h;have h3:fD ((k0,u)::m)=ba u+fD m:=by simp[fD]
  rw[h3]
  split at h1 <;> omega
def mi(D:Dk)(l:List Nat):Nat:=(l.map fun n=>ba (D.ar (aJ n))).sum
def JN(D:Dk)(l:List Nat):mi D l=mn D.areas (l.map aJ):=by
 unfold mi mn;rw[aa5]
 rfl
theorem pr{a b:Nat}(h:aJ a=aJ b):a=b:=by unfold aJ at h;omega
theorem BP{D:Dk}{l:List Nat}(h:l.Nodup):mi D l<=fD D.areas:=by
 rw[JN];refine EH _ _ ?_;rw[abJ,abp];exact (abJ.1 h).imp fun h e=>h (pr e)
def IW(D:Dk)(a b:List Nat):mi D (a++b)=mi D a+mi D b:=by simp[mi]
def AK{c:Nat}{D:Dk}(o:D.Ok c):(a8 D).Nodup:=(fb _).symm.nodup o.keys
def rF{l:List Int}(h:l.Nodup)(h0:∀ k∈l,0<=k):(cZ l).Nodup:=by
 unfold cZ;rw[abJ,abp];have h1:=(abJ.1 h).filter (fun a=>decide (a % 4=1));refine acI ?_ h1
 grind
theorem BF{l:List Int}{n:Nat}(h:n∈cZ l):∃ a∈l,a % 4=1/\a.toNat / 4=n:=by
 unfold cZ at h
 grind
theorem E0:∀ (l:List Nat) (z:Nat),l.Pairwise (· <= ·)->(∀ n∈l,n<l.foldl (fun _ n=>n+1) z)/\∀ y,(∀ n∈l,y<=n)->y<z->y<l.foldl (fun _ n=>n+1) z
 | [],z,_=>⟨fun n h=>by simp at h,fun y _ h=>h⟩
 | a::t,z,h=>by
  have h1:=aaE.1 h;obtain ⟨g1,g2⟩:=E0 t (a+1) h1.2
  grind
def wX{l:List Int}(h:l.Pairwise (· <= ·)):∀ n∈cZ l,n<jA l:=by
 refine (E0 (cZ l) 0 ?_).1;unfold cZ;rw[abp];refine (h.filter _).imp fun {a b} hab=>?_;omega
structure jZ (D:Dk) (mx:Nat) (don:List Nat) (W:Wl):Prop where
 op:W.op=none
 code:W.code=0
 next:W.next=mx
 recs:ba W.recs<=63*mi D don
 last:W.first+ba W.recs<=bP
 old:ba W.old<=ba don
 olds:∀ s∈W.old,s.1∈don/\s.2<=bP
 recl:∀ r∈W.recs,ba r<=512
def Ip(W:Wl)(n idx:Nat):ba (W.follows n idx).1.recs<=ba W.recs/\(∀ r∈(W.follows n idx).1.recs,r∈W.recs)/\(W.follows n idx).1.op=W.op/\(W.follows n idx).1.code=W.code/\(W.follows n idx).1.next=W.next /\
  ba (W.follows n idx).1.old<=ba W.old+1/\∀ s∈(W.follows n idx).1.old,s∈W.old\/s=(n,idx):=by
 unfold Wl.follows
 grind
theorem wH:∀ (f:Nat) (r:Rd),r.2=0->ba (lp f r)<=ba r.1/\∀ x∈lp f r,ba x<=512
 | 0,r,_=>⟨by simp[lp],by simp[lp]⟩
 | f+1,(b,e),he=>by
  have he:e=0:=he;subst he;rw[rJ]
  split
  ·rename_i h;obtain ⟨g1,g2⟩:=Bp h;obtain ⟨g3,g4⟩:=wH f (dw 512 (b,0)).2 h
   grind
  simp
def jZ.step{c:Nat}{D:Dk}(o:D.Ok c){mx fr n:Nat}{don:List Nat}{W:Wl}(h:jZ D mx don W)(hchk:(fT D fr n W).1.first+ba (fT D fr n W).1.recs<=bP):jZ D mx (don++[n]) (fT D fr n W).1:=by
 have hsum:=IW D don [n];have hs1:mi D [n]=ba (D.ar (aJ n)):=by simp[mi]
 have keep:jZ D mx (don++[n]) W:=⟨h.op,h.code,h.next,by have:=h.recs;omega,h.last,by have:=h.old;simp;omega,fun s hs=>⟨by simp[(h.olds s hs).1],(h.olds s hs).2⟩,h.recl⟩;unfold fT at hchk ⊢
 split
 ·exact keep
 rename_i hfr;rw[aaa hfr] at hchk;have hx:=KK o n;unfold lQ at hchk ⊢
 split
 ·exact keep
 rename_i h1;rw[aaa h1] at hchk;have h1:=Decidable.not_not.1 h1;have hU:=(ql h1).2;have hUl:=(qm bP (gM D n) 0).2;obtain ⟨f1,f2,f3,f4,f5,f6,f7⟩:=Ip W n (aM bP (gM D n,0)).1
 have holds:∀ s∈(W.follows n (aM bP (gM D n,0)).1).1.old,s.1∈don++[n]/\s.2<=bP:=fun s hs=>by
  rcases f7 s hs with g|rfl
  ·exact ⟨by simp[(h.olds s g).1],(h.olds s g).2⟩
  exact ⟨ST,hU⟩
 split
 ·rename_i h2;rw[aab h2] at hchk;exact ⟨f3.trans h.op,f4.trans h.code,f5.trans h.next,by have:=h.recs;dsimp only;omega,hchk,by have:=h.old;grind,holds,fun r hr=>h.recl r (f2 r hr)⟩
 rename_i h2;rw[aaa h2] at hchk;obtain ⟨g1,g2⟩:=wH (ba (gM D n)+1) (aM bP (gM D n,0)).2 h1;refine ⟨f3.trans h.op,f4.trans h.code,f5.trans h.next,?_,hchk,?_,holds,?_⟩
 ·have:=h.recs
  grind
 ·have:=h.old;grind
 intro r hr;rcases aal.1 hr with hr|hr
 ·exact h.recl r<|f2 r hr
 exact g2 r hr
theorem jZ.scan{c:Nat}{D:Dk}(o:D.Ok c){mx fr:Nat}:∀ (l don:List Nat) (W:Wl) (g:List Nat),jZ D mx don W->(i4 D fr l W g).2.2=true->jZ D mx (don++l) (i4 D fr l W g).1
 | [],don,W,g,h,_=>by simpa[i4] using h
 | n::r,don,W,g,h,hok=>by
  unfold i4 at hok ⊢
  split
  ·simp_all
  rename_i h1;rw[aaa h1] at hok;have hs:=jZ.step o h (fr:=fr) (n:=n) qo;have:=jZ.scan o r (don++[n]) _ _ hs hok
  rwa [aax] at this
def dB.opened{c:Nat}{D:Dk}(o:bf c D){fr first:Nat}{W:Wl}{E:Dk}(h:eF D fr first=(some W,E,0)):dB c W/\W.op=none/\W.code=0/\ba W.old<=c:=by
 unfold eF at h
 split at h
 ·cases h
 split at h
 ·cases h
 rename_i h1
 split at h
 ·cases h
 rename_i h2
 split at h
 ·cases h
 rename_i h3
 split at h
 ·cases h
 simp only[aai,aad] at h;obtain ⟨rfl,_⟩:=h
 have h3:(i4 D fr (cZ (a8 D)) (eM fr first (a8 D)) []).2.2=true:=by
  simp_all
 have h0:jZ D (eM fr first (a8 D)).next [] (eM fr first (a8 D)):=⟨rfl,rfl,rfl,by simp[eM],by simp[eM];omega,by simp[eM],by simp[eM],by simp[eM]⟩;have hS:=jZ.scan o.ok _ _ _ _ h0 h3;rw[aaL] at hS;have hnd:=rF (AK o.ok) (fun k hk=>(tX o k hk).1);have hsum:=BP (D:=D) hnd;have hcap:=o.cap;have hroom:=o.ok.room;have hlen:=tH o;have hnl:=rN (a8 D);have hol:=hS.old;have hre:=hS.recs;have hnx:=hS.next;refine ⟨⟨hS.last,qo,qo,qo,fun q hq=>(by rw[hS.op] at hq;cases hq),fun q hq=>(by rw[hS.op] at hq;cases hq),fun s hs=>?_,hS.recl⟩,hS.op,hS.code,qo⟩;obtain ⟨g1,g2⟩:=hS.olds s hs;have:=wX (l:=a8 D) (qj _) s.1 g1
 grind [eM]
def bf.opened{c:Nat}{D:Dk}(o:bf c D)(fr first:Nat):bf (c+ba D.areas) (eF D fr first).2.1:=by
 have hs:=bf.settle (cZ (a8 D)) (i4 D fr (cZ (a8 D)) (eM fr first (a8 D)) []).2.1 D c o;have hlen:ba (a8 D)=ba D.areas:=by unfold a8;rw[(fb _).length_eq,aaP]
 have hnl:=rN (a8 D);have hs:=hs.up (d:=c+ba D.areas) qo;unfold eF
 split
 ·exact o.up qo
 split
 ·exact o.up qo
 split
 ·exact o.up qo
 split
 ·exact o.up qo
 grind
end
section
def IP(D:Dk)(fr n:Nat)(r:List Nat)(W:Wl)(g:List Nat):i4 D fr (n::r) W g =
  if (fT D fr n W).2.1=false\/bP<(fT D fr n W).1.first+ba (fT D fr n W).1.recs then ((fT D fr n W).1,if (fT D fr n W).2.2 then g++[n] else g,false)
  else i4 D fr r (fT D fr n W).1 (if (fT D fr n W).2.2 then g++[n] else g):=rfl
def KL{D:Dk}{fr n:Nat}{W:Wl}(h:W.first<=bP):(fT D fr n W).1.first<=bP/\ba (fT D fr n W).1.recs<=ba W.recs+4128831:=by
 unfold fT
 split
 ·exact ⟨h,acX _ _⟩
 unfold lQ
 split
 ·exact ⟨h,acX _ _⟩
 rename_i h1;have h1:=Decidable.not_not.1 h1;have hU:=(ql h1).2
 grind [wG,wH,aM,Wl.follows]
def OS{dh:PH}(db:Nat)(D:Dk)(c:Nat)(oD:bf c D)(hc:c<=400000000)(hd:da K db D dh)(fr first:Nat)(hfr:fr<18446744073709551616)(hfi:first<18446744073709551616):
  aj w0 26 [SX db,.int .u64 (fr:Nat),.int .u64 (first:Nat)] K (dh::hs)
   (fun v K' hs'=>Le K K'/\∃ m' dh',hs'=m'++(dh'::hs)/\da K' db (eF D fr first).2.1 dh'/\match (eF D fr first).1 with
    | none=>m'=[]/\v=.tuple #[.pointer none,.int .i64 (eF D fr first).2.2]
    | some W=>∃ wb,eP K' wb db W m'/\v=.tuple #[.pointer (some ⟨wb,0,none⟩),.int .i64 (eF D fr first).2.2]):=by
 have hbd:=tX oD;have hal:=tH oD;have hnl:=rN (a8 D);have hsrt:(a8 D).Pairwise (· <= ·):=qj _;have hlt:=wX hsrt;have hnd:=rF (AK oD.ok) (fun k hk=>(hbd k hk).1);have htot:=oD.cap;have hroom:=oD.ok.room
 have hn0:∀ n∈cZ (a8 D),n<18446744073709551616:=fun n hn=>by
  obtain ⟨a,ha,_,rfl⟩:=BF hn;have:=hbd a ha;omega
 have hnx0:jA (a8 D)<18446744073709551617:=by
  unfold jA;rcases List.eq_nil_or_concat (cZ (a8 D)) with h|⟨l',b,h⟩
  all_goals grind
 obtain ⟨R,hR⟩:=bC (eF D fr first)
 rw[<-hR];refine bH Tryz.func26 ?_;refine cl 1 I (G2 db D hd) ?_;rintro v17 K17 hs17 ⟨rfl,rfl,rfl⟩;unfold eF at hR;cases hdead:D.dead with
 | true=>
  rw[aab hdead] at hR;refine au ?_;rw[hR];exact bL I I I ⟨Le.refl _,[],dh,I,hd,I,I⟩
 | false=>
  rw[aaa (by rw[hdead];simp)] at hR;refine au ?_;refine af 1 I fun b19 h19=>fin 0 I (th (ah h19 I (fun e3=>?_) (fun e3=>?_)))
  ·rw[aab (by unfold bP;omega)] at hR;refine au ?_;rw[hR];exact bL I I I ⟨Le.refl _,[],dh,I,hd,I,I⟩
  have hft:first<=bP:=by unfold bP;omega
  rw[aaa qo] at hR;refine sk (th (WC.em (WC.perm (aaq _ _ _) (WC.em (WC.em (WC.em (WC.em (ac9 (bd 2 (.agg (eI db none first (.slice none 0 0) (.slice none 0 0) 0 0)) I (fun w=>by kernel_rfl) (bx 0 I fun wb=>al 0 (.pointer none) I qk fun b8=>stp 0 0 I I I I ?_))))))))));refine WL.perm (hs':=[_,_,_,_,_]++(_::dh::em::hs)) (aaI (l₁:=[_,_,_,_,_])).symm ?_
  have hW0:eP K17 wb db ⟨none,first,[],[],0,0⟩ [pt wb (eI db none first (.slice none 0 0) (.slice none 0 0) 0 0) 148,em,em,em,em]:=
   ⟨none,none,0,none,0,em,em,em,em,rfl,⟨rfl,rfl,rfl⟩,bN.nil _ _,bN.nil _ _⟩
  refine au ?_;refine cl 0 I (LN wb db _ hW0 D c oD qo hd I) ?_;rintro v25 K25 hs25 ⟨le,m2,rfl,hW2,an,kn,rfl,xN⟩;obtain ⟨l,hl⟩:=bC (cZ (a8 D));rw[<-hl] at xN hlt hnd hnl hR hn0 ⊢;obtain ⟨ob,aL,cL,aO,cO,oH,rH,gL,gO,rfl,hop,hL,hO⟩:=hW2;dsimp only at hop hL hO;refine WL.h 0 (pt wb (eI db ob first (.slice aL 0 cL) (.slice aO 0 cO) (jA (a8 D)) 0) 148) ?_;refine WL.h 5 (pt b8 #[SX wb] 67) ?_;refine au ?_;refine jH [5,0] 9 [0,2,4,6,8,10,12,14,16,19] ?_;refine au ?_;obtain ⟨mx,hmx⟩:=bC (max (jA (a8 D)) fr);have hmx2:(if ((fr:Nat):Int)>((jA (a8 D):Nat):Int) then ((fr:Nat):Int) else ((jA (a8 D):Nat):Int))=((mx:Nat):Int):=qo
  have hmx3:(eM fr first (a8 D)).next=mx:=hmx.symm;have hW0:eM fr first (a8 D)=⟨none,first,[],[],mx,0⟩:=by rw[hmx];rfl
  rw[hmx2];refine au ?_;refine af 0 I fun b39 h39=>fin 0 I (th (ah h39 I (fun e5=>?_) (fun e5=>?_)))
  ·rw[aab (by rw[hmx3];unfold eV;omega)] at hR;refine ac9 (fin 2 I (adb (rT (WQ.del 0 I (WQ.del 0 I (WQ.del 0 I (WQ.del 0 I (WQ.del 0 I (WQ.del 0 I (WQ.del 1 I ?_))))))))));rw[hR];exact bL I I I ⟨le,[],dh,I,hd.le le,I,I⟩
  have hmxt:mx<=1152921504606846976:=qo
  rw[aaa (by rw[hmx3];unfold eV;omega)] at hR;have hlm:∀ n∈l,n<=2305843009213693952:=fun n hn=>by have:=hlt n hn;omega
  have hsum:∀ j,mi D (l.take j)<=1073741824:=fun j=>by
   grind [BP]
  have hS0:jZ D mx [] ⟨none,first,[],[],mx,0⟩:=⟨rfl,rfl,rfl,ST,qo,ST,ST,ST⟩;rw[hW0] at hR;obtain ⟨Z,hZ⟩:=bC (i4 D fr l ⟨none,first,[],[],mx,0⟩ []);rw[<-hZ] at hR
  have hW1:eP K25 wb db ⟨none,first,[],[],mx,0⟩ [pt wb (eI db ob first (.slice aL 0 cL) (.slice aO 0 cO) mx 0) 148,oH,rH,gL,gO]:=
   ⟨ob,aL,cL,aO,cO,oH,rH,gL,gO,rfl,hop,hL,hO⟩
  refine au ?_
  refine loop (σ:=(Nat×Wl×List Nat)×(List PH×(Option Addr×Nat×PH))×PH) (fun s=>[(0,SX db),(1,.int .u64 (fr:Nat)),(8,SX b8),(9,.slice an (ba l) kn),(10,.slice s.2.1.2.1 (ba s.1.2.2) s.2.1.2.2.1),(40,.slice an (ba l) kn),(41,.int .i64 (ba l)),(42,.int .i64 s.1.1)]) (fun s=>s.2.2)
   (fun s=>s.2.1.1++(pt b8 #[SX wb] 67::dh::s.2.1.2.2.2::hs))
   (fun s=>s.1.1<=ba l/\i4 D fr (l.drop s.1.1) s.1.2.1 s.1.2.2=Z/\jZ D mx (l.take s.1.1) s.1.2.1/\ba s.1.2.2<=s.1.1/\Le K25 s.2.2/\eP s.2.2 wb db s.1.2.1 s.2.1.1/\aZ s.2.1.2.2.2 s.2.1.2.1 (ba s.1.2.2) s.2.1.2.2.1 37 1 (kT s.1.2.2)) (fun s=>ba l-s.1.1)
   ((0,⟨none,first,[],[],mx,0⟩,[]),([_,_,_,_,_],(none,0,em)),K25) ⟨aag _,hZ.symm,hS0,aac _,Le.refl _,hW1,aZ.nil _ _⟩ ⟨rfl,rfl,rfl,rfl,rfl,rfl,rfl,rfl,trivial⟩ rfl rfl ?_
  clear hS0 hW0 hW1 hop hL hO;clear oH rH gL gO;rintro ⟨⟨j,W,g⟩,⟨m,⟨ag,cg,gh⟩⟩,K1⟩ ⟨hj,hw,hS,hgl,le1,hW,og⟩;dsimp only at *;obtain ⟨ob,aL,cL,aO,cO,oH,rH,gL,gO,rfl,hop,hL,hO⟩:=id hW;have hsj:=hsum j;have hr:=hS.recs;have ho:=hS.old;have hla:=hS.last;rw[aam] at ho;refine ac9 (af 0 I fun b43 h43=>au ?_);refine ah h43 I (fun e7=>?_) (fun e7=>?_)
  ·have hjl:j<ba l:=qo
   obtain ⟨n,ha⟩:∃ a,l[j]?=some a:=⟨l[j],aae hjl⟩;have hnb:=hlm n (aap ha);have htk:l.take (j+1)=l.take j++[n]:=by rw[aaA,ha];rfl
   rw[aaF hjl,show l[j]=n from by simp_all,IP] at hw;obtain ⟨V,hV⟩:=bC (fT D fr n W);have hVb:=KL (D:=D) (fr:=fr) (n:=n) (W:=W) qo;have hVs:=jZ.step oD.ok hS (fr:=fr) (n:=n);rw[<-hV] at hw hVb hVs;refine au ?_;refine fe 0 j I I I (xN.le le1) (ui ha) fun a44 hc44=>ld 0 I (.inl I) hc44 (al 0 (.int .u64 0) I qk fun b12=>stp 0 0 I I I I (WL.hs (pt b12 #[.int .u64 (n:Nat)] 37::_) I (au ?_)));refine jH [0] 5 [0,2,4,6,8] ?_;refine au ?_;refine gE qk 1 (n<fr) I ST fun b48 h48=>be qk 2 I (th ?_);refine WC.perm (hs':=[_,_,_,_,_]++(pt b12 #[.int .u64 (n:Nat)] 37::pt b8 #[SX wb] 67::dh::gh::hs)) (aaI (l₁:=[_,_,_,_,_])).symm ?_
   refine ti (σ:=List PH×PH) (fun _=>[(0,SX db),(1,.int .u64 (fr:Nat)),(8,SX b8),(9,.slice an (ba l) kn),(10,.slice ag (ba g) cg),(12,SX b12),(13,.bool V.2.1),(14,.bool V.2.2),(40,.slice an (ba l) kn),(41,.int .i64 (ba l)),(42,.int .i64 (j:Nat))]) (fun s=>s.2)
    (fun s=>s.1++(pt b12 #[.int .u64 (n:Nat)] 37::pt b8 #[SX wb] 67::dh::gh::hs)) (fun s=>Le K1 s.2/\eP s.2 wb db V.1 s.1) ?_ ?_
   ·refine ac9 (eE 1 _ I (jc h48) fun b50 h50=>fin 0 I<|th (ah h50 I (fun e8=>?_) (fun e8=>?_)))
    ·have hVr:V=lQ D n W:=by rw[hV];unfold fT;rw[aaa e8]
     refine au ?_;refine cl 2 I (ON wb db b8 b12 W hW hla qo qo D c oD.ok qo (hd.le (le.trans le1)) n hnb) ?_;rintro v56 K56 hs56 ⟨le2,m5,rfl,hW5,rfl⟩;rw[<-hVr] at hW5 ⊢;exact fin 5 I (mt (m5,K56) ⟨le2,hW5⟩ sb I I)
    have e8:n<fr:=Decidable.not_not.1 e8;have hVr:V=(W,true,true):=by rw[hV];unfold fT;rw[aab e8]
    obtain rfl:b48=true:=h48.2 e8;rw[hVr];refine sk ?_;exact mt ([_,_,_,_,_],K1) ⟨Le.refl _,hW⟩ ⟨I,I,I,I,I,I,I,I,I,I,I,trivial⟩ I I
   clear hW hop hL hO;clear oH rH gL gO;rintro ⟨m,K2⟩ ⟨le2,hW⟩;dsimp only at *;obtain ⟨ob,aL,cL,aO,cO,oH,rH,gL,gO,rfl,hop,hL,hO⟩:=id hW;obtain ⟨g',hg'⟩:=bC (if V.2.2=true then g++[n] else g);rw[<-hg'] at hw;have hgl':ba g'<=j+1:=by rw[hg'];split <;> (try simp) <;> omega
   refine jn (σ:=Option Addr×Nat×PH) (fun s=>[(0,SX db),(1,.int .u64 (fr:Nat)),(8,SX b8),(9,.slice an (ba l) kn),(10,.slice s.1 (ba g') s.2.1),(13,.bool V.2.1),(40,.slice an (ba l) kn),(41,.int .i64 (ba l)),(42,.int .i64 (j:Nat))])
    (fun s=>pt wb (eI db ob V.1.first (.slice aL (ba V.1.recs) cL) (.slice aO (ba V.1.old) cO) V.1.next V.1.code) 148::oH::rH::gL::gO::pt b12 #[.int .u64 (n:Nat)] 37::pt b8 #[SX wb] 67::dh::s.2.2::hs)
    (fun s=>aZ s.2.2 s.1 (ba g') s.2.1 37 1 (kT g')) ?_ ?_
   ·refine ac9 ?_;cases hv:V.2.2 with
    | true=>
     rw[aab hv] at hg';refine au ?_;refine lit 0 #[.int .u64 (n:Nat)] I SU qk fun b62=>app 0 9 I I og (.inr ⟨0,I⟩) (aZ.ofPt (n:=1) (size:=1) I SU).isS I SU (by simp[Value.oneCell']) (by show (ba g+1)*8<=_;omega) (by simp only[maxLen];omega) fun ao63 c63 g63 o63=>fin 1 rfl (WQ.drop ?_);refine jx (ao63,c63,g63) (sJ o63 (by rw[hg'];simp) (by rw[hg',Et];rfl)) ⟨rfl,rfl,rfl,rfl,by dsimp only;rw[hg',aaf];rfl,rfl,rfl,rfl,rfl,trivial⟩ rfl rfl
    | false=>
     rw[aaa (by rw[hv];simp)] at hg';refine fin 1 I (th (dt I (sk ?_)));refine jx (ag,cg,gh) (by dsimp only;rw[hg'];exact og) ⟨I,I,I,I,by dsimp only;rw[hg'];rfl,rfl,rfl,rfl,rfl,trivial⟩ rfl rfl
   rintro ⟨ag,cg,gh⟩ og;dsimp only at *;cases hv:V.2.1 with
   | false=>
    rw[aab (.inl hv)] at hw;rw[<-hw] at hR;dsimp only at hR;rw[aab rfl] at hR;refine sq (jH [6,0] 16 [0,2,4,6,8,10,12,14,16,18,20,22,24,26,28,30] ?_);refine be qk 16 I (th (dY I (ac9 (fin 2 I (adb (rB (rT (rT (rB (rT (WQ.del 0 I (WQ.del 0 I (WQ.del 0 I (WQ.del 0 I (WQ.del 0 I (WQ.del 0 I (WQ.del 0 I (WQ.del 1 I ?_))))))))))))))))));rw[hR];exact bL I I I ⟨le.trans (le1.trans le2),[],dh,I,hd.le (le.trans (le1.trans le2)),I,I⟩
   | true=>
    refine sq (jH [6,0] 16 [0,2,4,6,8,10,12,14,16,18,20,22,24,26,28,30] ?_);refine au ?_;refine bQ qk 1 I (cJ (x:=((ba V.1.recs:Nat):Int)) qo) (bQ qk 0 I (cJ (x:=((V.1.first+ba V.1.recs:Nat):Int)) (by unfold bP at *;omega)) (gE qk 0 (bP<V.1.first+ba V.1.recs) rfl (by unfold bP;simp;omega) fun b78 h78=>au ?_));refine ah h78 I (fun e10=>?_) (fun e10=>?_)
    ·rw[aab (.inr e10)] at hw;rw[<-hw] at hR;dsimp only at hR;rw[aab rfl] at hR;refine ac9 (fin 2 I (adb (rB (rT (rT (rB (rT (WQ.del 0 I (WQ.del 0 I (WQ.del 0 I (WQ.del 0 I (WQ.del 0 I (WQ.del 0 I (WQ.del 0 I (WQ.del 1 I ?_)))))))))))))));rw[hR];exact bL I I I ⟨le.trans (le1.trans le2),[],dh,I,hd.le (le.trans (le1.trans le2)),I,I⟩
    rw[aaa (by rw[hv];simp;omega)] at hw;refine sk (ac7 (WL.del 5 I (ar 0 I (ac (x:=((j+1:Nat):Int)) qo) (fin 1 I ?_))));exact bc (x:=((j,W,g),([],(ag,cg,gh)),K1)) ((j+1,V.1,g'),([_,_,_,_,_],(ag,cg,gh)),K2) ⟨I,I,I,I,I,I,I,I,trivial⟩ I I ⟨ax,hw,by dsimp only;rw[htk];exact hVs qo,hgl',le1.trans le2,hW,og⟩ ax
  obtain rfl:j=ba l:=qo
  rw[aaS] at hw;have hw:(W,g,true)=Z:=hw;rw[<-hw] at hR;dsimp only at hR;rw[aaa ST] at hR;refine ex (xt (xt (xb (ac6 (bE 0 5 I I I ?_)))));refine WL.perm (hs':=gh::([_,_,_,_,_,_,_]++hs)) (aaI (l₁:=[_,_,_,_,_,_,_])) (WL.frz fun K3 l1 l2=>?_);have hW3:eP K3 wb db W [pt wb (eI db ob W.first (.slice aL (ba W.recs) cL) (.slice aO (ba W.old) cO) W.next W.code) 148,oH,rH,gL,gO]:=hW.le l1;refine cl 2 I (Nc wb db W hW3 D c oD qo (hd.le (le.trans (le1.trans l1))) l g an kn (xN.le (le1.trans l1)) ag cg (og.isS.le l2) qo qo hlm) ?_;rintro v84 K84 hs84 ⟨rfl,dh,rfl,hE,rfl⟩;obtain ⟨Y,hY⟩:=bC (wsettle g l D);rw[<-hY] at hE hR ⊢;refine au ?_;refine af 1 I fun b86 h86=>fin 0 I (th (ah h86 I (fun e16=>?_) (fun e16=>?_)))
  ·rw[aab e16] at hR;refine ac9 (fin 3 I (adb (rT (WQ.del 0 I (WQ.del 0 I (WQ.del 0 I (WQ.del 0 I (WQ.del 0 I (WQ.del 0 I ?_)))))))));rw[hR];exact bL I I I ⟨le.trans (le1.trans l1),[],dh,I,hE,I,I⟩
  rw[aaa e16] at hR;refine sk (ac6 (bE 0 5 I I I (fin 2 I (adb (WQ.del 5 I ?_)))));rw[hR];exact bL I I I ⟨le.trans (le1.trans l1),[_,_,_,_,_],dh,I,hE,wb,hW3,I⟩
end
section
def bY:Nat:=1152921504606846976
structure bG where
 idx:Nat
 term:Nat
 vot:List Int
 data:List UInt8
def fZ(s:bG)(l:List aI)(i:Nat):Nat×Bool:=
 if i=s.idx then (s.term,true) else if i<s.idx\/s.idx+ba l<i then (0,false) else (((l[i-s.idx-1]?).getD aI.zero).term,true)
def i8(s:bG)(l:List aI)(i:Nat):Option Nat:=if i<=s.idx\/s.idx+ba l<i then none else some (i-s.idx-1)
def fW:Nat->Nat->List aI->Int
 | _,_,[]=>0
 | i,t,e::r=>if e.idx≠i+1\/e.term<t then 180 else fW e.idx e.term r
def kz(i t:Nat)(x:List aI):Int:=if (x.all fun e=>(mj e).isSome)=true then fW i t x else 181
def mM(s:bG)(l:List aI)(frm:Nat)(most:Int):List aI:=
 match i8 s l frm with
 | none=>[]
 | some k=>(l.drop k).take most.toNat
def gQ(s:bG)(l:List aI)(t:bG):Bool:=(fZ s l t.idx).2 && decide ((fZ s l t.idx).1=t.term)
structure Lg where
 w:Wl
 hard:df
 head:df
 kt:Nat
 kv:Int
 sn:bG
 place:Nat
 fr:Nat
 l:List aI
 code:Int
def Lg.last(L:Lg):Nat:=L.sn.idx+ba L.l
def iN(code e:Int):Int:=if code=0 then e else code
def Lg.app1:List aI->Lg->Dk->Lg×Dk×Int
 | [],L,D=>(L,D,0)
 | e::r,L,D=>
  if (L.w.append e.bytes D).2.2≠0 then ({ L with w:=(L.w.append e.bytes D).1,code:=(L.w.append e.bytes D).2.2 },(L.w.append e.bytes D).2.1,(L.w.append e.bytes D).2.2)
  else app1 r { L with w:=(L.w.append e.bytes D).1,l:=L.l++[e] } (L.w.append e.bytes D).2.1
def Lg.append(L:Lg)(x:List aI)(D:Dk):Lg×Dk×Int:=
 if L.code≠0 then (L,D,L.code)
 else if kz L.last (fZ L.sn L.l L.last).1 x≠0 then (L,D,kz L.last (fZ L.sn L.l L.last).1 x)
 else L.app1 x D
def Lg.sync(L:Lg)(D:Dk):Lg×Dk×Int:=
 if L.code≠0 then (L,D,L.code) else ({ L with w:=(L.w.sync D).1,code:=(L.w.sync D).1.code },(L.w.sync D).2,(L.w.sync D).1.code)
def Lg.fits(L:Lg)(s:bG):Int:=
 if L.code≠0 then L.code
 else if (eu s.vot).isSome=false\/2097152<ba s.data then 181
 else if s.idx<=L.sn.idx\/bY<=s.idx then 180
 else 0
def bU(place:Nat):Nat:=4*place+2
def lgW(place:Nat):Nat->Nat->List UInt8->Dk->Dk×Int
 | 0,_,_,D=>(D,0)
 | f+1,n,b,D=>
  if b=[] then (D,0)
  else if (D.write (bU place) n (b.take 64)).2≠0 then D.write (bU place) n (b.take 64)
  else lgW place f (n+1) (b.drop 64) (D.write (bU place) n (b.take 64)).1
def Lg.say(s:bG)(place fr:Nat):List UInt8:=aU s.idx++(aU s.term++(aU place++(aU (ba s.data)++(aU fr++ob (eu s.vot)))))
def Lg.laid(L:Lg)(s:bG)(fr:Nat)(H:df):Lg:=
 { L with head:=H,l:=if gQ L.sn L.l s=true then L.l.drop ((i8 L.sn L.l s.idx).getD 0+1) else [],place:=L.place+1,fr:=fr,sn:=s }
def Lg.lay3(L:Lg)(s:bG)(fr:Nat)(H:df)(D:Dk):Lg×Dk×Int:=
 ({ L.laid s fr H with code:=(D.free (bU L.place)).2 },(D.free (bU L.place)).1,(D.free (bU L.place)).2)
def Lg.lay2(L:Lg)(s:bG)(fr:Nat)(D:Dk):Lg×Dk×Int:=
 if (L.head.save 4 D (Lg.say s (L.place+1) fr)).2.2≠0 then ({ L with head:=(L.head.save 4 D (Lg.say s (L.place+1) fr)).1,code:=(L.head.save 4 D (Lg.say s (L.place+1) fr)).2.2 },(L.head.save 4 D (Lg.say s (L.place+1) fr)).2.1,(L.head.save 4 D (Lg.say s (L.place+1) fr)).2.2)
 else L.lay3 s fr (L.head.save 4 D (Lg.say s (L.place+1) fr)).1 (L.head.save 4 D (Lg.say s (L.place+1) fr)).2.1
def Lg.lay1(L:Lg)(s:bG)(fr:Nat)(D:Dk):Lg×Dk×Int:=
 if (D.sync (bU (L.place+1))).2≠0 then ({ L with code:=(D.sync (bU (L.place+1))).2 },(D.sync (bU (L.place+1))).1,(D.sync (bU (L.place+1))).2)
 else L.lay2 s fr (D.sync (bU (L.place+1))).1
def Lg.lay(L:Lg)(s:bG)(fr:Nat)(D:Dk):Lg×Dk×Int:=
 if (lgW (L.place+1) (ba s.data+1) 0 s.data D).2≠0 then ({ L with code:=(lgW (L.place+1) (ba s.data+1) 0 s.data D).2 },(lgW (L.place+1) (ba s.data+1) 0 s.data D).1,(lgW (L.place+1) (ba s.data+1) 0 s.data D).2)
 else L.lay1 s fr (lgW (L.place+1) (ba s.data+1) 0 s.data D).1
def Lg.save2(L:Lg)(s:bG)(D:Dk):Lg×Dk×Int:=
 if (L.lay s L.fr D).2.2≠0 then L.lay s L.fr D
 else ({ (L.lay s L.fr D).1 with w:=((L.lay s L.fr D).1.w.compact (s.idx+1) (L.lay s L.fr D).2.1).1,code:=((L.lay s L.fr D).1.w.compact (s.idx+1) (L.lay s L.fr D).2.1).2.2 },((L.lay s L.fr D).1.w.compact (s.idx+1) (L.lay s L.fr D).2.1).2.1,((L.lay s L.fr D).1.w.compact (s.idx+1) (L.lay s L.fr D).2.1).2.2)
def Lg.save1(L:Lg)(s:bG)(D:Dk):Lg×Dk×Int:=if (L.sync D).2.2≠0 then L.sync D else (L.sync D).1.save2 s (L.sync D).2.1
def Lg.save(L:Lg)(s:bG)(D:Dk):Lg×Dk×Int:=
 if L.fits s≠0 then (L,D,L.fits s) else if gQ L.sn L.l s=false then (L,D,180) else L.save1 s D
end
section
def Ct.at2{f:FuncId}{args:List Value}{a b:PH}{S:Value->PH->PH->PH->Prop}(i j:Nat)(hi:hs[i]?=some a)(hj:(hs.eraseIdx i)[j]?=some b)
  (c:Ct P w0 f args K (a::b::(hs.eraseIdx i).eraseIdx j) (fun v K' hs'=>∃ a' b',hs'=a'::b'::(hs.eraseIdx i).eraseIdx j/\S v K' a' b')):
  Ct P w0 f args K hs (fun v K' hs'=>∃ a' b',hs'=((hs.eraseIdx i).set j b').insertIdx i a'/\S v K' a' b'):=by
 have p1:=ig hs i a hi;have p2:=ig (hs.eraseIdx i) j b hj;refine ⟨c.1,fun w hw=>(c.2 w (hw.perm (p1.trans (p2.cons a)))).mono ?_⟩;rintro e w' ⟨v,K',hs',rfl,⟨a',b',rfl,hS⟩,hw'⟩;refine ⟨v,K',_,I,⟨a',b',I,hS⟩,hw'.perm (((pu (hs.eraseIdx i) j b b' hj).cons a').trans (List.perm_insertIdx _ _ ?_).symm)⟩;rw[aay,List.length_eraseIdx];have:=(aas.1 hi).1
 split <;> omega
def wV{b off:Nat}{c:Array Value}{ty:Nat}{fr:Nat×Nat}(cs:List Value)(h:(c.toList.drop off).take (ba cs)=cs):∀ (j:Nat) v,cs[j]?=some v->bR (pt b c ty fr) ((⟨b,off,none⟩:Addr).add j) v:=by
 refine mI cs fun j v hv=>?_;have hj:=(aas.1 hv).1;rw[<-h,abn hj,abu] at hv;simpa using hv
structure dL (c:Nat) (L:Lg):Prop where
 w:dB c L.w
 hard:L.hard.bd
 head:L.head.bd
 kt:L.kt<=aC
 kv : -1<=L.kv/\L.kv<=6
 idx:L.sn.idx<=bY
 st:L.sn.term<=aC
 vot:ba L.sn.vot<=7
 data:ba L.sn.data<=2097152
 place:L.place<=bY+c
 fr:L.fr<=eV+c
 len:ba L.l<=70000000000+c
 ents:∀ e∈L.l,e.ok/\e.idx<=aC/\e.term<=aC
theorem dL.up{c d:Nat}{L:Lg}(o:dL c L)(h:c<=d):dL d L:=
 ⟨o.w.up h,o.hard,o.head,o.kt,o.kv,o.idx,o.st,o.vot,o.data,by have:=o.place;omega,by have:=o.fr;omega,by have:=o.len;omega,o.ents⟩
def fH(wb db hb eb:Nat)(L:Lg)(vS dS lS:Value):Array Value:=
 #[SX wb,SX db,SX hb,SX eb,.int .u64 L.kt,.int .i64 L.kv,
  .int .u64 L.sn.idx,.int .u64 L.sn.term,vS,dS,.int .u64 L.place,.int .u64 L.fr,lS,.int .i64 L.code]
def kq(K:PH)(wb db:Nat)(W:Wl)(h:PH):Prop:=∃ m,h=fp m/\jw m/\eP K wb db W m
theorem kq.le{K K':PH}(l:Le K K'){wb db:Nat}{W:Wl}{h:PH}(x:kq K wb db W h):kq K' wb db W h:=let ⟨m,h1,h2,h3⟩:=x;⟨m,h1,h2,h3.le l⟩
def N0{h:PH}(wb db:Nat)(W:Wl)(hW:kq K wb db W h):aj w0 72 [SX wb] K (h::hs)
  (fun v K' hs'=>K'=K/\hs'=h::hs/\v=.int .u64 W.first):=by
 obtain ⟨m,rfl,d,hm⟩:=hW;refine Ct.bun2 d (N1 wb db W hm) ?_;rintro v K' hs' ⟨rfl,rfl,rfl⟩;exact ⟨m,hs,I,fun _=>⟨I,I,I⟩⟩
def F5{h:PH}(wb db:Nat)(W:Wl)(hW:kq K wb db W h)(hb:W.first+ba W.recs<=bP):aj w0 73 [SX wb] K (h::hs)
  (fun v K' hs'=>K'=K/\hs'=h::hs/\v=.int .u64 (oq (W.first+ba W.recs))):=by
 obtain ⟨m,rfl,d,hm⟩:=hW;refine Ct.bun2 d (sK wb db W hm hb) ?_;rintro v K' hs' ⟨rfl,rfl,rfl⟩;exact ⟨m,hs,I,fun _=>⟨I,I,I⟩⟩
def QC{h:PH}(wb db:Nat)(W:Wl)(c:Nat)(hc:c<=1000000000)(hb:dB c W)(hW:kq K wb db W h)(i:Nat)(hi:i<18446744073709551616):aj w0 74 [SX wb,.int .u64 (i:Nat)] K (h::hs)
  (fun v K' hs'=>∃ h',hs'=h'::hs/\h'=h/\Le K K'/\((¬(W.first<=i/\i-W.first<ba W.recs)/\v=.tuple #[.slice none 0 0,.bool false]) \/
   ∃ r ao k,W.first<=i/\W.recs[i-W.first]?=some r/\v=.tuple #[.slice ao (ba r) k,.bool true]/\aH K' ao (ba r) k 1 (bv r))):=by
 obtain ⟨m,rfl,d,hm⟩:=hW;refine Ct.bun2 d (QD wb db W c hc hb hm i hi hb.recl) ?_;rintro v K' hs' ⟨le,rfl,hv⟩;exact ⟨m,hs,I,fun _=>⟨_,I,I,le,hv⟩⟩
def Oz{h dh:PH}(wb db:Nat)(W:Wl)(hW:kq K wb db W h)(D:Dk)(c:Nat)(oD:D.Ok c)(hc:c<=1000000000)(hb:dB c W)(hd:da K db D dh):
  aj w0 81 [SX wb] K (h::dh::hs)
   (fun v K' hs'=>∃ h' dh',hs'=h'::dh'::hs/\K'=K/\kq K wb db (W.sync D).1 h'/\da K db (W.sync D).2 dh'/\v=.int .i64 (W.sync D).1.code):=by
 obtain ⟨m,rfl,d,hm⟩:=hW;refine Ct.bun2 d (yq wb db W hm D c oD hc hb hd) ?_;rintro v K' hs' ⟨rfl,m',dh',rfl,hW',hd',rfl⟩;exact ⟨m',_,I,fun d'=>⟨_,dh',I,I,⟨m',I,d',hW'⟩,hd',I⟩⟩
def Mu{h dh hv:PH}(wb db:Nat)(W:Wl)(hW:kq K wb db W h)(D:Dk)(c:Nat)(oD:bf c D)(hc:c<=999999000)(hb:dB c W)(hd:da K db D dh)(ab:Option Addr)(cb:Nat)(b:List UInt8)(hbl:ba b<1099511627776)(hin:In K hs hv)(x:aH hv ab (ba b) cb 1 (bv b)):
  aj w0 79 [SX wb,.slice ab (ba b) cb] K (h::dh::hs)
   (fun v K' hs'=>∃ h' dh',hs'=h'::dh'::hs/\Le K K'/\kq K' wb db (W.append b D).1 h'/\da K' db (W.append b D).2.1 dh'/\v=.int .i64 (W.append b D).2.2):=by
 obtain ⟨m,rfl,d,hm⟩:=hW;refine Ct.bun2 d (Mv wb db W hm D c oD hc hb hd ab cb b hbl hin x) ?_;rintro v K' hs' ⟨le,m',dh',rfl,hW',hd',rfl⟩;exact ⟨m',_,I,fun d'=>⟨_,dh',I,le,⟨m',I,d',hW'⟩,hd',I⟩⟩
def Kx{h dh:PH}(wb db:Nat)(W:Wl)(hW:kq K wb db W h)(D:Dk)(c:Nat)(oD:bf c D)(hc:c<=499999000)(hb:dB c W)(hol:ba W.old<=c)(hd:da K db D dh)(i:Nat)(hi:i<18446744073709551616):
  aj w0 39 [SX wb,.int .u64 (i:Nat)] K (h::dh::hs)
   (fun v K' hs'=>∃ h' dh',hs'=h'::dh'::hs/\Le K K'/\kq K' wb db (W.compact i D).1 h'/\da K' db (W.compact i D).2.1 dh'/\v=.int .i64 (W.compact i D).2.2):=by
 obtain ⟨m,rfl,d,hm⟩:=hW;refine Ct.bun2 d (Ky wb db W hm D c oD hc hb hol hd i hi) ?_;rintro v K' hs' ⟨le,m',dh',rfl,hW',hd',rfl⟩;exact ⟨m',_,I,fun d'=>⟨_,dh',I,le,⟨m',I,d',hW'⟩,hd',I⟩⟩
def gv(K:PH)(lb db:Nat)(L:Lg)(D:Dk)(m:List PH):Prop:=
 ∃ wb hb eb aV cV aD cD aL cL wh hh eh gl dh,m=[pt lb (fH wb db hb eb L (.slice aV (ba L.sn.vot) cV) (.slice aD (ba L.sn.data) cD) (.slice aL (ba L.l) cL)) 71,wh,hh,eh,gl,dh] /\
  kq K wb db L.w wh/\ku K hb db 0 L.hard hh/\ku K eb db 4 L.head eh/\bN 4 84 (iH K) gl aL (ba L.l) cL L.l/\da K db D dh/\aH K aV (ba L.sn.vot) cV 1 (iv L.sn.vot)/\aH K aD (ba L.sn.data) cD 1 (bv L.sn.data)
theorem gv.le{K K':PH}(l:Le K K'){lb db:Nat}{L:Lg}{D:Dk}{m:List PH}(h:gv K lb db L D m):gv K' lb db L D m:=by
 obtain ⟨wb,hb,eb,aV,cV,aD,cD,aL,cL,wh,hh,eh,gl,dh,h1,h2,h3,h4,h5,h6,h7,h8⟩:=h;exact ⟨wb,hb,eb,aV,cV,aD,cD,aL,cL,wh,hh,eh,gl,dh,h1,h2.le l,h3.le l,h4.le l,h5.imp fun _ _ h=>h.le l,h6.le l,h7.le l,h8.le l⟩
def FS{hv:PH}(ao:Option Addr)(cap:Nat)(l:List Int)(hm:In K hs hv)(x:aH hv ao (ba l) cap 1 (iv l))(hl:ba l<1099511627776):
  aj w0 17 [.agg #[.slice ao (ba l) cap]] K hs (fun v K' hs'=>K'=K/\hs'=hs/\v=.bool (eu l).isSome):=by
 refine dj Tryz.func17 ?_;refine ac9 (bx 0 I fun b1=>fin 1 I (ac6 (WL.hs (pt b1 #[.slice ao (ba l) cap] 27::hs) I (dy 0 0 I I qk (cl 0 I (Da ao cap l (In.cons hm) x hl) ?_)))));rintro v7 K7 hs7 ⟨rfl,h7,ao7,c7,rfl,rfl,o7⟩;refine au ?_;refine af 1 I fun b11 h11=>fin 1 I (adb (WQ.drop (WQ.drop ?_)))
 have e:b11=(eu l).isSome:=by
  rw[abT,h11,pC]
 exact ay I I ⟨I,I,by rw[e]⟩
def sO(n:Nat)(hn:n<=2305843009213693952):aj w0 23 [.int .u64 (n:Nat)] K hs (fun v K' hs'=>K'=K/\hs'=hs/\v=.int .u64 (bU n:Nat)):=by
 refine bH Tryz.func23 ?_;refine ar 1 I (cJ (x:=((4*n:Nat):Int)) qo) (ar 0 I (cJ (x:=((4*n+2:Nat):Int)) qo) (au ?_));exact ay I I ⟨I,I,I⟩
def pL(lb wb db hb eb:Nat)(L:Lg)(vS dS lS:Value)(e:Int):
  aj w0 24 [SX lb,.int .i64 e] K (pt lb (fH wb db hb eb L vS dS lS) 71::hs)
   (fun v K' hs'=>∃ h',hs'=h'::hs/\K'=K/\h'=pt lb (fH wb db hb eb { L with code:=iN L.code e } vS dS lS) 71/\v=.int .i64 (iN L.code e)):=by
 unfold iN;refine bH Tryz.func24 ?_;refine aX 0 I (fun e2=>?_) (fun e2=>?_)
 ·refine au ?_;rw[aab e2];refine au ?_;exact ay I I ⟨_,I,I,I,I⟩
 refine au ?_;rw[aaa e2];refine au ?_;exact ay I I ⟨_,I,I,I,I⟩
end
section
def Q0{a b:Nat}(h:b<=a)(ha:a<18446744073709551616):Value.int .u64 (IntKind.u64.wrap (((a:Nat):Int)-((b:Nat):Int)))=.int .u64 (a-b:Nat):=by
 rw[show ((a:Nat):Int)-((b:Nat):Int)=((a-b:Nat):Int) from qo];exact cJ qo
def PV{a:Nat}(h:1<=a)(ha:a<18446744073709551616):Value.int .u64 (IntKind.u64.wrap (((a:Nat):Int)-1))=.int .u64 (a-1:Nat):=by
 rw[show ((a:Nat):Int)-1=((a-1:Nat):Int) from qo];exact cJ qo
def R8(o:Option Nat):Value:=.tuple #[.int .i64 (((o.getD 0:Nat)):Int),.bool o.isSome]
def FD(s:bG)(l:List aI)(i:Nat):fZ s l i=if i=s.idx then (s.term,true) else match i8 s l i with
  | none=>(0,false)
  | some k=>(((l[k]?).getD aI.zero).term,true):=by
 unfold fZ i8
 by_cases h:i=s.idx
 ·rw[aab h,aab h]
 rw[aaa h,aaa h]
 by_cases h2:i<s.idx\/s.idx+ba l<i
 ·rw[aab h2,aab qo]
 rw[aaa h2,aaa qo]
def wO{s:bG}{l:List aI}{i k:Nat}(h:i8 s l i=some k):s.idx<i/\i<=s.idx+ba l/\k=i-s.idx-1/\k<ba l:=by
 unfold i8 at h
 split at h
 ·cases h
 cases h;omega
def yh{hv:PH}(ao:Option Addr)(cap:Nat)(b:List Int)(hm:In K hs hv)(x:aH hv ao (ba b) cap 1 (iv b))(hl:ba b<1099511627776):
  aj w0 18 [.slice ao (ba b) cap] K hs
   (fun v K' hs'=>Le K K'/\hs'=hs/\∃ ao' c',v=.slice ao' (ba b) c'/\aH K' ao' (ba b) c' 1 (iv b)):=by
 refine bH Tryz.func18 ?_;refine cb 1 I (fun h1=>?_) (fun h1=>?_)
 ·have hao:ao=none:=by simpa using h1
  subst hao
  have hb0:b=[]:=by
   cases b with
   | nil=>rfl
   | cons c r=>obtain ⟨a,ha,_⟩:=x.2.2 0 _ (by simp[iv];rfl);cases ha
  subst hb0;refine au ?_;exact ay I I ⟨Le.refl _,I,none,0,I,aH.nil _ _ _ _⟩
 refine au ?_;refine lit 0 #[] I SU qk fun b5=>app 1 0 I I (aZ.ofPt (c:=#[]) (n:=0) ST (by simp[maxLen])) (In.cons hm) x I SU (F7 _) (by show (0+ba b)*8<=_;omega) (by simp[maxLen];omega) fun ao7 c7 g7 o7=>fin 1 rfl (adb (WQ.frz fun K2 l1 l2=>?_));have e:0+ba b=ba b:=aaD _;rw[e] at o7;exact ay I (by rw[e];rfl) ⟨l1,rfl,ao7,c7,rfl,o7.isS.le l2⟩
def Fh{hb:PH}(e:aI)(ao:Option Addr)(cap:Nat)(hm:In K hs hb)(x:aH hb ao (ba e.data) cap 1 (bv e.data))(hl:ba e.data<1099511627776):
  aj w0 80 [.agg (e.v ao cap)] K hs (fun v K' hs'=>Le K K'/\hs'=hs/\∃ ao' c',v=.agg (e.v ao' c')/\aH K' ao' (ba e.data) c' 1 (bv e.data)):=by
 refine dj Tryz.func80 ?_;refine ac9 (bx 0 I fun b1=>al 0 (.agg #[.int .u64 0,.int .u64 0,.int .i64 0,.slice none 0 0]) I qk fun b2=>fin 0 I (ac6 (WL.hs (pt b2 #[.int .u64 0,.int .u64 0,.int .i64 0,.slice none 0 0] 84::pt b1 (e.v ao cap) 84::hs) I (au ?_))));refine cl 0 I (nF ao cap e.data (In.cons (In.cons hm)) x hl) ?_;rintro v5 K5 hs5 ⟨rfl,h5,ao5,c5,rfl,rfl,o5⟩;refine stp 1 2 I I I I (WL.hs (h5::pt b2 #[.int .u64 0,.int .u64 0,.int .i64 0,.slice none 0 0] 84::pt b1 (e.v ao5 c5) 84::hs) I (fin 0 I (ac6 (dy 0 2 I I qk ?_))));refine bJ 0 1 I I qk I I ?_;exact fin 0 I (adb (WQ.frz fun K2 l1 l2=>ml 0 2 I I I qk ⟨l1,I,ao5,c5,I,o5.isS.le l2⟩))
def eg(s:bG)(aV:Option Addr)(cV:Nat)(aD:Option Addr)(cD:Nat):Array Value:=#[.int .u64 s.idx,.int .u64 s.term,.slice aV (ba s.vot) cV,.slice aD (ba s.data) cD]
def HI(K:PH)(s:bG)(v:Value):Prop:=∃ aV cV aD cD,v=.agg (eg s aV cV aD cD)/\aH K aV (ba s.vot) cV 1 (iv s.vot)/\aH K aD (ba s.data) cD 1 (bv s.data)
def OD{m:List PH}(lb db:Nat)(L:Lg)(D:Dk)(c:Nat)(hb:dL c L)(hm:gv K lb db L D m):
  aj w0 31 [SX lb] K (m++hs) (fun v K' hs'=>Le K K'/\hs'=m++hs/\HI K' L.sn v):=by
 obtain ⟨wb,hb',eb,aV,cV,aD,cD,aL,cL,wh,hh,eh,gl,dh,rfl,hW,hH,hE,hG,hD,xV,xD⟩:=hm;have hv7:=hb.vot;have pZ:=hb.data;refine dj Tryz.func31 ?_;refine ac9 (al 0 (.agg #[.int .u64 0,.int .u64 0,.slice none 0 0,.slice none 0 0]) I qk fun b2=>fin 0 I (ac6 (eD 3 (eg L.sn aV cV aD cD).toList I qk (.inr ⟨1,I⟩) (wV _ I) (al 0 (.agg #[.int .u64 0,.int .u64 0,.slice none 0 0,.slice none 0 0]) I qk fun b3=>?_))));refine bJ 0 0 I I qk I I ?_;refine fin 0 I (ac6 (bE 2 0 I I I (cl 0 I (yh aV cV L.sn.vot (.inl I) xV qo) ?_)));rintro v11 K11 hs11 ⟨le1,rfl,aV2,cV2,rfl,xV2⟩;refine au ?_;refine cl 0 I (nF aD cD L.sn.data (.inl I) (xD.le le1) qo) ?_;rintro v16 K16 hs16 ⟨rfl,h16,aD2,cD2,rfl,rfl,oD2⟩;refine stp 1 1 I I I I (WL.hs (h16::pt b3 (eg L.sn aV2 cV2 aD2 cD2) 42::pt b2 #[.int .u64 0,.int .u64 0,.slice none 0 0,.slice none 0 0] 42::_) I (fin 0 I (ac6 (dy 0 1 I I qk ?_))))
 refine bJ 0 2 I I qk I I ?_;exact fin 0 I (adb (WQ.frz fun K2 l1 l2=>ml 1 2 I I I qk ⟨le1.trans l1,I,aV2,cV2,aD2,cD2,I,xV2.le l1,oD2.isS.le l2⟩))
def uF{m:List PH}(lb db:Nat)(L:Lg)(D:Dk)(c:Nat)(hb:dL c L)(hc:c<=1000000000)(hm:gv K lb db L D m):
  aj w0 9 [SX lb] K (m++hs) (fun v K' hs'=>K'=K/\hs'=m++hs/\v=.int .u64 (L.sn.idx+ba L.l:Nat)):=by
 obtain ⟨wb,hb',eb,aV,cV,aD,cD,aL,cL,wh,hh,eh,gl,dh,rfl,hW,hH,hE,hG,hD,xV,xD⟩:=hm;have h1:=hb.idx;have h2:=hb.len;unfold bY at h1;refine bH Tryz.func9 ?_;refine bI [pt lb (fH wb db hb' eb L (.slice aV (ba L.sn.vot) cV) (.slice aD (ba L.sn.data) cD) (.slice aL (ba L.l) cL)) 71] 13 [0,2,4,6,8,10,12,14,16,18,20,22,24] ST qk qk (au ?_);refine bQ qk 1 I (cJ (x:=((ba L.l:Nat):Int)) qo) (bQ qk 0 I (cJ (x:=((L.sn.idx+ba L.l:Nat):Int)) qo) (au ?_));exact ay I I ⟨I,I,I⟩
def zy{w0:World}{K:PH}{m hs:List PH}(lb db:Nat)(L:Lg)(D:Dk)(c:Nat)(hb:dL c L)(hc:c<=1000000000)(hm:gv K lb db L D m)(i:Nat)(hi:i<18446744073709551616):
  aj w0 93 [SX lb,.int .u64 (i:Nat)] K (m++hs) (fun v K' hs'=>K'=K/\hs'=m++hs/\v=R8 (i8 L.sn L.l i)):=by
 have hm0:=hm;obtain ⟨wb,hb',eb,aV,cV,aD,cD,aL,cL,wh,hh,eh,gl,dh,rfl,hW,hH,hE,hG,hD,xV,xD⟩:=hm;have h2:=hb.len;refine bH Tryz.func93 ?_;refine af 0 I fun b12 h12=>?_
 refine' eB (q:=L.sn.idx+ba L.l<i) 1 5 18 [12,13] h12 I I I I I I I (fun _=>?x2) (fun b18 h18=>?_)
 case x2=>
  refine cl 2 I (uF lb db L D c hb hc hm0) ?_;rintro v16 K16 hs16 ⟨rfl,rfl,rfl⟩;exact af 0 I fun b17 h17=>fin 1 I (dk (h17.trans qo) I I I)
 refine fin 0 I<|th (ah h18 I (fun e4=>?_) (fun e4=>?_))
 ·refine au ?_;refine bL I I I ⟨I,I,?_⟩;unfold i8;rw[aab qo]
  rfl
 refine au ?_;refine ar 0 I (Q0 qo hi) (ar 0 I (PV qo qo) (ar 0 I (ac qo) (au ?_)));refine bL I I I ⟨I,I,?_⟩;unfold i8;rw[aaa qo]
 rfl
end
section
def R9(o:Nat×Bool):Value:=.tuple #[.int .u64 o.1,.bool o.2]
def Cv{gl:PH}{aL:Option Addr}{cL:Nat}{l:List aI}(hG:bN 4 84 (iH K) gl aL (ba l) cL l){k:Nat}{e:aI}(hk:l[k]?=some e):
  ∃ a ao cap,aL=some a/\aH K ao (ba e.data) cap 1 (bv e.data)/\∀ (j:Nat) v,(e.v ao cap).toList[j]?=some v->bR gl ((a.add (k*4)).add j) v:=by
 have hkl:k<ba l:=(aas.1 hk).1;obtain ⟨a,rfl⟩:=hG.slS.addr qo SU;obtain ⟨c,⟨ao,cap,rfl,x⟩,_,hc⟩:=hG.slS.cells hk;exact ⟨a,ao,cap,I,x,hc⟩
def FG{m:List PH}(lb db:Nat)(L:Lg)(D:Dk)(c:Nat)(hb:dL c L)(hc:c<=1000000000)(hm:gv K lb db L D m)(i:Nat)(hi:i<18446744073709551616):
  aj w0 76 [SX lb,.int .u64 (i:Nat)] K (m++hs) (fun v K' hs'=>K'=K/\hs'=m++hs/\v=R9 (fZ L.sn L.l i)):=by
 have hm0:=hm;obtain ⟨wb,hb',eb,aV,cV,aD,cD,aL,cL,wh,hh,eh,gl,dh,rfl,hW,hH,hE,hG,hD,xV,xD⟩:=hm;have h2:=hb.len;rw[FD];refine bH Tryz.func76 ?_;refine cl 2 I (zy lb db L D c hb hc hm0 i hi) ?_;rintro v11 K11 hs11 ⟨rfl,rfl,rfl⟩;refine au ?_;refine aX 0 I (fun e2=>?_) (fun e2=>?_)
 ·refine au ?_;rw[aab qo];refine au ?_;exact bL I I I ⟨I,I,I⟩
 refine au ?_;rw[aaa qo];cases hk:i8 L.sn L.l i with
 | none=>
  refine au ?_;exact bL I I I ⟨I,I,I⟩
 | some k=>
  obtain ⟨g1,g2,g3,g4⟩:=wO hk;obtain ⟨e,he⟩:∃ e,L.l[k]?=some e:=⟨L.l[k],aae g4⟩;obtain ⟨a,ao,cap,rfl,x,hcell⟩:=Cv hG he;refine au ?_;obtain ⟨xs,hxs⟩:=hG.slS.isS;refine dz 1 k I I hxs g4 SU fun a35 h35=>?_;cases h35;refine ld 1 I (.inr ⟨4,I⟩) (hcell 1 _ I) (au ?_);refine bL I I I ⟨I,I,?_⟩;dsimp only;rw[he]
  rfl
def GR{hv:PH}{m:List PH}(lb db:Nat)(L:Lg)(D:Dk)(c:Nat)(hb:dL c L)(hc:c<=1000000000)(hm:gv K lb db L D m)(s:bG)(hi:s.idx<18446744073709551616)(aV:Option Addr)(cV:Nat)(aD:Option Addr)(cD:Nat):
  aj w0 37 [SX lb,.agg (eg s aV cV aD cD)] K (m++hs) (fun v K' hs'=>K'=K/\hs'=m++hs/\v=.bool (gQ L.sn L.l s)):=by
 have hm0:=hm;obtain ⟨wb,hb',eb,aV',cV',aD',cD',aL,cL,wh,hh,eh,gl,dh,rfl,hW,hH,hE,hG,hD,xV,xD⟩:=hm;refine dj Tryz.func37 ?_;refine ac9 (bx 0 I fun b3=>?_);refine WL.hs (pt b3 (eg s aV cV aD cD) 42::([_,_,_,_,_,_]++hs)) I (fin 1 I (ac6 (bE 2 0 I I I ?_)));refine WL.perm (aaI (l₁:=[_,_,_,_,_,_])).symm (cl 0 I (FG lb db L D c hb hc hm0 s.idx hi) ?_);rintro v11 K11 hs11 ⟨rfl,rfl,rfl⟩;refine WL.perm (aaI (l₁:=[_,_,_,_,_,_])) ?_;unfold gQ;obtain ⟨T,hT'⟩:=bC (fZ L.sn L.l s.idx);rw[<-hT'];obtain ⟨t,b⟩:=T;refine au ?_;cases b with
 | false=>
  exact fin 8 I<|adb<|WQ.drop (ay I I ⟨I,I,I⟩)
 | true=>
  refine au ?_;refine af 0 I fun b19 h19=>fin 2 I (adb (WQ.drop (ay I I ⟨I,I,?_⟩)));have:b19=decide (t=s.term):=by rw[abT,h19];simp;omega
  rw[this]
  rfl
end
section
def zo(e:aI):Prop:=e.idx<=aC/\e.term<=aC/\ba e.data<1099511627776
def po{e:aI}:(mj e).isSome=true↔e.ok:=by unfold mj;split <;> simp_all
theorem dL.sync{c:Nat}{L:Lg}(o:dL c L)(D:Dk):dL c (L.sync D).1:=by
 unfold Lg.sync
 split
 ·exact o
 exact ⟨o.w.sync D,o.hard,o.head,o.kt,o.kv,o.idx,o.st,o.vot,o.data,o.place,o.fr,o.len,o.ents⟩
def Ku{m:List PH}(lb db:Nat)(L:Lg)(D:Dk)(c:Nat)(hb:dL c L)(hc:c<=1000000000)(hm:gv K lb db L D m)(i:Nat)(hi:i<18446744073709551616)(most:Int)(hmo : -9223372036854775808<=most/\most<=9223372036854775807):
  aj w0 33 [SX lb,.int .u64 (i:Nat),.int .i64 most] K (m++hs)
   (fun v K' hs'=>Le K K'/\hs'=m++hs/\∃ ao cap,v=.slice ao (ba (mM L.sn L.l i most)) cap/\bF 4 (iH K') K' ao (ba (mM L.sn L.l i most)) cap (mM L.sn L.l i most)):=by
 have hm0:=hm;obtain ⟨wb,hb',eb,aV,cV,aD,cD,aL,cL,wh,hh,eh,gl,dh,rfl,hW,hH,hE,hG,hD,xV,xD⟩:=hm;have h2:=hb.len;refine bH Tryz.func33 ?_;refine cl 2 I (zy lb db L D c hb hc hm0 i hi) ?_;rintro v13 K13 hs13 ⟨rfl,rfl,rfl⟩;unfold mM;cases hk:i8 L.sn L.l i with
 | none=>
  refine au ?_
  refine loop (σ:=Unit) (fun _=>[(0,SX lb),(2,.int .i64 most),(7,.slice none 0 0),(8,.int .i64 0),(9,.bool false)]) (fun _=>K13)
   (fun _=>[pt lb (fH wb db hb' eb L (.slice aV (ba L.sn.vot) cV) (.slice aD (ba L.sn.data) cD) (.slice aL (ba L.l) cL)) 71,wh,hh,eh,gl,dh]++hs) (fun _=>True) (fun _=>0) () trivial sb rfl rfl ?_
  rintro ⟨⟩ _;refine au ?_;exact ay I I ⟨Le.refl _,I,none,0,I,bF.nil _ _ _ _⟩
 | some k=>
  obtain ⟨g1,g2,g3,g4⟩:=wO hk;dsimp only;obtain ⟨X,hX⟩:=bC ((L.l.drop k).take most.toNat);have hXl:ba X=min most.toNat (ba L.l-k):=by rw[hX,aam,aan]
  rw[<-hX];refine fin 5 I (th (sq (bk (WC.em ?_))))
  refine loop (σ:=Nat×(Option Addr×Nat×PH)×PH) (fun s=>[(0,SX lb),(2,.int .i64 most),(7,.slice s.2.1.1 s.1 s.2.1.2.1),(8,.int .i64 (k+s.1:Nat)),(9,.bool true)]) (fun s=>s.2.2)
   (fun s=>s.2.1.2.2::([pt lb (fH wb db hb' eb L (.slice aV (ba L.sn.vot) cV) (.slice aD (ba L.sn.data) cD) (.slice aL (ba L.l) cL)) 71,wh,hh,eh,gl,dh]++hs)) (fun s=>s.1<=ba X/\Le K13 s.2.2/\bN 4 84 (iH s.2.2) s.2.1.2.2 s.2.1.1 s.1 s.2.1.2.1 (X.take s.1)) (fun s=>ba X-s.1)
   (0,(none,0,em),K13) ⟨aag _,Le.refl _,bN.nil _ _⟩ ⟨rfl,rfl,rfl,rfl,rfl,trivial⟩ rfl rfl ?_
  rintro ⟨j,⟨ao,cap,g⟩,K1⟩ ⟨hj,le1,oG⟩;dsimp only at *;refine au ?_;refine aX 1 I (fun e2=>?_) (fun e2=>?_)
  ·refine af 5 I fun b30 h30=>fin 1 I<|th (ah h30 I (fun e3=>?_) (fun e3=>?_))
   ·have hjX:j<ba X:=qo
    obtain ⟨e,he⟩:∃ e,X[j]?=some e:=⟨X[j],aae hjX⟩
    have hel:L.l[k+j]?=some e:=by
     rw[hX,abn qo,abu] at he;exact he
    have hed:=sm (hb.ents e (aap hel)).1.2.2;obtain ⟨a,ae,ce,rfl,x,hcell⟩:=Cv hG hel;refine au ?_;obtain ⟨xs,hxs⟩:=hG.slS.isS;refine dz 1 (k+j) I I hxs qo SU fun a38 h38=>?_;cases h38;refine eD 0 (e.v ae ce).toList I qk (.inr ⟨5,I⟩) hcell (cl 0 I (Fh e ae ce (.inl I) (x.le le1) qo) ?_);rintro v40 K40 hs40 ⟨le2,rfl,ao2,c2,rfl,x2⟩;exact lit 0 (e.v ao2 c2) I SU qk fun b41=>jU 0 1 (e.v ao2 c2).toList e I I I (oG.imp fun _ _ h=>h.le le2) ⟨ao2,c2,I,x2⟩ I (by simp[aI.v,Value.oneCell']) I SU (by show (j+1)*48<=_;omega) (by simp only[maxLen];omega) fun ao42 c42 g42 o42=>fin 1 rfl (ac8 (WL.drop (ar 1 rfl (ac (x:=((k+(j+1):Nat):Int)) qo) (fin 1 rfl (bl (bc (x:=(j,(ao,cap,g),K1)) (j+1,(ao42,c42,g42),K40) sb rfl rfl ⟨ax,le1.trans le2,by dsimp only;rw[aaA,he];exact o42⟩ ax))))))
   obtain rfl:j=ba X:=qo
   rw[aav] at oG;exact ex (xt (xt (xb (ac6 (fin 2 I (adb (WQ.frz fun K2 l1 l2=>ay I I ⟨le1.trans l1,I,ao,cap,I,oG.slS.le l2 fun _ _ h=>h.le l1⟩)))))))
  refine fin 7 I (th (dt I ?_));obtain rfl:j=ba X:=qo
  rw[aav] at oG;exact ex (xt (xt (xb (ac6 (fin 2 I (adb (WQ.frz fun K2 l1 l2=>ay I I ⟨le1.trans l1,I,ao,cap,I,oG.slS.le l2 fun _ _ h=>h.le l1⟩)))))))
def Ma{w0:World}{K:PH}{hs:List PH}(i t:Nat)(hi:i<=aC)(ht:t<=aC)(ao:Option Addr)(cap:Nat)(x:List aI)(xs:bF 4 (iH K) K ao (ba x) cap x)(hx:∀ e∈x,zo e)(hxl:ba x<=1099511627776):
  aj w0 77 [.int .u64 (i:Nat),.int .u64 (t:Nat),.slice ao (ba x) cap] K hs (fun v K' hs'=>K'=K/\hs'=hs/\v=.int .i64 (kz i t x)):=by
 obtain ⟨ys,hys⟩:=xs.isS;refine bH Tryz.func77 ?_;refine loop (σ:=Nat) (fun j=>[(0,.int .u64 (i:Nat)),(1,.int .u64 (t:Nat)),(2,.slice ao (ba x) cap),(13,.slice ao (ba x) cap),(14,.int .i64 (ba x)),(15,.int .i64 (j:Nat))]) (fun _=>K) (fun _=>hs) (fun j=>j<=ba x/\∀ e∈x.take j,e.ok) (fun j=>ba x-j) 0 ⟨aag _,ST⟩ ⟨I,I,I,I,I,I,trivial⟩ I I ?_;rintro j ⟨hj,hok⟩;refine ac9 (aX 0 I (fun e2=>?_) (fun e2=>?_))
 ·refine au ?_;have hjx:j<ba x:=qo
  obtain ⟨e,he⟩:∃ e,x[j]?=some e:=⟨x[j],aae hjx⟩;have hem:=aap he;obtain ⟨q1,q2,q3⟩:=hx e hem;obtain ⟨a,rfl⟩:=xs.addr qo SU;obtain ⟨c,⟨ae,ce,rfl,xe⟩,_,hcell⟩:=xs.cells he;refine au ?_;refine dz 0 j I I hys hjx SU fun a17 h17=>?_;cases h17;refine eD 0 (e.v ae ce).toList I qk (.inl I) hcell (al 0 (.agg #[.int .u64 0,.int .u64 0,.int .i64 0,.slice none 0 0]) I qk fun b8=>?_);refine bJ 0 0 I I qk I I ?_;refine fin 0 I (ac6 (dy 0 0 I I qk (cl 0 I (ER e ae ce q1 q2 (.inl I) xe q3) ?_)));rintro v21 K21 hs21 ⟨rfl,h21,ao21,c21,rfl,rfl,o21⟩;refine fin 5 I (ac6 (WL.drop (WL.drop (af 1 I fun b25 h25=>fin 0 I (th (ah h25 I (fun e4=>?_) (fun e4=>?_)))))))
  ·have hno:¬e.ok:=fun h=>e4 (pC.2 (po.2 h));refine au ?_;refine ay I I ⟨I,I,?_⟩;unfold kz;rw[aaa];simp only[aa6,po];exact fun h=>hno (h e hem)
  have hyes:e.ok:=po.1 (pC.1 (Decidable.not_not.1 e4));refine sk (ac7 (ar 0 I (ac (x:=((j+1:Nat):Int)) qo) (fin 1 I (bc (x:=j) (j+1) sb I I ⟨qo,?_⟩ qo))));rw[aaA,he];intro y hy;rcases aal.1 hy with hy|hy
  ·exact hok y hy
  simp at hy;rw[hy];exact hyes
 refine au ?_;obtain rfl:j=ba x:=qo
 rw[aav] at hok;have e0:kz i t x=fW i t x:=by unfold kz;rw[aab (by simp only[aa6,po];exact hok)]
 rw[e0];refine au ?_;obtain ⟨R,hR⟩:=bC (fW i t x);rw[<-hR];refine loop (σ:=Nat×Nat×Nat) (fun s=>[(0,.int .u64 s.2.1),(1,.int .u64 s.2.2),(2,.slice ao (ba x) cap),(27,.slice ao (ba x) cap),(28,.int .i64 (ba x)),(29,.int .i64 s.1)]) (fun _=>K) (fun _=>hs) (fun s=>s.1<=ba x/\s.2.1<=aC/\s.2.2<=aC/\fW s.2.1 s.2.2 (x.drop s.1)=R) (fun s=>ba x-s.1) (0,i,t) ⟨aag _,hi,ht,hR.symm⟩ ⟨I,I,I,I,I,I,trivial⟩ I I ?_;clear hi ht e0 hR;clear i t;rintro ⟨j,i,t⟩ ⟨hj,hi,ht,hw⟩;dsimp only at *;refine ac9 (aX 0 I (fun e6=>?_) (fun e6=>?_))
 ·refine au ?_;have hjx:j<ba x:=qo
  obtain ⟨e,he⟩:∃ e,x[j]?=some e:=⟨x[j],aae hjx⟩;have hem:=aap he;obtain ⟨q1,q2,q3⟩:=hx e hem;have hne:=(hok e hem).1;obtain ⟨a,rfl⟩:=xs.addr qo SU;obtain ⟨c,⟨ae,ce,rfl,xe⟩,_,hcell⟩:=xs.cells he;rw[aaF hjx,show x[j]=e from by rw[aae hjx] at he;exact aa8 he,fW] at hw;refine au ?_;refine dz 0 j I I hys hjx SU fun a31 h31=>?_;cases h31;refine eD 0 (e.v ae ce).toList I qk (.inl I) hcell (al 0 (.agg #[.int .u64 0,.int .u64 0,.int .i64 0,.slice none 0 0]) I qk fun b12=>?_);refine bJ 0 0 I I qk I I ?_;refine WL.hs (pt b12 (e.v ae ce) 84::hs) I (au ?_);refine ar 1 I (v':=.int .u64 (((i+1) % 18446744073709551616:Nat):Int)) (by rw[<-qR];rfl) (af 0 rfl fun b37 h37=>?_);unfold aC at hi ht q1 q2
  refine' eB (q:=e.term<t) 1 5 43 [37,38] (h37.trans (show _↔e.idx≠i+1 by omega)) I I I I I I I (fun _=>?x8) (fun b43 h43=>?_)
  case x8=>
   refine au ?_;exact af 1 I fun b42 h42=>fin 1 I (dk (h42.trans qo) I I I)
  refine fin 0 I<|th (ah h43 I (fun e10=>?_) (fun e10=>?_))
  ·rw[aab e10] at hw;refine ac9 (WL.drop (au ?_));rw[<-hw];exact ay I I ⟨I,I,I⟩
  rw[aaa e10] at hw;refine sk (th (jH [0] 6 [0,2,4,6,8,10] ?_));exact dF qk 1 0 I I I (dF qk 1 0 I I I (be qk 2 I (ac7 (WL.drop (ar 0 I (ac (x:=((j+1:Nat):Int)) qo) (fin 1 I (bc (x:=(j,i,t)) (j+1,e.idx,e.term) sb I I ⟨ax,q1,q2,hw⟩ ax)))))))
 refine au ?_;obtain rfl:j=ba x:=qo
 rw[aaS] at hw;refine au ?_;rw[<-hw];exact ay I I ⟨I,I,I⟩
end
section
def OE{s h hv:PH}(sb b area:Nat)(S:df)(hS:ku K sb b area S s)(hbd:S.bd)(D:Dk)(c:Nat)(o:D.Ok c)(hc:c<=1099511626)(hm:da K b D h)(ha:area<=18446744073709551615)
  (v:List UInt8) (ao:Option Addr) (cap:Nat) (hl:ba v<1099511627776) (hin:In K hs hv) (x:aH hv ao (ba v) cap 1 (bv v)):
  aj w0 104 [SX sb,.slice ao (ba v) cap] K (s::h::hs)
   (fun u K' hs'=>∃ s' h',hs'=s'::h'::hs/\Le K K'/\ku K' sb b area (S.save area D v).1 s'/\da K' b (S.save area D v).2.1 h'/\u=.int .i64 (S.save area D v).2.2):=
 (OF sb b area S hS hbd D c o hc hm ha v ao cap hl hin x).mono fun u K' hs' ⟨le,s',h',e,h1,h2,h3⟩=>⟨s',h',e,le,h1,h2,h3⟩
def Pd{w0:World}{K hv hd':PH}{m hs:List PH}(lb db:Nat)(L:Lg)(D:Dk)(c:Nat)(hb:dL c L)(hc:c<=1000000000)(hm:gv K lb db L D m)(s:bG)(hi:s.idx<18446744073709551616)(aV:Option Addr)(cV:Nat)(aD:Option Addr)(cD:Nat)(xv:aH K aV (ba s.vot) cV 1 (iv s.vot))(hvl:ba s.vot<1099511627776)(hdl:ba s.data<1099511627776):
  aj w0 36 [SX lb,.agg (eg s aV cV aD cD)] K (m++hs) (fun v K' hs'=>K'=K/\hs'=m++hs/\v=.int .i64 (L.fits s)):=by
 have hm0:=hm;obtain ⟨wb,hb',eb,aV',cV',aD',cD',aL,cL,wh,hh,eh,gl,dh,rfl,hW,hH,hE,hG,hD,xV,xD⟩:=hm;unfold Lg.fits;refine dj Tryz.func36 ?_;refine ac9 (bx 0 I fun b3=>?_);refine WL.hs (pt b3 (eg s aV cV aD cD) 42::([_,_,_,_,_,_]++hs)) I (au ?_);refine af 0 I fun b10 h10=>fin 1 I (th (ah h10 I (fun e2=>?_) (fun e2=>?_)))
 ·rw[aab e2];exact ac9 (bE 3 1 I I I (fin 1 I (adb (rB (rT (WQ.drop (ay I I ⟨I,I,I⟩)))))))
 rw[aaa e2];refine ac9 (eD 1 [.slice aV (ba s.vot) cV] I qk (.inr ⟨0,I⟩) (wV _ I) (cl 0 I (FS aV cV s.vot (.inl I) xv hvl) ?_));rintro v18 K18 hs18 ⟨rfl,rfl,rfl⟩;refine eE 0 ((eu s.vot).isSome=false) I (by cases (eu s.vot).isSome <;> simp) fun b19 h19=>?_
 refine' eB (q:=2097152<ba s.data) 1 5 25 [19,20] h19 I I I I I I I (fun _=>?x3) (fun b25 h25=>?_)
 case x3=>
  refine au ?_;exact af 1 I fun b24 h24=>fin 1 I (dk (h24.trans qo) I I I)
 refine fin 1 I<|th (ah h25 I (fun e5=>?_) (fun e5=>?_))
 ·rw[aab e5];exact ac9 (fin 1 I (adb (rB (rT (WQ.drop (ay I I ⟨I,I,I⟩))))))
 rw[aaa e5];refine sq (bI [pt b3 (eg s aV cV aD cD) 42,pt lb (fH wb db hb' eb L (.slice aV' (ba L.sn.vot) cV') (.slice aD' (ba L.sn.data) cD') (.slice aL (ba L.l) cL)) 71] 14 [0,2,4,6,8,10,12,14,16,18,20,22,24,26] ST qk qk (au ?_));refine gD qk 0 (s.idx<=L.sn.idx) I ST (fun h6=>?_) (fun h6=>?_)
 ·rw[aab (.inl h6)];exact be qk 6 I (th (dY I (ac9 (fin 1 I (adb (rB (rT (WQ.drop (ay I I ⟨I,I,I⟩)))))))))
 refine au ?_;refine gE qk 0 (bY<=s.idx) I (by unfold bY;simp;omega) fun b38 h38=>au ?_;refine ah h38 I (fun e7=>?_) (fun e7=>?_)
 ·rw[aab (.inr e7)];exact ac9 (fin 1 I (adb (rB (rT (WQ.drop (ay I I ⟨I,I,I⟩))))))
 rw[aaa qo];exact sk (bl (ac6 (fin 1 I (adb (WQ.drop (ay I I ⟨I,I,I⟩))))))
def FJ{m:List PH}(lb db:Nat)(L:Lg)(D:Dk)(c:Nat)(hb:dL c L)(hc:c<=1000000000)(oD:bf c D)(hm:gv K lb db L D m):
  aj w0 29 [SX lb] K (m++hs) (fun v K' hs'=>K'=K/\∃ m',hs'=m'++hs/\gv K lb db (L.sync D).1 (L.sync D).2.1 m'/\v=.int .i64 (L.sync D).2.2):=by
 have hm0:=hm;obtain ⟨wb,hb',eb,aV,cV,aD,cD,aL,cL,wh,hh,eh,gl,dh,rfl,hW,hH,hE,hG,hD,xV,xD⟩:=hm;unfold Lg.sync;refine bH Tryz.func29 ?_;refine aX 0 I (fun e2=>?_) (fun e2=>?_)
 ·refine au ?_;rw[aab e2];refine au ?_;exact ay I I ⟨I,_,I,hm0,I⟩
 refine au ?_;rw[aaa e2];have e2:=Decidable.not_not.1 e2;refine au ?_;refine cl 0 I (Ct.at2 1 4 I I (Oz wb db L.w hW D c oD.ok hc hb.w hD)) ?_;rintro v17 K17 hs17 ⟨wh',dh',rfl,rfl,hW',hD',rfl⟩;refine cl 0 I (pL lb wb db hb' eb L _ _ _ _) ?_;rintro v18 K18 hs18 ⟨_,rfl,rfl,rfl,rfl⟩;have ed:iN L.code (L.w.sync D).1.code=(L.w.sync D).1.code:=by unfold iN;rw[aab e2]
 rw[ed];refine au ?_;exact ay I I ⟨I,[_,_,_,_,_,_],I,⟨wb,hb',eb,aV,cV,aD,cD,aL,cL,wh',hh,eh,gl,dh',I,hW',hH,hE,hG,hD',xV,xD⟩,I⟩
end
section
section
variable {P:Program} {w0:World} {fn:Func} {R:Value->PH->List PH->Prop} {n:Nat} {l:Sl} {K:PH} {hs:List PH}
end
section
variable {P:Program} {w0:World} {fn:Func} {R:Value->PH->List PH->Prop} {n:Nat} {l:Sl} {K:PH} {hs hs':List PH} {v:Value}
def uT{e:Exit}(D m:Nat)(hh:hs=hs'++[ic D])(he:e=.ret\/e=.normal)(hres:∀ a w,Ag n l a->aY w0 w K hs'->(results fn a.tmps).run P w=.ok v w)(h:R v K (hs'.drop m)):cH [np D] w0 (bodyPostM (fz none) 0 P fn (fK w0 R)) e n l K hs:=by
 subst hh;intro a w ha hw;have h1:aY w0 (w.putObj D (.deferred none)) K hs':=(hw.putLast (.deferred none)).dropLast;have h2:=run_takeDeferred (P:=P) (hw.last);rcases he with rfl|rfl <;> exact ⟨ST,.inl ⟨D,_,rfl,h2,v,hres a _ ha h1,v,K,hs'.drop m,rfl,h,h1.dropN m⟩⟩
end
end
section
def tY(e:aI)(r:List aI)(L:Lg)(D:Dk):Lg.app1 (e::r) L D =
  if (L.w.append e.bytes D).2.2≠0 then ({ L with w:=(L.w.append e.bytes D).1,code:=(L.w.append e.bytes D).2.2 },(L.w.append e.bytes D).2.1,(L.w.append e.bytes D).2.2)
  else Lg.app1 r { L with w:=(L.w.append e.bytes D).1,l:=L.l++[e] } (L.w.append e.bytes D).2.1:=rfl
def kR(e:aI):Prop:=e.ok/\e.idx<=aC/\e.term<=aC
def dL.w1{c:Nat}{L:Lg}(o:dL c L)(b:List UInt8)(D:Dk)(k:Int):dL (c+12) { L with w:=(L.w.append b D).1,code:=k }:=
 ⟨o.w.append b D,o.hard,o.head,o.kt,o.kv,o.idx,o.st,o.vot,o.data,by have:=o.place;dsimp only;omega,by have:=o.fr;dsimp only;omega,by have:=o.len;dsimp only;omega,o.ents⟩
def dL.w2{c:Nat}{L:Lg}(o:dL c L)(b:List UInt8)(D:Dk)(e:aI)(he:kR e):dL (c+12) { L with w:=(L.w.append b D).1,l:=L.l++[e] }:=
 ⟨o.w.append b D,o.hard,o.head,o.kt,o.kv,o.idx,o.st,o.vot,o.data,by have:=o.place;dsimp only;omega,by have:=o.fr;dsimp only;omega,by have:=o.len;dsimp only;rw[aaf];simp only[aaj,aaG];omega,fun y hy=>by
  rcases aal.1 hy with hy|hy
  ·exact o.ents y hy
  simp at hy;rw[hy];exact he⟩
theorem dL.app1:∀ (x:List aI) (L:Lg) (D:Dk) (c:Nat),dL c L->bf c D->(∀ e∈x,kR e)->c+12*ba x<=999999990->dL (c+12*ba x) (Lg.app1 x L D).1/\bf (c+12*ba x) (Lg.app1 x L D).2.1
 | [],L,D,c,o,d,_,_=>⟨o,d⟩
 | e::r,L,D,c,o,d,hx,hc=>by
  simp only[aaj] at hc;rw[tY]
  split
  ·exact ⟨(o.w1 e.bytes D _).up (by simp only[aaj];omega),(d.append o.w qo _).up (by simp only[aaj];omega)⟩
  have:=dL.app1 r _ _ (c+12) (o.w2 e.bytes D e (hx e ST)) (d.append o.w qo e.bytes) (fun y hy=>hx y (by simp[hy])) qo;rw[show c+12+12*ba r=c+12*ba (e::r) from by simp only[aaj];omega] at this;exact this
def uI{i t:Nat}{x:List aI}(h:kz i t x=0):∀ e∈x,e.ok:=by
 unfold kz at h
 split at h
 ·rename_i h1;simp only[aa6,po] at h1;exact h1
 cases h
def B3{e:aI}(h:e.ok):mj e=some e.bytes:=aab h
def Mw{m:List PH}(lb db:Nat)(L:Lg)(D:Dk)(c:Nat)(hb:dL c L)(oD:bf c D)(hm:gv K lb db L D m)(ao:Option Addr)(cap:Nat)(x:List aI)(xs:bF 4 (iH K) K ao (ba x) cap x)(hx:∀ e∈x,zo e)(hc:c+12*ba x<=999999000):
  aj w0 28 [SX lb,.slice ao (ba x) cap] K (m++hs) (fun u K' hs'=>Le K K'/\∃ m',hs'=m'++hs/\gv K' lb db (L.append x D).1 (L.append x D).2.1 m'/\u=.int .i64 (L.append x D).2.2):=by
 have hm0:=hm;obtain ⟨wb,hb',eb,aV,cV,aD,cD,aL,cL,wh,hh,eh,gl,dh,rfl,hW,hH,hE,hG,hD,xV,xD⟩:=hm;unfold Lg.append;have hidx:=hb.idx;have hlen:=hb.len;unfold bY at hidx;refine bH Tryz.func28 ?_;refine af 0 I fun b16 h16=>fin 0 I (th (ah h16 I (fun e2=>?_) (fun e2=>?_)))
 ·rw[aab e2];refine au ?_;exact ay I I ⟨Le.refl _,_,I,hm0,I⟩
 rw[aaa e2];have hcode:=Decidable.not_not.1 e2;refine sk (ac6 (cl 2 I (uF lb db L D c hb qo hm0) ?_));rintro v24 K24 hs24 ⟨rfl,rfl,rfl⟩;refine cl 0 I (FG lb db L D c hb qo hm0 _ qo) ?_;rintro v25 K25 hs25 ⟨rfl,rfl,rfl⟩
 have ht:(fZ L.sn L.l (L.sn.idx+ba L.l)).1<=aC:=by
  unfold fZ
  split
  ·exact hb.st
  split
  ·exact aag _
  cases hg:L.l[L.sn.idx+ba L.l-L.sn.idx-1]? with
  | none=>exact aag _
  | some e=>exact (hb.ents e (aap hg)).2.2
 refine au ?_;refine cl 1 I (uF lb db L D c hb qo hm0) ?_;rintro v29 K29 hs29 ⟨rfl,rfl,rfl⟩;refine cl 2 I (Ma _ _ (by unfold aC;omega) ht ao cap x xs hx qo) ?_;rintro v32 K32 hs32 ⟨rfl,rfl,rfl⟩;have el:L.last=L.sn.idx+ba L.l:=rfl;rw[el];refine au ?_;refine af 1 I fun b34 h34=>fin 0 I (th (ah h34 I (fun e4=>?_) (fun e4=>?_)))
 ·rw[aab e4];refine au ?_;exact ay I I ⟨Le.refl _,_,I,hm0,I⟩
 rw[aaa e4];have hok:=uI (Decidable.not_not.1 e4);obtain ⟨R,hR⟩:=bC (Lg.app1 x L D);rw[<-hR];obtain ⟨ys,hys⟩:=xs.isS;refine au ?_
 refine loop (σ:=(Nat×Lg×Dk)×List PH×PH) (fun s=>[(0,SX lb),(36,.slice ao (ba x) cap),(37,.int .i64 (ba x)),(38,.int .i64 s.1.1)]) (fun s=>s.2.2) (fun s=>s.2.1++hs)
  (fun s=>s.1.1<=ba x/\Lg.app1 (x.drop s.1.1) s.1.2.1 s.1.2.2=R/\dL (c+12*s.1.1) s.1.2.1/\bf (c+12*s.1.1) s.1.2.2/\s.1.2.1.code=0/\Le K32 s.2.2/\gv s.2.2 lb db s.1.2.1 s.1.2.2 s.2.1) (fun s=>ba x-s.1.1)
  ((0,L,D),[_,_,_,_,_,_],K32) ⟨aag _,hR.symm,hb,oD,hcode,Le.refl _,hm0⟩ ⟨rfl,rfl,rfl,rfl,trivial⟩ rfl rfl ?_
 clear hm0 hW hH hE hG hD xV xD hR hcode h16 h34 e4 e2 ht;clear hidx hlen hb oD;clear el L D;clear wh hh eh gl dh;rintro ⟨⟨j,L,D⟩,m,K1⟩ ⟨hj,hw,hb,oD,hcode,le1,hm⟩;dsimp only at *;obtain ⟨wb,hb',eb,aV,cV,aD,cD,aL,cL,wh,hh,eh,gl,dh,rfl,hW,hH,hE,hG,hD,xV,xD⟩:=id hm;refine ac9 (aX 0 I (fun e6=>?_) (fun e6=>?_))
 ·refine au ?_;have hjx:j<ba x:=qo
  obtain ⟨e,he⟩:∃ e,x[j]?=some e:=⟨x[j],aae hjx⟩;have hem:=aap he;obtain ⟨q1,q2,q3⟩:=hx e hem;have hoke:=hok e hem;obtain ⟨a,rfl⟩:=xs.addr qo SU;obtain ⟨cc,⟨ae,ce,rfl,xe⟩,_,hcell⟩:=xs.cells he;rw[aaF hjx,show x[j]=e from by rw[aae hjx] at he;exact aa8 he,tY] at hw;obtain ⟨V,hV⟩:=bC (L.w.append e.bytes D);have hb1:=hb.w1 e.bytes D V.2.2;have hb2:=hb.w2 e.bytes D e ⟨hoke,q1,q2⟩;have oD1:=oD.append hb.w qo e.bytes;have hll:=hb.len;rw[<-hV] at hb1 hb2 oD1 hw;refine au ?_;refine dz 0 j I I (hys.le le1) hjx SU fun a40 h40=>?_;cases h40;refine eD 0 (e.v ae ce).toList I qk (.inl I) (fun j v hv=>(hcell j v hv).le le1) (al 0 (.agg #[.int .u64 0,.int .u64 0,.int .i64 0,.slice none 0 0]) I qk fun b9=>?_);refine bJ 0 0 I I qk I I ?_;refine fin 0 I (ac6 (dy 0 0 I I qk (cl 0 I (ER e ae ce q1 q2 (.inl I) (xe.le le1) q3) ?_)))
  rintro v44 K44 hs44 ⟨rfl,h44,ao44,c44,rfl,rfl,o44⟩;rw[B3 hoke] at o44 ⊢;have o44:aZ h44 ao44 (ba e.bytes) c44 5 1 (bv e.bytes):=o44;have hel:=e.bytes_length hoke q1 q2;refine au ?_;refine cl 1 I (Ct.at2 3 6 I I (Mu wb db L.w hW D (c+12*j) oD qo hb.w hD ao44 c44 e.bytes qo (.inr ⟨0,I⟩) o44.isS)) ?_;rintro v53 K53 hs53 ⟨wh',dh',rfl,le2,hW',hD',rfl⟩;rw[<-hV] at hW' hD' ⊢;refine cl 0 I (Ct.at 2 I (pL lb wb db hb' eb L _ _ _ _)) ?_;rintro v54 K54 hs54 ⟨_,rfl,rfl,rfl,rfl⟩;have ed:iN L.code V.2.2=V.2.2:=by unfold iN;rw[aab hcode]
  rw[ed];refine af 0 I fun b55 h55=>fin 0 I (th (ah h55 I (fun e8=>?_) (fun e8=>?_)))
  ·rw[aab e8] at hw;refine ac9 (bE 3 2 I I I (fin 1 I (adb (rT (rB (rT (rT (rB (rT (WQ.drop (WQ.drop ?_)))))))))));rw[<-hw];exact ay I I ⟨le1.trans le2,[_,_,_,_,_,_],I,⟨wb,hb',eb,aV,cV,aD,cD,aL,cL,wh',hh,eh,gl,dh',I,hW',hH.le le2,hE.le le2,hG.imp fun _ _ h=>h.le le2,hD',xV.le le2,xD.le le2⟩,I⟩
  have e8:=Decidable.not_not.1 e8;rw[aaa (by rw[e8];simp)] at hw;have eL:({ L with code:=V.2.2 }:Lg)=L:=by rw[e8,<-hcode]
  rw[eL];refine sk (th (bI [pt lb (fH wb db hb' eb L (.slice aV (ba L.sn.vot) cV) (.slice aD (ba L.sn.data) cD) (.slice aL (ba L.l) cL)) 71,pt b9 (e.v ae ce) 84] 11 [0,2,4,6,8,10,13,15,17,18,20,23] ST qk qk (dC qk 4 0 I qk I I (ja qk 0 1 I qk I qk (aG qk 0 I (cl 0 I (Fh e ae ce (.inl I) (xe.le (le1.trans le2)) q3) ?_))))));rintro v66 K66 hs66 ⟨le3,rfl,ao2,c2,rfl,x2⟩;refine fF ST le3 (au ?_);refine lit 0 (e.v ao2 c2) I SU qk fun b67=>bp ST I (aG qk 0 I (jU 0 7 (e.v ao2 c2).toList e I I I (hG.imp fun _ _ h=>h.le (le2.trans le3)) ⟨ao2,c2,I,x2⟩ I (by simp[aI.v,Value.oneCell']) I SU (by show (ba L.l+1)*48<=_;omega) (by simp only[maxLen];omega) fun ao68 c68 g68 o68=>bp ST rfl (aG qk 2 rfl (stp 0 3 rfl rfl rfl rfl (di (.inl qk) (be qk 0 rfl (ac7 (WL.drop (WL.drop (WL.drop (ar 0 rfl (ac (x:=((j+1:Nat):Int)) qo) (fin 1 rfl ?_))))))))))))
  have le23:=le2.trans le3;exact bc (x:=((j,L,D),[],em)) ((j+1,{ L with w:=V.1,l:=L.l++[e] },V.2.1),[_,_,_,_,_,_],K66) ⟨I,I,I,I,trivial⟩ I I ⟨ax,hw,hb2.up ax,oD1.up ax,hcode,le1.trans le23,⟨wb,hb',eb,aV,cV,aD,cD,ao68,c68,wh',hh,eh,g68,dh',by rw[aaf];rfl,hW'.le le3,hH.le le23,hE.le le23,by rw[aaf];exact o68,hD'.le le3,xV.le le23,xD.le le23⟩⟩ ax
 refine au ?_;obtain rfl:j=ba x:=qo
 rw[aaS] at hw;have hw:(L,D,(0:Int))=R:=hw;refine au ?_;rw[<-hw];exact ay I I ⟨le1,[_,_,_,_,_,_],I,hm,I⟩
end
section
theorem DK:∀ (x:List aI) (i t:Nat),fW i t x=0->∀ j e,x[j]?=some e->e.idx=i+j+1
 | [],_,_,_,j,e,h=>by simp at h
 | a::r,i,t,h,j,e,he=>by
  rw[fW] at h
  split at h
  ·cases h
  rename_i h1;have ha:a.idx=i+1:=qo
  cases j with
  | zero=>simp at he;subst he;omega
  | succ j=>
   have:=DK r _ _ h j e (by simpa using he);omega
def dL.wc{c d:Nat}{L:Lg}(o:dL c L){W:Wl}(h:dB d W)(hcd:c<=d)(k:Int):dL d { L with w:=W,code:=k }:=
 ⟨h,o.hard,o.head,o.kt,o.kv,o.idx,o.st,o.vot,o.data,by have:=o.place;dsimp only;omega,by have:=o.fr;dsimp only;omega,by have:=o.len;dsimp only;omega,o.ents⟩
theorem dL.append{c:Nat}{L:Lg}(o:dL c L){D:Dk}(d:bf c D)(x:List aI)(hx:∀ e∈x,e.idx<=aC/\e.term<=aC)(hc:c+12*ba x<=999999990):dL (c+12*ba x) (L.append x D).1/\bf (c+12*ba x) (L.append x D).2.1:=by
 unfold Lg.append
 split
 ·exact ⟨o.up qo,d.up qo⟩
 split
 ·exact ⟨o.up qo,d.up qo⟩
 rename_i h;have hok:=uI (Decidable.not_not.1 h);exact dL.app1 x L D c o d (fun e he=>⟨hok e he,hx e he⟩) hc
end
section
def vG(ao:Option Addr)(n i:Nat):List Value:=[.slice (ez ao (64*i+min 64 (n-64*i)) (64*i) 1) (min 64 (n-64*i)) (min 64 (n-64*i))]
def chk(ao:Option Addr)(n:Nat):List (List Value):=(List.range ((n+63) / 64)).map (vG ao n)
theorem yi(ao:Option Addr)(n:Nat):ba (chk ao n)=(n+63) / 64:=by simp[chk]
def Fj(ao:Option Addr){n i:Nat}(h:i<(n+63) / 64):(chk ao n)[i]?=some (vG ao n i):=by simp[chk,h]
def aH.sub3{h:PH}{ao:Option Addr}{n cap:Nat}{xs:List Value}(x:aH h ao n cap 1 xs)(L N:Nat)(hN:L+N<=n):aH h (ez ao (L+N) L 1) N N 1 ((xs.drop L).take N):=by
 have hl:ba xs=n:=by have:=x.1;omega
 rcases abq N with h0|h0
 ·subst h0;rw[abj];exact aH.nil _ _ _ _
 refine ⟨by rw[aam,aan];omega,aac _,fun j v hv=>?_⟩;have hj:j<N:=by have:=(aas.1 hv).1;rw[aam] at this;omega
 rw[abn hj,abu] at hv;obtain ⟨a,rfl,hc⟩:=x.2.2 _ v hv;refine ⟨a.add (L*1),by rw[ez,aaa qo];rfl,?_⟩;rw[Deep.add_add,aah];exact hc
section joinx
variable {P:Program} {w0:World} {Q:Exit->Act->World->Prop} {n:Nat} {l:Sl} {K:PH} {hs:List PH} {r:Option Nat} {ds:List Deferred}
def JZ(ds:List Deferred)(w0:World){σ:Type}(F:σ->Sl)(HK:σ->PH)(H:σ->List PH)(J:σ->Prop)(n:Nat)(Q:Exit->Act->World->Prop):Exit->Act->World->Prop
 | .normal,a',w=>∃ s a,J s/\a'=wd ds a/\Ag n (F s) a/\aY w0 w (HK s) (H s)
 | e,a,w=>Q e a w
def Sf{σ:Type}{x y:Code}(F:σ->Sl)(HK:σ->PH)(H:σ->List PH)(J:σ->Prop)(h1:WX P w0 r ds x (JZ ds w0 F HK H J n Q) n l K hs)(h2:∀ s,J s->WX P w0 r ds y Q n (F s) (HK s) (H s)):WX P w0 r ds (.seq x y) Q n l K hs:=
 de fun a w ha hw=>wpIn_mono (h1 a w ha hw) (fun e a w h=>by
  cases e with
  | normal=>obtain ⟨s,a1,hJ,rfl,ha,hw⟩:=h;exact h2 s hJ a1 w ha hw
  | _=>exact h)
def HZ{σ:Type}{F:σ->Sl}{HK:σ->PH}{H:σ->List PH}{J:σ->Prop}(s:σ)(hJ:J s)(hF:lh l (F s))(hK:K=HK s)(hH:hs=H s):cH ds w0 (JZ ds w0 F HK H J n Q) .normal n l K hs:=
 fun a w ha hw=>⟨s,a,hJ,rfl,ha.sub hF,by rw[<-hK,<-hH];exact hw⟩
end joinx
theorem DP{K:PH}:∀ {css:List (List Value)} {l:List aI},eO (iH K) css l->∀ u∈css.flatten,u.oneCell'=true
 | [],[],_,u,hu=>by simp at hu
 | c::css,x::l,h,u,hu=>by
  rw[abD,aal] at hu;rcases hu with hu|hu
  ·obtain ⟨ao,cap,rfl,_⟩:=h.1;simp[aI.v] at hu;rcases hu with rfl|rfl|rfl|rfl <;> rfl
  exact DP h.2 u hu
 | _::_,[],h,_,_=>h.elim
 | [],_::_,h,_,_=>h.elim
def PG(ao:Option Addr)(n c:Nat):aj w0 101 [.slice ao n c,.int .i64 64] K hs
  (fun v K' hs'=>Le K K'/\hs'=hs/\∃ b2 b3,v=.func (.func 143) #[] #[SX b2,SX b3]/\bR K' ⟨b2,0,none⟩ (.slice ao n c)/\bR K' ⟨b3,0,none⟩ (.int .i64 64)):=by
 refine dj Tryz.func101 ?_;refine ac9 (bx 0 I fun b2=>bx 0 I fun b3=>au ?_);exact aX 0 I (fun h=>absurd h SU) (fun _=>fin 0 I (th (dt I (sk (ac6 (fin 2 I (adb (WQ.frz fun K1 l1 l2=>WQ.frz fun K2 l3 l4=>ay I I ⟨l1.trans l3,I,b2,b3,I,(bR.pt I).le l4,((bR.pt I).le l2).le l3⟩))))))))
def PF(b2 b3:Nat)(ao:Option Addr)(n c:Nat)(hn:n<=1099511627776)(hnc:n<=c):vL Tryz.prog w0 143 [SX b2,SX b3] (chk ao n)
  (fun K _=>bR K ⟨b2,0,none⟩ (.slice ao n c)/\bR K ⟨b3,0,none⟩ (.int .i64 64)):=by
 intro L St Sp hRd hY K hs h0;refine m8 Tryz.func143 ?_;refine au ?_;refine qM (σ:=Nat×PH×List PH) (fun s=>[(0,.func (.yield L) #[] #[]),(1,SX b2),(2,SX b3),(4,.int .i64 (64*s.1:Nat))]) (fun s=>s.2.1) (fun s=>s.2.2) (fun s=>s.1<=(n+63) / 64/\St s.1 s.2.1 s.2.2) (fun s=>(n+63) / 64-s.1) (0,K,hs) ⟨aag _,h0⟩ ⟨I,I,I,I,trivial⟩ I I ?_;rintro ⟨i,K,hs⟩ ⟨hi,hst⟩;dsimp only at *;obtain ⟨c1,c2⟩:=hRd i K hs hst;refine de (de (dX (ld 1 I (.inl I) c1 (aX 1 I (fun e2=>?_) (fun e2=>?_)))))
 ·refine au ?_;have hil:i<(n+63) / 64:=qo
  obtain ⟨N,hN⟩:=bC (min 64 (n-64*i));refine au ?_;refine oJ [] 7 [0,2,4,6,8,10,12] ST qk qk (lc qk 0 I (.inl I) c2 (lc qk 0 I (.inl I) c1 (q9 qk 1 (64*i) (n-64*i) I I I (by show ((n:Nat):Int)=_;omega) qo ?_)))
  refine bQ qk 1 I (v':=.int .i64 (N:Nat)) (by
   congr 1
   rw[hN]
   split <;> omega) ?_
  refine be qk 1 I<|dQ (dR<|de (tg<|iB.cut 10 (ld 1 I (.inl I) c1<|ar 3 I (ac (x:=((64*i+N:Nat):Int)) qo) (ar 2 I (ac (x:=((64*i+N:Nat):Int)) qo)<|G7 0 (64*i) N (64*i+N) I I I I (aac _) qo (fin 0 I<|s9 ?_)))))
  have hv:(chk ao n)[i]?=some [.slice (ez ao (64*i+N) (64*i) 1) N (64*i+N-64*i)]:=by
   rw[Fj ao hil,vG,<-hN,abx]
  refine te I (hY i _ K hs hv hst) ?_;rintro v17 K17 hs17 (⟨rfl,hn'⟩|⟨rfl,hp⟩)
  ·refine iB.fin (au ?_);obtain ⟨c1',c2'⟩:=hRd (i+1) K17 hs17 hn';exact ld 1 I (.inl I) c2' (ar 0 I (v':=.int .i64 ((64*(i+1):Nat):Int)) (by rw[ac qo];congr 1) (fin 1 rfl (dQ (qE (x:=(i,K,hs)) (i+1,K17,hs17) sb rfl rfl ⟨ax,hn'⟩ ax))))
  refine iB.fin (au ?_);exact uV I (.inr hp)
 refine au ?_;obtain rfl:i=(n+63) / 64:=qo
 exact qO I (.inl (by rw[yi];exact hst))
def N6{hv:PH}(ao:Option Addr)(n c:Nat)(l:List aI)(hm:In K hs hv)(x:bF 4 (iH K) hv ao n c l)(hl:n<=1000000000000):aj w0 105 [.slice ao n c] K hs
  (fun v K' hs'=>K'=K/\∃ h' ao' c',hs'=h'::hs/\v=.slice ao' n c'/\bN 4 84 (iH K) h' ao' n c' l):=by
 cases ao with
 | none=>
  obtain rfl:n=0:=by
   rcases abq n with h|h
   ·exact h
   obtain ⟨a,ha⟩:=x.addr h SU;cases ha
  have hl0:l=[]:=aaX x.len.symm;subst hl0;refine bH Tryz.func105 ?_;exact eE 1 True I ST fun b4 h4=>fin 0 I (th (ah h4 I (fun e2=>ac9 (fin 1 I (adb (rT (WQ.em (ay I I ⟨I,em,none,0,I,I,bN.nil _ _⟩)))))) (fun e2=>absurd trivial e2)))
 | some a=>
  obtain rfl:=x.len;obtain ⟨css,hn,hS,hal,hcl⟩:=x;refine bH Tryz.func105 ?_;refine eE 1 False I ST fun b4 h4=>fin 0 I (th (ah h4 I (fun e2=>e2.elim) (fun e2=>sk (ac6 (lit 0 #[] I SU qk fun b5=>app 1 0 I I (aZ.ofPt (c:=#[]) (n:=0) ST (by simp[maxLen])) (In.cons hm) hS I SU (DP hal) (by show (0+ba l)*48<=_;omega) (by simp[maxLen];omega) fun ao7 c7 g7 o7=>au ?_)))));have e:0+ba l=ba l:=aaD _;rw[e] at o7;exact ay I (by rw[e];rfl) ⟨rfl,g7,ao7,c7,rfl,rfl,css,rfl,.inl (by simpa using o7),hal,hcl⟩
end
section
def uD{fn:Func}{n:Nat}{l:Sl}{T:br}[hT:TabOK P T](j:Nat){u tu b2 ty2:Nat}{k:UK}{x:Value}{fr2:Nat×Nat}(hr:fn.results=#[.cell u tu])(hu:look l u=some (SX b2))(hj:hs[j]?=some (pt b2 #[x] ty2 fr2))
  (hk:asc T.kinds tu=some k) (h1:k.one=true):∀ a w,Ag n l a->aY w0 w K hs->(results fn a.tmps).run P w=.ok x w:=by
 intro a w ha hw
 have h3:(loadVar tu ⟨b2,0,none⟩).run P w=.ok x w:=by
  have:=rR (P:=P) (w:=w) hk h1 (a:=⟨b2,0,none⟩) (v:=x) (hw.cell (.inr ⟨j,hj⟩) (bR.pt rfl))
  simp_all [Instr.loadAt,Instr.sureAddr]
 simp[results,hr,ha.slot u _ hu,asAddr,h3]
def sh(place f n:Nat)(b:List UInt8)(D:Dk):lgW place (f+1) n b D=if b=[] then (D,0)
  else if (D.write (bU place) n (b.take 64)).2≠0 then D.write (bU place) n (b.take 64)
  else lgW place f (n+1) (b.drop 64) (D.write (bU place) n (b.take 64)).1:=rfl
def Qu{m:List PH}(lb db:Nat)(L:Lg)(D:Dk)(c:Nat)(hb:dL c L)(hc:c<=999000000)(oD:bf c D)(hm:gv K lb db L D m)(hcode:L.code=0)(s:bG)(hsi:s.idx<=bY)(hlt:L.sn.idx<s.idx)(hst:s.term<=aC)(hsd:ba s.data<=2097152)(hsv:ba s.vot<=1000)
  (aS:Option Addr) (cS:Nat) (aT:Option Addr) (cT:Nat) (xS:aH K aS (ba s.vot) cS 1 (iv s.vot)) (xT:aH K aT (ba s.data) cT 1 (bv s.data)) (fr:Nat) (hfr:fr<18446744073709551616):
  aj w0 38 [SX lb,.agg (eg s aS cS aT cT),.int .u64 (fr:Nat)] K (m++hs)
   (fun u K' hs'=>Le K K'/\∃ m',hs'=m'++hs/\gv K' lb db (L.lay s fr D).1 (L.lay s fr D).2.1 m'/\u=.int .i64 (L.lay s fr D).2.2):=by
 have hm0:=hm;obtain ⟨wb,hb',eb,aV,cV,aD,cD,aL,cL,wh,hh,eh,gl,dh,rfl,hW,hH,hE,hG,hD,xV,xD⟩:=hm;have hpl:=hb.place;have hlen:=hb.len;have hidx:=hb.idx;unfold bY at hpl hidx hsi;obtain ⟨pl,hplE⟩:=bC (L.place+1);obtain ⟨R0,hR0⟩:=bC (lgW pl (ba s.data+1) 0 s.data D);obtain ⟨R,hR⟩:=bC (L.lay s fr D);rw[<-hR];unfold Lg.lay at hR;rw[<-hplE,<-hR0] at hR;have hcapT:ba s.data<=cT:=xT.2.1;refine m8 Tryz.func38 ?_;refine de (dX (bx 0 I fun b3=>bx 0 I fun b4=>al 0 (.int .i64 0) I qk fun b6=>au ?_));refine ar 1 I (v':=.int .u64 (pl:Nat)) (by grind [cJ]) (al 0 (.int .u64 0) I qk fun b8=>au ?_);refine al 0 (.int .i64 0) I qk fun b9=>stp 0 0 I I I I (WL.h 0 (pt b9 #[.int .i64 0] 3) ?_);refine WL.h 1 (pt b8 #[.int .u64 (pl:Nat)] 37) ?_;refine WL.h 2 (pt b6 #[.int .i64 0] 29) ?_;refine WL.h 3 (pt b4 (eg s aS cS aT cT) 42) ?_
 refine WL.h 4 (pt b3 #[SX lb] 28) ?_;refine au ?_;refine cl 0 I (PG aT (ba s.data) cT) ?_;rintro v26 K1 hs26 ⟨le1,rfl,d2,d3,rfl,k2,k3⟩;refine au ?_
 refine zJ [SX d2,SX d3] (chk aT (ba s.data)) (fun K _=>bR K ⟨d2,0,none⟩ (.slice aT (ba s.data) cT)/\bR K ⟨d3,0,none⟩ (.int .i64 64)) I (PF d2 d3 aT (ba s.data) cT qo hcapT) qk (fun vs hv=>?_) I
  (fun i K' hs'=>Le K1 K'/\∃ D' dh',hs'=pt b9 #[.int .i64 (i:Nat)] 3::pt b8 #[.int .u64 (pl:Nat)] 37::pt b6 #[.int .i64 0] 29::pt b4 (eg s aS cS aT cT) 42::pt b3 #[SX lb] 28::pt lb (fH wb db hb' eb L (.slice aV (ba L.sn.vot) cV) (.slice aD (ba L.sn.data) cD) (.slice aL (ba L.l) cL)) 71::wh::hh::eh::gl::dh'::hs /\
   lgW pl (ba s.data+1-i) i (s.data.drop (64*i)) D'=R0/\bf (c+i) D'/\da K' db D' dh')
  (fun cc K' hs'=>cc=.ret/\Le K1 K'/\R0.2≠0/\∃ x dh',hs'=x::pt b8 #[.int .u64 (pl:Nat)] 37::pt b6 #[.int .i64 R0.2] 29::pt b4 (eg s aS cS aT cT) 42::pt b3 #[SX lb] 28::pt lb (fH wb db hb' eb { L with code:=R0.2 } (.slice aV (ba L.sn.vot) cV) (.slice aD (ba L.sn.data) cD) (.slice aL (ba L.l) cL)) 71::wh::hh::eh::gl::dh'::hs/\da K' db R0.1 dh')
  ⟨Le.refl _,D,dh,rfl,hR0.symm,oD,hD.le le1⟩ (fun i K' hs' t u h=>⟨k2.le h.1,k3.le h.1⟩) ?_ ?_ ?_
 ·obtain ⟨y,_,rfl⟩:=aak.1 hv
  rfl
 ·rintro LL i vs K' hs' t u hvs ⟨le2,D',dh',rfl,hw,oD',hD'⟩;have hi:i<(ba s.data+63) / 64:=by grind [yi]
  rw[Fj aT hi] at hvs;cases hvs;obtain ⟨b,hbE⟩:=bC ((s.data.drop (64*i)).take 64);have hbl:ba b=min 64 (ba s.data-64*i):=by rw[hbE,aam,aan]
  have hb0:s.data.drop (64*i)≠[]:=fun h=>by grind
  have xb:aH K' (ez aT (64*i+ba b) (64*i) 1) (ba b) (ba b) 1 (bv b):=by
   have:=(xT.le (le1.trans le2)).sub3 (64*i) (ba b) qo
   have e:((bv s.data).drop (64*i)).take (ba b)=bv b:=by
    rw[hbE];simp[bv]
   rwa [e] at this
  obtain ⟨f,hf⟩:∃ f,ba s.data+1-i=f+1:=⟨ba s.data-i,qo⟩;obtain ⟨E,hE'⟩:=bC (D'.write (bU pl) i b);have oE:=oD'.write (bU pl) i b (by unfold bU;omega);rw[hf,sh,aaa hb0,<-hbE,<-hE'] at hw;rw[<-hE'] at oE;rw[vG,<-hbl];refine au ?_;refine ta (hs':=pt b9 #[.int .i64 (i:Nat)] 3::pt b8 #[.int .u64 (pl:Nat)] 37::pt b6 #[.int .i64 0] 29::pt b4 (eg s aS cS aT cT) 42::pt b3 #[SX lb] 28::pt lb (fH wb db hb' eb L (.slice aV (ba L.sn.vot) cV) (.slice aD (ba L.sn.data) cD) (.slice aL (ba L.l) cL)) 71::wh::hh::eh::gl::dh'::hs) I fun u=>lg (de (de (qV [4,5,1,0] 10 [0,2,4,6,8,10,14,16,13,19,21,22] ?_)));refine fJ [] qk 0 0 I qk I I (fJ [9,4,3,2] qk 0 0 I qk I I (fJ [9] qk 2 1 I qk I I (fJ [9,6] qk 0 2 I qk I I (fJ [9] qk 0 3 I qk I I (aG qk 1 I (cl 0 I (sO pl qo) ?_))))))
  rintro v34 K34 hs34 ⟨rfl,rfl,rfl⟩;refine bp ST I (aG qk 0 I (cl 0 I (Ct.at 10 I (yl db D' (c+i) oD'.ok qo hD' (bU pl) i (by unfold bU;omega) _ (ba b) b (.inl rfl) xb)) ?_));rintro v37 K37 hs37 ⟨dh2,rfl,le3,hD2,rfl⟩;rw[<-hE'] at hD2 ⊢;refine fF ST le3 (au ?_);refine cl 0 I (Ct.at 5 I (pL lb wb db hb' eb L _ _ _ _)) ?_;rintro v38 K38 hs38 ⟨_,rfl,rfl,rfl,rfl⟩;have ed:iN L.code E.2=E.2:=by unfold iN;omega
  rw[ed];refine au ?_;refine gE qk 0 (E.2≠0) I ST fun b39 h39=>au ?_;refine pR h39 I (fun e1=>?_) (fun e1=>?_)
  ·rw[aab e1] at hw;refine au ?_;refine Hl (hs':=pt b9 #[.int .i64 (i:Nat)] 3::pt b8 #[.int .u64 (pl:Nat)] 37::pt b6 #[.int .i64 E.2] 29::pt b4 (eg s aS cS aT cT) 42::pt b3 #[SX lb] 28::pt lb (fH wb db hb' eb { L with code:=E.2 } (.slice aV (ba L.sn.vot) cV) (.slice aD (ba L.sn.data) cD) (.slice aL (ba L.l) cL)) 71::wh::hh::eh::gl::dh2::hs) I ?_;rw[<-hw];exact ⟨I,le2.trans le3,e1,_,dh2,I,hD2⟩
  have e1:=Decidable.not_not.1 e1;rw[aaa (by rw[e1];simp)] at hw;have eL:({ L with code:=E.2 }:Lg)=L:=by rw[e1,<-hcode]
  rw[eL];refine au ?_;refine ar 0 I (ac (x:=((i+1:Nat):Int)) qo) (stp 0 0 I I I I (fin 0 I (dQ (mu (sW (hs':=pt b9 #[.int .i64 (i+1:Nat)] 3::pt b8 #[.int .u64 (pl:Nat)] 37::pt b6 #[.int .i64 0] 29::pt b4 (eg s aS cS aT cT) 42::pt b3 #[SX lb] 28::pt lb (fH wb db hb' eb L (.slice aV (ba L.sn.vot) cV) (.slice aD (ba L.sn.data) cD) (.slice aL (ba L.l) cL)) 71::wh::hh::eh::gl::dh2::hs) I (⟨le2.trans le3,E.1,dh2,I,?_,oE,hD2⟩))))))
  grind [List.drop_drop]
 ·rintro DD K2 hs' ⟨le2,D',dh',rfl,hw,oD1,hD'⟩;rw[yi] at hw oD1;have kZ:s.data.drop (64*((ba s.data+63) / 64))=[]:=List.drop_eq_nil_of_le qo;obtain ⟨f,hf⟩:∃ f,ba s.data+1-(ba s.data+63) / 64=f+1:=⟨ba s.data-(ba s.data+63) / 64,qo⟩;rw[kZ,hf,sh,aab rfl] at hw;rw[<-hw] at hR;rw[aaa ST] at hR;dsimp only at hR;unfold Lg.lay1 at hR;rw[<-hplE] at hR;have le12:=le1.trans le2;obtain ⟨c1,hc1⟩:=bC (c+(ba s.data+63) / 64);rw[<-hc1] at oD1;have hc1b:c1<=c+32768:=qo
  obtain ⟨E,hEE⟩:=bC (D'.sync (bU pl));have oE:=oD1.sync (bU pl);rw[<-hEE] at hR oE;refine mu (dR (WX.perm (hs':=pt b9 #[.int .i64 ((ba (chk aT (ba s.data)):Nat):Int)] 3::pt b8 #[.int .u64 (pl:Nat)] 37::pt b6 #[.int .i64 0] 29::pt b4 (eg s aS cS aT cT) 42::pt b3 #[SX lb] 28::pt lb (fH wb db hb' eb L (.slice aV (ba L.sn.vot) cV) (.slice aD (ba L.sn.data) cD) (.slice aL (ba L.l) cL)) 71::wh::hh::eh::gl::dh'::(hs++[ic DD])) (List.Perm.refl _) (WX.drop (de (de (qV [3,4,0] 8 [0,2,4,6,8,10,13,15,17,18] ?_))))));refine fJ [] qk 0 0 I qk I I (fJ [7,4,3,2] qk 0 0 I qk I I (fJ [7] qk 2 1 I qk I I (fJ [7,6] qk 0 2 I qk I I (aG qk 0 I (cl 0 I (sO pl qo) ?_)))));rintro v52 K52 hs52 ⟨rfl,rfl,rfl⟩;refine bp ST I (aG qk 0 I (cl 0 I (Ct.at 9 I (uS db D' c1 oD1.ok qo hD' (bU pl))) ?_))
  rintro v53 K53 hs53 ⟨dh2,rfl,rfl,hD2,rfl⟩;rw[<-hEE] at hD2 ⊢;refine bp ST I (aG qk 0 I (cl 0 I (Ct.at 4 I (pL lb wb db hb' eb L _ _ _ _)) ?_));rintro v54 K54 hs54 ⟨_,rfl,rfl,rfl,rfl⟩;have ed:iN L.code E.2=E.2:=by unfold iN;omega
  rw[ed];refine di (.inl qk) (gE qk 0 (E.2≠0) I ST fun b55 h55=>be qk 0 I (dQ (dR (pR h55 I (fun e2=>?_) (fun e2=>?_)))))
  ·rw[aab e2] at hR;refine de (dX (bE 0 3 I I I (bE 2 4 I I I (stp 0 1 I I I I (fin 0 I (dQ (dR (pb (vP (uT DD 4 (hs':=pt b8 #[.int .u64 (pl:Nat)] 37::pt b6 #[.int .i64 E.2] 29::pt b4 (eg s aS cS aT cT) 42::pt b3 #[SX lb] 28::pt lb (fH wb db hb' eb { L with code:=E.2 } (.slice aV (ba L.sn.vot) cV) (.slice aD (ba L.sn.data) cD) (.slice aL (ba L.l) cL)) 71::wh::hh::eh::gl::dh2::hs) I (.inl I) (uD 1 I I I I I) ?_))))))))));rw[hR];exact ⟨le12,[_,_,_,_,_,_],I,⟨wb,hb',eb,aV,cV,aD,cD,aL,cL,wh,hh,eh,gl,dh2,I,hW.le le12,hH.le le12,hE.le le12,hG.imp fun _ _ h=>h.le le12,hD2,xV.le le12,xD.le le12⟩,I⟩
  have e2:=Decidable.not_not.1 e2;rw[aaa (by rw[e2];simp)] at hR;have eL:({ L with code:=E.2 }:Lg)=L:=by rw[e2,<-hcode]
  rw[eL];clear eL;obtain ⟨E,Ee⟩:=E;dsimp only at hR hD2 oE;clear ed h55;clear hw;refine nk (dR (de (dX (eD 1 [.slice aS (ba s.vot) cS] I qk (.inr ⟨2,I⟩) (wV _ I) (cl 0 I (Da aS cS s.vot (.inl I) (xS.le le12) qo) ?_)))));rintro v63 K63 hs63 ⟨rfl,h63,ao63,c63,rfl,rfl,o63⟩;unfold Lg.lay2 at hR;rw[<-hplE] at hR;obtain ⟨ns,hns⟩:∃ ns:List Nat,ns=[s.idx,s.term,pl,ba s.data,fr]:=⟨_,rfl⟩;have hnsl:ba ns=5:=by rw[hns];rfl
  have hnsb:∀ n∈ns,n<18446744073709551616:=by
   grind [aC]
  have hfl:∀ j,ba ((ns.take j).flatMap aU)<=10*5:=fun j=>by
   have:∀ l:List Nat,(∀ n∈l,n<18446744073709551616)->ba (l.flatMap aU)<=10*ba l:=fun l=>by
    induction l with
    | nil=>simp
    | cons a l ih=>
     intro h;have h1:=eY (h a ST)
     grind
   grind
  refine fin 5 I<|dQ (dR<|de (dX<|fin 1 I (dQ<|dR (de<|de (dX<|bE 1 3 I I I (bE 1 3 I I I<|bE 0 1 I I I (bE 1 3 I I I<|ar 1 I (cJ (x:=((ba s.data:Nat):Int)) qo) (lit 1 #[.int .u64 s.idx,.int .u64 s.term,.int .u64 (pl:Nat),.int .u64 (ba s.data),.int .u64 (fr:Nat)] I SU qk fun b76=>fin 2 I<|dQ (dR<|lg (WX.em ?_))))))))))
  refine qM (σ:=Nat×(Option Addr×Nat×PH)) (fun x=>[(2,.int .u64 (fr:Nat)),(3,SX b3),(4,SX b4),(6,SX b6),(7,.int .u64 L.place),(8,SX b8),(11,.slice ao63 (ba (ob (eu s.vot))) c63),(13,.slice x.2.1 (ba ((ns.take x.1).flatMap aU)) x.2.2.1),(76,.slice (some ⟨b76,0,none⟩) 5 5),(77,.int .i64 5),(78,.int .i64 x.1)]) (fun _=>K63)
   (fun x=>x.2.2.2::pt b76 #[.int .u64 s.idx,.int .u64 s.term,.int .u64 (pl:Nat),.int .u64 (ba s.data),.int .u64 (fr:Nat)] 37::h63::pt b8 #[.int .u64 (pl:Nat)] 37::pt b6 #[.int .i64 0] 29::pt b4 (eg s aS cS aT cT) 42::pt b3 #[SX lb] 28::pt lb (fH wb db hb' eb L (.slice aV (ba L.sn.vot) cV) (.slice aD (ba L.sn.data) cD) (.slice aL (ba L.l) cL)) 71::wh::hh::eh::gl::dh2::(hs++[ic DD]))
   (fun x=>x.1<=5/\aZ x.2.2.2 x.2.1 (ba ((ns.take x.1).flatMap aU)) x.2.2.1 5 1 (bv ((ns.take x.1).flatMap aU))) (fun x=>5-x.1) (0,(none,0,em)) ⟨qo,aZ.nil _ _⟩ ⟨rfl,rfl,rfl,rfl,rfl,rfl,rfl,rfl,rfl,rfl,rfl,trivial⟩ rfl rfl ?_
  rintro ⟨j,⟨ag,cg,g⟩⟩ ⟨hj,og⟩;dsimp only at *;have hflj:=hfl j;refine de (dX (af 0 I fun b79 h79=>fin 0 I (dQ (dR (de (pR h79 I (fun e4=>?_) (fun e4=>?_)))))))
  ·have hj5:j<5:=qo
   obtain ⟨n,hn⟩:∃ n,ns[j]?=some n:=⟨ns[j],aae qo⟩;have hnb:=hnsb n (aap hn);have x76:aH (pt b76 #[.int .u64 s.idx,.int .u64 s.term,.int .u64 (pl:Nat),.int .u64 (ba s.data),.int .u64 (fr:Nat)] 37) (some ⟨b76,0,none⟩) 5 5 1 (kT ns):=by rw[hns];exact (aZ.ofPt (n:=5) (size:=1) I SU).isS
   refine nk (dR (de (lg (de (dX (fe 0 j I I I x76 (ui hn) fun a80 hc80=>ld 0 I (.inr ⟨1,I⟩) hc80 (fin 1 I (dQ (dR (dX (cl 2 I (kD ag cg _ n og hnb qo) ?_)))))))))));rintro v84 K84 hs84 ⟨h84,rfl,rfl,ao84,c84,rfl,o84⟩;have etk:(ns.take (j+1)).flatMap aU=(ns.take j).flatMap aU++aU n:=by rw[aaA,hn];simp
   rw[<-etk] at o84 ⊢;exact fin 1 I (dQ (mu (dR (dX (ar 0 I (ac (x:=((j+1:Nat):Int)) qo) (fin 1 I (dQ (qE (x:=(j,(ag,cg,g))) (j+1,(ao84,c84,h84)) sb I I ⟨qo,o84⟩ ax))))))))
  obtain rfl:j=5:=qo
  have ens:(ns.take 5).flatMap aU=aU s.idx++(aU s.term++(aU pl++(aU (ba s.data)++aU fr))):=by rw[hns];simp
  obtain ⟨bb,hbb⟩:=bC ((ns.take 5).flatMap aU);have esay:bb++ob (eu s.vot)=Lg.say s pl fr:=by simp_all [Lg.say]
  rw[<-hbb] at og hflj ⊢
  have hcl:ba (ob (eu s.vot))<=1:=by
   unfold eu
   split
   all_goals simp[ob]
  obtain ⟨F,hF⟩:=bC (L.head.save 4 E (Lg.say s pl fr));have oF:=oE.save L.head 4 qo (Lg.say s pl fr);have hsl:ba (Lg.say s pl fr)<=51:=by rw[<-esay,aaf];omega
  have hHb:=df.save_bd hb.head 4 E (Lg.say s pl fr);rw[<-hF] at oF hR hHb;refine zP (tf (tf (zF (dR (de (de (oJ [pt b3 #[SX lb] 28,pt lb (fH wb db hb' eb L (.slice aV (ba L.sn.vot) cV) (.slice aD (ba L.sn.data) cD) (.slice aL (ba L.l) cL)) 71] 9 [0,2,4,6,8,10,12,15,17,19,20] ST qk qk (fJ [] qk 0 0 I qk I I (fJ [8,4,3,2] qk 0 0 I qk I I (fJ [8] qk 2 1 I qk I I (aG qk 2 I (app 0 0 I I og (.inr ⟨2,I⟩) o63.isS I SU (iZ _) (by grind) (by simp only[maxLen];omega) fun ao93 c93 g93 o93=>?_))))))))))));have o93':aZ g93 ao93 (ba (Lg.say s pl fr)) c93 5 1 (bv (Lg.say s pl fr)):=sJ o93 (by rw[<-esay,aaf]) (by rw[<-esay,nz]);have elen:ba bb+ba (ob (eu s.vot))=ba (Lg.say s pl fr):=by rw[<-esay,aaf]
  rw[elen];refine bp ST I (aG qk 0 I (cl 0 I (Ct.at2 10 11 I I (OE eb db 4 L.head (hE.le le12) hb.head E (c1+1) oE.ok qo hD2 qo (Lg.say s pl fr) ao93 c93 qo (.inr ⟨0,I⟩) o93'.isS)) ?_));rintro v94 K3 hs94 ⟨eh3,dh3,rfl,le3,hE3,hD3,rfl⟩;rw[<-hF] at hE3 hD3 ⊢;have le13:=le12.trans le3;refine fF ST le3 (aG qk 0 I (cl 0 I (Ct.at 7 I (pL lb wb db hb' eb L _ _ _ _)) ?_));rintro v95 K95 hs95 ⟨_,rfl,rfl,rfl,rfl⟩;have ed:iN L.code F.2.2=F.2.2:=by unfold iN;omega
  rw[ed];refine di (.inl qk) (gE qk 0 (F.2.2≠0) I ST fun b96 h96=>be qk 0 I (dQ (dR (WX.drop (WX.drop (WX.drop (pR h96 I (fun e5=>?_) (fun e5=>?_))))))))
  ·rw[aab e5] at hR;refine de (dX (bE 0 3 I I I (bE 2 4 I I I (stp 0 1 I I I I (fin 0 I (dQ (dR (pb (vP (uT DD 4 (hs':=pt b8 #[.int .u64 (pl:Nat)] 37::pt b6 #[.int .i64 F.2.2] 29::pt b4 (eg s aS cS aT cT) 42::pt b3 #[SX lb] 28::pt lb (fH wb db hb' eb { L with code:=F.2.2 } (.slice aV (ba L.sn.vot) cV) (.slice aD (ba L.sn.data) cD) (.slice aL (ba L.l) cL)) 71::wh::hh::eh3::gl::dh3::hs) I (.inl I) (uD 1 I I I I I) ?_))))))))));rw[hR];exact ⟨le13,[_,_,_,_,_,_],I,⟨wb,hb',eb,aV,cV,aD,cD,aL,cL,wh,hh,eh3,gl,dh3,I,hW.le le13,hH.le le13,hE3,hG.imp fun _ _ h=>h.le le13,hD3,xV.le le13,xD.le le13⟩,I⟩
  have e5:=Decidable.not_not.1 e5;rw[aaa (by rw[e5];simp)] at hR;have eL:({ L with code:=F.2.2 }:Lg)=L:=by rw[e5,<-hcode]
  rw[eL];clear eL ed h96;obtain ⟨H,D3,F2⟩:=F;dsimp only at hR oF hHb hE3 hD3 e5;subst e5;unfold Lg.lay3 at hR;have hbH:dL c { L with head:=H }:=⟨hb.w,hb.hard,hHb,hb.kt,hb.kv,hb.idx,hb.st,hb.vot,hb.data,hb.place,hb.fr,hb.len,hb.ents⟩
  have hmH:gv K95 lb db { L with head:=H } D3 [pt lb (fH wb db hb' eb L (.slice aV (ba L.sn.vot) cV) (.slice aD (ba L.sn.data) cD) (.slice aL (ba L.l) cL)) 71,wh,hh,eh3,gl,dh3]:=
   ⟨wb,hb',eb,aV,cV,aD,cD,aL,cL,wh,hh,eh3,gl,dh3,rfl,hW.le le13,hH.le le13,hE3,hG.imp fun _ _ h=>h.le le13,hD3,xV.le le13,xD.le le13⟩
  have hG3:=hG.imp (R':=iH K95) fun _ _ h=>h.le le13;refine nk (dR (WX.perm (hs':=[pt lb (fH wb db hb' eb L (.slice aV (ba L.sn.vot) cV) (.slice aD (ba L.sn.data) cD) (.slice aL (ba L.l) cL)) 71,wh,hh,eh3,gl,dh3]++(pt b8 #[.int .u64 (pl:Nat)] 37::pt b6 #[.int .i64 0] 29::pt b4 (eg s aS cS aT cT) 42::pt b3 #[SX lb] 28::(hs++[ic DD]))) (abK [_,_,_,_] [_,_,_,_,_,_] (hs++[ic DD])) (de (dX (bE 0 9 I I I (bE 1 8 I I I (cl 0 I (zy lb db { L with head:=H } D3 c hbH qo hmH s.idx qo) ?_)))))));rintro v105 K105 hs105 ⟨rfl,rfl,rfl⟩;obtain ⟨NL,hNL⟩:=bC (if gQ L.sn L.l s=true then L.l.drop ((i8 L.sn L.l s.idx).getD 0+1) else []);have hNl:ba NL<=ba L.l:=by rw[hNL];split <;> simp
  refine fin 5 I (dQ (dR (Sf (σ:=Option Addr×Nat×PH) (fun _=>[(2,.int .u64 (fr:Nat)),(3,SX b3),(4,SX b4),(6,SX b6),(7,.int .u64 L.place),(8,SX b8)]) (fun _=>K105)
   (fun x=>pt lb (fH wb db hb' eb L (.slice aV (ba L.sn.vot) cV) (.slice aD (ba L.sn.data) cD) (.slice x.1 (ba NL) x.2.1)) 71::wh::hh::eh3::x.2.2::dh3::pt b8 #[.int .u64 (pl:Nat)] 37::pt b6 #[.int .i64 0] 29::pt b4 (eg s aS cS aT cT) 42::pt b3 #[SX lb] 28::(hs++[ic DD])) (fun x=>bN 4 84 (iH K105) x.2.2 x.1 (ba NL) x.2.1 NL) ?_ ?_)))
  ·refine de (dX (bE 0 9 I I I (dy 0 8 I I qk (cl 0 I (GR (hv:=K105) lb db { L with head:=H } D3 c hbH qo hmH s qo aS cS aT cT) ?_))));rintro v110 K110 hs110 ⟨rfl,rfl,rfl⟩;refine fin 0 I (dQ (dR ?_));cases hhas:gQ L.sn L.l s with
   | true=>
    rw[aab hhas] at hNL
    obtain ⟨k,hk,hkl⟩:∃ k,i8 L.sn L.l s.idx=some k/\k<ba L.l:=by
     unfold gQ at hhas;rw[FD,aaa qo] at hhas;cases h:i8 L.sn L.l s.idx with
     | none=>rw[h] at hhas;simp at hhas
     | some k=>exact ⟨k,rfl,(wO h).2.2.2⟩
    have hk0:(i8 L.sn L.l s.idx).getD 0=k:=by rw[hk];rfl
    rw[hk0] at hNL;have hNL2:ba NL=ba L.l-(k+1):=by rw[hNL,aan]
    have hcap:=hG3.caps;have xcut:=hG3.slS.cut (k+1) qo;rw[<-hNL,<-hNL2] at xcut;refine vA I (qV [9,0] 11 [0,2,4,6,8,10,12,14,17,18,20,23] ?_);refine dC qk 0 0 I qk I I (dC qk 0 0 I qk I I (dC qk 2 1 I qk I I (bQ qk 1 I (v':=.int .i64 (k+1:Nat)) (by grind [ac]) (q9 qk 0 (k+1) (ba NL) I I I (by show ((ba L.l:Nat):Int)=_;omega) qo (aG qk 0 rfl (cl 0 rfl (N6 _ (ba NL) _ NL (.inr ⟨4,rfl⟩) xcut qo) ?_))))));rintro v119 K119 hs119 ⟨rfl,h119,ao119,c119,rfl,rfl,o119⟩;refine bp ST I (aG qk 2 I (stp 0 1 I I I I ?_));exact WL.perm (hs':=[_,_,_,_]++(h119::_)) (aaI (l₁:=[_,_,_,_])).symm (di (.inl qk) (be qk 0 I (dQ (cH.perm (ig _ 5 gl I) (cH.drop (HZ (ao119,c119,h119) o119 ⟨I,I,I,I,I,I,trivial⟩ I I))))))
   | false=>
    rw[aaa (by rw[hhas];simp)] at hNL;refine sZ I (dX (bE 0 9 I I I (stp 2 0 I I I I (WL.loss 4 em I (.inr I) (fin 0 I (dQ ?_))))));exact HZ (none,0,em) (by rw[hNL];exact bN.nil _ _) ⟨I,I,I,I,I,I,trivial⟩ I (by rw[hNL];rfl)
  rintro ⟨aN,cN,gN⟩ oN;dsimp only at *;have eLd:L.laid s fr H={ L with head:=H,l:=NL,place:=pl,fr:=fr,sn:=s }:=by unfold Lg.laid;rw[<-hNL,<-hplE]
  obtain ⟨G,hGE⟩:=bC (D3.free (bU L.place));rw[eLd,<-hGE] at hR;refine de (oJ [pt b3 #[SX lb] 28,pt b8 #[.int .u64 (pl:Nat)] 37] 10 [0,2,4,6,8,10,13,14,16,19] ST qk qk (dC qk 0 0 I qk I I (dC qk 0 0 I qk I I (dC qk 0 1 I qk I I (aG qk 3 I (stp 0 0 I I I I (bp ST I (aG qk 2 I (stp 0 0 I I I I (bp ST I (be qk 0 I (dQ (dR (de (dX (bE 0 9 I I I (dy 0 8 I I qk (sts 2 0 I I qk (by simp[fH,eg]) (fun v hv=>by simp[eg] at hv;rcases hv with rfl|rfl|rfl|rfl <;> rfl) (WL.h 0 (pt lb (fH wb db hb' eb { L with head:=H,l:=NL,place:=pl,fr:=fr,sn:=s } (.slice aS (ba s.vot) cS) (.slice aT (ba s.data) cT) (.slice aN (ba NL) cN)) 71) ?_)))))))))))))))))))
  refine fin 0 I (dQ (dR (de (qV [9,8] 9 [0,2,4,6,9,10,12,14,16,19] ?_))));refine dC qk 0 0 I qk I I (dC qk 2 1 I qk I I (aG qk 0 I (cl 0 I (yh aS cS s.vot (.inl I) (xS.le le13) qo) ?_)));rintro v141 K4 hs141 ⟨dm,rfl,aV2,cV2,rfl,xV2⟩;refine fF ST dm (aG qk 4 I (stp 0 0 I I I I (bp ST I (be qk 0 I (dQ (dR (de (qV [9,8] 7 [0,2,4,7,8,10,12,15] ?_))))))));refine dC qk 0 0 I qk I I (dC qk 1 1 I qk I I (aG qk 0 I ?_));have le14:=le13.trans dm;refine cl 0 I (nF aT cT s.data (.inl I) (xT.le le14) qo) ?_;rintro v149 K149 hs149 ⟨rfl,h149,aD2,cD2,rfl,rfl,oD2⟩;refine WL.frz fun K5 le5 l5=>?_;have xD2:=oD2.isS.le l5;refine fF ST le5 (aG qk 3 I (stp 0 0 I I I I (bp ST I (be qk 0 I (dQ (dR (WX.perm (hs':=pt lb (fH wb db hb' eb { L with head:=H,l:=NL,place:=pl,fr:=fr,sn:=s } (.slice aV2 (ba s.vot) cV2) (.slice aD2 (ba s.data) cD2) (.slice aN (ba NL) cN)) 71::wh::hh::eh3::gN::dh3::pt b8 #[.int .u64 (pl:Nat)] 37::pt b6 #[.int .i64 0] 29::pt b4 (eg s aS cS aT cT) 42::pt b3 #[SX lb] 28::(hs++[ic DD])) (List.Perm.refl _) (de (qV [9,0] 8 [0,2,4,6,8,10,13,15,17,19] ?_)))))))))
  refine fJ [] qk 0 0 I qk I I (fJ [7,4,3,2] qk 0 0 I qk I I (fJ [7] qk 2 1 I qk I I (aG qk 1 I (cl 0 I (sO L.place qo) ?_))));rintro v159 K159 hs159 ⟨rfl,rfl,rfl⟩;refine bp ST I (aG qk 0 I ?_);have le45:=dm.trans le5;refine cl 0 I (Ct.at 5 I (uX db D3 (c1+1+2) oF.ok qo (hD3.le le45) (bU L.place))) ?_;rintro v160 K160 hs160 ⟨dh4,rfl,rfl,hD4,rfl⟩;rw[<-hGE] at hD4 ⊢;refine bp ST I (aG qk 0 I (cl 0 I (pL lb wb db hb' eb { L with head:=H,l:=NL,place:=pl,fr:=fr,sn:=s } _ _ _ _) ?_));rintro v161 K161 hs161 ⟨_,rfl,rfl,rfl,rfl⟩;have ed:iN L.code G.2=G.2:=by unfold iN;omega
  rw[ed];refine di (.inl qk) (aG qk 0 I (stp 0 7 I I I I (di (.inl qk) (be qk 0 I (dQ (dR (pb ?_)))))));refine cH.perm (hs':=[pt b8 #[.int .u64 (pl:Nat)] 37,pt b6 #[.int .i64 G.2] 29,pt b4 (eg s aS cS aT cT) 42,pt b3 #[SX lb] 28]++([pt lb (fH wb db hb' eb { L with head:=H,l:=NL,place:=pl,fr:=fr,sn:=s,code:=G.2 } (.slice aV2 (ba s.vot) cV2) (.slice aD2 (ba s.data) cD2) (.slice aN (ba NL) cN)) 71,wh,hh,eh3,gN,dh4]++(hs++[ic DD]))) (abK [_,_,_,_,_,_] [_,_,_,_] (hs++[ic DD])) (uT DD 4 (hs':=pt b8 #[.int .u64 (pl:Nat)] 37::pt b6 #[.int .i64 G.2] 29::pt b4 (eg s aS cS aT cT) 42::pt b3 #[SX lb] 28::pt lb (fH wb db hb' eb { L with head:=H,l:=NL,place:=pl,fr:=fr,sn:=s,code:=G.2 } (.slice aV2 (ba s.vot) cV2) (.slice aD2 (ba s.data) cD2) (.slice aN (ba NL) cN)) 71::wh::hh::eh3::gN::dh4::hs) I (.inl I) (uD 1 I I I I I) ?_)
  rw[hR];exact ⟨le13.trans le45,[_,_,_,_,_,_],I,⟨wb,hb',eb,aV2,cV2,aD2,cD2,aN,cN,wh,hh,eh3,gN,dh4,I,(hW.le le13).le le45,(hH.le le13).le le45,hE3.le le45,oN.imp fun _ _ h=>h.le le45,hD4,xV2.le le5,xD2⟩,I⟩
 rintro DD c' K' hs' ⟨rfl,le2,e0,x,dh',rfl,hD'⟩;rw[aab e0] at hR;refine pb (uT DD 5 (hs':=x::pt b8 #[.int .u64 (pl:Nat)] 37::pt b6 #[.int .i64 R0.2] 29::pt b4 (eg s aS cS aT cT) 42::pt b3 #[SX lb] 28::pt lb (fH wb db hb' eb { L with code:=R0.2 } (.slice aV (ba L.sn.vot) cV) (.slice aD (ba L.sn.data) cD) (.slice aL (ba L.l) cL)) 71::wh::hh::eh::gl::dh'::hs) I (.inl I) (uD 2 I I I I I) ?_);have le:=le1.trans le2;rw[hR];exact ⟨le,[_,_,_,_,_,_],I,⟨wb,hb',eb,aV,cV,aD,cD,aL,cL,wh,hh,eh,gl,dh',I,hW.le le,hH.le le,hE.le le,hG.imp fun _ _ h=>h.le le,hD',xV.le le,xD.le le⟩,I⟩
end
section
def wk{l:List Int}(h:(eu l).isSome=true):ba l<=7:=by
 unfold eu at h
 split at h
 ·rename_i h1;have:=By l (-1) h1.2 qo qo;omega
 simp at h
theorem bf.lgW(place:Nat)(hp:bU place<=18446744073709551615):∀ (f n:Nat) (b:List UInt8) (D:Dk) (c:Nat),bf c D->bf (c+(ba b+63) / 64) (lgW place f n b D).1
 | 0,_,_,D,c,o=>o.up qo
 | f+1,n,b,D,c,o=>by
  rw[sh]
  split
  ·exact o.up qo
  rename_i hb;have hbl:0<ba b:=by grind
  have h1:=o.write (bU place) n (b.take 64) qo
  split
  ·exact h1.up qo
  have:=bf.lgW place hp f (n+1) (b.drop 64) _ _ h1
  grind
def LU(L:Lg)(s:bG)(fr:Nat)(D:Dk):(L.lay s fr D).1.code=(L.lay s fr D).2.2:=by
 unfold Lg.lay
 split
 ·rfl
 unfold Lg.lay1
 split
 ·rfl
 unfold Lg.lay2
 split
 all_goals rfl
structure rv (s:bG):Prop where
 idx:s.idx<=bY
 term:s.term<=aC
 vot:ba s.vot<=7
 data:ba s.data<=2097152
theorem dL.lay{c:Nat}{L:Lg}(o:dL c L)(s:bG)(hs:rv s)(fr:Nat)(hfr:fr<=eV+(c+1))(D:Dk):dL (c+1) (L.lay s fr D).1:=by
 have hc:∀ k,dL (c+1) { L with code:=k }:=fun k=>o.wc (W:=L.w) (o.w.up (aaN c)) (aaN c) k;unfold Lg.lay
 split
 ·exact hc _
 unfold Lg.lay1
 split
 ·exact hc _
 unfold Lg.lay2;have hH:=df.save_bd o.head 4 ((lgW (L.place+1) (ba s.data+1) 0 s.data D).1.sync (bU (L.place+1))).1 (Lg.say s (L.place+1) fr)
 split
 ·exact ⟨o.w.up (aaN c),o.hard,hH,o.kt,o.kv,o.idx,o.st,o.vot,o.data,by have:=o.place;dsimp only;omega,by have:=o.fr;dsimp only;omega,by have:=o.len;dsimp only;omega,o.ents⟩
 unfold Lg.lay3 Lg.laid;refine ⟨o.w.up (aaN c),o.hard,hH,o.kt,o.kv,hs.idx,hs.term,hs.vot,hs.data,by have:=o.place;dsimp only;omega,hfr,?_,?_⟩
 ·have:=o.len
  grind
 dsimp only
 split
 ·exact fun e he=>o.ents e<|abe he
 simp
def bf.layL{c:Nat}{D:Dk}(d:bf c D){L:Lg}(o:dL c L)(hc:c<=999000000)(s:bG)(hs:rv s)(fr:Nat):bf (c+((ba s.data+63) / 64+4)) (L.lay s fr D).2.1:=by
 have hp:=o.place;unfold bY at hp;have h1:=bf.lgW (L.place+1) (by unfold bU;omega) (ba s.data+1) 0 s.data D c d;unfold Lg.lay
 split
 ·exact h1.up qo
 unfold Lg.lay1;have h2:=h1.sync (bU (L.place+1))
 split
 ·exact h2.up qo
 unfold Lg.lay2;have h3:=h2.save L.head 4 qo (Lg.say s (L.place+1) fr)
 split
 ·exact h3.up qo
 unfold Lg.lay3;exact (h3.free (bU L.place)).up qo
def bf.syncL{c:Nat}{D:Dk}(d:bf c D)(L:Lg):bf (c+1) (L.sync D).2.1:=by
 unfold Lg.sync
 split
 ·exact d.up qo
 exact d.syncW L.w
def sync_code(L:Lg)(D:Dk):(L.sync D).1.code=(L.sync D).2.2:=by
 unfold Lg.sync
 split <;> rfl
def M0(L:Lg)(D:Dk):(L.sync D).1.sn=L.sn/\(L.sync D).1.l=L.l/\(L.sync D).1.fr=L.fr:=by
 unfold Lg.sync
 split <;> exact ⟨rfl,rfl,rfl⟩
def OG{m:List PH}(lb db:Nat)(L:Lg)(D:Dk)(c:Nat)(hb:dL c L)(hc:c<=499900000)(oD:bf c D)(hm:gv K lb db L D m)(s:bG)(hsi:s.idx<18446744073709551616)(hst:s.term<=aC)(hvl:ba s.vot<1099511627776)(hdl:ba s.data<1099511627776)
  (aS:Option Addr) (cS:Nat) (aT:Option Addr) (cT:Nat) (xS:aH K aS (ba s.vot) cS 1 (iv s.vot)) (xT:aH K aT (ba s.data) cT 1 (bv s.data)):
  aj w0 8 [SX lb,.agg (eg s aS cS aT cT)] K (m++hs)
   (fun u K' hs'=>Le K K'/\∃ m',hs'=m'++hs/\gv K' lb db (L.save s D).1 (L.save s D).2.1 m'/\u=.int .i64 (L.save s D).2.2):=by
 have hm0:=hm;obtain ⟨wb,hb',eb,aV,cV,aD,cD,aL,cL,wh,hh,eh,gl,dh,rfl,hW,hH,hE,hG,hD,xV,xD⟩:=hm;obtain ⟨R,hR⟩:=bC (L.save s D);rw[<-hR];unfold Lg.save at hR;refine dj Tryz.func8 ?_;refine ac9 (bx 0 I fun b3=>?_);refine WL.hs (pt b3 (eg s aS cS aT cT) 42::([_,_,_,_,_,_]++hs)) I ?_;refine WL.perm (aaI (l₁:=[_,_,_,_,_,_])).symm (fin 1 I (ac6 (dy 1 6 I I qk (cl 0 I (Pd (hv:=K) (hd':=K) lb db L D c hb qo hm0 s hsi aS cS aT cT xS hvl hdl) ?_))));rintro v8 K8 hs8 ⟨rfl,rfl,rfl⟩;refine fin 1 I (th ?_)
 by_cases hf:L.fits s=0
 ·rw[aaa (by rw[hf];simp)] at hR;have hfit:=hf;unfold Lg.fits at hfit
  have hcode:L.code=0:=by
   omega
  rw[aaa qo] at hfit
  have hps:(eu s.vot).isSome=true/\ba s.data<=2097152:=by
   grind
  rw[aaa (by rw[hps.1];simp;exact hps.2)] at hfit
  have hix:L.sn.idx<s.idx/\s.idx<bY:=by
   omega
  have hsB:rv s:=⟨qo,hst,wk hps.1,hps.2⟩;rw[hf];refine sq (ac9 (aX 1 I (fun _=>dy 2 6 I I qk (cl 0 I (GR (hv:=K8) lb db L D c hb qo hm0 s hsi aS cS aT cT) ?_)) (fun h=>absurd I h)));rintro v14 K14 hs14 ⟨rfl,rfl,rfl⟩;cases hhas:gQ L.sn L.l s with
  | false=>
   rw[aab hhas] at hR;refine fin 2 I (th (dY I (rg (fin 1 I (ac5 (fin 2 I (th (dY I (ac9 (fin 2 I (adb (rT (WQ.del 6 I ?_)))))))))))));rw[hR];exact ay I I ⟨Le.refl _,[_,_,_,_,_,_],I,hm0,I⟩
  | true=>
   rw[aaa (by rw[hhas];simp)] at hR;refine fin 2 I (th (dt I (sk (ac5 (fin 2 I (th (dt I (sk (th ?_)))))))));unfold Lg.save1 at hR;obtain ⟨Y,hY⟩:=bC (L.sync D);have hYb:=hb.sync D;have hYd:=oD.syncL L;have hYc:=sync_code L D;obtain ⟨hYs,hYl,hYf⟩:=M0 L D;rw[<-hY] at hR hYb hYd hYc hYs hYl hYf;refine sq (sq (bI [pt b3 (eg s aS cS aT cT) 42] 10 [0,3,4,6,8,10,12,14,16,18,21,22,24] ST qk qk (au ?_)));refine cl 0 I (FJ lb db L D c hb qo oD hm0) ?_;rintro v21 K21 hs21 ⟨rfl,m2,rfl,hm2,rfl⟩;rw[<-hY] at hm2 ⊢;obtain ⟨L2,D2,C2⟩:=Y;dsimp only at hm2 hR hYb hYd hYc hYs hYl hYf;obtain ⟨wb2,hb2',eb2,aV2,cV2,aD2,cD2,aL2,cL2,wh2,hh2,eh2,gl2,dh2,rfl,hW2,hH2,hE2,hG2,hD2,xV2,xD2⟩:=id hm2;refine nb [pt b3 (eg s aS cS aT cT) 42,pt lb (fH wb2 db hb2' eb2 L2 (.slice aV2 (ba L2.sn.vot) cV2) (.slice aD2 (ba L2.sn.data) cD2) (.slice aL2 (ba L2.l) cL2)) 71] ST ST I (gD qk 0 (C2≠0) I ST (fun h6=>?_) (fun h6=>?_))
   ·rw[aab h6] at hR;refine aG qk 7 I (WL.pures 1 I (di (.inl qk) (be qk 2 I (th (dY I (ac9 (bE 3 0 I I I (fin 1 I (adb (rT (WQ.del 6 I ?_)))))))))));rw[hR];exact ay I I ⟨Le.refl _,[_,_,_,_,_,_],I,hm2,by rw[<-hYc];rfl⟩
   have h6:=Decidable.not_not.1 h6;subst h6;rw[aaa ST] at hR;unfold Lg.save2 at hR;have hfr:=hYb.fr;obtain ⟨Z,hZ⟩:=bC (L2.lay s L2.fr D2);have hZb:=hYb.lay s hsB L2.fr qo D2;have hZd:=hYd.layL (hYb.up (aaN c)) qo s hsB L2.fr;have hZc:=LU L2 s L2.fr D2;have hdl2:=hsB.data;rw[<-hZ] at hR hZb hZd hZc;refine ja qk 2 0 I qk I qk (dC qk 3 1 I qk I I (aG qk 0 I ?_));unfold eV at hfr;refine cl 0 I (Qu lb db L2 D2 (c+1) (hYb.up (aaN c)) qo hYd hm2 hYc s qo (by rw[hYs];exact hix.1) hst hps.2 (by have:=hsB.vot;omega) aS cS aT cT xS xT L2.fr qo) ?_;rintro v30 K30 hs30 ⟨le,m3,rfl,hm3,rfl⟩;rw[<-hZ] at hm3 ⊢;obtain ⟨L3,D3,C3⟩:=Z;dsimp only at hm3 hR hZb hZd hZc;obtain ⟨wb3,hb3',eb3,aV3,cV3,aD3,cD3,aL3,cL3,wh3,hh3,eh3,gl3,dh3,rfl,hW3,hH3,hE3,hG3,hD3,xV3,xD3⟩:=id hm3
   refine au ?_;refine gE qk 0 (C3≠0) I ST fun b31 h31=>au ?_;refine ah h31 I (fun e7=>?_) (fun e7=>?_)
   ·rw[aab e7] at hR;refine ac9 (bE 3 0 I I I (fin 1 I (adb (rT (WQ.del 6 I ?_)))));rw[hR];exact ay I I ⟨le,[_,_,_,_,_,_],I,hm3,by rw[<-hZc];rfl⟩
   have e7:=Decidable.not_not.1 e7;subst e7;rw[aaa ST] at hR;obtain ⟨V,hV⟩:=bC (L3.w.compact (s.idx+1) D3);rw[<-hV] at hR;unfold bY at hix;refine sk (th (sq (bI [pt b3 (eg s aS cS aT cT) 42,pt lb (fH wb3 db hb3' eb3 L3 (.slice aV3 (ba L3.sn.vot) cV3) (.slice aD3 (ba L3.sn.data) cD3) (.slice aL3 (ba L3.l) cL3)) 71] 9 [0,2,4,6,8,10,12,14,17,19,20] ST qk qk (fJ [8] qk 4 1 I qk I I (fJ [8,7] qk 1 0 I qk I I (bQ qk 0 I (cJ (x:=((s.idx+1:Nat):Int)) qo) (au ?_)))))));refine cl 0 I (Ct.at2 1 4 I I (Kx wb3 db L3.w hW3 D3 (c+1+((ba s.data+63) / 64+4)) hZd qo (hZb.w.up qo) (by have:=hZb.w.old;omega) hD3 (s.idx+1) qo)) ?_;rintro v45 K45 hs45 ⟨wh4,dh4,rfl,dm,hW4,hD4,rfl⟩;rw[<-hV] at hW4 hD4 ⊢;refine GY [pt b3 (eg s aS cS aT cT) 42,pt lb (fH wb3 db hb3' eb3 L3 (.slice aV3 (ba L3.sn.vot) cV3) (.slice aD3 (ba L3.sn.data) cD3) (.slice aL3 (ba L3.l) cL3)) 71] ST ST dm (au ?_)
   refine cl 0 I (pL lb wb3 db hb3' eb3 L3 _ _ _ _) ?_;rintro v46 K46 hs46 ⟨_,rfl,rfl,rfl,rfl⟩;have ed:iN L3.code V.2.2=V.2.2:=by unfold iN;omega
   rw[ed];refine di (.inl qk) (be qk 1 I (adb (WQ.del 6 I ?_)));rw[hR];exact ay I I ⟨le.trans dm,[_,_,_,_,_,_],I,⟨wb3,hb3',eb3,aV3,cV3,aD3,cD3,aL3,cL3,wh4,hh3,eh3,gl3,dh4,I,hW4,hH3.le dm,hE3.le dm,hG3.imp fun _ _ h=>h.le dm,hD4,xV3.le dm,xD3.le dm⟩,I⟩
 rw[aab hf] at hR;refine sq (ac9 (aX 1 I (fun h=>absurd h hf) (fun _=>au ?_)));refine aX 1 I (fun _=>fin 0 I (th (dY I (ac9 (fin 2 I (adb (rT (WQ.del 6 I ?_)))))))) (fun h=>absurd hf h);rw[hR];exact ay I I ⟨Le.refl _,[_,_,_,_,_,_],I,hm0,I⟩
end
section
def lN(S:df):Option (Nat×Int):=
 if S.num=0 then some (0,-1)
 else if kN (aM 7 (aM aC (S.val,0)).2).2=0 then some ((aM aC (S.val,0)).1,(((aM 7 (aM aC (S.val,0)).2).1:Nat):Int)-1) else none
def pI(D:Dk)(place size:Nat):Nat->Nat->List UInt8->Option (List UInt8)
 | 0,_,acc=>some acc
 | f+1,n,acc=>if ba acc<size then (match D.read (bU place) n with
   | none=>none
   | some b=>pI D place size f (n+1) (acc++b)) else some acc
def ma(b:List UInt8):Nat×Rd:=aM bY (b,0)
def pZ(b:List UInt8):Nat×Rd:=aM aC (ma b).2
def ph(b:List UInt8):Nat×Rd:=aM bY (pZ b).2
def pY(b:List UInt8):Nat×Rd:=aM 2097152 (ph b).2
def pd(b:List UInt8):Nat×Rd:=aM bY (pY b).2
def ru(b:List UInt8):Nat×Rd:=bX (pd b).2
def lM(D:Dk)(S:df)(vot0:List Int):Option (bG×Nat×Nat):=
 if S.num=0 then some (⟨0,0,vot0,[]⟩,0,0)
 else if kN (ru S.val).2≠0\/(j8 [UInt8.ofNat (ru S.val).1]).isSome=false then none
 else match pI D (ph S.val).1 (pY S.val).1 32769 0 [] with
  | none=>none
  | some d=>some (⟨(ma S.val).1,(pZ S.val).1,(j8 [UInt8.ofNat (ru S.val).1]).getD [],d.take (pY S.val).1⟩,(ph S.val).1,(pd S.val).1)
def lA:Nat->List (List UInt8)->Option (List aI)
 | _,[]=>some []
 | i,b::r=>match jQ b with
  | none=>none
  | some e=>if e.idx=i then (lA (i+1) r).map (e :: ·) else none
def mL(s:bG)(W:Wl):Option (List aI):=
 if s.idx+1<W.first\/W.first+ba W.recs<s.idx+1 then none else lA (s.idx+1) (W.recs.drop (s.idx+1-W.first))
def lgFree(pl:Nat):List Int->Dk->Dk×Int
 | [],D=>(D,0)
 | a::r,D=>if a % 4=2/\a≠((bU pl:Nat):Int) then (if (D.free a).2≠0 then D.free a else lgFree pl r (D.free a).1) else lgFree pl r D
def uG(D:Dk)(kh:Nat×Int)(h:bG×Nat×Nat)(F:Dk):Option Lg×Dk×Int:=
 match (eF F h.2.2 (h.1.idx+1)).1 with
 | none=>(none,(eF F h.2.2 (h.1.idx+1)).2.1,if (eF F h.2.2 (h.1.idx+1)).2.2=52 then 181 else (eF F h.2.2 (h.1.idx+1)).2.2)
 | some w=>match mL h.1 w with
  | none=>(none,(eF F h.2.2 (h.1.idx+1)).2.1,181)
  | some l=>(some ⟨w,jz D 0,jz D 4,kh.1,kh.2,h.1,h.2.1,h.2.2,l,0⟩,(eF F h.2.2 (h.1.idx+1)).2.1,0)
def uH(D:Dk)(kh:Nat×Int)(h:bG×Nat×Nat):Option Lg×Dk×Int:=
 if (lgFree h.2.1 (a8 D) D).2≠0 then (none,lgFree h.2.1 (a8 D) D) else uG D kh h (lgFree h.2.1 (a8 D) D).1
def gp(D:Dk)(first:List Int):Option Lg×Dk×Int:=
 if (eu first).isSome=false then (none,D,181)
 else if D.dead=true then (none,D,30)
 else match lN (jz D 0) with
  | none=>(none,D,181)
  | some kh=>match lM D (jz D 4) first with
   | none=>(none,D,181)
   | some h=>uH D kh h
def gq(wp:Option Nat)(db:Nat)(hp ep:Option Nat)(kt:Nat)(kv:Int)(si st:Nat)(vS dS:Value)(pl fr:Nat)(lS:Value)(cd:Int):Array Value:=
 #[.pointer (wp.map fun b=>⟨b,0,none⟩),SX db,.pointer (hp.map fun b=>⟨b,0,none⟩),.pointer (ep.map fun b=>⟨b,0,none⟩),.int .u64 (kt:Nat),.int .i64 kv,
  .int .u64 (si:Nat),.int .u64 (st:Nat),vS,dS,.int .u64 (pl:Nat),.int .u64 (fr:Nat),lS,.int .i64 cd]
def JW{hh:PH}(lb db hb:Nat)(wp ep:Option Nat)(si st:Nat)(vS dS:Value)(pl fr:Nat)(lS:Value)(cd:Int)(S:df)(hS:ku K hb db 0 S hh)(hbd:S.bd):
  aj w0 20 [SX lb] K (pt lb (gq wp db (some hb) ep 0 (-1) si st vS dS pl fr lS cd) 71::hh::hs)
   (fun v K' hs'=>Le K K'/\∃ kt kv,hs'=pt lb (gq wp db (some hb) ep kt kv si st vS dS pl fr lS cd) 71::hh::hs/\v=.bool (lN S).isSome/\∀ p,lN S=some p->p=(kt,kv)):=by
 unfold lN;obtain ⟨hn,hv⟩:=hbd;refine bH Tryz.func20 ?_;refine cl 0 I (Ct.keep 1 I (Ds hb db 0 S hS)) ?_;rintro v8 K8 hs8 ⟨rfl,rfl,rfl⟩;refine aX 0 I (fun e2=>?_) (fun e2=>?_)
 ·refine au ?_;rw[aab qo];refine au ?_;exact ay I I ⟨Le.refl _,0,-1,I,I,fun p hp=>(aa8 hp).symm⟩
 refine au ?_;rw[aaa qo];refine au ?_;refine cl 0 I (Ct.at 1 I (Eq hb db 0 S hS ⟨hn,hv⟩)) ?_;rintro v14 K14 hs14 ⟨hh,rfl,rfl,le,ao,k,rfl,x⟩;refine cl 0 I (pH ao k S.val (.inl I) x qo) ?_;rintro v15 K15 hs15 ⟨rfl,rb,rd,rh,rfl,rfl,ir⟩;obtain ⟨r1,hr1⟩:∃ r,r=aM aC (S.val,0):=⟨_,rfl⟩;have hl1:=mG aC (S.val,0);have hb1:=jy aC (S.val,0);rw[<-hr1] at hl1 hb1 ⊢;obtain ⟨r2,hr2⟩:∃ r,r=aM 7 r1.2:=⟨_,rfl⟩;have hb2:=jy 7 r1.2;rw[<-hr2] at hb2 ⊢;refine au ?_;refine cl 2 I (fU (.inr ⟨0,I⟩) aC (S.val,0) ax ir) ?_;rintro v18 K18 hs18 ⟨rd2,rfl,rfl,rfl,ir2⟩;rw[<-hr1] at ir2 ⊢;refine au ?_;refine cl 2 I (fU (.inr ⟨0,I⟩) 7 r1.2 (by dsimp only at hl1;omega) ir2) ?_;rintro v24 K24 hs24 ⟨rd3,rfl,rfl,rfl,ir3⟩;rw[<-hr2] at ir3 ⊢;refine ar 0 I (ac qo) (ar 0 I (ac qo) (au ?_));refine cl 1 I (s7 r2.2 ir3) ?_;rintro v31 K31 hs31 ⟨rfl,rfl,rfl⟩
 refine af 0 I fun b32 h32=>fin 1 I<|adb<|WQ.drop (WQ.drop ?_)
 by_cases e:kN r2.2=0
 ·rw[aab e];obtain rfl:b32=true:=h32.2 e;exact ay I I ⟨le,r1.1,_,I,I,fun p hp=>(aa8 hp).symm⟩
 rw[aaa e];obtain rfl:b32=false:=by simp_all
 exact ay I I ⟨le,_,_,I,I,fun p hp=>by cases hp⟩
end
section
def wA(D:Dk)(place size f n:Nat)(acc:List UInt8):pI D place size (f+1) n acc=if ba acc<size then (match D.read (bU place) n with
   | none=>none
   | some b=>pI D place size f (n+1) (acc++b)) else some acc:=rfl
def JV{w0:World}{K eh dh:PH}{hs:List PH}(lb db eb:Nat)(wp hp:Option Nat)(kt:Nat)(kv:Int)(vot0:List Int)(a0:Option Addr)(c0:Nat)(x0:aH K a0 (ba vot0) c0 1 (iv vot0))(lS:Value)(cd:Int)(S:df)(hS:ku K eb db 4 S eh)(hbd:S.bd)(D:Dk)(c:Nat)(oD:D.Ok c)(hc:c<=1000000000)(hd:da K db D dh):
  aj w0 21 [SX lb] K (pt lb (gq wp db hp (some eb) kt kv 0 0 (.slice a0 (ba vot0) c0) (.slice none 0 0) 0 0 lS cd) 71::eh::dh::hs)
   (fun v K' hs'=>Le K K'/\∃ sn pl fr aV cV aD cD,hs'=pt lb (gq wp db hp (some eb) kt kv (bG.idx sn) sn.term (.slice aV (ba sn.vot) cV) (.slice aD (ba sn.data) cD) pl fr lS cd) 71::eh::dh::hs/\v=.bool (lM D S vot0).isSome /\
    aH K' aV (ba sn.vot) cV 1 (iv sn.vot)/\aH K' aD (ba sn.data) cD 1 (bv sn.data)/\∀ p,lM D S vot0=some p->p=(sn,pl,fr)):=by
 unfold lM;obtain ⟨hn,hv⟩:=hbd;refine bH Tryz.func21 ?_;refine cl 0 I (Ct.keep 1 I (Ds eb db 4 S hS)) ?_;rintro v15 K15 hs15 ⟨rfl,rfl,rfl⟩;refine aX 0 I (fun e2=>?_) (fun e2=>?_)
 ·refine au ?_;rw[aab qo];refine au ?_;exact ay I I ⟨Le.refl _,⟨0,0,vot0,[]⟩,0,0,a0,c0,none,0,I,I,x0,aH.nil _ _ _ _,fun p hp=>(aa8 hp).symm⟩
 refine au ?_;rw[aaa qo];obtain ⟨a1,h1⟩:∃ r,r=ma S.val:=⟨_,rfl⟩;obtain ⟨a2,h2⟩:∃ r,r=pZ S.val:=⟨_,rfl⟩;obtain ⟨a3,h3⟩:∃ r,r=ph S.val:=⟨_,rfl⟩;obtain ⟨a4,h4⟩:∃ r,r=pY S.val:=⟨_,rfl⟩;obtain ⟨a5,h5⟩:∃ r,r=pd S.val:=⟨_,rfl⟩;obtain ⟨a6,h6⟩:∃ r,r=ru S.val:=⟨_,rfl⟩;have g1:aM bY (S.val,0)=a1:=h1.symm;have g2:aM aC a1.2=a2:=by rw[h2,h1];rfl
 have g3:aM bY a2.2=a3:=by rw[h3,h2];rfl
 have g4:aM 2097152 a3.2=a4:=by rw[h4,h3];rfl
 have g5:aM bY a4.2=a5:=by rw[h5,h4];rfl
 have g6:bX a5.2=a6:=by rw[h6,h5];rfl
 rw[<-h1,<-h2,<-h3,<-h4,<-h5,<-h6];have l1:ba a1.2.1<=48:=by grind [mG]
 have l2:ba a2.2.1<=48:=by grind [mG]
 have l3:ba a3.2.1<=48:=by grind [mG]
 have l4:ba a4.2.1<=48:=by grind [mG]
 have l5:ba a5.2.1<=48:=by grind [mG]
 have m1:a1.1<=bY:=by rw[<-g1];exact jy _ _
 have m3:a3.1<=bY:=by rw[<-g3];exact jy _ _
 have m4:a4.1<=2097152:=by rw[<-g4];exact jy _ _
 have m5:a5.1<=bY:=by rw[<-g5];exact jy _ _
 clear h1 h2 h3 h4 h5 h6;refine au ?_;refine cl 0 I (Ct.at 1 I (Eq eb db 4 S hS ⟨hn,hv⟩)) ?_;rintro v21 K21 hs21 ⟨eh,rfl,rfl,le,ao,k,rfl,x⟩;refine cl 0 I (pH ao k S.val (.inl I) x qo) ?_;rintro v22 K22 hs22 ⟨rfl,rb,rd,rh,rfl,rfl,ir⟩;refine au ?_;refine cl 1 I (fU (.inr ⟨0,I⟩) bY (S.val,0) ax ir) ?_;rintro v24 K24 hs24 ⟨rd1,rfl,rfl,rfl,ir⟩;rw[g1] at ir ⊢;refine cl 1 I (fU (.inr ⟨0,I⟩) aC a1.2 qo ir) ?_;rintro v26 K26 hs26 ⟨rd2,rfl,rfl,rfl,ir⟩;rw[g2] at ir ⊢;refine bd 0 (.agg #[.int .u64 a1.1,.int .u64 a2.1,.slice none 0 0,.slice none 0 0]) I (fun w=>by kernel_rfl) (al 0 (.agg #[.int .u64 0,.int .u64 0,.slice none 0 0,.slice none 0 0]) I qk fun b4=>?_);refine bJ 0 0 I I qk I I ?_;refine fin 0 I (ac6 (cl 2 I (Ct.at 1 I (fU (.inr ⟨1,I⟩) bY a2.2 qo ir)) ?_));rintro v30 K30 hs30 ⟨rd3,rfl,rfl,rfl,ir⟩
 rw[g3] at ir ⊢;refine au ?_;refine cl 1 I (Ct.at 1 I (fU (.inr ⟨1,I⟩) 2097152 a3.2 qo ir)) ?_;rintro v34 K34 hs34 ⟨rd4,rfl,rfl,rfl,ir⟩;rw[g4] at ir ⊢;refine ar 0 I (ac (x:=((a4.1:Nat):Int)) qo) (au ?_);refine cl 2 I (Ct.at 1 I (fU (.inr ⟨1,I⟩) bY a4.2 qo ir)) ?_;rintro v38 K38 hs38 ⟨rd5,rfl,rfl,rfl,ir⟩;rw[g5] at ir ⊢;refine stp 2 3 I I I I (WL.hs (pt b4 #[.int .u64 a1.1,.int .u64 a2.1,.slice none 0 0,.slice none 0 0] 42::rd5::rh::pt lb (gq wp db hp (some eb) kt kv 0 0 (.slice a0 (ba vot0) c0) (.slice none 0 0) a3.1 a5.1 lS cd) 71::eh::dh::hs) I (au ?_));refine cl 1 I (Ct.at 1 I (yZ (.inr ⟨1,I⟩) a5.2 ir)) ?_;rintro v43 K43 hs43 ⟨rd6,rfl,rfl,rfl,ir⟩;rw[g6] at ir ⊢;have hb6:a6.1<256:=by rw[<-g6];exact xi _
 refine lit 0 #[.int .u8 a6.1] I SU qk fun b44=>?_;have o44:=sc b44 a6.1 hb6;refine cl 0 I (DG (some ⟨b44,0,none⟩) 1 [UInt8.ofNat a6.1] (.inr ⟨0,I⟩) o44.isS ST) ?_;rintro v45 K45 hs45 ⟨rfl,h45,ao45,c45,rfl,rfl,o45⟩;obtain ⟨C,hC⟩:=bC (j8 [UInt8.ofNat a6.1]);rw[<-hC] at o45 ⊢;refine al 3 (.agg #[.slice none 0 0]) I qk fun b6=>?_;refine bJ 0 0 I I qk I I ?_;refine WL.hs (pt b6 #[.slice ao45 (ba (C.getD [])) c45] 27::h45::pt b44 #[.int .u8 a6.1] 5::pt b4 #[.int .u64 a1.1,.int .u64 a2.1,.slice none 0 0,.slice none 0 0] 42::rd6::rh::pt lb (gq wp db hp (some eb) kt kv 0 0 (.slice a0 (ba vot0) c0) (.slice none 0 0) a3.1 a5.1 lS cd) 71::eh::dh::hs) I (au ?_);refine cl 1 I (Ct.keep 4 I (s7 a6.2 ir)) ?_;rintro v49 K49 hs49 ⟨rfl,rfl,rfl⟩;refine af 0 I fun b50 h50=>?_
 refine' eB (q:=C.isSome=false) 1 3 54 [50,51] h50 I I I I I I I (fun _=>?x4) (fun b54 h54=>?_)
 case x4=>
  exact af 1 I fun b53 h53=>fin 1 I (dk (h53.trans (by cases C <;> simp[ec])) rfl rfl rfl)
 refine fin 0 I<|th (ah h54 I (fun e6=>?_) (fun e6=>?_))
 ·rw[aab e6];exact ac9 (fin 1 I (adb (rT (WQ.drop (WQ.drop (WQ.drop (WQ.drop (WQ.drop (WQ.drop (ay I I ⟨le,⟨0,0,vot0,[]⟩,a3.1,a5.1,a0,c0,none,0,I,I,x0.le le,aH.nil _ _ _ _,fun p hp=>by cases hp⟩))))))))))
 rw[aaa e6]
 obtain ⟨cf,rfl⟩:∃ cf,C=some cf:=by
  cases C with
  | none=>exact absurd (.inr rfl) e6
  | some cf=>simp
 have o45:aZ h45 ao45 (ba cf) c45 3 1 (iv cf):=o45;refine sk (ac6 (dy 0 0 I I qk (sts 1 3 I I qk ST (fun v hv=>by simp at hv;subst hv;rfl) (WL.drop (WL.frz fun K1 l1 l2=>WL.drop (WL.del 1 rfl (WL.del 1 rfl ?_)))))));have x45:=o45.isS.le l2;have le1:=le.trans l1;refine WL.hs (pt b4 #[.int .u64 a1.1,.int .u64 a2.1,.slice ao45 (ba cf) c45,.slice none 0 0] 42::pt lb (gq wp db hp (some eb) kt kv 0 0 (.slice a0 (ba vot0) c0) (.slice none 0 0) a3.1 a5.1 lS cd) 71::eh::dh::hs) I (fin 0 I (ac5 ?_));obtain ⟨R,hR⟩:=bC (pI D a3.1 a4.1 32769 0 []);rw[<-hR];refine fin 1 I (th (bk (WC.em ?_)))
 refine loop (σ:=(Nat×List UInt8)×(Option Addr×Nat×PH)×PH) (fun s=>[(0,SX lb),(4,SX b4),(5,.int .i64 a4.1),(8,.int .i64 s.1.1)]) (fun s=>s.2.2)
  (fun s=>s.2.1.2.2::pt b4 #[.int .u64 a1.1,.int .u64 a2.1,.slice ao45 (ba cf) c45,.slice s.2.1.1 (ba s.1.2) s.2.1.2.1] 42::pt lb (gq wp db hp (some eb) kt kv 0 0 (.slice a0 (ba vot0) c0) (.slice none 0 0) a3.1 a5.1 lS cd) 71::eh::dh::hs)
  (fun s=>ba s.1.2=64*s.1.1/\s.1.1<=32768/\pI D a3.1 a4.1 (32769-s.1.1) s.1.1 s.1.2=R/\Le K1 s.2.2/\aZ s.2.1.2.2 s.2.1.1 (ba s.1.2) s.2.1.2.1 5 1 (bv s.1.2)) (fun s=>32769-s.1.1)
  ((0,[]),(none,0,em),K1) ⟨rfl,aag _,hR.symm,Le.refl _,aZ.nil _ _⟩ ⟨rfl,rfl,rfl,rfl,trivial⟩ rfl rfl ?_
 rintro ⟨⟨n,acc⟩,⟨ag,cg,g⟩,K2⟩ ⟨hal,hn2,hw,le2,og⟩;dsimp only at *;have le12:=le1.trans le2;rw[show 32769-n=(32768-n)+1 from qo,wA] at hw;unfold bY at m3 m5 m1;refine au ?_;refine aX 2 I (fun e8=>?_) (fun e8=>?_)
 ·refine au ?_;rw[aab qo] at hw;have hn3:n<32768:=qo
  refine au ?_;refine bI [pt lb (gq wp db hp (some eb) kt kv 0 0 (.slice a0 (ba vot0) c0) (.slice none 0 0) a3.1 a5.1 lS cd) 71] 16 [0,2,4,6,8,10,12,14,18,17,21,22,24,26,28,30] ST qk qk (au ?_);refine cl 0 I (sO a3.1 qo) ?_;rintro v73 K73 hs73 ⟨rfl,rfl,rfl⟩;refine bp ST I (aG qk 0 I (cl 0 I (Ct.at 4 I (yO db D c oD qo (hd.le le12) (bU a3.1) n)) ?_));rintro v75 K75 hs75 ⟨dh,rfl,rfl,le3,hrd⟩;refine fF ST le3 ?_;rcases hrd with ⟨hnone,rfl⟩|⟨bs,ab,kb,hsome,hbl,rfl,xb⟩
  ·rw[hnone] at hw;refine be qk 5 I (ac5 (fin 2 I (th (dY I (ac9 (fin 1 I (adb (rT (rB (rT (rT (rB (rT (WQ.drop (WQ.drop ?_)))))))))))))));rw[<-hw];exact ay I I ⟨le12.trans le3,⟨0,0,vot0,[]⟩,a3.1,a5.1,a0,c0,none,0,I,I,x0.le (le12.trans le3),aH.nil _ _ _ _,fun p hp=>by cases hp⟩
  rw[hsome] at hw;dsimp only at hw;refine au ?_;refine app 1 0 I I og (.inl I) xb I SU (iZ _) (by grind) (by simp only[maxLen];omega) fun ao83 c83 g83 o83=>?_;have o83':aZ g83 ao83 (ba (acc++bs)) c83 5 1 (bv (acc++bs)):=sJ o83 ST (by rw[nz]);refine au ?_;refine ar 1 I (ac (x:=((n+1:Nat):Int)) qo) (fin 1 I (bc (x:=((n,acc),(ag,cg,g),em)) ((n+1,acc++bs),(ao83,c83,g83),K75) sb I ST ⟨by dsimp only;rw[aaf];omega,ax,?_,le2.trans le3,o83'⟩ ax))
  simp_all
 refine au ?_;rw[aaa qo] at hw;rw[<-hw];dsimp only;have hcg:=og.isS.2.1;refine au ?_
 refine sl 1 0 a4.1 I og.isS I ST qo (ys:=bv (acc.take a4.1)) (by
  simp[bv]) fun ao88 c88 x88=>?_
 refine stp 1 1 I I I I (WL.frz fun K3 l3 l4=>?_);have x88':=x88.le l4;have hln:ba (acc.take a4.1)=a4.1:=by rw[aam];omega
 refine WL.hs (pt b4 #[.int .u64 a1.1,.int .u64 a2.1,.slice ao45 (ba cf) c45,.slice ao88 a4.1 c88] 42::pt lb (gq wp db hp (some eb) kt kv 0 0 (.slice a0 (ba vot0) c0) (.slice none 0 0) a3.1 a5.1 lS cd) 71::eh::dh::hs) I (fin 0 I (ac6 (dy 1 0 I I qk (sts 2 1 I I qk (by simp[gq]) (fun v hv=>by simp at hv;rcases hv with rfl|rfl|rfl|rfl <;> rfl) (fin 0 rfl (ac6 (WL.drop (au ?_))))))));exact ay I I ⟨le12.trans l3,⟨a1.1,a2.1,cf,acc.take a4.1⟩,a3.1,a5.1,ao45,c45,ao88,c88,by dsimp only;rw[hln];rfl,rfl,x45.le (le2.trans l3),by dsimp only;rw[hln];exact x88',fun p hp=>(aa8 hp).symm⟩
end
section
def WL.fr{ops:Array Oper}{Q:Exit->Act->World->Prop}{rest:List Oper}{n:Nat}{l:Sl}(i:Nat){h:PH}(hi:hs[i]?=some h)(hk:WL P w0 ops Q rest n l K (h::hs.eraseIdx i)):WL P w0 ops Q rest n l K hs:=fun a w ha hw=>hk a w ha (hw.perm (ig hs i h hi))
def WC.fr{Q:Exit->Act->World->Prop}{n:Nat}{l:Sl}{c:Code}(i:Nat){h:PH}(hi:hs[i]?=some h)(hk:WC P w0 c Q n l K (h::hs.eraseIdx i)):WC P w0 c Q n l K hs:=fun a w ha hw=>hk a w ha (hw.perm (ig hs i h hi))
def WQ.fr{Q:Exit->Act->World->Prop}{e:Exit}{n:Nat}{l:Sl}(i:Nat){h:PH}(hi:hs[i]?=some h)(hk:WQ w0 Q e n l K (h::hs.eraseIdx i)):WQ w0 Q e n l K hs:=fun a w ha hw=>hk a w ha (hw.perm (ig hs i h hi))
def xh(i:Nat)(b:List UInt8)(r:List (List UInt8)):lA i (b::r)=match jQ b with
  | none=>none
  | some e=>if e.idx=i then (lA (i+1) r).map (e :: ·) else none:=rfl
def It{w0:World}{K wh:PH}{hs:List PH}(lb db wb:Nat)(hp ep:Option Nat)(kt:Nat)(kv:Int)(s:bG)(hsi:s.idx<=bY)(vS dS:Value)(pl fr:Nat)(cd:Int)(W:Wl)(hW:kq K wb db W wh)(c:Nat)(hb:dB c W)(hc:c<=1000000000):
  aj w0 27 [SX lb] K (pt lb (gq (some wb) db hp ep kt kv s.idx s.term vS dS pl fr (.slice none 0 0) cd) 71::wh::hs)
   (fun v K' hs'=>Le K K'/\∃ gl aL cL l,hs'=gl::pt lb (gq (some wb) db hp ep kt kv s.idx s.term vS dS pl fr (.slice aL (List.length l) cL) cd) 71::wh::hs/\v=.bool (mL s W).isSome /\
    bN 4 84 (iH K') gl aL (ba l) cL l/\∀ x,mL s W=some x->x=l):=by
 obtain ⟨R,hR⟩:=bC (mL s W);rw[<-hR];unfold mL at hR;have hlast:=hb.last;have hrecs:=hb.recs;unfold bP at hlast;unfold bY at hsi;obtain ⟨total,htot⟩:∃ t,t=W.first+ba W.recs:=⟨_,rfl⟩
 have hlv:oq total=if total=0 then 18446744073709551615 else ((total:Nat):Int)-1:=rfl;refine bH Tryz.func27 ?_;refine bI [pt lb (gq (some wb) db hp ep kt kv s.idx s.term vS dS pl fr (.slice none 0 0) cd) 71] 19 [0,4,6,8,10,12,14,3,16,18,20,24,26,28,30,32,23,34,36] ST qk qk (au ?_);refine bQ qk 0 I (cJ (x:=((s.idx+1:Nat):Int)) qo) (au ?_);refine cl 0 I (Ct.keep 1 I (N0 wb db W hW)) ?_;rintro v14 K14 hs14 ⟨rfl,rfl,rfl⟩;refine bp ST I (gD qk 0 (s.idx+1<W.first) I (by simp;omega) (fun h1=>?_) (fun h1=>?_))
 ·rw[aab (.inl h1)] at hR;refine aG qk 7 I (WL.pures 1 I (bp ST I (be qk 2 I (th (dY I (ac9 (fin 1 I (adb (rT (WQ.em ?_))))))))));rw[hR];exact ay I I ⟨Le.refl _,em,none,0,[],I,I,bN.nil _ _,fun x hx=>by cases hx⟩
 refine au ?_;refine cl 0 I (Ct.keep 1 I (F5 wb db W hW hb.last)) ?_;rintro v24 K24 hs24 ⟨rfl,rfl,rfl⟩;rw[<-htot] at hR ⊢;refine bp ST I (gE qk 0 (oq total<((s.idx:Nat):Int)) I ST fun b30 h30=>au ?_);refine ah h30 I (fun e2=>?_) (fun e2=>?_)
 ·rw[aab qo] at hR;refine ac9 (fin 1 I (adb (rT (WQ.em ?_))));rw[hR];exact ay I I ⟨Le.refl _,em,none,0,[],I,I,bN.nil _ _,fun x hx=>by cases hx⟩
 refine au ?_;refine ar 0 I (cJ (x:=((s.idx+1+0:Nat):Int)) qo) (fin 1 I (th (bk (WC.em ?_))))
 have h0:(total=0/\R=none/\0=0)\/(s.idx+1+0<=total/\R=(lA (s.idx+1+0) (W.recs.drop (s.idx+1-W.first+0))).map (([]:List aI) ++ ·)):=by
  rw[hlv] at e2
  by_cases h:total=0
  ·grind
  rw[aaa h] at e2;rw[aaa qo] at hR;refine .inr ⟨qo,?_⟩
  simp_all
 refine loop (σ:=(Nat×List aI)×(Option Addr×Nat×PH)×PH) (fun x=>[(0,SX lb),(3,SX wb),(4,.int .u64 (s.idx+1+x.1.1:Nat))]) (fun x=>x.2.2)
  (fun x=>x.2.1.2.2::pt lb (gq (some wb) db hp ep kt kv s.idx s.term vS dS pl fr (.slice x.2.1.1 (ba x.1.2) x.2.1.2.1) cd) 71::wh::hs)
  (fun x=>((total=0/\R=none/\x.1.1=0)\/(s.idx+1+x.1.1<=total/\R=(lA (s.idx+1+x.1.1) (W.recs.drop (s.idx+1-W.first+x.1.1))).map (x.1.2 ++ ·)))/\ba x.1.2=x.1.1/\Le K24 x.2.2/\bN 4 84 (iH x.2.2) x.2.1.2.2 x.2.1.1 (ba x.1.2) x.2.1.2.1 x.1.2) (fun x=>ba W.recs+1-x.1.1)
  ((0,[]),(none,0,em),K24) ⟨h0,rfl,Le.refl _,bN.nil _ _⟩ ⟨rfl,rfl,rfl,trivial⟩ rfl rfl ?_
 clear h0 hR;rintro ⟨⟨j,l⟩,⟨aL,cL,gl⟩,K1⟩ ⟨hj,hl,le1,oL⟩;dsimp only at *;refine sq (ac9 (cl 2 I (Ct.keep 2 I (F5 wb db W (hW.le le1) hb.last)) ?_));rintro v40 K40 hs40 ⟨rfl,rfl,rfl⟩;rw[<-htot];refine aX 0 I (fun e4=>?_) (fun e4=>?_)
 ·refine au ?_;obtain ⟨i,hi⟩:=bC (s.idx+1+j);have hiB:i<18446744073709551616:=qo
  refine au ?_;refine cl 2 I (Ct.at 2 I (QC wb db W c hc hb (hW.le le1) (s.idx+1+j) qo)) ?_;rintro v47 K47 hs47 ⟨wh,rfl,rfl,le2,hv⟩;have le12:=le1.trans le2
  obtain ⟨r0,ar0,kr,t0,rfl,xr,hcase⟩:∃ r0 ar0 kr t0,v47=.tuple #[.slice ar0 (List.length r0) kr,.bool t0]/\aH K47 ar0 (ba r0) kr 1 (bv r0)/\((r0=[]/\¬(W.first<=s.idx+1+j/\s.idx+1+j-W.first<ba W.recs))\/(W.first<=s.idx+1+j/\W.recs[s.idx+1+j-W.first]?=some r0)):=by
   rcases hv with ⟨hno,rfl⟩|⟨r,ao,k,h1',h2',rfl,x⟩
   ·exact ⟨[],none,0,false,I,aH.nil _ _ _ _,.inl ⟨I,hno⟩⟩
   grind
  have hr0l:ba r0<=512:=by
   rcases hcase with ⟨h,_⟩|⟨_,h⟩
   ·rw[h];simp
   exact hb.recl r0<|aap h
  have hstep:R=match jQ r0 with
    | none=>none
    | some e=>if e.idx=i then (lA (i+1) (W.recs.drop (s.idx+1-W.first+(j+1)))).map ((l++[e]) ++ ·) else none:=by
   rcases hj with ⟨ht,hRn,_⟩|⟨ht,hRs⟩
   ·rcases hcase with ⟨h,_⟩|⟨_,h⟩
    ·rw[h,hRn];rfl
    grind
   rcases hcase with ⟨_,h⟩|⟨hf,h⟩
   ·omega
   have hk:s.idx+1+j-W.first=s.idx+1-W.first+j:=qo
   rw[hk] at h;have hkl:=(aas.1 h).1;rw[aaF hkl,show W.recs[s.idx+1-W.first+j]=r0 from by simp_all,xh,<-hi] at hRs;rw[hRs];cases jQ r0 with
   | none=>rfl
   | some e=>
    dsimp only
    by_cases he:e.idx=i
    ·rw[aab he,aab he];cases lA (i+1) (W.recs.drop (s.idx+1-W.first+j+1)) with
     | none=>rfl
     | some t=>simp
    rw[aaa he,aaa he];rfl
  refine au ?_;refine cl 1 I (NS ar0 kr r0 (.inl I) xr qo) ?_;rintro v52 K52 hs52 ⟨rfl,h52,ao52,c52,rfl,rfl,o52⟩;obtain ⟨oe,hoe⟩:=bC (jQ r0);rw[<-hoe] at o52 hstep ⊢;refine al 3 (.agg #[.int .u64 0,.int .u64 0,.int .i64 0,.slice none 0 0]) I qk fun b7=>?_;refine bJ 0 0 I I qk I I ?_;refine WL.hs (pt b7 ((oe.getD aI.zero).v ao52 c52) 84::h52::gl::pt lb (gq (some wb) db hp ep kt kv s.idx s.term vS dS pl fr (.slice aL (ba l) cL) cd) 71::wh::hs) I (au ?_);refine af 1 I fun b56 h56=>?_
  refine' eB (q:=(oe.getD aI.zero).idx≠i) 1 5 62 [56,57] h56 I I I I I I I (fun _=>?x6) (fun b62 h62=>?_)
  case x6=>
   refine au ?_;exact af 1 I fun b61 h61=>fin 1 I (dk (h61.trans qo) I I I)
  refine fin 0 I<|th (ah h62 I (fun e8=>?_) (fun e8=>?_))
  ·have hRn:R=none:=by
    grind [ec]
   refine ac9 (WL.drop (WL.drop (au ?_)));rw[hRn];exact ay I I ⟨le12,gl,aL,cL,l,I,I,oL.imp fun _ _ h=>h.le le2,fun x hx=>by cases hx⟩
  obtain ⟨e,rfl⟩:∃ e,oe=some e:=by
   cases oe with
   | none=>exact absurd (.inl (by simp[ec])) e8
   | some e=>simp
  have hei:e.idx=i:=by
   grind
  dsimp only at hstep;rw[aab hei] at hstep;have o52:aZ h52 ao52 (ba e.data) c52 5 1 (bv e.data):=o52
  have hjr:j<=ba W.recs:=by
   omega
  have hnt:total≠0:=fun ht=>by
   rcases hcase with ⟨h9,_⟩|⟨_,h9⟩
   ·rw[h9] at hoe;cases hoe
   grind
  have hit:i<total:=qo
  refine sk (th (WC.fr 1 I (WC.frz fun K2 l1 l2=>?_)));have le23:=le2.trans l1;have x52:=o52.isS.le l2;refine WC.perm (hs':=pt b7 (e.v ao52 c52) 84::gl::pt lb (gq (some wb) db hp ep kt kv s.idx s.term vS dS pl fr (.slice aL (ba l) cL) cd) 71::wh::hs) (List.Perm.refl _) (bI [pt lb (gq (some wb) db hp ep kt kv s.idx s.term vS dS pl fr (.slice aL (ba l) cL) cd) 71,pt b7 (e.v ao52 c52) 84] 10 [0,2,4,6,8,10,13,15,16,18,21] ST qk qk (dC qk 4 0 I qk I I (ja qk 0 1 I qk I qk (aG qk 0 I (lit 0 (e.v ao52 c52) I SU qk fun b69=>bp ST I (aG qk 0 I (jU 0 2 (e.v ao52 c52).toList e I I I (oL.imp fun _ _ h=>h.le le23) ⟨ao52,c52,I,x52⟩ I (by simp[aI.v,Value.oneCell']) I SU (by show (ba l+1)*48<=_;omega) (by simp only[maxLen];omega) fun ao70 c70 g70 o70=>bp ST rfl (aG qk 2 rfl (stp 0 3 rfl rfl rfl rfl (di (.inl qk) (be qk 0 rfl (ac7 (WL.drop (WL.drop (ar 1 rfl (cJ (x:=((s.idx+1+(j+1):Nat):Int)) qo) (fin 1 rfl (bc (x:=((j,l),(aL,cL,gl),em)) ((j+1,l++[e]),(ao70,c70,g70),K2) sb rfl (by dsimp only;rw[aaf];rfl) ⟨.inr ⟨ax,?_⟩,by simp_all,le1.trans le23,by dsimp only;rw[aaf];exact o70⟩ ax)))))))))))))))))
  grind
 refine au ?_
 have hfin:R=some l:=by
  rcases hj with ⟨h,hRn,hj0⟩|⟨h,hRs⟩
  ·omega
  grind [List.drop_eq_nil_of_le,lA]
 refine au ?_;rw[hfin];exact ay I I ⟨le1,gl,aL,cL,l,I,I,oL,fun x hx=>(aa8 hx).symm⟩
end
section
def tD(pl:Nat)(a:Int)(r:List Int)(D:Dk):lgFree pl (a::r) D=if a % 4=2/\a≠((bU pl:Nat):Int) then (if (D.free a).2≠0 then D.free a else lgFree pl r (D.free a).1) else lgFree pl r D:=rfl
theorem bf.lgFree(pl:Nat):∀ (l:List Int) (D:Dk) (c:Nat),bf c D->bf (c+ba l) (lgFree pl l D).1
 | [],D,c,o=>o
 | a::r,D,c,o=>by
  rw[tD];simp only[aaj]
  split
  ·split
   ·exact (o.free a).up qo
   exact (bf.lgFree pl r _ _<|o.free a).up qo
  exact (bf.lgFree pl r D c o).up qo
def A1{D:Dk}{fr first:Nat}:((eF D fr first).1=none->(eF D fr first).2.2≠0)/\(∀ W,(eF D fr first).1=some W->(eF D fr first).2.2=0):=by
 unfold eF
 grind
def J0{D:Dk}{S:df}{v:List Int}{p:bG×Nat×Nat}(h:lM D S v=some p):p.1.idx<=bY/\p.2.1<=bY/\p.2.2<=bY:=by
 unfold lM at h
 split at h
 ·grind
 split at h
 ·cases h
 split at h
 ·cases h
 cases h;exact ⟨jy _ _,jy _ _,jy _ _⟩
def yC{h:PH}(b:Nat)(D:Dk)(c:Nat)(o:D.Ok c)(hc:c<=1099511627)(hm:da K b D h)(area:Nat):
  aj w0 19 [SX b,.int .u64 (area:Nat)] K (h::hs)
   (fun v K' hs'=>∃ h' new,hs'=new++h'::hs/\h'=h/\Le K K'/\((D.dead=true/\new=[]/\v=.tuple #[.pointer none,.int .i64 30])\/(D.dead=false/\∃ sb s,new=[s]/\ku K' sb b area (jz D area) s/\v=.tuple #[SX sb,.int .i64 0]))):=
 (OU b D c o hc hm area).mono fun v K' hs' hR=>by
  rcases hR with ⟨h1,rfl,rfl,rfl⟩|⟨h1,le,sb,s,rfl,hS,rfl⟩
  ·exact ⟨h,[],I,I,Le.refl _,.inl ⟨h1,I,I⟩⟩
  grind
def OR{dh:PH}(db:Nat)(D:Dk)(c:Nat)(oD:bf c D)(hc:c<=400000000)(hd:da K db D dh)(fr first:Nat)(hfr:fr<18446744073709551616)(hfi:first<18446744073709551616):
  aj w0 26 [SX db,.int .u64 (fr:Nat),.int .u64 (first:Nat)] K (dh::hs)
   (fun v K' hs'=>∃ h' new,hs'=new++h'::hs/\Le K K'/\da K' db (eF D fr first).2.1 h'/\(((eF D fr first).1=none/\new=[]/\v=.tuple #[.pointer none,.int .i64 (eF D fr first).2.2]) \/
    (∃ W wb wh,(eF D fr first).1=some W/\new=[wh]/\kq K' wb db W wh/\v=.tuple #[SX wb,.int .i64 (eF D fr first).2.2]))):=by
 refine Ct.fix2 (OS db D c oD hc hd fr first hfr hfi) ?_;rintro w v K' hs' hS ⟨le,m',dh',rfl,hd',hR⟩;cases hW:(eF D fr first).1 with
 | none=>
  grind
 | some W=>
  rw[hW] at hR;obtain ⟨wb,hM,rfl⟩:=hR;obtain ⟨d,hS'⟩:=aY.join m' hS;exact ⟨K',_,⟨dh',[fp m'],I,le,hd',.inr ⟨W,wb,fp m',I,I,⟨m',I,d,hM⟩,I⟩⟩,hS'⟩
def QP(lb:Nat)(wp:Option Nat)(db:Nat)(hp ep:Option Nat)(kt:Nat)(kv:Int)(si st:Nat)(vS dS:Value)(pl fr:Nat)(lS:Value)(cd e:Int):
  aj w0 24 [SX lb,.int .i64 e] K (pt lb (gq wp db hp ep kt kv si st vS dS pl fr lS cd) 71::hs)
   (fun v K' hs'=>∃ h',hs'=h'::hs/\K'=K/\h'=pt lb (gq wp db hp ep kt kv si st vS dS pl fr lS (iN cd e)) 71/\v=.int .i64 (iN cd e)):=by
 unfold iN;refine bH Tryz.func24 ?_;refine aX 0 I (fun e2=>?_) (fun e2=>?_)
 ·refine au ?_;rw[aab e2];refine au ?_;exact ay I I ⟨_,I,I,I,I⟩
 refine au ?_;rw[aaa e2];refine au ?_;exact ay I I ⟨_,I,I,I,I⟩
def OV{dh:PH}(db:Nat)(D:Dk)(c:Nat)(oD:bf c D)(hc:c<=199000000)(hd:da K db D dh)(first:List Int)(hfl:ba first<=1000000)(aF:Option Addr)(cF:Nat)(xF:aH K aF (ba first) cF 1 (iv first)):
  aj w0 5 [SX db,.agg #[.slice aF (ba first) cF]] K (dh::hs)
   (fun v K' hs'=>Le K K'/\(((gp D first).1=none/\v=.tuple #[.pointer none,.int .i64 (gp D first).2.2]/\∃ dh',hs'=dh'::hs/\da K' db (gp D first).2.1 dh') \/
    (∃ L lb m,(gp D first).1=some L/\v=.tuple #[SX lb,.int .i64 (gp D first).2.2]/\hs'=m++hs/\gv K' lb db L (gp D first).2.1 m))):=by
 obtain ⟨R,hR⟩:=bC (gp D first)
 rw[<-hR];unfold gp at hR;have hlen:=oD.len;refine dj Tryz.func5 ?_;refine ac9 (bx 0 I fun b3=>WL.h 0 (pt b3 #[.slice aF (ba first) cF] 27) (fin 2 I (ac5 (dy 0 0 I I qk (cl 0 I (FS aF cF first (.inl I) xF qo) ?_)))));rintro v13 K13 hs13 ⟨rfl,rfl,rfl⟩;cases hps:(eu first).isSome with
 | false=>
  rw[aab hps] at hR;refine fin 1 I (th (dY I (ac9 (WL.drop (au ?_)))));rw[hR];exact bL I I I ⟨Le.refl _,.inl ⟨I,I,dh,I,hd⟩⟩
 | true=>
  rw[aaa (by rw[hps];simp)] at hR;refine au ?_;refine bd 1 (.agg #[.int .u64 0,.int .i64 (-1)]) I (fun w=>by kernel_rfl) (au ?_);refine cl 0 I (yh aF cF first (.inl I) xF qo) ?_;rintro v19 K19 hs19 ⟨le1,rfl,a0,c0,rfl,x0⟩;refine bd 0 (.agg #[.slice a0 (ba first) c0]) I (fun w=>by kernel_rfl) (bd 0 (.agg #[.int .u64 0,.int .u64 0,.slice a0 (ba first) c0,.slice none 0 0]) I (fun w=>by kernel_rfl) (bd 0 (.agg (gq none db none none 0 (-1) 0 0 (.slice a0 (ba first) c0) (.slice none 0 0) 0 0 (.slice none 0 0) 0)) I (fun w=>by kernel_rfl) (bx 0 I fun lb=>WL.h 0 (pt lb (gq none db none none 0 (-1) 0 0 (.slice a0 (ba first) c0) (.slice none 0 0) 0 0 (.slice none 0 0) 0) 71) (WL.del 1 I ?_))));refine au ?_;refine cl 2 I (Ct.atN 1 I (yC db D c oD.ok qo (hd.le le1) 0)) ?_;rintro v27 K27 hs27 ⟨dh,new,rfl,rfl,le2,hA⟩;have le12:=le1.trans le2;rcases hA with ⟨hdead,rfl,rfl⟩|⟨hdead,hb,hh,rfl,hH,rfl⟩
  ·rw[aab hdead] at hR;refine au ?_;refine cl 2 I (Ct.atN 1 I (yC db D c oD.ok qo (hd.le le12) 4)) ?_;rintro v35 K35 hs35 ⟨dh,new,rfl,rfl,le3,hA⟩;rcases hA with ⟨_,rfl,rfl⟩|⟨hx,_⟩
   ·refine stp 5 0 I I I I (fin 1 I (ac5 (fin 6 I (th (dY I (ac9 (WL.drop (au ?_))))))));rw[hR];exact bL I I I ⟨le12.trans le3,.inl ⟨I,I,dh,I,hd.le (le12.trans le3)⟩⟩
   rw[hdead] at hx;cases hx
  rw[aaa (by rw[hdead];simp)] at hR;refine au ?_;refine cl 2 I (Ct.atN 2 I (yC db D c oD.ok qo (hd.le le12) 4)) ?_;rintro v35 K35 hs35 ⟨dh,new,rfl,rfl,le3,hA⟩;have le13:=le12.trans le3;rcases hA with ⟨hx,_⟩|⟨_,eb,eh,rfl,hE,rfl⟩
  ·rw[hdead] at hx;cases hx
  refine stp 5 2 I I I I (WL.fr 1 I (WL.fr 2 I (WL.h 0 (pt lb (gq none db (some hb) (some eb) 0 (-1) 0 0 (.slice a0 (ba first) c0) (.slice none 0 0) 0 0 (.slice none 0 0) 0) 71) ?_)));have hHb:=ua oD.ok 0 2;have hEb:=ua oD.ok 4 2;refine fin 1 I (ac5 (fin 6 I (th (dt I (sk (ac5 (cl 1 I (JW lb db hb none (some eb) 0 0 _ _ 0 0 _ 0 (jz D 0) (hH.le le3) hHb) ?_)))))));rintro v47 K47 hs47 ⟨dm,kt,kv,rfl,rfl,hkh⟩;have le14:=le13.trans dm;cases hrh:lN (jz D 0) with
  | none=>
   rw[hrh] at hR;dsimp only at hR;refine fin 6 I (th (dY I (ac9 (WL.drop (WL.drop (WL.drop (au ?_)))))));rw[hR];exact bL I I I ⟨le14,.inl ⟨I,I,dh,I,hd.le le14⟩⟩
  | some kh=>
   rw[hrh] at hR;dsimp only at hR;have hkh:=hkh kh hrh;subst hkh;refine WL.fr 3 I (WL.fr 3 I (WL.fr 2 I (cl 3 I (JV lb db eb none (some hb) kt kv first a0 c0 (x0.le (le2.trans (le3.trans dm))) _ 0 (jz D 4) (hE.le dm) hEb D c oD.ok qo (hd.le le14)) ?_)));rintro v51 K51 hs51 ⟨le5,sn,pl,fr,aV,cV,aD,cD,rfl,rfl,xV,xD,hhd⟩;have le15:=le14.trans le5;cases hrd:lM D (jz D 4) first with
   | none=>
    rw[hrd] at hR;dsimp only at hR;refine fin 2 I (th (dY I (ac9 (WL.drop (WL.drop (WL.del 1 I (au ?_)))))));rw[hR];exact bL I I I ⟨le15,.inl ⟨I,I,dh,I,hd.le le15⟩⟩
   | some hp=>
    rw[hrd] at hR;dsimp only at hR;obtain ⟨hB1,hB2,hB3⟩:=J0 hrd;have hhd:=hhd hp hrd;subst hhd;dsimp only at hB1 hB2 hB3;unfold bY at hB1 hB2 hB3;unfold uH at hR;dsimp only at hR;have hbd:=tX oD;have hal:=tH oD;have hkH:=hH.le (le3.trans (dm.trans le5));have hkE:=hE.le (dm.trans le5);obtain ⟨l,hl⟩:=bC (a8 D);obtain ⟨F,hF⟩:=bC (lgFree pl l D);rw[<-hl] at hbd hal hR;rw[<-hF] at hR;refine au ?_;refine cl 1 I (Ct.at 2 I (GA db D c oD qo (hd.le le15))) ?_;rintro v55 K55 hs55 ⟨dh,rfl,rfl,le6,aA,cA,rfl,xA⟩;rw[<-hl] at xA ⊢;have le16:=le15.trans le6;refine au ?_
    refine loop (σ:=Nat×Dk×PH) (fun s=>[(0,SX db),(6,SX lb),(55,.slice aA (ba l) cA),(56,.int .i64 (ba l)),(57,.int .i64 s.1)]) (fun _=>K55)
     (fun s=>pt lb (gq none db (some hb) (some eb) kt kv sn.idx sn.term (.slice aV (ba sn.vot) cV) (.slice aD (ba sn.data) cD) pl fr (.slice none 0 0) 0) 71::eh::s.2.2::hh::hs) (fun s=>s.1<=ba l/\lgFree pl (l.drop s.1) s.2.1=F/\bf (c+s.1) s.2.1/\da K55 db s.2.1 s.2.2) (fun s=>ba l-s.1) (0,D,dh) ⟨aag _,hF.symm,oD,hd.le le16⟩ ⟨rfl,rfl,rfl,rfl,rfl,trivial⟩ rfl rfl ?_
    rintro ⟨j,D',dh'⟩ ⟨hj,hw,oD',hD'⟩;dsimp only at *;refine ac9 (aX 0 I (fun e9=>?_) (fun e9=>?_))
    ·refine au ?_;have hjl:j<ba l:=qo
     obtain ⟨a,ha⟩:∃ a,l[j]?=some a:=⟨l[j],aae hjl⟩;have hab:=hbd a (aap ha);obtain ⟨n,rfl⟩:=abE hab.1;rw[aaF hjl,show l[j]=((n:Nat):Int) from by simp_all,tD] at hw;refine au ?_;refine fe 0 j I I I xA (E5 ha) fun a59 hc59=>ld 0 I (.inl I) hc59 (au ?_);refine ar 1 I (kc .u64 n 4) ?_;have next:∀ {l':Sl},lgFree pl (l.drop (j+1)) D'=F->True:=fun _=>trivial
     by_cases q1:n % 4=2
     ·refine aX 0 I (fun _=>au ?_) (fun h=>absurd (show ((n % 4:Nat):Int)=2 by omega) h);refine cl 0 I (sO pl qo) ?_;rintro v70 K70 hs70 ⟨rfl,rfl,rfl⟩
      by_cases q2:n=bU pl
      ·rw[aaa qo] at hw;refine aX 0 I (fun h=>absurd (show ((n:Nat):Int)=((bU pl:Nat):Int) by rw[q2]) h) (fun _=>au ?_);exact ar 0 I (ac (x:=((j+1:Nat):Int)) qo) (fin 1 I (bc (x:=(j,D',dh')) (j+1,D',dh') sb I I ⟨ax,hw,oD'.up qo,hD'⟩ ax))
      rw[aab ⟨qo,qo⟩] at hw;obtain ⟨E,hEE⟩:=bC (D'.free ((n:Nat):Int));have oE:=oD'.free ((n:Nat):Int);rw[<-hEE] at hw oE;refine aX 0 I (fun _=>cl 5 I (Ct.at 2 I (uX db D' (c+j) oD'.ok qo hD' ((n:Nat):Int))) ?_) (fun h=>absurd (show ¬((n:Nat):Int)=((bU pl:Nat):Int) by omega) h);rintro v77 K77 hs77 ⟨dh2,rfl,rfl,hD2,rfl⟩;rw[<-hEE] at hD2 ⊢;refine cl 0 I (QP lb none db (some hb) (some eb) kt kv sn.idx sn.term _ _ pl fr _ 0 E.2) ?_;rintro v78 K78 hs78 ⟨_,rfl,rfl,rfl,rfl⟩;rw[show iN 0 E.2=E.2 from rfl];refine af 0 I fun b79 h79=>fin 1 I (th (ah h79 I (fun e15=>?_) (fun e15=>?_)))
      ·rw[aab e15] at hw;rw[<-hw,aab e15] at hR;refine sq (jH [0] 6 [0,2,4,6,8,10] ?_);refine dF qk 3 0 I I I (be qk 2 I (adb (rB (rT (rT (rB (rT (WQ.drop (WQ.drop (WQ.del 1 I ?_))))))))));rw[hR];exact bL I I I ⟨le16,.inl ⟨I,I,dh2,I,hD2⟩⟩
      have e15:=Decidable.not_not.1 e15;rw[aaa qo] at hw;rw[e15];exact sk (ac7 (ar 0 I (ac (x:=((j+1:Nat):Int)) qo) (fin 1 I (bc (x:=(j,D',dh')) (j+1,E.1,dh2) sb I I ⟨ax,hw,oE.up qo,hD2⟩ ax))))
     rw[aaa qo] at hw;refine aX 0 I (fun h=>absurd (show ((n % 4:Nat):Int)=2 from h) qo) (fun _=>au ?_);exact ar 0 I (ac (x:=((j+1:Nat):Int)) qo) (fin 1 I (bc (x:=(j,D',dh')) (j+1,D',dh') sb I I ⟨ax,hw,oD'.up qo,hD'⟩ ax))
    refine au ?_;obtain rfl:j=ba l:=qo
    rw[aaS] at hw;have hw:(D',(0:Int))=F:=hw;rw[<-hw,aaa ST] at hR;dsimp only at hR;unfold uG at hR;dsimp only at hR;obtain ⟨X,hX⟩:=bC (eF D' fr (sn.idx+1));obtain ⟨hXc,hXs⟩:=A1 (D:=D') (fr:=fr) (first:=sn.idx+1);rw[<-hX] at hR hXc hXs;refine au ?_;refine bI [pt lb (gq none db (some hb) (some eb) kt kv sn.idx sn.term (.slice aV (ba sn.vot) cV) (.slice aD (ba sn.data) cD) pl fr (.slice none 0 0) 0) 71] 17 [0,2,4,6,8,10,12,14,16,18,20,23,24,26,28,30,32] ST qk qk (au ?_);refine bQ qk 0 I (cJ (x:=((sn.idx+1:Nat):Int)) qo) (au ?_);refine cl 0 I (Ct.atN 2 I (OR db D' (c+ba l) oD' qo hD' fr (sn.idx+1) qo qo)) ?_;rintro v98 K98 hs98 ⟨dh2,new,rfl,le7,hD2,hA⟩;rw[<-hX] at hD2 hA;have le17:=le16.trans le7;rcases hA with ⟨hn,rfl,rfl⟩|⟨W,wb,wh,hW,rfl,hWh,rfl⟩
    ·rw[hn] at hR;dsimp only at hR;have hXc:=hXc hn;refine fF ST le7 (au ?_);refine af 1 I fun b102 h102=>fin 0 I (th (ah h102 I (fun e17=>?_) (fun e17=>?_)))
     ·rw[aab e17] at hR;refine ac9 (WL.drop (WL.drop (WL.del 1 I (au ?_))));rw[hR];exact bL I I I ⟨le17,.inl ⟨I,I,dh2,I,hD2⟩⟩
     rw[aaa e17] at hR;refine au ?_;refine af 1 I fun b104 h104=>fin 0 I (th (ah h104 I (fun e19=>ac9 (WL.drop (WL.drop (WL.del 1 I (au ?_))))) (fun e19=>absurd hXc e19)));rw[hR];exact bL I I I ⟨le17,.inl ⟨I,I,dh2,I,hD2⟩⟩
    rw[hW] at hR;dsimp only at hR;have hXs:=hXs W hW;rw[hXs];have hopen:=dB.opened oD' (fr:=fr) (first:=sn.idx+1) (W:=W) (E:=X.2.1) (by grind);refine fF ST le7 (be qk 5 I (ac5 (fin 2 I (th (dt I (sk (ac5 (fin 2 I (th (dt I (sk (ac6 (WL.fr 1 I (stp 4 0 I I I I (WL.h 0 (pt lb (gq (some wb) db (some hb) (some eb) kt kv sn.idx sn.term (.slice aV (ba sn.vot) cV) (.slice aD (ba sn.data) cD) pl fr (.slice none 0 0) 0) 71) ?_)))))))))))))));refine au ?_;refine cl 1 I (It lb db wb (some hb) (some eb) kt kv sn (by unfold bY;omega) _ _ pl fr 0 W hWh (c+ba l) hopen.1 qo) ?_;rintro v111 K111 hs111 ⟨le8,gl,aL,cL,ll,rfl,rfl,hG,hll⟩;have le18:=le17.trans le8;cases hre:mL sn W with
    | none=>
     rw[hre] at hR;dsimp only at hR;refine fin 1 I (th (dY I (ac9 (WL.drop (WL.drop (WL.drop (WL.drop (WL.del 1 I (au ?_)))))))));rw[hR];exact bL I I I ⟨le18,.inl ⟨I,I,dh2,I,hD2.le le8⟩⟩
    | some l2=>
     rw[hre] at hR;dsimp only at hR;have hll:=hll l2 hre;subst hll;refine fin 1 I (th (dt I (sk (ac6 (WL.fr 4 I (WL.fr 1 I (WL.fr 4 I (WL.fr 5 I (WL.fr 5 I (WL.fr 5 I (au ?_)))))))))));rw[hR];have le78:=le7.trans le8;exact bL I I I ⟨le18,.inr ⟨_,lb,[_,_,_,_,_,_],I,I,I,wb,hb,eb,aV,cV,aD,cD,aL,cL,wh,hh,eh,gl,dh2,I,hWh.le le8,hkH.le (le6.trans le78),hkE.le (le6.trans le78),hG,hD2.le le8,xV.le (le6.trans le78),xD.le (le6.trans le78)⟩⟩
end
section
structure Rl where
 kt:Nat
 kv:Int
 sn:bG
 l:List aI
def zI(r:Rl)(aV:Option Addr)(cV:Nat)(aD:Option Addr)(cD:Nat)(aL:Option Addr)(cL:Nat):Array Value:=
 #[.int .u64 r.kt,.int .i64 r.kv,.int .u64 r.sn.idx,.int .u64 r.sn.term,.slice aV (ba r.sn.vot) cV,.slice aD (ba r.sn.data) cD,.slice aL (ba r.l) cL]
def zV(K:PH)(r:Rl)(v:Value):Prop:=∃ aV cV aD cD aL cL,v=.agg (zI r aV cV aD cD aL cL)/\aH K aV (ba r.sn.vot) cV 1 (iv r.sn.vot)/\aH K aD (ba r.sn.data) cD 1 (bv r.sn.data)/\bF 4 (iH K) K aL (ba r.l) cL r.l
end
section
def Rl.append(r:Rl)(x:List aI):Rl×Int:=
 if kz (r.sn.idx+ba r.l) (fZ r.sn r.l (r.sn.idx+ba r.l)).1 x≠0 then (r,kz (r.sn.idx+ba r.l) (fZ r.sn r.l (r.sn.idx+ba r.l)).1 x) else ({ r with l:=r.l++x },0)
end
section
def Rl.fits(r:Rl)(s:bG):Int:=
 if (eu s.vot).isSome=false\/2097152<ba s.data then 181 else if s.idx<=r.sn.idx\/bY<=s.idx then 180 else 0
end
section
def Rl.save(r:Rl)(s:bG):Rl×Int:=
 if r.fits s≠0 then (r,r.fits s) else if gQ r.sn r.l s=false then (r,180) else ({ r with sn:=s,l:=r.l.drop (s.idx-r.sn.idx) },0)
def C7{r:Rl}{s:bG}(h:r.fits s=0):(eu s.vot).isSome=true/\ba s.data<=2097152/\r.sn.idx<s.idx/\s.idx<bY:=by
 grind [Rl.fits]
end
section
def bF.pre{α:Type}{size:Nat}{R:List Value->α->Prop}{H:PH}{ao:Option Addr}{n cap:Nat}{xs:List α}(h:bF size R H ao n cap xs)(N:Nat)(hN:N<=n):bF size R H ao N cap (xs.take N):=by
 obtain ⟨css,h1,h2,h3,h4⟩:=h;have hl:ba css=n:=by rw[h3.len,h1]
 have h5:=h2.cut 0 N qo (ys:=(css.take N).flatten) (by rw[abr,abl,qg N h4]);rw[qA,abH] at h5;exact ⟨css.take N,by rw[aam];omega,h5,h3.take N,fun d hd=>h4 d (aaR hd)⟩
section
variable {P:Program} {w0:World} {fn:Func} {R:Value->PH->List PH->Prop} {n:Nat} {l:Sl} {K:PH} {hs:List PH}
end
end
section
structure SP where
 kind:Int
 ht:Nat
 hv:Int
 idx:Nat
 term:Nat
 x:List aI
 sn:bG
section
variable {P:Program} {w0:World} {fn:Func} {R:Value->PH->List PH->Prop} {n:Nat} {l:Sl} {K:PH} {hs:List PH}
end
structure SR where
 aV:Option Addr
 cV:Nat
 aD:Option Addr
 cD:Nat
 aL:Option Addr
 cL:Nat
def zV.ad{r:Rl}{v:Value}(h:zV K r v):∃ d:SR,v=.agg (zI r d.aV d.cV d.aD d.cD d.aL d.cL)/\zV K r (.agg (zI r d.aV d.cV d.aD d.cD d.aL d.cL)):=by
 obtain ⟨aV,cV,aD,cD,aL,cL,rfl,h2,h3,h4⟩:=h;exact ⟨⟨aV,cV,aD,cD,aL,cL⟩,I,aV,cV,aD,cD,aL,cL,I,h2,h3,h4⟩
end
section
structure cY (n:Nat) (D:Dk):Prop where
 left:D.left = -1
 dead:D.dead=false
 room:(n:Int)<=D.room
def cY.mono{n m:Nat}{D:Dk}(h:cY n D)(k:m<=n):cY m D:=⟨h.left,h.dead,by have:=h.room;omega⟩
theorem cY.write{n:Nat}{D:Dk}(h:cY (n+1) D)(a i:Int)(b:List UInt8)(h0:0<=i)(hi:i<65536)(hb:ba b<=64):(D.write a i b).2=0/\cY n (D.write a i b).1:=by
 have h1:=h.left;have h2:=h.dead;have h3:=h.room;have hd:((D.laid a i b).stp).dead=false:=by simp[Dk.stp,Dk.laid,h1]
 have hl:((D.laid a i b).stp).left = -1:=by simp[Dk.stp,Dk.laid,h1]
 unfold Dk.write;rw[aaa (by rw[h2];decide),aaa qo,aaa qo];refine ⟨by simp[hd],hl,hd,?_⟩;show (n:Int)<=(D.laid a i b).room
 grind [Dk.laid]
theorem cY.stp{n:Nat}{D:Dk}(h:cY n D):cY n D.stp:=⟨by simp[Dk.stp,h.left],by simp[Dk.stp,h.left],h.room⟩
theorem cY.sync{n:Nat}{D:Dk}(h:cY n D)(a:Int):(D.sync a).2=0/\cY n (D.sync a).1:=by
 have h1:=h.stp;unfold Dk.sync;rw[aaa (by rw[h.dead];decide),aaa (by rw[h1.dead];decide)];exact ⟨I,h1.left,h1.dead,h1.room⟩
theorem cY.free{n:Nat}{D:Dk}(h:cY n D)(a:Int):(D.free a).2=0/\cY n (D.free a).1:=by
 have h1:=h.stp;unfold Dk.free;rw[aaa (by rw[h.dead];decide),aaa (by rw[h1.dead];decide)];exact ⟨I,h1.left,h1.dead,by have:=h.room;dsimp only;omega⟩
theorem cY.save{n:Nat}{D:Dk}(h:cY (n+1) D)(S:df)(area:Nat)(v:List UInt8)(hn:S.num<18446744073709551615)(hv:ba v<=48):
  (S.save area D v).2.2=0/\cY n (S.save area D v).2.1/\(S.save area D v).1=⟨S.num+1,v⟩:=by
 have h1:=h.write area (((S.num+1) % 2:Nat):Int) (du (S.num+1) v) qo qo (by rw[qc hv];omega);have h2:=h1.2.sync area;unfold df.save
 grind
structure iA (f:Nat) (W:Wl):Prop where
 code:W.code=0
 op:∀ o,W.op=some o->o.full<=f/\ba o.rest<=62
theorem CI:∀ (f:Nat) (o:gH) (D:Dk) (n:Nat),cY (n+(ba o.rest / 63+1)) D->ba o.rest<63*f->o.full+ba o.rest / 63<65536 ->
  (wrL f o D).2.2=0/\cY n (wrL f o D).2.1/\(wrL f o D).1.full<=o.full+ba o.rest / 63/\ba (wrL f o D).1.rest<=62
 | 0,o,D,n,_,hf,_=>by omega
 | f+1,o,D,n,h,hf,hfu=>by
  have h1:=cY.write (n:=n+ba o.rest / 63) (h.mono qo) (aJ o.num) o.full (UInt8.ofNat (min (ba o.rest) 63)::o.rest.take (min (ba o.rest) 63)) qo qo (by grind);unfold wrL;rw[h1.1]
  by_cases hl:ba o.rest<63
  ·grind
  rw[aaa qo]
  by_cases he:ba o.rest=63
  ·rw[aab he];exact ⟨I,h1.2.mono qo,ax,ST⟩
  rw[aaa he];have h3:=CI f { o with full:=o.full+1,rest:=o.rest.drop 63 } _ n (h1.2.mono (by dsimp only;rw[aan];omega)) (by dsimp only;rw[aan];omega) (by dsimp only;rw[aan];omega);refine ⟨h3.1,h3.2.1,?_,h3.2.2.2⟩;have:=h3.2.2.1;dsimp only at this;rw[aan] at this;omega
def CG{n:Nat}{D:Dk}(o:gH)(b:List UInt8)(h:cY (n+((ba o.rest+ba b) / 63+1)) D)(hf:o.full+(ba o.rest+ba b) / 63<65536):
  (wrO o b D).2.2=0/\cY n (wrO o b D).2.1/\(wrO o b D).1.full<=o.full+(ba o.rest+ba b) / 63/\ba (wrO o b D).1.rest<=62:=by
 have hl:ba (o.rest++b)=ba o.rest+ba b:=aaf;have:=CI (ba o.rest+ba b+1) { o with rest:=o.rest++b } D n (by dsimp only;rw[hl];exact h) (by dsimp only;rw[hl];omega) ax;dsimp only at this;rw[hl] at this;exact this
theorem iA.sync{f n:Nat}{W:Wl}{D:Dk}(o:iA f W)(h:cY n D):iA f (W.sync D).1/\cY n (W.sync D).2/\(W.sync D).1.first=W.first/\(W.sync D).1.recs=W.recs/\(W.sync D).1.next=W.next/\(W.sync D).1.op=W.op/\(W.sync D).1.old=W.old:=by
 unfold Wl.sync;rw[aaa (by rw[o.code];simp)];cases hop:W.op with
 | none=>simp_all
 | some q=>
  have h1:=h.sync (aJ q.num);exact ⟨⟨h1.1,fun p hp=>o.op p (by rw[hop];exact hp)⟩,h1.2,I,I,I,I,I⟩
theorem ux{i:Nat}(h:i<18446744073709551616):ba (aU i)<=10:=eY h
theorem iA.begin{f n:Nat}{W:Wl}{D:Dk}(o:iA f W)(h:cY (n+1) D)(i:Nat)(hi:i<18446744073709551616):
  iA 0 (W.begin i D).1/\cY n (W.begin i D).2/\(W.begin i D).1.first=W.first/\(W.begin i D).1.recs=W.recs/\(W.begin i D).1.next=W.next+1/\(W.begin i D).1.op≠none:=by
 have h1:=o.sync h;have hu:=ux hi;have h2:=CG (n:=n) (D:=(W.sync D).2) ⟨W.next,i,0,[]⟩ (aU i) (h1.2.1.mono (by simp only[aaG];omega)) (by simp only[aaG];omega);unfold Wl.begin;rw[aaa (by rw[h1.1.code];simp)];refine ⟨⟨h2.1,?_⟩,h2.2.1,h1.2.2.1,h1.2.2.2.1,I,ST⟩
 grind
def BM{n:Nat}{W:Wl}{D:Dk}{b:List UInt8}(o:iA 15 W)(hop:W.op≠none)(h:cY (n+10) D)(hb:ba b<=512):
  (ef W b D).2.2=0/\iA 24 (ef W b D).1/\cY n (ef W b D).2.1/\(ef W b D).1.first=W.first/\(ef W b D).1.recs=W.recs++[b]/\(ef W b D).1.next=W.next:=by
 have hp:=rG hb;unfold ef;cases hq:W.op with
 | none=>exact absurd hq hop
 | some q=>
  have h1:=o.op q hq;have h2:=CG (n:=n) (D:=D) q (dg b) (h.mono qo) qo;dsimp only;refine ⟨h2.1,⟨h2.1,?_⟩,h2.2.1,I,by rw[aab h2.1],I⟩
  grind
theorem iA.append{n:Nat}{W:Wl}{D:Dk}{b:List UInt8}(o:iA 24 W)(h:cY (n+11) D)(hb:ba b<=512)(hl:W.first+ba W.recs<bP):
  (W.append b D).2.2=0/\iA 24 (W.append b D).1/\cY n (W.append b D).2.1/\(W.append b D).1.first=W.first/\(W.append b D).1.recs=W.recs++[b]/\(W.append b D).1.next<=W.next+1:=by
 have hl2:=hl;unfold bP at hl2;unfold Wl.append;rw[aaa (by rw[o.code];simp),aaa qo,aaa qo]
 by_cases hn:mR W.op=true
 ·rw[aab hn];have h1:=o.begin (n:=n+10) h (W.first+ba W.recs) qo;rw[aaa (by rw[h1.1.code];simp)];have h2:=BM (n:=n) (b:=b) ⟨h1.1.code,fun q hq=>by have:=h1.1.op q hq;omega⟩ h1.2.2.2.2.2 h1.2.1 hb
  simp_all
 rw[aaa hn];have hop:W.op≠none:=fun e=>hn (by rw[e];rfl)
 have h2:=BM (n:=n) (b:=b) ⟨o.code,fun q hq=>by
  have h3:=o.op q hq
  grind [mR]⟩ hop (h.mono qo) hb
 simp_all
def iA.up{f g:Nat}{W:Wl}(o:iA f W)(h:f<=g):iA g W:=⟨o.code,fun q hq=>by have:=o.op q hq;omega⟩
theorem iA.truncate{n:Nat}{W:Wl}{D:Dk}(o:iA 24 W)(h:cY (n+1) D)(i:Nat)(hi:i<18446744073709551616)(h1:W.first<=i)(h2:i-W.first<=ba W.recs):
  (W.truncate i D).2.2=0/\iA 24 (W.truncate i D).1/\cY n (W.truncate i D).2.1/\(W.truncate i D).1.first=W.first/\(W.truncate i D).1.recs=W.recs.take (i-W.first)/\(W.truncate i D).1.next<=W.next+1:=by
 unfold Wl.truncate;rw[aaa (by rw[o.code];simp),aaa qo]
 by_cases he:i-W.first=ba W.recs
 ·rw[aab he];exact ⟨I,o,h.mono qo,I,by rw[he,aav],ST⟩
 rw[aaa he];have h3:=o.begin h i hi;rw[aab h3.1.code];exact ⟨h3.1.code,⟨h3.1.code,fun q hq=>by have:=h3.1.op q hq;omega⟩,h3.2.1,h3.2.2.1,rfl,by simp_all⟩
theorem AY(i:Nat):∀ (f:Nat) (old:List (Nat×Nat)) (D:Dk) (n:Nat),cY n D->(wfree i f old D).2.2=0/\cY n (wfree i f old D).2.1
 | 0,_,_,_,h=>⟨rfl,h⟩
 | f+1,old,D,n,h=>by
  unfold wfree;have h1:=h.free (aJ (old.headD (0,0)).1)
  split
  ·rw[aaa qo];exact AY i f _ _ n h1.2
  exact ⟨I,h⟩
theorem iA.compact{n:Nat}{W:Wl}{D:Dk}(o:iA 24 W)(h:cY (n+1) D)(i:Nat)(hi:i<18446744073709551616)(h1:W.first<i)(h2:i-W.first<=ba W.recs):
  (W.compact i D).2.2=0/\iA 24 (W.compact i D).1/\cY n (W.compact i D).2.1/\(W.compact i D).1.first=i/\(W.compact i D).1.recs=W.recs.drop (i-W.first)/\(W.compact i D).1.next<=W.next+1:=by
 have hc1:iA 24 (W.compact1 i D).1/\cY n (W.compact1 i D).2/\(W.compact1 i D).1.next<=W.next+1:=by
  unfold Wl.compact1
  split
  ·have h3:=o.begin h i hi;exact ⟨h3.1.up qo,h3.2.1,qo⟩
  exact ⟨o,h.mono qo,ST⟩
 have hc2:=hc1.1.sync hc1.2.1;have hf:=AY i (ba (W.compact2 i D).1.old+1) (W.compact2 i D).1.old (W.compact2 i D).2 n hc2.2.1;unfold Wl.compact;rw[aaa (by rw[o.code];simp),aaa qo,aaa qo,aaa (by intro hh;exact hh hc2.1.code),aaa qo];exact ⟨I,⟨hc2.1.code,hc2.1.op⟩,hf.2,I,I,by simp_all [Wl.compact2]⟩
end
section
def Lg.rl(L:Lg):Rl:=⟨L.kt,L.kv,L.sn,L.l⟩
structure gI (k q:Nat) (L:Lg):Prop where
 code:L.code=0
 w:iA 24 L.w
 hard:L.hard.num<=k
 head:L.head.num<=k
 place:L.place<=k
 next:L.w.next<=q
 fr:L.fr<=q
 first:L.w.first=L.sn.idx+1
 recs:ba L.w.recs=ba L.l
def gI.up{k q k' q':Nat}{L:Lg}(o:gI k q L)(h:k<=k')(h':q<=q'):gI k' q' L:=
 ⟨o.code,o.w,by have:=o.hard;omega,by have:=o.head;omega,by have:=o.place;omega,by have:=o.next;omega,by have:=o.fr;omega,o.first,o.recs⟩
def AH{e:aI}(h:kR e):ba e.bytes<=512:=by
 obtain ⟨⟨_,_,h1⟩,h2,h3⟩:=h
 grind [sm,ux,aC,aI.bytes,dg]
theorem gI.app1:∀ (x:List aI) (L:Lg) (D:Dk) (k q n:Nat),gI k q L->cY (n+11*ba x) D->(∀ e∈x,kR e)->L.sn.idx+ba L.l+ba x<2*bY ->
  (Lg.app1 x L D).2.2=0/\cY n (Lg.app1 x L D).2.1/\gI k (q+ba x) (Lg.app1 x L D).1/\(Lg.app1 x L D).1.rl={ L.rl with l:=L.l++x }
 | [],L,D,k,q,n,o,h,_,_=>⟨rfl,h.mono qo,o.up qo qo,by simp[Lg.app1,Lg.rl]⟩
 | e::r,L,D,k,q,n,o,h,hx,hl=>by
  simp only[aaj] at h hl;unfold bY at hl;have h1:=o.w.append (n:=n+11*ba r) (b:=e.bytes) (h.mono qo) (AH (hx e ST)) (by rw[o.first,o.recs];unfold bP;omega);unfold Lg.app1;rw[aaa qo]
  have hS:gI k (q+1) { L with w:=(L.w.append e.bytes D).1,l:=L.l++[e] }:=
   ⟨o.code,h1.2.1,o.hard,o.head,o.place,by have:=o.next;have:=h1.2.2.2.2.2;dsimp only;omega,by have:=o.fr;dsimp only;omega,by dsimp only;rw[h1.2.2.2.1];exact o.first,by dsimp only;rw[h1.2.2.2.2.1];simp[o.recs]⟩
  have h2:=gI.app1 r _ _ k (q+1) n hS h1.2.2.1 (fun e he=>hx e (by simp[he])) (by grind [bY])
  grind [Lg.rl]
theorem gI.append{k q n:Nat}{L:Lg}{D:Dk}(o:gI k q L)(x:List aI)(h:cY (n+11*ba x) D)(hx:∀ e∈x,e.idx<=aC/\e.term<=aC)(hl:L.sn.idx+ba L.l+ba x<2*bY):
  (L.append x D).2.2=(L.rl.append x).2/\cY n (L.append x D).2.1/\gI k (q+ba x) (L.append x D).1/\(L.append x D).1.rl=(L.rl.append x).1:=by
 unfold Lg.append Rl.append;rw[aaa (by rw[o.code];simp)]
 by_cases hf:kz L.last (fZ L.sn L.l L.last).1 x=0
 ·rw[aaa (by rw[hf];simp),aaa (by intro h2;exact h2 hf)];have hok:=uI hf;exact gI.app1 x L D k q n o h (fun e he=>⟨hok e he,hx e he⟩) hl
 rw[aab hf,aab (show kz (L.rl.sn.idx+ba L.rl.l) (fZ L.rl.sn L.rl.l (L.rl.sn.idx+ba L.rl.l)).1 x≠0 from hf)];exact ⟨I,h.mono qo,o.up qo qo,I⟩
theorem gI.sync{k q n:Nat}{L:Lg}{D:Dk}(o:gI k q L)(h:cY n D):(L.sync D).2.2=0/\cY n (L.sync D).2.1/\gI k q (L.sync D).1/\(L.sync D).1.rl=L.rl/\(L.sync D).1.sn=L.sn/\(L.sync D).1.l=L.l:=by
 have h1:=o.w.sync h;unfold Lg.sync;rw[aaa (by rw[o.code];simp)];exact ⟨h1.1.code,h1.2.1,⟨h1.1.code,h1.1,o.hard,o.head,o.place,by dsimp only;rw[h1.2.2.2.2.1];exact o.next,o.fr,by dsimp only;rw[h1.2.2.1];exact o.first,by dsimp only;rw[h1.2.2.2.1];exact o.recs⟩,I,I,I⟩
theorem Dz(place:Nat):∀ (f n:Nat) (b:List UInt8) (D:Dk) (m:Nat),cY (m+(ba b+63) / 64) D->ba b<f->n+(ba b+63) / 64<=65536->(lgW place f n b D).2=0/\cY m (lgW place f n b D).1
 | 0,_,_,_,_,_,hf,_=>by omega
 | f+1,n,b,D,m,h,hf,hn=>by
  unfold lgW
  by_cases hb:b=[]
  ·simp_all
  rw[aaa hb];have hbl:0<ba b:=by grind
  have h1:=cY.write (n:=m+(ba b-64+63) / 64) (h.mono qo) (bU place) n (b.take 64) qo qo (by rw[aam];omega);rw[aaa qo];exact Dz place f (n+1) (b.drop 64) _ m (by rw[aan];exact h1.2) (by rw[aan];omega) (by rw[aan];omega)
def EN{s:bG}{place fr:Nat}(hi:s.idx<=aC)(ht:s.term<=aC)(hp:place<=2097151)(hf:fr<=2097151)(hd:ba s.data<=2097152)(hv:(eu s.vot).isSome=true):ba (Lg.say s place fr)<=48:=by
 unfold aC at hi ht;have h1:=ux (i:=s.idx) qo;have h2:=ux (i:=s.term) qo;have h3:=rD 3 place qo SU;have h4:=rD 3 fr qo SU;have h5:=rD 4 (ba s.data) qo SU
 grind [ob,eu,Lg.say]
theorem gI.lay{k q n:Nat}{L:Lg}{D:Dk}(o:gI k q L)(s:bG)(fr:Nat)(h:cY (n+((ba s.data+63) / 64+1)) D)(hi:s.idx<=aC)(ht:s.term<=aC)(hd:ba s.data<=2097152)(hv:(eu s.vot).isSome=true)(hk:k<=1000000)(hq:q<=2000000)(hfr:fr<=q):
  (L.lay s fr D).2.2=0/\cY n (L.lay s fr D).2.1/\(L.lay s fr D).1.code=0/\(L.lay s fr D).1.w=L.w/\(L.lay s fr D).1.hard=L.hard/\(L.lay s fr D).1.head.num<=k+1/\(L.lay s fr D).1.place<=k+1/\(L.lay s fr D).1.fr=fr/\(L.lay s fr D).1.sn=s/\(L.lay s fr D).1.kt=L.kt/\(L.lay s fr D).1.kv=L.kv /\
   (L.lay s fr D).1.l=if gQ L.sn L.l s=true then L.l.drop ((i8 L.sn L.l s.idx).getD 0+1) else []:=by
 have hp:=o.place;have hh:=o.head;have h1:=Dz (L.place+1) (ba s.data+1) 0 s.data D (n+1) (h.mono qo) qo qo;have h2:=h1.2.sync (bU (L.place+1));have h3:=h2.2.save L.head 4 (Lg.say s (L.place+1) fr) qo (EN hi ht qo qo hd hv);have h4:=h3.2.1.free (bU L.place);unfold Lg.lay;rw[aaa qo];unfold Lg.lay1;rw[aaa qo];unfold Lg.lay2;have h30:=h3.1;rw[aaa qo];unfold Lg.lay3 Lg.laid
 simp_all
def DA{s:bG}{l:List aI}{t:bG}(h:gQ s l t=true)(hlt:s.idx<t.idx):t.idx<=s.idx+ba l/\(i8 s l t.idx).getD 0+1=t.idx-s.idx:=by
 grind [gQ,fZ,i8]
def NX{k q:Nat}{L:Lg}(o:gI k q L)(s:bG):L.fits s=L.rl.fits s:=by
 unfold Lg.fits Rl.fits;rw[aaa (by rw[o.code];simp)]
 rfl
theorem gI.save{k q n:Nat}{L:Lg}{D:Dk}(o:gI k q L)(s:bG)(h:cY (n+((ba s.data+63) / 64+2)) D)(hi:s.idx<=aC)(ht:s.term<=aC)(hk:k<=1000000)(hq:q<=2000000):
  (L.save s D).2.2=(L.rl.save s).2/\cY n (L.save s D).2.1/\gI (k+1) (q+1) (L.save s D).1/\(L.save s D).1.rl=(L.rl.save s).1:=by
 unfold Lg.save Rl.save;rw[NX o]
 by_cases hf:L.rl.fits s=0
 ·rw[aaa (show ¬L.rl.fits s≠0 by rw[hf];simp),aaa (show ¬L.rl.fits s≠0 by rw[hf];simp)];obtain ⟨hv,hd,hlt,htop⟩:=C7 hf;have hlt':L.sn.idx<s.idx:=hlt
  by_cases hh:gQ L.sn L.l s=false
  ·rw[aab hh,aab (show gQ L.rl.sn L.rl.l s=false from hh)];exact ⟨I,h.mono qo,o.up qo qo,I⟩
  rw[aaa hh,aaa (show ¬gQ L.rl.sn L.rl.l s=false from hh)];have hh':gQ L.sn L.l s=true:=by simpa using hh
  have hin:=DA hh' hlt';have hs:=o.sync h;unfold Lg.save1;rw[aaa qo];generalize L.sync D=LD at hs;obtain ⟨L1,D1,c1⟩:=LD;obtain ⟨_,hl1,o1,hr1,hsn1,hL1⟩:=hs;dsimp only at hl1 o1 hr1 hsn1 hL1 ⊢;have hly:=o1.lay (n:=n+1) s L1.fr (hl1.mono qo) hi ht hd hv hk hq o1.fr;unfold Lg.save2;rw[aaa qo];generalize L1.lay s L1.fr D1=R at hly;obtain ⟨L2,D2,c2⟩:=R;obtain ⟨_,hl2,hc2,hw2,hh2,hhd2,hp2,hfr2,hsn2,hkt2,hkv2,hL2⟩:=hly;dsimp only at hl2 hc2 hw2 hh2 hhd2 hp2 hfr2 hsn2 hkt2 hkv2 hL2 ⊢;have hcm:=(show iA 24 L2.w from by rw[hw2];exact o1.w).compact hl2 (s.idx+1) (by unfold bY at htop;omega) (by rw[hw2,o1.first,hsn1];omega) (by rw[hw2,o1.first,o1.recs,hsn1,hL1];omega);have hl3:L2.l=L.l.drop (s.idx-L.sn.idx):=by rw[hL2,hsn1,hL1,aab hh',hin.2]
  have hrr:L1.rl.kt=L.kt/\L1.rl.kv=L.kv:=by rw[hr1];exact ⟨I,I⟩
  refine ⟨hcm.1,hcm.2.2.1,⟨hcm.1,hcm.2.1,by dsimp only;rw[hh2];have:=o1.hard;omega,hhd2,hp2,by dsimp only;have:=hcm.2.2.2.2.2;rw[hw2] at this ⊢;have:=o1.next;omega,by dsimp only;rw[hfr2];have:=o1.fr;omega,by dsimp only;rw[hcm.2.2.2.1,hsn2],?_⟩,?_⟩
  ·dsimp only;rw[hcm.2.2.2.2.1,hl3,hw2,aan,aan,o1.first,o1.recs,hsn1,hL1];omega
  simp_all [Lg.rl]
 rw[aab hf,aab hf];exact ⟨I,h.mono qo,o.up qo qo,I⟩
end
section
inductive Rw:List Int->Dk->Dk->Prop
 | refl (A:List Int) (D:Dk):Rw A D D
 | write {A:List Int} {D E:Dk} (a n:Int) (b:List UInt8):a∈A->Rw A D E->Rw A D (E.write a n b).1
 | sync {A:List Int} {D E:Dk} (a:Int):Rw A D E->Rw A D (E.sync a).1
 | free {A:List Int} {D E:Dk} (a:Int):Rw A D E->Rw A D (E.free a).1
def Rw.mono{A B:List Int}{D E:Dk}(h:Rw A D E)(hs:∀ a∈A,a∈B):Rw B D E:=by
 induction h with
 | refl=>exact Rw.refl _ _
 | write a n b ha _ ih=>exact ih.write a n b (hs a ha)
 | sync a _ ih=>exact ih.sync a
 | free a _ ih=>exact ih.free a
def Rw.trans{A:List Int}{D E:Dk}(h:Rw A D E){F:Dk}(g:Rw A E F):Rw A D F:=by
 induction g with
 | refl=>exact h
 | write a n b ha _ ih=>exact ih.write a n b ha
 | sync a _ ih=>exact ih.sync a
 | free a _ ih=>exact ih.free a
def Rw.keys{A:List Int}{D E:Dk}(h:Rw A D E):∀ k∈E.areas.map (·.1),k∈D.areas.map (·.1)\/k∈A:=by
 induction h with
 | refl=>exact fun k hk=>.inl hk
 | write a n b ha _ ih=>
  rename_i E _;unfold Dk.write
  split
  ·exact ih
  split
  ·exact ih
  split
  ·exact ih
  intro k hk;obtain ⟨x,hx,rfl⟩:=aak.1 hk;rcases j7 hx with rfl|hx
  all_goals grind
 | sync a _ ih=>
  rename_i E _;unfold Dk.sync
  split
  ·exact ih
  split
  ·exact ih
  grind [rO]
 | free a _ ih=>
  rename_i E _;unfold Dk.free
  split
  ·exact ih
  split
  ·exact ih
  intro k hk;obtain ⟨x,hx,rfl⟩:=aak.1 hk;exact ih _ (aak.2 ⟨x,(nC (k:=a) E.areas).subset hx,I⟩)
def Rk(k:Nat)(D E:Dk):Prop:=∃ A:List Int,ba A<=k/\Rw A D E
theorem Rk.of{k:Nat}(D:Dk):Rk k D D:=⟨[],aag k,Rw.refl _ D⟩
def Rk.up{k j:Nat}{D E:Dk}(h:Rk k D E)(g:k<=j):Rk j D E:=let ⟨A,h1,h2⟩:=h;⟨A,qo,h2⟩
theorem Rk.trans{k j:Nat}{D E F:Dk}(h:Rk k D E)(g:Rk j E F):Rk (k+j) D F:=by
 obtain ⟨A,h1,h2⟩:=h;obtain ⟨B,g1,g2⟩:=g;exact ⟨A++B,by rw[aaf];omega,(h2.mono fun a ha=>aal.2 (.inl ha)).trans (g2.mono fun a ha=>aal.2 (.inr ha))⟩
theorem Rk.sync{k:Nat}{D E:Dk}(h:Rk k D E)(a:Int):Rk k D (E.sync a).1:=let ⟨A,h1,h2⟩:=h;⟨A,h1,h2.sync a⟩
theorem Rk.free{k:Nat}{D E:Dk}(h:Rk k D E)(a:Int):Rk k D (E.free a).1:=let ⟨A,h1,h2⟩:=h;⟨A,h1,h2.free a⟩
def Rk.len{k c:Nat}{D E:Dk}(h:Rk k D E)(o:E.Ok c):ba E.areas<=ba D.areas+k:=by
 obtain ⟨A,h1,h2⟩:=h;have:=acZ o.keys (l₂:=D.areas.map (·.1)++A) (fun a ha=>aal.2 (h2.keys a ha))
 grind
def EO(S:df)(area:Nat)(D:Dk)(v:List UInt8):Rw [((area:Nat):Int)] D (S.save area D v).2.1:=by
 unfold df.save
 split
 ·exact Rw.refl _ D
 split
 ·exact ((Rw.refl _ D).write _ _ _ ST).sync _
 exact (Rw.refl _ D).write _ _ _ ST
theorem FO:∀ (f:Nat) (o:gH) (D:Dk),Rw [aJ o.num] D (wrL f o D).2.1
 | 0,o,D=>Rw.refl _ D
 | f+1,o,D=>by
  have hw:=(Rw.refl [aJ o.num] D).write (aJ o.num) o.full (UInt8.ofNat (min (ba o.rest) 63)::o.rest.take (min (ba o.rest) 63)) ST;rw[qi]
  split
  ·exact hw
  split
  ·exact hw
  exact hw.trans<|FO f { o with full:=o.full+1,rest:=o.rest.drop 63 } _
def yy(o:gH)(b:List UInt8)(D:Dk):Rw [aJ o.num] D (wrO o b D).2.1:=FO (ba o.rest+ba b+1) { o with rest:=o.rest++b } D
def rY(A:List Int)(W:Wl)(D:Dk):Rw A D (W.sync D).2:=by
 unfold Wl.sync
 split
 ·exact Rw.refl _ D
 split
 ·exact Rw.refl _ D
 exact (Rw.refl _ D).sync _
def CY(W:Wl)(i:Nat)(D:Dk):Rw [aJ W.next] D (W.begin i D).2:=by
 unfold Wl.begin
 split
 ·simp[rY]
 exact (rY _ W D).trans<|yy ⟨W.next,i,0,[]⟩ (aU i) _
def xP(W:Wl)(A:List Int)(hA:∀ q,W.op=some q->aJ q.num∈A)(b:List UInt8)(D:Dk):Rw A D (ef W b D).2.1:=by
 unfold ef;cases hop:W.op with
 | none=>exact Rw.refl _ D
 | some q=>exact (yy q (dg b) D).mono fun a ha=>by simp_all
def KE{W:Wl}{i:Nat}{D:Dk}(h:(W.begin i D).1.code=0):∀ q,(W.begin i D).1.op=some q->q.num=W.next:=by
 intro q hq;unfold Wl.begin at h hq
 split at hq
 ·simp_all
 grind [sw]
def I2(W:Wl)(b:List UInt8)(D:Dk):Rk 1 D (W.append b D).2.1:=by
 unfold Wl.append
 split
 ·exact Rk.of D
 split
 ·exact Rk.of D
 split
 ·exact Rk.of D
 split
 ·have hb:=CY W (W.first+ba W.recs) D
  split
  ·exact ⟨_,aac _,hb⟩
  rename_i h2;have hn:=KE (Decidable.not_not.1 h2);exact ⟨[aJ W.next],aac _,hb.trans (xP _ _ (fun q hq=>by rw[hn q hq];simp) b _)⟩
 cases hop:W.op with
 | none=>exact ⟨[],aag _,xP W [] (fun q hq=>by rw[hop] at hq;cases hq) b D⟩
 | some o=>exact ⟨[aJ o.num],aac _,xP W _ (fun q hq=>by rw[hop] at hq;cases hq;simp) b D⟩
theorem CX(A:List Int)(i:Nat):∀ (f:Nat) (old:List (Nat×Nat)) (D:Dk),Rw A D (wfree i f old D).2.1
 | 0,old,D=>Rw.refl _ D
 | f+1,old,D=>by
  unfold Go.En.wfree
  split
  ·split
   ·exact (Rw.refl _ D).free _
   exact ((Rw.refl _ D).free _).trans<|CX A i f _ _
  exact Rw.refl _ D
def IA(W:Wl)(i:Nat)(D:Dk):Rw [aJ W.next] D (W.compact2 i D).2:=by
 unfold Wl.compact2 Wl.compact1
 split
 ·exact (CY W i D).trans<|rY _ _ _
 simp[rY]
def I3(W:Wl)(i:Nat)(D:Dk):Rw [aJ W.next] D (W.compact i D).2.1:=by
 have h2:=IA W i D;have h3:=h2.trans (CX _ i (ba (W.compact2 i D).1.old+1) (W.compact2 i D).1.old (W.compact2 i D).2);unfold Wl.compact
 split
 ·exact Rw.refl _ D
 split
 ·exact Rw.refl _ D
 split
 ·exact Rw.refl _ D
 grind
theorem CA(W:Wl)(i:Nat)(D:Dk):ba (W.begin i D).1.old<=ba W.old+1:=by
 unfold Wl.begin
 split
 ·rw[Wl.sync_eq];simp
 simp
theorem CK(W:Wl)(b:List UInt8)(D:Dk):(ef W b D).1.old=W.old:=by
 unfold ef
 split <;> rfl
def JC(W:Wl)(b:List UInt8)(D:Dk):ba (W.append b D).1.old<=ba W.old+1:=by
 unfold Wl.append
 split
 ·simp
 split
 ·simp
 split
 ·simp
 split
 ·grind [CA,CK]
 simp[CK]
def AJ(W:Wl)(i:Nat)(D:Dk):ba (W.compact2 i D).1.old<=ba W.old+1:=by
 unfold Wl.compact2;rw[Wl.sync_eq];unfold Wl.compact1
 split
 all_goals simp[CA]
theorem BK(i:Nat):∀ (f:Nat) (old:List (Nat×Nat)) (D:Dk),(wfree i f old D).1 <:+ old
 | 0,old,D=>abI _
 | f+1,old,D=>by
  unfold Go.En.wfree
  split
  ·split
   ·exact abI _
   exact (BK i f _ _).trans<|acY 1 old
  exact abI _
def IM(W:Wl)(i:Nat)(D:Dk):ba (W.compact i D).1.old<=ba W.old+1:=by
 have h2:=AJ W i D;have h3:=(BK i (ba (W.compact2 i D).1.old+1) (W.compact2 i D).1.old (W.compact2 i D).2).length_le
 grind [Wl.compact]
structure Rn (c q:Nat) (L:Lg) (D:Dk):Prop where
 lb:dL c L
 ok:bf c D
 old:ba L.w.old<=q
 ar:ba D.areas<=q
theorem Rn.up{c q c' q':Nat}{L:Lg}{D:Dk}(o:Rn c q L D)(h:c<=c')(h':q<=q'):Rn c' q' L D:=⟨o.lb.up h,o.ok.up h,by have:=o.old;omega,by have:=o.ar;omega⟩
theorem Ay(D:Dk):ba (a8 D)=ba D.areas:=by unfold a8;rw[(fb _).length_eq,aaP]
theorem Fn:∀ (x:List aI) (L:Lg) (D:Dk) (c:Nat),dL c L->bf c D->(∀ e∈x,kR e)->c+12*ba x<=999999990->Rk (ba x) D (Lg.app1 x L D).2.1/\ba (Lg.app1 x L D).1.w.old<=ba L.w.old+ba x
 | [],L,D,c,_,_,_,_=>⟨Rk.of D,aac _⟩
 | e::r,L,D,c,o,d,hx,hc=>by
  simp only[aaj] at hc;have h1:=I2 L.w e.bytes D;have h2:=JC L.w e.bytes D;rw[tY]
  split
  ·exact ⟨h1.up (by simp only[aaj];omega),by dsimp only;simp only[aaj];omega⟩
  have h3:=Fn r _ _ (c+12) (o.w2 e.bytes D e (hx e ST)) (d.append o.w qo e.bytes) (fun y hy=>hx y (by simp[hy])) qo;exact ⟨(h1.trans h3.1).up (by simp only[aaj];omega),by have:=h3.2;dsimp only at this;simp only[aaj];omega⟩
def KI{c:Nat}{L:Lg}(o:dL c L){D:Dk}(d:bf c D)(x:List aI)(hx:∀ e∈x,e.idx<=aC/\e.term<=aC)(hc:c+12*ba x<=999999990):Rk (ba x) D (L.append x D).2.1/\ba (L.append x D).1.w.old<=ba L.w.old+ba x:=by
 unfold Lg.append
 split
 ·simp[Rk.of]
 split
 ·simp[Rk.of]
 rename_i h;have hok:=uI (Decidable.not_not.1 h);exact Fn x L D c o d (fun e he=>⟨hok e he,hx e he⟩) hc
theorem Rn.append{c q:Nat}{L:Lg}{D:Dk}(o:Rn c q L D)(x:List aI)(hx:∀ e∈x,e.idx<=aC/\e.term<=aC)(hc:c+12*ba x<=999999990):Rn (c+12*ba x) (q+ba x) (L.append x D).1 (L.append x D).2.1:=by
 have h:=KI o.lb o.ok x hx hc;have h2:=o.lb.append o.ok x hx hc;have hl:=h.1.len h2.2.ok;exact ⟨h2.1,h2.2,by have:=o.old;omega,by have:=o.ar;omega⟩
def Lm(L:Lg)(D:Dk):Rk 0 D (L.sync D).2.1:=by
 unfold Lg.sync
 split
 ·exact Rk.of D
 exact ⟨[],aac _,rY [] L.w D⟩
def Ki(L:Lg)(D:Dk):(L.sync D).1.w.old=L.w.old:=by
 grind [Wl.sync_eq,Lg.sync]
theorem Rn.sync{c q:Nat}{L:Lg}{D:Dk}(o:Rn c q L D):Rn (c+1) q (L.sync D).1 (L.sync D).2.1:=
 ⟨(o.lb.sync D).up qo,o.ok.syncL L,by rw[Ki];exact o.old,by have:=(Lm L D).len (o.ok.syncL L).ok;have:=o.ar;omega⟩
theorem yz(place:Nat):∀ (f n:Nat) (b:List UInt8) (D:Dk),Rw [((bU place:Nat):Int)] D (lgW place f n b D).1
 | 0,_,_,D=>Rw.refl _ D
 | f+1,n,b,D=>by
  rw[sh]
  split
  ·exact Rw.refl _ D
  have h1:=(Rw.refl [((bU place:Nat):Int)] D).write (bU place) n (b.take 64) ST
  split
  ·exact h1
  exact h1.trans<|yz place f (n+1) (b.drop 64) _
def OJ(L:Lg)(s:bG)(fr:Nat)(D:Dk):Rk 2 D (L.lay s fr D).2.1:=by
 have h1:Rk 1 D (lgW (L.place+1) (ba s.data+1) 0 s.data D).1:=⟨_,aac _,yz (L.place+1) (ba s.data+1) 0 s.data D⟩;unfold Lg.lay
 split
 ·exact h1.up qo
 unfold Lg.lay1;have h2:=h1.sync (bU (L.place+1))
 split
 ·exact h2.up qo
 unfold Lg.lay2;have h3:=h2.trans (⟨_,aac _,EO L.head 4 _ (Lg.say s (L.place+1) fr)⟩:Rk 1 _ _)
 split
 ·exact h3
 unfold Lg.lay3;exact h3.free (bU L.place)
def Qt(L:Lg)(s:bG)(fr:Nat)(D:Dk):(L.lay s fr D).1.w=L.w:=by
 unfold Lg.lay
 split
 ·rfl
 unfold Lg.lay1
 split
 ·rfl
 unfold Lg.lay2
 split
 all_goals rfl
def NY{L:Lg}{s:bG}(h:L.fits s=0):(eu s.vot).isSome=true/\ba s.data<=2097152/\L.sn.idx<s.idx/\s.idx<bY:=by
 grind [Lg.fits]
def NZ{L:Lg}{s:bG}(h:L.fits s=0)(ht:s.term<=aC):rv s:=by
 obtain ⟨h1,h2,h3,h4⟩:=NY h;exact ⟨qo,ht,wk h1,h2⟩
theorem Rn.compact{c q:Nat}{L:Lg}{D:Dk}(o:Rn c q L D)(i:Nat)(hi:i<18446744073709551616)(hc:c<=1000000000):
  Rn (c+4+q) (q+1) { L with w:=(L.w.compact i D).1,code:=(L.w.compact i D).2.2 } (L.w.compact i D).2.1:=
 have hok:bf (c+4+q) (L.w.compact i D).2.1:=(o.ok.compact o.lb.w hc i hi).up (by have:=AJ L.w i D;have:=o.old;omega)
 ⟨o.lb.wc ((o.lb.w.compact i D).up qo) qo _,hok,
  by have:=IM L.w i D;have:=o.old;dsimp only;omega,by have:=Rk.len ⟨_,aac _,I3 L.w i D⟩ hok.ok;have:=o.ar;grind⟩
theorem Rn.lay{c q k:Nat}{L:Lg}{D:Dk}(o:Rn c q L D)(s:bG)(hs:rv s)(fr:Nat)(hfr:fr<=eV+(c+1))(hc:c<=999000000)(hk:(ba s.data+63) / 64<=k):Rn (c+(k+4)) (q+2) (L.lay s fr D).1 (L.lay s fr D).2.1:=
 have hok:bf (c+(k+4)) (L.lay s fr D).2.1:=(o.ok.layL o.lb hc s hs fr).up qo
 ⟨(o.lb.lay s hs fr hfr D).up qo,hok,by rw[Qt];have:=o.old;omega,by have:=(OJ L s fr D).len hok.ok;have:=o.ar;omega⟩
theorem Rn.save{c q k:Nat}{L:Lg}{D:Dk}(o:Rn c q L D)(s:bG)(hst:s.term<=aC)(hc:c<=499900000)(hk:(ba s.data+63) / 64<=k):Rn (c+(2*k+q+20)) (q+3) (L.save s D).1 (L.save s D).2.1:=by
 unfold Lg.save
 split
 ·exact o.up qo qo
 rename_i hf;have hf:=Decidable.not_not.1 hf;have hs:=NZ hf hst
 split
 ·exact o.up qo qo
 unfold Lg.save1;have h1:=o.sync
 split
 ·exact h1.up qo qo
 unfold Lg.save2;have hkk:(ba s.data+63) / 64<=32769:=by have:=hs.data;omega
 have h2:=h1.lay (k:=(ba s.data+63) / 64) s hs (L.sync D).1.fr (by have:=h1.lb.fr;omega) qo (aac _)
 split
 ·exact h2.up qo qo
 exact (h2.compact (s.idx+1) (by have:=hs.idx;unfold bY at this;omega) qo).up qo qo
end
section
theorem wS(i t:Nat)(e:aI)(r:List aI):fW i t (e::r)=if e.idx≠i+1\/e.term<t then 180 else fW e.idx e.term r:=rfl
def E8{i t:Nat}{e:aI}{r:List aI}(h:fW i t (e::r)=0):e.idx=i+1/\t<=e.term/\fW e.idx e.term r=0:=by
 grind [wS]
def Mb{i t:Nat}{x:List aI}(hok:∀ e∈x,e.ok)(hf:fW i t x=0):kz i t x=0:=by
 simp_all [po,kz]
end
section
def gw(K:PH)(lb db:Nat)(L:Lg)(D:Dk)(h:PH):Prop:=∃ m,h=fp m/\jw m/\gv K lb db L D m
theorem gw.le{K K':PH}(l:Le K K'){lb db:Nat}{L:Lg}{D:Dk}{h:PH}(x:gw K lb db L D h):gw K' lb db L D h:=let ⟨m,h1,h2,h3⟩:=x;⟨m,h1,h2,h3.le l⟩
section
variable {w0:World} {K h:PH} {hs:List PH}
def O1{f:FuncId}{args:List Value}{lb db:Nat}{L:Lg}{D:Dk}{u:Value}(hL:gw K lb db L D h)(c:∀ m,gv K lb db L D m->aj w0 f args K (m++hs) (fun v K' hs'=>K'=K/\hs'=m++hs/\v=u)):aj w0 f args K (h::hs) (fun v K' hs'=>K'=K/\hs'=h::hs/\v=u):=by
 obtain ⟨m,rfl,d,hm⟩:=hL;refine Ct.bun2 d (c m hm) ?_
 grind
def F4{f:FuncId}{args:List Value}{lb db:Nat}{L:Lg}{D:Dk}{S:Value->PH->Prop}(hL:gw K lb db L D h)(c:∀ m,gv K lb db L D m->aj w0 f args K (m++hs) (fun v K' hs'=>Le K K'/\hs'=m++hs/\S v K')):aj w0 f args K (h::hs) (fun v K' hs'=>∃ h',hs'=h'::hs/\h'=h/\Le K K'/\S v K'):=by
 obtain ⟨m,rfl,d,hm⟩:=hL;refine Ct.bun2 d (c m hm) ?_
 grind
def vu{f:FuncId}{args:List Value}{lb db:Nat}{L L':Lg}{D D':Dk}{u:Value}(hL:gw K lb db L D h)(c:∀ m,gv K lb db L D m->aj w0 f args K (m++hs) (fun v K' hs'=>Le K K'/\∃ m',hs'=m'++hs/\gv K' lb db L' D' m'/\v=u)):aj w0 f args K (h::hs) (fun v K' hs'=>∃ h',hs'=h'::hs/\Le K K'/\gw K' lb db L' D' h'/\v=u):=by
 obtain ⟨m,rfl,d,hm⟩:=hL;refine Ct.bun2 d (c m hm) ?_;rintro v K' hs' ⟨le,m',rfl,hm',rfl⟩;exact ⟨m',hs,I,fun d'=>⟨_,I,le,⟨m',I,d',hm'⟩,I⟩⟩
variable (lb db:Nat) (L:Lg) (D:Dk) (c:Nat)
def yT(hb:dL c L)(hc:c<=1000000000)(hL:gw K lb db L D h):aj w0 9 [SX lb] K (h::hs) (fun v K' hs'=>K'=K/\hs'=h::hs/\v=.int .u64 (L.sn.idx+ba L.l:Nat)):=
 O1 hL fun m hm=>uF lb db L D c hb hc hm
def P2(hb:dL c L)(hL:gw K lb db L D h):aj w0 31 [SX lb] K (h::hs) (fun v K' hs'=>∃ h',hs'=h'::hs/\h'=h/\Le K K'/\HI K' L.sn v):=
 F4 hL fun m hm=>OD lb db L D c hb hm
def Mf(hb:dL c L)(hc:c<=1000000000)(hL:gw K lb db L D h)(i:Nat)(hi:i<18446744073709551616)(most:Int)(hmo : -9223372036854775808<=most/\most<=9223372036854775807):aj w0 33 [SX lb,.int .u64 (i:Nat),.int .i64 most] K (h::hs)
  (fun v K' hs'=>∃ h',hs'=h'::hs/\h'=h/\Le K K'/\∃ ao cap,v=.slice ao (ba (mM L.sn L.l i most)) cap/\bF 4 (iH K') K' ao (ba (mM L.sn L.l i most)) cap (mM L.sn L.l i most)):=
 F4 hL fun m hm=>Ku lb db L D c hb hc hm i hi most hmo
def OA(hb:dL c L)(hc:c<=1000000000)(oD:bf c D)(hL:gw K lb db L D h):aj w0 29 [SX lb] K (h::hs)
  (fun v K' hs'=>∃ h',hs'=h'::hs/\Le K K'/\gw K' lb db (L.sync D).1 (L.sync D).2.1 h'/\v=.int .i64 (L.sync D).2.2):=
 vu hL fun m hm=>(FJ lb db L D c hb hc oD hm).mono fun v K' hs' ⟨e,g⟩=>by subst e;exact ⟨Le.refl _,g⟩
def Ob(hb:dL c L)(oD:bf c D)(hL:gw K lb db L D h)(ao:Option Addr)(cap:Nat)(x:List aI)(xs:bF 4 (iH K) K ao (ba x) cap x)(hx:∀ e∈x,zo e)(hc:c+12*ba x<=999999000):aj w0 28 [SX lb,.slice ao (ba x) cap] K (h::hs)
  (fun u K' hs'=>∃ h',hs'=h'::hs/\Le K K'/\gw K' lb db (L.append x D).1 (L.append x D).2.1 h'/\u=.int .i64 (L.append x D).2.2):=
 vu hL fun m hm=>Mw lb db L D c hb oD hm ao cap x xs hx hc
def P6(hb:dL c L)(hc:c<=499900000)(oD:bf c D)(hL:gw K lb db L D h)(s:bG)(hsi:s.idx<18446744073709551616)(hst:s.term<=aC)(hvl:ba s.vot<1099511627776)(hdl:ba s.data<1099511627776)
  (aS:Option Addr) (cS:Nat) (aT:Option Addr) (cT:Nat) (xS:aH K aS (ba s.vot) cS 1 (iv s.vot)) (xT:aH K aT (ba s.data) cT 1 (bv s.data)):
  aj w0 8 [SX lb,.agg (eg s aS cS aT cT)] K (h::hs)
  (fun u K' hs'=>∃ h',hs'=h'::hs/\Le K K'/\gw K' lb db (L.save s D).1 (L.save s D).2.1 h'/\u=.int .i64 (L.save s D).2.2):=
 vu hL fun m hm=>OG lb db L D c hb hc oD hm s hsi hst hvl hdl aS cS aT cT xS xT
end
def GJ{dh:PH}(db:Nat)(D:Dk)(c:Nat)(oD:bf c D)(hc:c<=199000000)(hd:da K db D dh)(first:List Int)(hfl:ba first<=1000000)(aF:Option Addr)(cF:Nat)(xF:aH K aF (ba first) cF 1 (iv first)):
  aj w0 5 [SX db,.agg #[.slice aF (ba first) cF]] K (dh::hs)
   (fun v K' hs'=>∃ h',hs'=h'::hs/\Le K K'/\(((gp D first).1=none/\v=.tuple #[.pointer none,.int .i64 (gp D first).2.2]/\da K' db (gp D first).2.1 h') \/
    (∃ L lb,(gp D first).1=some L/\v=.tuple #[SX lb,.int .i64 (gp D first).2.2]/\gw K' lb db L (gp D first).2.1 h'))):=by
 refine Ct.fix2 (OV db D c oD hc hd first hfl aF cF xF) ?_;rintro w v K' hs' hS ⟨le,⟨h1,rfl,dh',rfl,hD⟩|⟨L,lb,m,h1,rfl,rfl,hm⟩⟩
 ·grind
 obtain ⟨d,hS'⟩:=aY.join m hS;exact ⟨K',_,⟨_,I,le,.inr ⟨L,lb,h1,I,m,I,d,hm⟩⟩,hS'⟩
end
end Go.En
