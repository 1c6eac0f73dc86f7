/-
  Part 6.
-/
import Derived.Test.YtgaefgbgfmpobaaGreatDoorSz5
set_option linter.defProp false
set_option linter.unusedSectionVars false
set_option linter.unusedSimpArgs false
set_option linter.unusedVariables false
namespace Go.En
open Go.Proofs Go.Proofs.YtgaefgbgfmpobaaGreatDoor
open List renaming length -> ba
attribute [local irreducible] Code.wp wpList Calls
variable {w0 : World} {K : PH} {Q : List aI->Prop} {P : bG->List aI->Prop}
section
def ET{s:df}{r:Nat×List UInt8}(hs:s.bd)(hr:r.1<18446744073709551616/\ba r.2<=48):(s.pick r).bd:=by
 unfold df.pick
 split
 ·exact hr
 exact hs
def A6{c:Nat}{D:Dk}(o:D.Ok c)(area:Nat):(jz D area).bd:=
 ET (ET ⟨Nat.zero_lt_succ _,aag _⟩ (xd o area 0)) (xd o area 1)
theorem FZ:∀ (r:List (List UInt8)) (i:Nat) (l:List aI),lA i r=some l->ba l=ba r/\∀ e∈l,kR e
 | [],i,l,h=>by
  cases h
  simp
 | b::r,i,l,h=>by
  rw[xh] at h;cases hg:jQ b with
  | none=>rw[hg] at h;cases h
  | some e=>
   rw[hg] at h;dsimp only at h
   split at h
   ·cases hr:lA (i+1) r with
    | none=>rw[hr] at h;cases h
    | some q=>
     rw[hr] at h;cases h;obtain ⟨g1,g2⟩:=FZ r (i+1) q hr;have h3:=I9 hg;refine ⟨by simp[g1],fun y hy=>?_⟩;rcases aau.1 hy with rfl|hy
     ·exact ⟨po.1 (by rw[h3.1];rfl),h3.2⟩
     exact g2 y hy
   cases h
def JF{c:Nat}{D:Dk}(o:bf c D){fr first:Nat}{W:Wl}{E:Dk}(h:eF D fr first=(some W,E,0)):ba W.old<=ba D.areas:=by
 unfold eF at h
 split at h
 ·cases h
 split at h
 ·cases h
 rename_i h1
 split at h
 ·cases h
 rename_i h2
 split at h
 ·cases h
 rename_i h3
 split at h
 ·cases h
 simp only[aai,aad] at h;obtain ⟨rfl,_⟩:=h
 have h3:(i4 D fr (cZ (a8 D)) (eM fr first (a8 D)) []).2.2=true:=by
  simp_all
 have h0:jZ D (eM fr first (a8 D)).next [] (eM fr first (a8 D)):=⟨rfl,rfl,rfl,by simp[eM],by simp[eM];omega,by simp[eM],by simp[eM],by simp[eM]⟩;have hS:=(jZ.scan o.ok _ _ _ _ h0 h3).old;rw[aaL] at hS
 grind [rN,Ay]
def C5(g:List Nat)(n:Nat)(D:Dk):Rk 0 D (gP D g n).1:=by
 unfold gP
 split
 ·exact (Rk.of D).free _
 exact (Rk.of D).sync _
theorem BZ(g:List Nat):∀ (l:List Nat) (D:Dk),Rk 0 D (wsettle g l D).1
 | [],D=>Rk.of D
 | n::r,D=>by
  unfold Go.En.wsettle
  split
  ·exact (C5 g n D).trans<|BZ g r _
  exact C5 g n D
def LA(D:Dk)(fr first:Nat):Rk 0 D (eF D fr first).2.1:=by
 grind [Rk.of,BZ,eF]
theorem wK(pl:Nat):∀ (l:List Int) (D:Dk),Rk 0 D (lgFree pl l D).1
 | [],D=>Rk.of D
 | a::r,D=>by
  rw[tD]
  split
  ·split
   ·exact (Rk.of D).free _
   exact ((Rk.of D).free _).trans<|wK pl r _
  exact wK pl r D
def I7{D:Dk}{S:df}{v:List Int}(hv:ba v<=7){p:bG×Nat×Nat}(h:lM D S v=some p):rv p.1/\p.2.1<=bY/\p.2.2<=bY:=by
 unfold lM at h
 split at h
 ·cases h;exact ⟨⟨aag _,aag _,hv,aag _⟩,aag _,aag _⟩
 split at h
 ·cases h
 split at h
 ·cases h
 cases h;refine ⟨⟨jy _ _,jy _ _,(II _).1,?_⟩,jy _ _,jy _ _⟩
 grind [jy,pY]
theorem Rn.opened{c q:Nat}{D:Dk}(o:bf c D)(hq:ba D.areas<=q){first:List Int}{L:Lg}(h:(gp D first).1=some L):Rn (c+2*q) q L (gp D first).2.1/\(gp D first).2.2=0:=by
 unfold gp at h ⊢
 split at h
 ·cases h
 rename_i hv;have hv:(eu first).isSome=true:=by grind
 rw[aaa (by rw[hv];simp)]
 split at h
 ·cases h
 rename_i hd;rw[aaa hd];cases hkh:lN (jz D 0) with
 | none=>rw[hkh] at h;cases h
 | some kh=>
  rw[hkh] at h;dsimp only at h ⊢;cases hhd:lM D (jz D 4) first with
  | none=>rw[hhd] at h;cases h
  | some p=>
   rw[hhd] at h;dsimp only at h ⊢;unfold uH at h ⊢
   split at h
   ·cases h
   rename_i hf;rw[aaa hf];have oF:bf (c+q) (lgFree p.2.1 (a8 D) D).1:=(bf.lgFree p.2.1 (a8 D) D c o).up (by rw[Ay];omega);have hFq:ba (lgFree p.2.1 (a8 D) D).1.areas<=q:=by have:=(wK p.2.1 (a8 D) D).len oF.ok;omega
   generalize (lgFree p.2.1 (a8 D) D).1=F at h oF hFq ⊢;unfold uG at h ⊢;have hco:=A1 (D:=F) (fr:=p.2.2) (first:=p.1.idx+1);have hdo:=oF.opened p.2.2 (p.1.idx+1);have hrk:=(LA F p.2.2 (p.1.idx+1)).len hdo.ok;cases hw:(eF F p.2.2 (p.1.idx+1)).1 with
   | none=>rw[hw] at h;cases h
   | some W=>
    rw[hw] at h;dsimp only at h ⊢
    have he:eF F p.2.2 (p.1.idx+1)=(some W,(eF F p.2.2 (p.1.idx+1)).2.1,0):=by
     rw[<-hw,<-hco.2 W hw]
    have hb:=dB.opened oF he;have hold:=JF oF he;cases hre:mL p.1 W with
    | none=>rw[hre] at h;cases h
    | some l=>
     rw[hre] at h;dsimp only at h ⊢;cases h;have hS:=I7 (wk hv) hhd;have hw70:=hb.1.recs
     have hrd:ba l<=70000000000+(c+q)/\∀ e∈l,kR e:=by
      grind [FZ,List.length_drop,mL]
     have hkb:kh.1<=aC /\ -1<=kh.2/\kh.2<=6:=by
      grind [lN,aM]
     refine ⟨⟨⟨hb.1.up qo,A6 o.ok 0,A6 o.ok 4,hkb.1,hkb.2,hS.1.idx,hS.1.term,hS.1.vot,hS.1.data,by have:=hS.2.1;dsimp only;omega,by grind [bY,eV],ax,hrd.2⟩,hdo.up qo,ax,qo⟩,rfl⟩
end
section
section deqs
variable {P:Program} {T:br} {w0:World} {ops:Array Oper} {Q:Exit->Act->World->Prop} {plan plan':List Nat} {z:Nat} {listed listed':Array Bool} {n:Nat} {l l':Sl} {K K0:PH} {hs A:List PH}
end deqs
def yf{r:Int}(h:0<=r/\r<=1073741824):bf 0 (gr r):=⟨PB ⟨h.1,qo⟩,by simp[gr],by simp[gr],by simp[gr,fD];omega⟩
def NE{w:World}{h:PH}{hs:List PH}{lb db:Nat}{L:Lg}{D:Dk}(s:aY w0 w K (h::hs))(hL:gw K lb db L D h):∃ dh,da K db D dh/\aY w0 w K (dh::hs):=by
 obtain ⟨m,rfl,d,hm⟩:=hL;obtain ⟨wb,hb',eb,aV,cV,aD,cD,aL,cL,wh,hh,eh,gl,dh,rfl,hW,hH,hE,hG,hD,xV,xD⟩:=hm;have s2:=s.split d;exact ⟨dh,hD,s2.dropHead.dropHead.dropHead.dropHead.dropHead⟩
def WL.lgd{P:Program}{ops:Array Oper}{Q:Exit->Act->World->Prop}{rest:List Oper}{n:Nat}{l:Sl}{h:PH}{hs:List PH}{lb db:Nat}{L:Lg}{D:Dk}(hL:gw K lb db L D h)
  (hk:∀ dh,da K db D dh->WL P w0 ops Q rest n l K (dh::hs)):WL P w0 ops Q rest n l K (h::hs):=fun a w ha hw=>let ⟨dh,h1,h2⟩:=NE hw hL;hk dh h1 a w ha h2
end
section
def ot(t:Nat)(a:List aI):Nat:=((a.getLast?).map aI.term).getD t
def Jt(t:Nat)(e:aI)(a:List aI):ot t (e::a)=ot e.term a:=by
 grind [ot]
theorem xy:∀ (a b:List aI) (i t:Nat),fW i t (a++b)=0↔fW i t a=0/\fW (i+ba a) (ot t a) b=0
 | [],b,i,t=>by simp[ot,fW]
 | e::a,b,i,t=>by
  rw[aaz,wS,wS]
  by_cases h:e.idx≠i+1\/e.term<t
  ·omega
  rw[aaa h,aaa h,xy a b e.idx e.term,Jt,aaj,show e.idx+ba a=i+(ba a+1) by omega]
def BN{s:bG}{l:List aI}{k:Nat}(h:k<=ba l):fZ s l (s.idx+k)=(ot s.term (l.take k),true):=by
 grind [fZ,ot]
def Jz{i t:Nat}{l:List aI}(h:fW i t l=0){k:Nat}(hk:k<=ba l):fW (i+k) (ot t (l.take k)) (l.drop k)=0:=by
 grind [List.take_append_drop,xy]
def Rl.wf(r:Rl):Prop:=fW r.sn.idx r.sn.term r.l=0
theorem Rl.wf.idx{r:Rl}(h:r.wf){j:Nat}{e:aI}(he:r.l[j]?=some e):e.idx=r.sn.idx+j+1:=DK r.l _ _ h j e he
end
section
open Go.En Go.ChangeShapes Go.WideShapes Go.ChangeAt Go.RowKit
section opens
variable {H:Type} {enc:TypeId×Value->H} {W:World}
theorem Fp:∀ {css:List (List Value)} {xs:List Int},j4 (RI .i64) css xs->css.flatten=iv xs/\∀ d∈xs,-9223372036854775808<=d/\d<=9223372036854775807
 | [],[],_=>⟨rfl,ST⟩
 | c::cs,x::xs,⟨hc,g⟩=>by
  obtain ⟨rfl,hw⟩:=hc;obtain ⟨h1,h2⟩:=Fp g;have hx : -9223372036854775808<=x/\x<=9223372036854775807:=by simp_all [Lit.wf,IntKind.min,IntKind.signed,IntKind.bits]
  refine ⟨by rw[abD,h1];simp[iv],?_⟩
  simp_all
 | [],_::_,g=>g.elim
 | _::_,[],g=>g.elim
theorem BO:∀ xs:List Int,iF (fun _=>1) xs=ba xs
 | []=>rfl
 | x::r=>by rw[iF,BO r,aaj];omega
set_option maxRecDepth 100000 in
theorem Nz{base:Nat}{v:Value}{d:DataW H}{ps:List MemPlace}(hval:Value.okWide Tryz.prog W .any base 23 v)(h:DataW.Trod enc Tryz.prog W 0 (fun _=>true) true 23 v d ps)(hB:Rows.uptoBulk d<=1048576):
  ∃ ao cap,∃ ds:List Int,v=.slice ao (ba ds) cap/\aH (hp W) ao (ba ds) cap 1 (iv ds)/\(∀ x∈ds,-9223372036854775808<=x/\x<=9223372036854775807)/\ba ds<1099511627776:=by
 obtain ⟨a0,len,cap0,rfl⟩:=okWide_slice Tryz.underlying23 hval;obtain ⟨xs,hR,hm⟩:=(gx.slice Tryz.underlying23 qk (gx.int (enc:=enc) (W:=W) Tryz.underlying3 qk)).arg h;obtain ⟨ao,cap,css,e,x,h2⟩:=hR;obtain ⟨g1,g2⟩:=Fp h2;simp[Value.cells] at e;obtain ⟨rfl,rfl,rfl⟩:=e
 grind [BO]
end opens
end
section
def iP(sts:List bg):Nat:=(sts.map fun s=>ba s.arcs+1).sum
def KW(l:List bg)(s:bg):iP (l++[s])=iP l+(ba s.arcs+1):=by simp[iP]
def Oi(x:eJ)(s:bg):iP (iq x s).1.sts<=iP x.sts+(ba s.arcs+1):=by
 unfold iq
 split
 all_goals simp[KW]
theorem DY{k:Nat}{low:Int}{rec:eJ->List cX->eJ×Int}(ih:∀ x l,iK k l->l≠[]->iP (rec x l).1.sts<=iP x.sts+2*dO l+1):∀ (m:Nat) (x:eJ) (l:List cX) (acc:List dv),iK (k+1) l->(∀ r∈l,r.rs≠[]) ->
  iP (fC (rec) low m x l acc).1.sts+ba (fC (rec) low m x l acc).2<=iP x.sts+ba acc+2*dO l
 | 0,x,l,acc,_,_=>by simp[fC]
 | _+1,x,[],acc,_,_=>by simp[fC]
 | m+1,x,r::l,acc,h,hne=>by
  have h1:=rP (l:=l) (hne r ST);have h2:=h.span (lb:=r.rs.headD 0);have h3:=t7 h1.1;have h4:=ih x _ h2.1 h1.1;obtain ⟨mm,e1,_,_⟩:=mh (r.rs.headD 0) (r::l)
  have h5:=DY ih (low:=low) m (rec x (dq (r.rs.headD 0) (r::l)).1).1 (dq (r.rs.headD 0) (r::l)).2 (acc++[⟨((r.rs.headD 0:Nat):Int),dp (dq (r.rs.headD 0) (r::l)).1-low,(rec x (dq (r.rs.headD 0) (r::l)).1).2⟩]) h2.2
   (fun y hy=>hne y (by rw[e1];exact ab9 _ hy))
  refine aat h5 ?_
  grind
theorem BS:∀ (k:Nat) (x:eJ) (l:List cX),iK k l->l≠[]->iP (dV (k+1) x l).1.sts<=iP x.sts+2*dO l+1
 | k,x,l,h,hl=>by
  obtain ⟨h1,h2,h3,_⟩:=ug h hl;unfold dV;have ha:=Oi (fC (dV k) (dp l) (ba (dx l)) x (dx l) []).1 ⟨gc l,gC l,(fC (dV k) (dp l) (ba (dx l)) x (dx l) []).2⟩;cases k with
  | zero=>
   have hb:dx l=[]:=by
    cases hb:dx l with
    | nil=>rfl
    | cons r m=>
     have:=h1.dep r (by rw[hb];simp);exact absurd (aaX qo) (h2 r (by rw[hb];simp))
   rw[hb] at ha ⊢;simp only[fC,aaG] at ha ⊢;omega
  | succ k=>
   have h5:=DY (low:=dp l) (fun x l h hl=>BS k x l h hl) (ba (dx l)) x (dx l) [] h1 h2;simp only[aaG] at h5;dsimp only at ha;omega
def Mp{l:List az}(h:d7 l):iP (dl l).2<=48*ba l+1:=by
 unfold dl
 by_cases e:l=[]
 ·rw[aab e];simp[iP]
 rw[aaa e];have h1:iP (dV 25 bld0 (l.map fV)).1.sts<=iP bld0.sts+2*dO (l.map fV)+1:=BS 24 bld0 (l.map fV) h.ok (by simpa using e);have h2:=h.tot;have h3:iP bld0.sts=0:=rfl
 grind
def iD(i:Nat):Int->List dv->List UInt8
 | _,[]=>[]
 | lb,a::r=>aU (a.lb-lb).toNat++(aU a.out.toNat++(aU ((i:Int)-a.to).toNat++iD i a.lb r))
def mU(i:Nat)(s:bg):List UInt8:=aU (2*ba s.arcs+(if s.fin=true then 1 else 0))++((if s.fin=true then aU s.out.toNat else [])++iD i 0 s.arcs)
def ke:Nat->List bg->List UInt8
 | _,[]=>[]
 | i,s::r=>mU i s++ke (i+1) r
def i5(base:Int)(sts:List bg):List UInt8:=aU base.toNat++(aU (ba sts)++ke 0 sts)
theorem tJ(n:Nat):1<=ba (aU n):=by
 rw[aU]
 split <;> simp
theorem B4(i:Nat):∀ (l:List dv) (lb:Int),3*ba l<=ba (iD i lb l)
 | [],_=>aag _
 | a::r,lb=>by
  have:=B4 i r a.lb;have h1:=tJ (a.lb-lb).toNat;have h2:=tJ a.out.toNat;have h3:=tJ ((i:Int)-a.to).toNat;simp only[iD,aaf,aaj];omega
theorem Db{i:Nat}(hi:i<=1000000):∀ (l:List dv) (lb:Int),0<=lb->(∀ a∈l,nV i a)->ba (iD i lb l)<=30*ba l
 | [],_,_,_=>aac _
 | a::r,lb,h0,h=>by
  obtain ⟨⟨t1,t2⟩,⟨o1,o2⟩,l1,l2,l3,l4⟩:=h a aaT;have ih:=Db hi r a.lb qo fun x hx=>h x (aaQ _ hx);have h1:=eY (n:=(a.lb-lb).toNat) qo;have h2:=eY (n:=a.out.toNat) qo;have h3:=eY (n:=((i:Int)-a.to).toNat) qo;simp only[iD,aaf,aaj];omega
theorem xm:∀ (l:List bg) (i:Nat),i+ba l<=1000000->(∀ (j:Nat) s,l[j]?=some s->p8 (i+j) s/\ba s.arcs<=1000000)->ba (ke i l)<=30*iP l
 | [],_,_,_=>aac _
 | s::r,i,hl,h=>by
  obtain ⟨f,f2⟩:=h 0 s rfl
  have ih:=xm r (i+1) (by simp only[aaj] at hl;omega) fun j x hj=>by
   have:=h (j+1) x hj
   grind
  have h1:=Db (i:=i) qo s.arcs 0 (abo _) f.arc;have h2:ba (aU (2*ba s.arcs+(if s.fin=true then 1 else 0)))<=10:=eY (by split <;> omega)
  have h3:ba (if s.fin=true then aU s.out.toNat else [])<=10:=by
   have:=f.out
   grind [eY]
  grind [ke,mU,iP]
end
section
structure lx (r:d9):Prop where
 seq:r.seq<=18446744073709551615
 zero:r.seq=0->r=fO
 code:0<=r.ans.code/\r.ans.code<=65535
 ses:r.ans.ses=0
 had:0<=r.ans.had/\r.ans.had<=1048576
def OK:lx fO:=⟨SU,fun _=>rfl,SU,rfl,SU⟩
structure lY (n:Nat) (W:List az) (rows:List d9):Prop where
 words:d7 W
 few:ba W<=n
 rowsN:ba rows<=n
 row:∀ r∈rows,lx r
def lY.zero:lY 0 [] []:=⟨⟨ST,ST,ST⟩,ST,ST,ST⟩
def Gc{W:List az}(h:d7 W)(s:List UInt8):0<=(bZ W s).getD 0/\(bZ W s).getD 0<=1048576:=by
 cases hF:bZ W s with
 | none=>decide
 | some w=>
  have:=h.one _ ((lJ h.rise s w).1 hF)
  grind
def Nd{W:List az}(h:d7 W)(s:List UInt8)(w:Int):ba (er W s w).1<=ba W+1/\(0<=(er W s w).2.1/\(er W s w).2.1<=1048576)/\(0<=(er W s w).2.2/\(er W s w).2.2<=65535):=by
 have hb:=Gc h s;unfold er
 split
 ·simp
 split
 ·simp
 split
 ·simp
 grind [sC,fh]
def Nq{W:List az}(h:d7 W)(s:List UInt8):ba (eG W s).1<=ba W+1/\(0<=(eG W s).2.1/\(eG W s).2.1<=1048576)/\(0<=(eG W s).2.2/\(eG W s).2.2<=65535):=by
 have hb:=Gc h s
 grind [eG,fh]
def CZ{n:Nat}{rows:List d9}(h1:ba rows<=n)(h2:∀ r∈rows,lx r)(i:Nat){x:d9}(hx:lx x):ba (rows.set i x)<=n+1/\∀ r∈rows.set i x,lx r:=
 ⟨by rw[aay];omega,fun r hr=>by
  grind⟩
def PA{n:Nat}{W:List az}{rows:List d9}(h:lY n W rows)(c:bM)(hq:c.seq<=18446744073709551615):lY (n+1) (dU W rows c).1 (dU W rows c).2.1:=by
 have up:lY (n+1) W rows:=⟨h.words,by have:=h.few;omega,by have:=h.rowsN;omega,h.row⟩;have hf:=h.few;have hr:=h.rowsN;unfold dU
 split
 ·split
  ·exact up
  refine ⟨h.words,ax,by dsimp only;simp;omega,fun r hr=>?_⟩;rcases aal.1 hr with g|g
  ·exact h.row r g
  simp at g;rw[g];exact OK
 split
 ·exact up
 split
 ·exact up
 split
 ·exact up
 rename_i h3 h4;have hk:=(Gw (Classical.not_not.1 h3) (by simpa using h4)).2.2;have mk:∀ (code had:Int),(0<=had/\had<=1048576)->(0<=code/\code<=65535)->lx ⟨c.seq,⟨code,0,had⟩⟩:=fun code had h1 h2=>⟨hq,fun e=>by dsimp only at e;omega,h2,rfl,h1⟩
 split
 ·obtain ⟨g1,g2,g3⟩:=Nd h.words c.word c.wt;obtain ⟨k1,k2⟩:=CZ hr h.row (c.ses-1) (mk _ _ g2 g3);exact ⟨A7 h.words _ _,ax,k1,k2⟩
 obtain ⟨g1,g2,g3⟩:=Nq h.words c.word;obtain ⟨k1,k2⟩:=CZ hr h.row (c.ses-1) (mk _ _ g2 g3);exact ⟨Bn h.words _,ax,k1,k2⟩
def ff:List az×List d9->List bM->List az×List d9
 | x,[]=>x
 | x,c::r=>ff ((dU x.1 x.2 c).1,(dU x.1 x.2 c).2.1) r
theorem ye:∀ (a b:List bM) (x:List az×List d9),ff x (a++b)=ff (ff x a) b
 | [],b,x=>rfl
 | c::a,b,x=>ye a b _
theorem yJ:∀ (l:List bM) {n:Nat} {x:List az×List d9},lY n x.1 x.2->(∀ c∈l,c.seq<=18446744073709551615)->lY (n+ba l) (ff x l).1 (ff x l).2
 | [],n,x,h,_=>h
 | c::l,n,x,h,hq=>by
  have:=yJ l (x:=((dU x.1 x.2 c).1,(dU x.1 x.2 c).2.1)) (PA h c (hq c aaT)) fun d hd=>hq d (aaQ _ hd);rw[aaj,show n+(ba l+1)=n+1+ba l by omega];exact this
def qT(r:d9):List UInt8:=aU r.seq++(aU r.ans.code.toNat++(aU r.ans.ses++aU r.ans.had.toNat))
def lq:List d9->List UInt8
 | []=>[]
 | r::l=>qT r++lq l
def fw(W:List az)(rows:List d9):List UInt8:=dg (i5 (dl W).1 (dl W).2)++(aU (ba rows)++lq rows)
def Lt{r:d9}(h:lx r):ba (qT r)<=40:=by
 have h1:=h.seq;have h2:=h.code;have h3:=h.ses;have h4:=h.had
 grind [eY,qT]
theorem BX:∀ {l:List d9},(∀ r∈l,lx r)->ba (lq l)<=40*ba l
 | [],_=>aac _
 | r::l,h=>by
  have h1:=Lt (h r aaT);have h2:=BX fun x hx=>h x (aaQ _ hx);simp only[lq,aaf,aaj];omega
end
section
theorem C0:∀ {css:List (List Value)} {l:List d9},eO kX css l->∀ u∈css.flatten,u.oneCell'=true
 | [],[],_,u,hu=>by simp at hu
 | c::css,x::l,h,u,hu=>by
  rw[abD,aal] at hu;rcases hu with hu|hu
  ·obtain rfl:=h.1;simp[f0,dI] at hu;rcases hu with rfl|rfl|rfl|rfl <;> rfl
  exact C0 h.2 u hu
def DU{hv:PH}{hs:List PH}(ao:Option Addr)(n c:Nat)(l:List d9)(hm:In K hs hv)(x:bF 4 kX hv ao n c l)(hl:n<=1000000):aj w0 113 [.slice ao n c] K hs
  (fun v K' hs'=>K'=K/\∃ h' ao' c',hs'=h'::hs/\v=.slice ao' n c'/\bN 4 110 kX h' ao' n c' l):=by
 cases ao with
 | none=>
  obtain rfl:n=0:=by
   rcases abq n with h|h
   ·exact h
   obtain ⟨a,ha⟩:=x.addr h SU;cases ha
  have hl0:l=[]:=aaX x.len.symm;subst hl0;refine bH Tryz.func113 ?_;exact eE 1 True I ST fun b4 h4=>fin 0 I (th (ah h4 I (fun e2=>ac9 (fin 1 I (adb (rT (WQ.em (ay I I ⟨I,em,none,0,I,I,bN.nil _ _⟩)))))) (fun e2=>absurd trivial e2)))
 | some a=>
  obtain rfl:=x.len;obtain ⟨css,hn,hS,hal,hcl⟩:=x;refine bH Tryz.func113 ?_;refine eE 1 False I ST fun b4 h4=>fin 0 I (th (ah h4 I (fun e2=>e2.elim) (fun e2=>sk (ac6 (lit 0 #[] I SU qk fun b5=>app 1 0 I I (aZ.ofPt (c:=#[]) (n:=0) ST (by simp[maxLen])) (In.cons hm) hS I SU (C0 hal) (by show (0+ba l)*32<=_;omega) (by simp[maxLen];omega) fun ao7 c7 g7 o7=>au ?_)))));have e:0+ba l=ba l:=aaD _;rw[e] at o7;exact ay I (by rw[e];rfl) ⟨rfl,g7,ao7,c7,rfl,rfl,css,rfl,.inl (by simpa using o7),hal,hcl⟩
def OL{g:PH}{hs:List PH}(b:Nat)(l:List d9)(ao:Option Addr)(cap ty:Nat)(hin:In K hs (pt b #[.slice ao (ba l) cap] ty))(hin2:In K hs g)(o:bN 4 110 kX g ao (ba l) cap l)(hl:ba l<=4096):aj w0 43 [SX b] K hs
  (fun v K' hs'=>K'=K/\∃ g ao c,hs'=g::hs/\v=.slice ao (ba l) c/\bN 4 110 kX g ao (ba l) c l):=by
 refine bH Tryz.func43 ?_;refine ld 3 I hin (bR.pt I) (cl 0 I (DU ao (ba l) cap l hin2 o.slS qo) ?_);rintro v7 K7 hs7 ⟨rfl,h7,ao7,c7,rfl,rfl,o7⟩;refine au ?_;exact ay I I ⟨I,h7,ao7,c7,I,I,o7⟩
def QH(w:World):(Op.equalIn 10000 110 (.agg (f0 fO).toArray) (.agg #[.int .u64 0,.int .i64 0,.int .u64 0,.int .i64 0])).run Tryz.prog w=.ok true w:=by
 kernel_rfl
def O0{w0:World}{K hv:PH}{hs:List PH}(ao:Option Addr)(n c:Nat)(l:List d9)(hm:In K hs hv)(x:bF 4 kX hv ao n c l)(hl:n<=4096)(hok:∀ r∈l,lx r):aj w0 88 [.slice ao n c] K hs
  (fun v K' hs'=>K'=K/\∃ b m,hs'=m++hs/\v=.tuple #[SX b,.bool true]/\nc b l m):=by
 refine bH Tryz.func88 ?_;refine af 2 I fun b8 h8=>fin 0 I (th (ah h8 I (fun e2=>absurd e2 qo) (fun e2=>sk (ac6 (cl 1 I (DU ao n c l hm x qo) ?_)))));rintro v10 K10 hs10 ⟨rfl,h10,ao10,c10,rfl,rfl,o10⟩;obtain rfl:=x.len;refine au ?_;refine loop (σ:=Nat) (fun i=>[(0,.slice ao10 (ba l) c10),(11,.slice ao10 (ba l) c10),(12,.int .i64 (ba l)),(13,.int .i64 (i:Nat))]) (fun _=>K10) (fun _=>h10::hs) (fun i=>i<=ba l) (fun i=>ba l-i) 0 (aag _) ⟨I,I,I,I,trivial⟩ I I ?_;intro i hi;refine ac9 (aX 0 I (fun e4=>?_) (fun e4=>?_))
 ·refine au ?_;have hil:i<ba l:=qo
  obtain ⟨r,hr⟩:∃ r,l[i]?=some r:=⟨_,aae hil⟩;have hR:=hok r (aap hr);have xs:=o10.slS;obtain ⟨ad,rfl⟩:=xs.addr qo SU;obtain ⟨vs,xv⟩:=xs.isS;obtain ⟨cs,hc,hcl,hcell⟩:=xs.cells hr;obtain rfl:=hc;refine au ?_;refine dz 0 i I I xv hil SU fun a15 ha=>?_;cases ha;refine eD 0 (f0 r) I qk (.inr ⟨0,I⟩) hcell (al 0 (.agg #[.int .u64 0,.int .i64 0,.int .u64 0,.int .i64 0]) I qk fun b5=>?_);refine bJ 0 0 I I qk I I ?_;refine fin 0 I (ac6 (bE 1 0 I I I (af 0 I fun b19 h19=>?_)))
  refine' gu (q:=False) 1 4 24 [19,20] h19 I I I I I I I (fun e19=>?x6) (fun b24 h24=>?_)
  case x6=>
   have hz:r=fO:=hR.zero qo;subst hz;exact dy 0 0 I I qk (bd 0 (.agg #[.int .u64 0,.int .i64 0,.int .u64 0,.int .i64 0]) I (fun w=>by kernel_rfl) (H2 0 I qk QH (fin 1 I (dk ST I I I))))
  exact fin 0 I<|th (ah h24 I (fun e8=>absurd e8.2 id) (fun e8=>sk<|ac7 (WL.drop<|ar 0 I (ac (x:=((i+1:Nat):Int)) qo) (fin 1 I<|bc (x:=i) (i+1) sb I I hil qo))))
 refine au ?_;refine bd 1 (.agg #[.slice ao10 (ba l) c10]) I (fun w=>by kernel_rfl) (bx 0 I fun b29=>au ?_);exact bL I I I ⟨I,b29,[_,h10],I,I,ao10,c10,h10,I,o10⟩
end
section
theorem FI:∀ (l:List bg) (m:Nat),(∀ s∈l,ba s.arcs<=m)->iP l<=ba l*(m+1)
 | [],m,_=>by simp[iP]
 | s::l,m,h=>by
  have h1:=FI l m fun x hx=>h x (aaQ _ hx);have h2:=h s aaT;simp only[iP,aao,List.sum_cons,aaj,Nat.add_mul,Nat.one_mul] at h1 ⊢;omega
def iL.packLen{base:Int}{ss:List bg}(h:iL base ss):ba (i5 base ss)<=20000000000:=by
 have hl:=h.len;have hb:=h.bas
 have h1:=FI ss 4096 fun s hs=>by
  obtain ⟨i,hi⟩:=aa1.1 hs;exact h.arcsL hi
 have h2:=xm ss 0 qo fun j s hs=>⟨by rw[aaD];exact h.fm j s hs,by have:=h.arcsL hs;omega⟩;have h3:=eY (n:=base.toNat) qo;have h4:=eY (n:=ba ss) qo
 grind [i5]
structure oY (base:Int) (ss:List bg):Prop where
 len:ba ss<=98305
 bas:0<=base/\base<=1048576
 fm:jL ss
 arcs:∀ (i:Nat) s,ss[i]?=some s->ba s.arcs<=4096
 pl:ba (i5 base ss)<=20000000000
 ok:iL base ss\/(base=0/\ss=[])
def iL.pk{base:Int}{ss:List bg}(h:iL base ss):oY base ss:=
 ⟨h.len,by have:=h.bas;omega,h.fm,fun i s hs=>h.arcsL hs,h.packLen,.inl h⟩
def oY.nil:oY 0 []:=⟨ST,SU,fun i s hs=>by simp at hs,fun i s hs=>by simp at hs,by
 have h0:=eY (n:=0) qo
 have h1:ba (i5 0 [])=ba (aU 0)+(ba (aU 0)+0):=by
  unfold i5;rw[aaf,aaf]
  rfl
 omega,.inr ⟨rfl,rfl⟩⟩
def FT{hs:List PH}(ss:List bg)(base:Int)(hM0:oY base ss)(aoS:Option Addr)(cS:Nat)(hS:bF 3 (gF K) K aoS (ba ss) cS ss)(hG:d8 K):
  aj w0 110 [.agg #[.int .i64 base,.slice aoS (ba ss) cS]] K hs (fun v K' hs'=>K'=K/\hs'=hs/\v=.bool true):=by
 rcases hM0.ok with h|⟨rfl,rfl⟩
 ·exact FQ ss base h aoS cS hS hG
 exact FR aoS cS
def oK{h:PH}{R:List PH}(ao:Option Addr)(c1:Nat)(bs:List UInt8)(n:Nat)(o:aZ h ao (ba bs) c1 5 1 (bv bs))(hn:n<9223372036854775808)(hb:ba bs<1099511627776):
  aj w0 111 [.slice ao (ba bs) c1,.int .i64 (n:Nat)] K (h::R)
   (fun v K' hs'=>∃ h',hs'=h'::R/\K'=K/\∃ ao' c',v=.slice ao' (ba (bs++aU n)) c'/\aZ h' ao' (ba (bs++aU n)) c' 5 1 (bv (bs++aU n))):=by
 refine bH Tryz.func111 ?_;refine ar 2 I (cJ (x:=((n:Nat):Int)) qo) (cl 0 I (kD ao c1 bs n o qo hb) ?_);rintro v8 K8 hs8 ⟨h',rfl,rfl,ao',c',rfl,o'⟩;refine au ?_;exact ay I I ⟨h',I,I,ao',c',I,o'⟩
structure zW where
 i:Nat
 bs:List UInt8
 ao:Option Addr
 c:Nat
 h:PH
structure vV where
 j:Nat
 lb:Nat
 bs:List UInt8
 ao:Option Addr
 c:Nat
 h:PH
def Qn{hs:List PH}(ss:List bg)(base:Int)(hM0:oY base ss)(aoS:Option Addr)(cS:Nat)(hS:bF 3 (gF K) K aoS (ba ss) cS ss)(hG:d8 K):
  aj w0 40 [.agg #[.int .i64 base,.slice aoS (ba ss) cS]] K hs (fun v K' hs'=>K'=K/\∃ h',hs'=h'::hs/\∃ ao' c',v=.tuple #[.slice ao' (ba (i5 base ss)) c',.int .i64 0]/\aZ h' ao' (ba (i5 base ss)) c' 5 1 (bv (i5 base ss))):=by
 have hle:=hM0.len;have hb:=hM0.bas;have hB:=hM0.pl;obtain ⟨bn,rfl⟩:∃ bn:Nat,base=((bn:Nat):Int):=⟨base.toNat,qo⟩;refine dj Tryz.func40 ?_;refine ac9 (bx 0 I fun b1=>WL.hs (pt b1 #[.int .i64 (bn:Nat),.slice aoS (ba ss) cS] 99::hs) I (fin 2 I (ac5 (dy 0 0 I I qk (cl 0 I (FT ss _ hM0 aoS cS hS hG) ?_)))));rintro v12 K12 hs12 ⟨rfl,rfl,rfl⟩;refine eE 0 _ I (jc (Iff.of_eq I)) fun b13 h13=>fin 0 I (th (ah h13 I (fun e1=>absurd e1 ST) (fun e1=>sk (th (sq (bI [pt b1 #[.int .i64 (bn:Nat),.slice aoS (ba ss) cS] 99] 8 [0,2,6,8,10,5,13,14] ST qk qk (dF qk 1 0 I I I (dF qk 1 0 I I I (aG qk 1 I (WL.em (cl 0 I (oK none 0 [] bn (aZ.nil _ _) qo ST) ?_)))))))))));rintro v16 K16 hs16 ⟨h16,rfl,rfl,ao16,c16,rfl,o16⟩;refine bp ST I (aG qk 0 I (cl 0 I (oK ao16 c16 _ (ba ss) o16 qo (by grind [eY])) ?_))
 rintro v20 K20 hs20 ⟨h20,rfl,rfl,ao20,c20,rfl,o20⟩;refine bp ST I (be qk 1 I (ac5 (bE 1 1 I I I (fin 2 I (th (bk ?_))))))
 refine loop (σ:=zW) (fun x=>[(4,.slice x.ao (ba x.bs) x.c),(22,.slice aoS (ba ss) cS),(23,.int .i64 (ba ss)),(24,.int .i64 x.i)]) (fun _=>K20) (fun x=>x.h::pt b1 #[.int .i64 (bn:Nat),.slice aoS (ba ss) cS] 99::hs)
  (fun x=>x.i<=ba ss/\x.bs++ke x.i (ss.drop x.i)=i5 ((bn:Nat):Int) ss/\aZ x.h x.ao (ba x.bs) x.c 5 1 (bv x.bs)) (fun x=>ba ss-x.i) ⟨0,_,ao20,c20,h20⟩ ⟨aag _,by simp[i5,aax],o20⟩ ⟨rfl,rfl,rfl,rfl,trivial⟩ rfl rfl ?_
 rintro ⟨i,bs,ao,c,h⟩ ⟨hi,hbs,o⟩;dsimp only at *;refine ac9 (af 0 I fun b25 h25=>au ?_);refine ah h25 I (fun e3=>?_) (fun e3=>?_)
 ·have hil:i<ba ss:=qo
  obtain ⟨s,hs1⟩:∃ s,ss[i]?=some s:=⟨_,aae hil⟩;obtain ⟨ad,rfl⟩:=hS.addr qo SU;obtain ⟨vs,xv⟩:=hS.isS;obtain ⟨cs,⟨aa,na,ca,rfl,xa⟩,hcl,hcell⟩:=hS.cells hs1;obtain rfl:=xa.len;have hfm:=hM0.fm i s hs1;have hal:=hM0.arcs i s hs1;have hso:=hfm.out
  have kZ:ss.drop i=s::ss.drop (i+1):=by
   grind [List.drop_eq_getElem_cons]
  rw[kZ,ke] at hbs;have hbl:=congrArg List.length hbs;simp only[aaf] at hbl;obtain ⟨so,hso2⟩:∃ so:Nat,s.out=((so:Nat):Int):=⟨s.out.toNat,qo⟩;refine au ?_;refine dz 1 i I I xv hil SU fun a27 ha=>?_;cases ha;refine eD 0 (dc s aa (ba s.arcs) ca) I qk (.inl I) hcell (al 0 (.agg #[.bool false,.int .i64 0,.slice none 0 0]) I qk fun b6=>?_);refine bJ 1 0 I I qk I I ?_;refine fin 0 I (ac6 (bE 1 0 I I I (ar 1 I (v':=.int .i64 (2*ba s.arcs:Nat)) (by rw[ac qo];rfl) ?_)))
  refine fin 1 I (th (jn (σ:=vV) (fun x=>[(4,.slice x.ao (ba x.bs) x.c),(5,.int .i64 (i:Nat)),(6,SX b6),(22,.slice (some ad) (ba ss) cS),(23,.int .i64 (ba ss)),(24,.int .i64 (i:Nat))]) (fun x=>pt b6 (dc s aa (ba s.arcs) ca).toArray 206::x.h::pt b1 #[.int .i64 (bn:Nat),.slice (some ad) (ba ss) cS] 99::hs)
   (fun x=>x.bs++(iD i 0 s.arcs++ke (i+1) (ss.drop (i+1)))=i5 ((bn:Nat):Int) ss/\aZ x.h x.ao (ba x.bs) x.c 5 1 (bv x.bs)) ?_ ?_))
  ·refine ac9 (bE 1 0 I I I (nP fun b34 h34=>fin 0 I<|th (ah h34 I (fun e4=>?_) (fun e4=>?_))))
   ·have hp:mU i s=aU (2*ba s.arcs+1)++(aU so++iD i 0 s.arcs):=by
     simp_all [mU]
    rw[hp] at hbs hbl;simp only[aaf] at hbl;refine bI [pt b6 (dc s aa (ba s.arcs) ca).toArray 206] 8 [0,2,4,8,10,7,13,14] ST qk qk (bQ qk 2 I (v':=.int .i64 (2*ba s.arcs+1:Nat)) (by rw[ac qo];rfl) (dF qk 1 0 rfl rfl (v:=.int .i64 (so:Nat)) (by rw[<-hso2];rfl) (au ?_)));refine cl 0 I (Ct.at 1 I (oK ao c bs (2*ba s.arcs+1) o qo qo)) ?_;rintro v38 K38 hs38 ⟨h38,rfl,rfl,ao38,c38,rfl,o38⟩;refine bp ST I (aG qk 0 I (cl 0 I (Ct.at 1 I (oK ao38 c38 _ so o38 qo (by rw[aaf];omega))) ?_));rintro v41 K41 hs41 ⟨h41,rfl,rfl,ao41,c41,rfl,o41⟩;exact bp ST I (be qk 1 I (jx (⟨0,0,_,ao41,c41,h41⟩) ⟨by simp_all,o41⟩ ⟨I,I,I,I,I,I,trivial⟩ I I))
   have hp:mU i s=aU (2*ba s.arcs)++iD i 0 s.arcs:=by
    simp_all [mU]
   rw[hp] at hbs hbl;simp only[aaf] at hbl;refine rg (cl 2 I (Ct.at 1 I (oK ao c bs (2*ba s.arcs) o qo qo)) ?_);rintro v44 K44 hs44 ⟨h44,rfl,rfl,ao44,c44,rfl,o44⟩;exact fin 1 I (jx (⟨0,0,_,ao44,c44,h44⟩) ⟨by simp_all,o44⟩ ⟨I,I,I,I,I,I,trivial⟩ I I)
  rintro ⟨_,_,bs1,ao1,c1,h1⟩ ⟨hbs1,o1⟩;dsimp only at *;refine ac9 (fin 1 I (ac6 (bE 1 0 I I I (fin 2 I (th (bk (WC.drop ?_)))))))
  refine loop (σ:=vV) (fun x=>[(4,.slice x.ao (ba x.bs) x.c),(5,.int .i64 (i:Nat)),(8,.int .i32 x.lb),(22,.slice (some ad) (ba ss) cS),(23,.int .i64 (ba ss)),(24,.int .i64 (i:Nat)),(46,.slice aa (ba s.arcs) ca),(47,.int .i64 (ba s.arcs)),(48,.int .i64 x.j)]) (fun _=>K20) (fun x=>x.h::pt b1 #[.int .i64 (bn:Nat),.slice (some ad) (ba ss) cS] 99::hs)
   (fun x=>x.j<=ba s.arcs/\x.bs++(iD i ((x.lb:Nat):Int) (s.arcs.drop x.j)++ke (i+1) (ss.drop (i+1)))=i5 ((bn:Nat):Int) ss/\aZ x.h x.ao (ba x.bs) x.c 5 1 (bv x.bs)/\(∀ a∈s.arcs.drop x.j,((x.lb:Nat):Int)<a.lb)) (fun x=>ba s.arcs-x.j) ⟨0,0,bs1,ao1,c1,h1⟩
   ⟨aag _,hbs1,o1,fun a ha=>by have:=(hfm.arc a ha).lb;dsimp only;omega⟩ sb rfl rfl ?_
  rintro ⟨j,lb,bs2,ao2,c2,h2⟩ ⟨hj,hbs2,o2,hlt⟩;dsimp only at *;refine ac9 (aX 0 I (fun e6=>?_) (fun e6=>?_))
  ·refine au ?_;have hjl:j<ba s.arcs:=qo
   obtain ⟨a,ha⟩:=bC (s.arcs[j]);have hA:=hfm.arc a (by rw[ha];simp);have hdj:s.arcs.drop j=a::s.arcs.drop (j+1):=by rw[ha];simp
   have hAt:=hA.to;have hAo:=hA.out;have hAl:=hA.lb;have hsc:=hAl.2.2.1;rw[hdj] at hlt hbs2;have hlt1:=hlt a aaT;obtain ⟨ad2,rfl⟩:=xa.addr qo SU;obtain ⟨va,xva⟩:=xa.isS;obtain ⟨csa,hc,hcla,hcella⟩:=xa.cells (i:=j) (x:=a) (by rw[aae hjl,ha]);obtain rfl:=hc;obtain ⟨la,hal2⟩:∃ la:Nat,a.lb=((la:Nat):Int):=⟨a.lb.toNat,qo⟩;obtain ⟨aw,haw⟩:∃ aw:Nat,a.out=((aw:Nat):Int):=⟨a.out.toNat,qo⟩;obtain ⟨at',hat⟩:∃ at':Nat,a.to=((at':Nat):Int):=⟨a.to.toNat,qo⟩
   have hpa:iD i ((lb:Nat):Int) (a::s.arcs.drop (j+1))=aU (la-lb)++(aU aw++(aU (i-at')++iD i ((la:Nat):Int) (s.arcs.drop (j+1)))):=by
    grind [iD]
   rw[hpa] at hbs2;have hbl2:=congrArg List.length hbs2;simp only[aaf] at hbl2;have harc:fy a=[.int .i32 (la:Nat),.int .i64 (aw:Nat),.int .i64 (at':Nat)]:=by rw[fy,hal2,haw,hat]
   rw[harc] at hcella;refine au ?_;refine dz 0 j I I xva hjl SU fun a50 ha=>?_;cases ha;refine eD 0 [.int .i32 (la:Nat),.int .i64 (aw:Nat),.int .i64 (at':Nat)] I qk (.inl I) hcella (al 0 (.agg #[.int .i32 0,.int .i64 0,.int .i64 0]) I qk fun b10=>?_);refine bJ 0 0 I I qk I I ?_;refine fin 0 I (th (sq (bI [pt b10 #[.int .i32 (la:Nat),.int .i64 (aw:Nat),.int .i64 (at':Nat)] 208] 16 [0,2,4,6,8,10,14,16,20,22,24,26,13,19,29,30] ST qk qk (au ?_))));refine bQ qk 1 I (v':=.int .i32 (la-lb:Nat)) (by grind [m7]) (bQ qk 0 I (ac (x:=((la-lb:Nat):Int)) qo) (au ?_));refine bQ qk 0 I (v':=.int .i64 (i-at':Nat)) (by grind [ac]) (au ?_);refine cl 0 I (Ct.at 1 I (oK ao2 c2 bs2 (la-lb) o2 qo qo)) ?_;rintro v58 K58 hs58 ⟨h58,rfl,rfl,ao58,c58,rfl,o58⟩
   refine bp ST I (aG qk 0 I (cl 0 I (Ct.at 1 I (oK ao58 c58 _ aw o58 qo (by rw[aaf];omega))) ?_));rintro v61 K61 hs61 ⟨h61,rfl,rfl,ao61,c61,rfl,o61⟩;refine bp ST I (aG qk 0 I (cl 0 I (Ct.at 1 I (oK ao61 c61 _ (i-at') o61 qo (by grind))) ?_));rintro v66 K66 hs66 ⟨h66,rfl,rfl,ao66,c66,rfl,o66⟩;refine bp ST I (be qk 1 I (ac8 (bE 1 0 I I I (fin 1 I (ac7 (ar 0 I (ac (x:=((j+1:Nat):Int)) qo) (fin 1 I (WQ.drop (bc (x:=(⟨j,lb,bs2,ao2,c2,h2⟩:vV)) (⟨j+1,la,_,ao66,c66,h66⟩:vV) ⟨I,I,I,I,I,I,I,I,I,trivial⟩ I I ⟨ax,by grind,o66,?_⟩ ax)))))))));dsimp only;rw[<-hal2];have hp:=hfm.ord.drop (i:=j)
   grind [List.pairwise_cons]
  refine au ?_;obtain rfl:j=ba s.arcs:=qo
  rw[aaS] at hbs2;refine au ?_;exact ar 0 I (ac (x:=((i+1:Nat):Int)) qo) (fin 1 I (bc (x:=(⟨i,bs,ao,c,h⟩:zW)) (⟨i+1,bs2,ao2,c2,h2⟩:zW) sb I I ⟨ax,by dsimp only;rw[<-hbs2];rfl,o2⟩ ax))
 obtain rfl:i=ba ss:=qo
 rw[aaS,ke,aaw] at hbs;subst hbs;exact ex (xt (xt (xb (ac6 (fin 3 I (adb (WQ.drop1 (bL I I I ⟨I,h,I,ao,c,I,o⟩))))))))
end
section
def rc:List Nat->List UInt8
 | []=>[]
 | n::l=>aU n++rc l
structure ry where
 i:Nat
 bs:List UInt8
 ao:Option Addr
 c:Nat
 h:PH
theorem d7.pk{l:List az}(h:d7 l):oY (dl l).1 (dl l).2:=by
 rcases (pz h).1 with ⟨e1,e2⟩|hM
 ·rw[e1,e2];exact oY.nil
 exact hM.pk
def O9{hs m:List PH}(b:Nat)(W:List az)(rows:List d9)(hm:lj K b W rows m)(hok:∀ r∈rows,lx r)(hB:ba (fw W rows)<=2097152)(hG:d8 K):
  aj w0 10 [SX b] K (m++hs)
   (fun v K' hs'=>Le K K'/\∃ g ao c,v=.slice ao (ba (f9 (fw W rows))) c/\hs'=g::(m++hs)/\aZ g ao (ba (f9 (fw W rows))) c 5 1 (bv (f9 (fw W rows)))):=by
 obtain ⟨bd,bt,l0,over,hd,a,g,rfl,hD,hI,ho,⟨aoR,capR,gR,eR,oR⟩,hr1,hr2⟩:=hm;obtain ⟨rfl,rfl⟩:a=pt bt #[.slice aoR (ba rows) capR] 212/\g=gR:=by simpa using eR
 have hPk:=hI.hr.pk;refine dj Tryz.func10 ?_;refine ac9 (fin 1 I (ac6 (bE 3 0 I I I (WL.perm (aaq _ _ _) (cl 0 I (Cd bd l0 over W (ba W) hD hI qo hG) ?_)))));rintro v18 K18 hs18 ⟨le18,rfl,aoS,cS,rfl,hS⟩;refine cl 0 I (Qn _ _ hPk aoS cS hS (hG.le' le18)) ?_;rintro v19 K19 hs19 ⟨rfl,h19,rfl,ao19,c19,rfl,o19⟩;refine fin 5 I (ac6 (WL.em (cl 1 I (pp none 0 [] ao19 c19 _ (aZ.nil _ _) (.inr ⟨0,I⟩) o19.isS ST (by have:=hPk.pl;omega)) ?_)));rintro v23 K23 hs23 ⟨h23,rfl,rfl,ao23,c23,rfl,o23⟩;rw[aaL] at o23 ⊢;refine fin 1 I (ac6 (WL.perm (aaq _ _ _) (WL.drop (au ?_))));refine cl 0 I (OL bt rows aoR capR 212 (.inr ⟨3,I⟩) (.inr ⟨4,I⟩) oR hr1) ?_;rintro v28 K28 hs28 ⟨rfl,h28,ao28,c28,rfl,rfl,o28⟩;refine au ?_;refine ar 3 I (cJ (x:=((ba rows:Nat):Int)) qo) ?_;have hBB:=hB;rw[fw,aaf,aaf] at hBB
 refine cl 0 I (Ct.at 1 I (kD ao23 c23 _ (ba rows) o23 qo qo)) ?_;rintro v33 K33 hs33 ⟨h33,rfl,rfl,ao33,c33,rfl,o33⟩;refine au ?_
 refine loop (σ:=ry) (fun x=>[(5,.slice x.ao (ba x.bs) x.c),(34,.slice ao28 (ba rows) c28),(35,.int .i64 (ba rows)),(36,.int .i64 x.i)]) (fun _=>K33) (fun x=>h28::x.h::hd::pt b #[SX bd,SX bt] 103::pt bt #[.slice aoR (ba rows) capR] 212::g::hs)
  (fun x=>x.i<=ba rows/\x.bs++lq (rows.drop x.i)=fw W rows/\aZ x.h x.ao (ba x.bs) x.c 5 1 (bv x.bs)) (fun x=>ba rows-x.i) ⟨0,_,ao33,c33,h33⟩ ⟨aag _,by simp[fw,aax],o33⟩ ⟨rfl,rfl,rfl,rfl,trivial⟩ rfl rfl ?_
 rintro ⟨i,bs,ao,c,h⟩ ⟨hi,hbs,o⟩;dsimp only at *;refine ac9 (aX 0 I (fun e2=>?_) (fun e2=>?_))
 ·refine au ?_;have hil:i<ba rows:=qo
  obtain ⟨r,hr⟩:∃ r,rows[i]?=some r:=⟨_,aae hil⟩;have hR:=hok r (aap hr);have hg0:rows[i]=r:=by simp_all
  have kZ:rows.drop i=r::rows.drop (i+1):=by simp_all [aaF]
  have xs:=o28.slS;obtain ⟨ad,rfl⟩:=xs.addr qo SU;obtain ⟨vs,xv⟩:=xs.isS;obtain ⟨cs,hc,hcl,hcell⟩:=xs.cells hr;obtain rfl:=hc;obtain ⟨sq',⟨co,se,hA⟩⟩:=r;have hR1:=hR.seq;have hR2:=hR.code;have hR3:=hR.ses;have hR4:=hR.had;dsimp only at hR1 hR2 hR3 hR4;obtain ⟨cn,rfl⟩:∃ cn:Nat,co=((cn:Nat):Int):=⟨co.toNat,qo⟩;obtain ⟨hn,rfl⟩:∃ hn:Nat,hA=((hn:Nat):Int):=⟨hA.toNat,qo⟩;have hrow:qT ⟨sq',⟨((cn:Nat):Int),se,((hn:Nat):Int)⟩⟩=rc [sq',cn,se,hn]:=by simp[qT,rc]
  rw[kZ,lq,hrow] at hbs;refine au ?_;refine dz 0 i I I xv hil SU fun a38 ha=>?_;cases ha;refine eD 0 (f0 ⟨sq',⟨((cn:Nat):Int),se,((hn:Nat):Int)⟩⟩) I qk (.inr ⟨0,I⟩) hcell (al 0 (.agg #[.int .u64 0,.int .i64 0,.int .u64 0,.int .i64 0]) I qk fun b8=>?_);refine bJ 0 0 I I qk I I ?_;refine fin 0 I (ac6 (bE 1 0 I I I (bE 2 0 I I I (ar 0 I (cJ (x:=((cn:Nat):Int)) qo) (au ?_)))));refine ar 0 I (cJ (x:=((hn:Nat):Int)) qo) (lit 0 #[.int .u64 (sq':Nat),.int .u64 (cn:Nat),.int .u64 (se:Nat),.int .u64 (hn:Nat)] I SU qk fun b53=>?_);obtain ⟨ns,hns⟩:∃ ns:List Nat,ns=[sq',cn,se,hn]:=⟨_,rfl⟩;have hnl:ba ns=4:=by rw[hns];rfl
  have hnb:∀ n∈ns,n<=18446744073709551615:=by
   grind
  have x53:aH (pt b53 #[.int .u64 (sq':Nat),.int .u64 (cn:Nat),.int .u64 (se:Nat),.int .u64 (hn:Nat)] 37) (some ⟨b53,0,none⟩) 4 4 1 (ns.map fun n=>Value.int .u64 (n:Nat)):=by
   rw[hns];exact (aZ.ofPt (b:=b53) (c:=#[.int .u64 (sq':Nat),.int .u64 (cn:Nat),.int .u64 (se:Nat),.int .u64 (hn:Nat)]) (e:=37) (n:=4) (size:=1) I (by simp[maxLen])).isS
  rw[<-hns] at hbs;refine au ?_
  refine loop (σ:=ry) (fun x=>[(5,.slice x.ao (ba x.bs) x.c),(34,.slice (some ad) (ba rows) c28),(35,.int .i64 (ba rows)),(36,.int .i64 (i:Nat)),(53,.slice (some ⟨b53,0,none⟩) 4 4),(54,.int .i64 4),(55,.int .i64 x.i)]) (fun _=>K33)
   (fun x=>pt b53 #[.int .u64 (sq':Nat),.int .u64 (cn:Nat),.int .u64 (se:Nat),.int .u64 (hn:Nat)] 37::pt b8 (f0 ⟨sq',⟨((cn:Nat):Int),se,((hn:Nat):Int)⟩⟩).toArray 110::h28::x.h::hd::pt b #[SX bd,SX bt] 103::pt bt #[.slice aoR (ba rows) capR] 212::g::hs)
   (fun x=>x.i<=4/\x.bs++(rc (ns.drop x.i)++lq (rows.drop (i+1)))=fw W rows/\aZ x.h x.ao (ba x.bs) x.c 5 1 (bv x.bs)) (fun x=>4-x.i) ⟨0,bs,ao,c,h⟩ ⟨aag _,hbs,o⟩ ⟨rfl,rfl,rfl,rfl,rfl,rfl,rfl,trivial⟩ rfl rfl ?_
  rintro ⟨j,bs2,ao2,c2,h2⟩ ⟨hj,hbs2,o2⟩;dsimp only at *;refine ac9 (aX 0 I (fun e4=>?_) (fun e4=>?_))
  ·refine au ?_;have hjl:j<ba ns:=qo
   obtain ⟨n,hn1⟩:∃ n,ns[j]?=some n:=⟨_,aae hjl⟩;have hnn:=hnb n (aap hn1);have hg1:ns[j]=n:=by grind
   have hdj:ns.drop j=n::ns.drop (j+1):=by grind
   rw[hdj,rc] at hbs2;have hbl:=congrArg List.length hbs2;simp only[aaf] at hbl;refine au ?_;refine fe 0 j I I I x53 (show (ns.map fun n=>Value.int .u64 (n:Nat))[j]?=some (.int .u64 (n:Nat)) by rw[aa4,hn1];rfl) fun a57 hc57=>?_;refine ld 0 I (.inr ⟨0,I⟩) hc57 (au ?_);refine cl 2 I (Ct.at 3 I (kD ao2 c2 bs2 n o2 qo qo)) ?_;rintro v61 K61 hs61 ⟨h61,rfl,rfl,ao61,c61,rfl,o61⟩;refine au ?_;exact ar 0 I (ac (x:=((j+1:Nat):Int)) qo) (fin 1 I (bc (x:=(⟨j,bs2,ao2,c2,h2⟩:ry)) (⟨j+1,_,ao61,c61,h61⟩:ry) ⟨I,I,I,I,I,I,I,trivial⟩ I I ⟨ax,by simp_all,o61⟩ ax))
  refine au ?_;obtain rfl:j=ba ns:=qo
  rw[aaS,rc,aaL] at hbs2;refine au ?_;exact ar 0 I (ac (x:=((i+1:Nat):Int)) qo) (fin 1 I (WQ.drop (WQ.drop (bc (x:=(⟨i,bs,ao,c,h⟩:ry)) (⟨i+1,bs2,ao2,c2,h2⟩:ry) sb I I ⟨hil,hbs2,o2⟩ ax))))
 refine au ?_;obtain rfl:i=ba rows:=qo
 rw[aaS,lq,aaw] at hbs;subst hbs;refine au ?_;refine cl 1 I (P5 ao c _ (.inr ⟨1,I⟩) o.isS qo) ?_;rintro v66 K66 hs66 ⟨rfl,h66,rfl,⟨q,_⟩|⟨_,ao66,c66,rfl,o66⟩⟩
 ·omega
 exact fin 5 I<|ac6 (fin 2 I<|adb<|WQ.drop1 (WQ.drop1<|WQ.perm ((aaq _ _ _).cons _) (ay I I ⟨le18,h66,ao66,c66,I,I,o66⟩)))
end
section
def NN(n:Nat)(h:n<9223372036854775808):Value.int .i64 (IntKind.i64.wrap (((n:Nat):Int).tdiv 2))=.int .i64 (n / 2:Nat):=by
 rw[show (2:Int)=((2:Nat):Int) from rfl,<-ack];exact ac qo
structure zT where
 j:Nat
 lb:Nat
 ao:Option Addr
 c:Nat
 g:PH
 h:PH
def O4{h hb:PH}{R:List PH}{rb:Nat}(s:Rd)(r:gg rb hb s h):aj w0 166 [SX rb] K (h::R) (fun v K' hs'=>∃ h',hs'=h'::R/\K'=K/\v=.int .i64 (ba s.1:Nat)/\gg rb hb s h'):=by
 obtain ⟨ao,cap,rfl,x⟩:=r;refine bH Tryz.func166 ?_;exact ay I I ⟨_,I,I,I,ao,cap,I,x⟩
def GU{h hb:PH}{R:List PH}{rb:Nat}(s:Rd)(r:gg rb hb s h):aj w0 129 [SX rb] K (h::R) (fun v K' hs'=>∃ h',hs'=h'::R/\K'=K/\h'=h/\v=.int .i64 s.2):=by
 refine (zn rb s r).mono ?_
 simp
def M4{h hb:PH}{R:List PH}{rb:Nat}(i:Nat)(s:bg)(r:List UInt8)(hfm:p8 i s)(hal:ba s.arcs<=4096)(hi:i<=98305)(hm:In K R hb)(hl:ba (mU i s++r)<1099511627776)(rd:gg rb hb (mU i s++r,0) h):
  aj w0 133 [SX rb,.int .i64 (i:Nat)] K (h::R)
   (fun v K' hs'=>∃ h' new,hs'=new++h'::R/\K'=K/\∃ g ao c,new=[g]/\v=.agg (dc s ao (ba s.arcs) c).toArray/\ej 3 208 jd g ao (ba s.arcs) c s.arcs/\gg rb hb (r,0) h'):=by
 have hso:=hfm.out;obtain ⟨so,hso2⟩:∃ so:Nat,s.out=((so:Nat):Int):=⟨s.out.toNat,qo⟩;obtain ⟨n,hn⟩:∃ n:Nat,n=2*ba s.arcs+(if s.fin=true then 1 else 0):=⟨_,rfl⟩;have hn2:n / 2=ba s.arcs:=by rw[hn];split <;> omega
 have hn1:n % 2=1↔s.fin=true:=by
  rw[hn];cases s.fin <;> simp <;> omega
 have hnb:n<=8193:=qo
 have hp:mU i s++r=aU n++((if s.fin=true then aU so else [])++(iD i 0 s.arcs++r)):=by
  simp_all [mU]
 rw[hp] at rd hl;have hpl:=B4 i s.arcs 0;simp only[aaf] at hl;refine dj Tryz.func133 ?_;refine ac9 (al 0 (.agg #[.bool false,.int .i64 0,.slice none 0 0]) I qk fun b4=>au ?_);refine cl 2 I (Ct.at 1 I (O4 _ rd)) ?_;rintro v12 K12 hs12 ⟨h12,rfl,rfl,rfl,rd12⟩;obtain ⟨L,hL⟩:∃ L:Nat,L=ba (aU n++((if s.fin=true then aU so else [])++(iD i 0 s.arcs++r))):=⟨_,rfl⟩
 have hL1:3*ba s.arcs<=L/\1<=L/\L<1099511627776:=by
  grind [tJ]
 dsimp only;rw[<-hL];refine ar 0 I (v':=.int .i64 (2*L:Nat)) (by rw[ac qo];rfl) (ar 0 rfl (v':=.int .i64 (2*L+1:Nat)) (by rw[ac qo];rfl) (ar 0 rfl (cJ (x:=((2*L+1:Nat):Int)) qo) (cl 0 rfl (Ct.at 1 rfl (fU (In.cons hm) (2*L+1) _ ax rd12)) ?_)));rintro v16 K16 hs16 ⟨h16,rfl,rfl,hv,rd16⟩;rw[fR _ qo qo] at hv rd16;subst hv;refine ar 0 I (ac (x:=((n:Nat):Int)) qo) (au ?_);refine ar 1 I (kc .i64 n 2) (af 0 I fun b20 h20=>?_)
 obtain rfl:b20=s.fin:=by
  grind
 refine bd 0 (.agg #[.bool s.fin,.int .i64 0,.slice none 0 0]) I (fun w=>by kernel_rfl) (al 0 (.agg #[.bool false,.int .i64 0,.slice none 0 0]) I qk fun b6=>?_);refine bJ 0 0 I I qk I I ?_;refine fin 0 I (th (jn (σ:=PH) (fun x=>[(0,SX rb),(1,.int .i64 (i:Nat)),(4,SX b4),(5,.int .i64 (n:Nat)),(6,SX b6)]) (fun x=>pt b6 #[.bool s.fin,.int .i64 (so:Nat),.slice none 0 0] 206::pt b4 #[.bool false,.int .i64 0,.slice none 0 0] 206::x::R) (fun x=>gg rb hb (iD i 0 s.arcs++r,0) x) ?_ ?_))
 ·refine ac9 (bE 1 0 I I I (nP fun b23 h23=>fin 0 I<|th (ah h23 I (fun e2=>?_) (fun e2=>?_))))
  ·rw[aab e2] at rd16 hl;refine rg (cl 1 I (Ct.at 2 I (fU (In.cons (In.cons hm)) 1048576 _ (by simp only[aaf];omega) rd16)) ?_);rintro v25 K25 hs25 ⟨h25,rfl,rfl,hv,rd25⟩;rw[fR _ qo qo] at hv rd25;subst hv;exact ar 0 I (ac (x:=((so:Nat):Int)) qo) (stp 1 0 I I I I (fin 0 I (jx h25 rd25 sb I I)))
  have hs0:so=0:=by rcases hfm.fin with h|h;exact absurd h e2;omega
  rw[aaa e2] at rd16;subst hs0;exact sk (jx h16 rd16 sb I I)
 intro h1 rd1;refine au ?_;refine ar 1 I (NN n qo) ?_;rw[hn2];refine fin 1 I (th (bk (WC.em ?_)))
 refine loop (σ:=zT) (fun x=>[(0,SX rb),(1,.int .i64 (i:Nat)),(4,SX b4),(6,SX b6),(7,.int .i32 x.lb),(29,.int .i64 (ba s.arcs)),(30,.int .i64 x.j)]) (fun _=>K16) (fun x=>x.g::pt b6 #[.bool s.fin,.int .i64 (so:Nat),.slice x.ao x.j x.c] 206::pt b4 #[.bool false,.int .i64 0,.slice none 0 0] 206::x.h::R)
  (fun x=>x.j<=ba s.arcs/\ej 3 208 jd x.g x.ao x.j x.c (s.arcs.take x.j)/\gg rb hb (iD i ((x.lb:Nat):Int) (s.arcs.drop x.j)++r,0) x.h/\ba (iD i ((x.lb:Nat):Int) (s.arcs.drop x.j))+ba r<1099511627776/\(∀ a∈s.arcs.drop x.j,((x.lb:Nat):Int)<a.lb)) (fun x=>ba s.arcs-x.j)
  ⟨0,0,none,0,En.em,h1⟩ ⟨aag _,ej.nil _ _,rd1,by grind,fun a ha=>by have:=(hfm.arc a ha).lb;dsimp only;omega⟩ sb rfl rfl ?_
 rintro ⟨j,lb,ao,c,g,h⟩ ⟨hj,og,rd,hl,hlt⟩;dsimp only at *;refine ac9 (af 0 I fun b31 h31=>au ?_);refine ah h31 I (fun e4=>?_) (fun e4=>?_)
 ·have hjl:j<ba s.arcs:=qo
  obtain ⟨a,ha⟩:=bC (s.arcs[j]);have hA:=hfm.arc a (by rw[ha];simp);have hdj:s.arcs.drop j=a::s.arcs.drop (j+1):=by rw[ha];simp
  have htj:s.arcs.take (j+1)=s.arcs.take j++[a]:=by rw[ha];simp
  have hAt:=hA.to;have hAo:=hA.out;have hAl:=hA.lb;have hsc:=hAl.2.2.1;have hp:=hfm.ord.drop (i:=j);rw[hdj] at hlt hl rd hp;have hlt1:=hlt a aaT;have hp1:=(aaE.1 hp).1;obtain ⟨al,hal2⟩:∃ al:Nat,a.lb=((al:Nat):Int):=⟨a.lb.toNat,qo⟩;obtain ⟨aw,haw⟩:∃ aw:Nat,a.out=((aw:Nat):Int):=⟨a.out.toNat,qo⟩;obtain ⟨at',hat⟩:∃ at':Nat,a.to=((at':Nat):Int):=⟨a.to.toNat,qo⟩
  have hpa:iD i ((lb:Nat):Int) (a::s.arcs.drop (j+1))=aU (al-lb)++(aU aw++(aU (i-at')++iD i ((al:Nat):Int) (s.arcs.drop (j+1)))):=by
   grind [iD]
  rw[hpa] at rd hl;simp only[aaf] at hl;simp only[aax] at rd;refine au ?_;refine cl 2 I (Ct.at 3 I (fU (In.cons (In.cons (In.cons hm))) 1114111 _ (by simp only[aaf];omega) rd)) ?_;rintro v34 K34 hs34 ⟨h34,rfl,rfl,hv,rd⟩;rw[fR _ qo qo] at hv rd;subst hv;refine ar 0 I (m7 (x:=((al-lb:Nat):Int)) qo) (ar 0 I (v':=.int .i32 (al:Nat)) (by grind [m7]) (au ?_));refine cl 1 I (Ct.at 3 I (fU (In.cons (In.cons (In.cons hm))) 1048576 _ (by simp only[aaf];omega) rd)) ?_;rintro v38 K38 hs38 ⟨h38,rfl,rfl,hv,rd⟩;rw[fR _ qo qo] at hv rd;subst hv;refine ar 0 I (ac (x:=((aw:Nat):Int)) qo) (au ?_);refine cl 1 I (Ct.at 3 I (fU (In.cons (In.cons (In.cons hm))) 98305 _ (by simp only[aaf];omega) rd)) ?_;rintro v41 K41 hs41 ⟨h41,rfl,rfl,hv,rd⟩;rw[fR _ qo qo] at hv rd;subst hv
  refine ar 0 I (ac (x:=((i-at':Nat):Int)) qo) (au ?_);refine cl 1 I (Ct.at 3 I (GU _ rd)) ?_;rintro v44 K44 hs44 ⟨h41,rfl,rfl,rfl,rfl⟩;refine aX 0 I (fun h5=>absurd I h5) (fun h5=>au ?_);refine ar 4 I (v':=.int .i64 (at':Nat)) (by grind [ac]) ?_;have hav:fy a=[.int .i32 (al:Nat),.int .i64 (aw:Nat),.int .i64 (at':Nat)]:=by rw[fy,hal2,haw,hat]
  exact bd 0 (.agg #[.int .i32 (al:Nat),.int .i64 (aw:Nat),.int .i64 (at':Nat)]) I (fun w=>by kernel_rfl) (lit 0 #[.int .i32 (al:Nat),.int .i64 (aw:Nat),.int .i64 (at':Nat)] I SU qk fun b54=>nM 0 1 [.int .i32 (al:Nat),.int .i64 (aw:Nat),.int .i64 (at':Nat)] a I I I og hav.symm I (by simp[Value.oneCell']) I SU (by show _*24<=_;omega) (by simp only[maxLen];omega) fun ao55 c55 g55 o55=>stp 1 2 rfl rfl rfl rfl (fin 0 rfl (ac7 (WL.drop (ar 0 rfl (ac (x:=((j+1:Nat):Int)) qo) (fin 1 rfl (bc (x:=(⟨j,lb,ao,c,g,h⟩:zT)) (⟨j+1,al,ao55,c55,g55,h41⟩:zT) sb rfl rfl ⟨hjl,by dsimp only;rw[htj];exact o55,rd,ax,by dsimp only;rw[<-hal2];exact hp1⟩ ax)))))))
 obtain rfl:j=ba s.arcs:=qo
 rw[aaS,iD,aaL] at rd;rw[aav] at og;refine ex (xt (xt (xb (ac6 (dy 0 1 I I qk ?_)))));refine bJ 0 2 I I qk I I ?_;refine fin 0 I (adb (WQ.perm (aaI (l₁:=[_,_])).symm ?_));exact ml 1 2 I I I qk ⟨h,[g],I,I,g,ao,c,I,by rw[dc,hso2],og,rd⟩
end
section
structure zS where
 i:Nat
 ao:Option Addr
 c:Nat
 g:PH
 h:PH
 K:PH
def GV{h hb:PH}{R:List PH}{rb:Nat}(s:Rd)(r:gg rb hb s h):aj w0 59 [SX rb] K (h::R) (fun v K' hs'=>∃ h',hs'=h'::R/\K'=K/\v=.int .i64 (kN s)/\gg rb hb s h'):=by
 refine (s7 s r).mono ?_
 simp_all
def MJ{w0:World}{K hv:PH}{hs:List PH}(ao:Option Addr)(cap:Nat)(base:Int)(ss:List bg)(hP:oY base ss)(hm:In K hs hv)(x:aH hv ao (ba (i5 base ss)) cap 1 (bv (i5 base ss)))(hG:d8 K):
  aj w0 86 [.slice ao (ba (i5 base ss)) cap] K hs
   (fun v K' hs'=>Le K K'/\hs'=hs/\∃ ao' c',v=.tuple #[.agg #[.int .i64 base,.slice ao' (ba ss) c'],.int .i64 0]/\bF 3 (gF K') K' ao' (ba ss) c' ss):=by
 have hle:=hP.len;have hb:=hP.bas;have hB:=hP.pl;obtain ⟨bn,rfl⟩:∃ bn:Nat,base=((bn:Nat):Int):=⟨base.toNat,qo⟩;have hpb:i5 ((bn:Nat):Int) ss=aU bn++(aU (ba ss)++ke 0 ss):=rfl;refine dj Tryz.func86 ?_;refine ac9 (al 0 (.agg #[.int .i64 0,.slice none 0 0]) I qk fun b2=>au ?_);refine cl 1 I (pH ao cap _ (In.cons hm) x qo) ?_;rintro v9 K9 hs9 ⟨rfl,rb,h9,hb9,rfl,rfl,rd⟩;rw[hpb] at rd hB;simp only[aaf] at hB;refine au ?_;refine cl 1 I (fU (.inr ⟨0,I⟩) 1048576 _ (by simp only[aaf];omega) rd) ?_;rintro v11 K11 hs11 ⟨h11,rfl,rfl,hv,rd⟩;rw[fR _ qo qo] at hv rd;subst hv;refine ar 0 I (ac (x:=((bn:Nat):Int)) qo) (bd 0 (.agg #[.int .i64 (bn:Nat),.slice none 0 0]) I (fun w=>by kernel_rfl) (al 0 (.agg #[.int .i64 0,.slice none 0 0]) I qk fun b5=>?_));refine bJ 0 0 I I qk I I ?_
 refine fin 0 I (ac6 (cl 1 I (Ct.at 1 I (fU (.inr ⟨1,I⟩) 98305 _ (by simp only[aaf];omega) rd)) ?_));rintro v15 K15 hs15 ⟨h15,rfl,rfl,hv,rd⟩;rw[fR _ qo qo] at hv rd;subst hv;refine ar 0 I (ac (x:=((ba ss:Nat):Int)) qo) (fin 1 I (ac5 (fin 1 I (th (bk (WC.em ?_))))))
 refine loop (σ:=zS) (fun x=>[(2,SX b2),(3,.int .i64 0),(4,SX rb),(5,SX b5),(6,.int .i64 (ba ss)),(7,.int .i64 x.i)]) (fun x=>x.K) (fun x=>x.g::pt b5 #[.int .i64 (bn:Nat),.slice x.ao x.i x.c] 99::x.h::hb9::pt b2 #[.int .i64 0,.slice none 0 0] 99::hs)
  (fun x=>x.i<=ba ss/\Le K15 x.K/\ej 3 206 (gF x.K) x.g x.ao x.i x.c (ss.take x.i)/\gg rb hb9 (ke x.i (ss.drop x.i),0) x.h/\ba (ke x.i (ss.drop x.i))<1099511627776) (fun x=>ba ss-x.i)
  ⟨0,none,0,En.em,h15,K15⟩ ⟨aag _,Le.refl _,ej.nil _ _,rd,by dsimp only;rw[abl];omega⟩ sb rfl rfl ?_
 rintro ⟨i,ao2,c,g,h,K2⟩ ⟨hi,le0,og,rd,hl⟩;dsimp only at *;refine sq (ac9 (af 2 I fun b19 h19=>?_))
 refine' gu (q:=True) 1 4 24 [19,20] h19 I I I I I I I (fun _=>?x2) (fun b24 h24=>?_)
 case x2=>
  refine cl 1 I (Ct.at 2 I (GU _ rd)) ?_;rintro v22 K2 hs22 ⟨h,rfl,rfl,rfl,rfl⟩;exact eE 0 True I ST fun b23 h23=>fin 1 I (dk h23 I I I)
 refine fin 0 I<|th (ah h24 I (fun e4=>?_) (fun e4=>?_))
 ·have hil:i<ba ss:=qo
  obtain ⟨s,hs1⟩:∃ s,ss[i]?=some s:=⟨_,aae hil⟩;have hfm:=hP.fm i s hs1;have hal:=hP.arcs i s hs1;have hg0:ss[i]=s:=by simp_all
  have kZ:ss.drop i=s::ss.drop (i+1):=by simp_all [aaF]
  have htk:ss.take (i+1)=ss.take i++[s]:=by rw[<-hg0];simp
  rw[kZ,ke] at rd hl;have hl':=hl;simp only[aaf] at hl';refine sk (th (sq (bk (bI [pt b5 #[.int .i64 (bn:Nat),.slice ao2 i c] 99] 8 [0,2,4,6,9,11,13,14,17] ST qk qk (au ?_)))));refine cl 0 I (Ct.atN 2 I (M4 i s (ke (i+1) (ss.drop (i+1))) hfm hal qo (.inr ⟨2,I⟩) hl rd)) ?_;rintro v31 K2 hs31 ⟨h31,new,rfl,rfl,g31,ao31,c31,rfl,rfl,o31,rd31⟩;refine WL.frz fun K3 le1 le2=>fF ST le1 (au ?_);exact lit 0 (dc s ao31 (ba s.arcs) c31).toArray I SU qk fun b32=>bp ST I (aG qk 0 I (nM 0 1 (dc s ao31 (ba s.arcs) c31) s I I I (og.imp fun _ _ h=>h.le le1) ⟨ao31,_,c31,I,o31.slS.le le2 fun _ _ h=>h⟩ I (by simp[dc,Value.oneCell']) I SU (by show _*40<=_;omega) (by simp only[maxLen];omega) fun ao33 c33 g33 o33=>bp ST rfl (aG qk 1 rfl (stp 0 2 rfl rfl rfl rfl (di (.inl qk) (be qk 0 rfl (ac7 (WL.drop (ar 1 rfl (ac (x:=((i+1:Nat):Int)) qo) (fin 1 rfl (bc (x:=(⟨i,ao2,c,g,h,K2⟩:zS)) (⟨i+1,ao33,c33,g33,h31,K3⟩:zS) sb rfl rfl ⟨hil,le0.trans le1,by dsimp only;rw[htk];exact o33,rd31,ax⟩ ax)))))))))))
 obtain rfl:i=ba ss:=by
  grind
 rw[aaS,ke] at rd;rw[aav] at og;refine ex (xt (xt (xb (th (WC.frz fun K3 le1 le2=>?_)))));have hS3:bF 3 (gF K3) K3 ao2 (ba ss) c ss:=og.slS.le le2 fun _ _ h=>h.le le1;have hG3:d8 K3:=hG.le' (le0.trans le1);refine sq (ac9 (cl 1 I (Ct.at 1 I (GV _ rd)) ?_));rintro v36 K36 hs36 ⟨h36,rfl,rfl,rfl,rd36⟩;refine af 0 I fun b37 h37=>?_
 refine' eB (q:=False) 1 4 42 [37,38] h37 I I I I I I I (fun _=>?x6) (fun b42 h42=>?_)
 case x6=>
  refine dy 0 0 I I qk (cl 0 I (FT ss _ hP ao2 c hS3 hG3) ?_);rintro v40 K40 hs40 ⟨rfl,rfl,rfl⟩;exact eE 0 False I ST fun b41 h41=>fin 1 I (dk h41 I I I)
 refine fin 0 I<|th (ah h42 I (fun e7=>?_) (fun e7=>?_))
 ·rcases e7 with e7|e7
  ·exact absurd I e7
  exact e7.elim
 refine sk (ac6 (dy 0 0 I I qk ?_));refine bJ 0 3 I I qk I I ?_;exact fin 1 I (adb (mT 3 4 I I I I qk ⟨le0.trans le1,I,ao2,c,I,hS3⟩))
end
section
structure zZ where
 i:Nat
 ao:Option Addr
 c:Nat
 g:PH
 h:PH
def WQ.dropM{Q:Exit->Act->World->Prop}{e:Exit}{n:Nat}{l:Sl}{hs:List PH}(m d:List PH)(h:WQ w0 Q e n l K (m++hs)):WQ w0 Q e n l K (m++(d++hs)):=
 WQ.perm (hs':=d++(m++hs)) (by
  grind [List.Perm.append_right,List.perm_append_comm]) (WQ.dropL d h)
def ND{w0:World}{K hv:PH}{hs:List PH}(W:List az)(rows:List d9)(hW:d7 W)(hok:∀ r∈rows,lx r)(hl:ba rows<=4096)(hB:ba (fw W rows)<=2097152)(ao:Option Addr)(cap:Nat)(hm:In K hs hv)(x:aH hv ao (ba (f9 (fw W rows))) cap 1 (bv (f9 (fw W rows))))(hG:d8 K):
  aj w0 32 [.slice ao (ba (f9 (fw W rows))) cap] K hs
   (fun v K' hs'=>Le K K'/\∃ b m,hs'=m++hs/\lj K' b W rows m/\v=.tuple #[SX b,.int .i64 0]):=by
 have hPk:=hW.pk
 have hun:nB (f9 (fw W rows))=(fw W rows,ba (f9 (fw W rows)),0):=by
  have:=Ic [] hB
  rwa [aaw] at this
 have hsl:=vY (fw W rows);have hu1:=eY (n:=ba (fw W rows)) qo;refine bH Tryz.func32 ?_;refine cl 1 I (MI ao cap _ hm x qo) ?_;rintro v20 K20 hs20 ⟨rfl,h20,rfl,ao20,c20,rfl,o20⟩;rw[hun] at o20 ⊢;dsimp only at o20 ⊢;refine au ?_;refine af 1 I fun b25 h25=>?_
 refine' eB (q:=False) 1 5 31 [25,26] h25 I I I I I I I (fun _=>?x2) (fun b31 h31=>?_)
 case x2=>
  exact af 3 I fun b30 h30=>fin 1 I<|dk (h30.trans ST) I I I
 refine fin 0 I<|th (ah h31 I (fun e4=>?_) (fun e4=>?_))
 ·rcases e4 with e|e
  ·exact absurd I e
  exact e.elim
 refine sk (ac6 (cl 1 I (pH ao20 c20 _ (.inr ⟨0,I⟩) o20.isS qo) ?_));rintro v33 K33 hs33 ⟨rfl,rb,h33,hb33,rfl,rfl,rd⟩;have hIm:fw W rows=dg (i5 (dl W).1 (dl W).2)++(aU (ba rows)++lq rows):=rfl;have hIl:=congrArg List.length hIm;simp only[aaf,qa] at hIl;rw[hIm] at rd;refine au ?_;refine cl 1 I (qC (.inr ⟨0,I⟩) 2097152 qo _ (by dsimp only;rw[<-hIm];omega) rd) ?_;rintro v36 K36 hs36 ⟨h36,new,rfl,rfl,hx36,ao36,c36,rfl,rfl,o36,rd⟩;rw[nX _ qo qo] at rd o36 ⊢;dsimp only at rd o36 ⊢;refine cl 0 I (MJ ao36 c36 _ _ hPk (.inr ⟨0,I⟩) o36.isS hG) ?_;rintro v37 K37 hs37 ⟨le37,rfl,ao37,c37,rfl,hS⟩;refine al 3 (.agg #[.int .i64 0,.slice none 0 0]) I qk fun b8=>?_;refine bJ 0 0 I I qk I I ?_;refine fin 1 I (ac6 (fin 1 I (ac5 (WL.hs (pt b8 #[.int .i64 (dl W).1,.slice ao37 (ba (dl W).2) c37] 99::hx36::h36::hb33::h20::hs) I (cl 1 I (Ct.at 2 I (fU (.inr ⟨2,I⟩) 4096 _ (by simp only[aaf];omega) rd)) ?_)))))
 rintro v41 K41 hs41 ⟨h41,rfl,rfl,hv,rd⟩;rw[fR _ qo qo] at hv rd;subst hv;refine fin 1 I (th (bk (WC.em ?_)))
 refine loop (σ:=zZ) (fun x=>[(7,SX rb),(8,SX b8),(9,.int .i64 0),(10,.slice x.ao x.i x.c),(41,.int .u64 (ba rows)),(42,.int .u64 x.i)]) (fun _=>K41) (fun x=>x.g::pt b8 #[.int .i64 (dl W).1,.slice ao37 (ba (dl W).2) c37] 99::hx36::x.h::hb33::h20::hs)
  (fun x=>x.i<=ba rows/\ej 4 110 kX x.g x.ao x.i x.c (rows.take x.i)/\gg rb hb33 (lq (rows.drop x.i),0) x.h/\ba (lq (rows.drop x.i))<1099511627776) (fun x=>ba rows-x.i) ⟨0,none,0,En.em,h41⟩ ⟨aag _,ej.nil _ _,rd,by dsimp only;rw[abl];omega⟩ sb rfl rfl ?_
 rintro ⟨i,aoL,cL,g,h⟩ ⟨hi,og,rd,hlr⟩;dsimp only at *;refine ac9 (aX 0 I (fun e6=>?_) (fun e6=>?_))
 ·refine au ?_;have hil:i<ba rows:=qo
  obtain ⟨r,hr⟩:∃ r,rows[i]?=some r:=⟨_,aae hil⟩;have hR:=hok r (aap hr);have hg0:rows[i]=r:=by simp_all
  have kZ:rows.drop i=r::rows.drop (i+1):=by simp_all [aaF]
  have htk:rows.take (i+1)=rows.take i++[r]:=by rw[<-hg0];simp
  obtain ⟨sq',⟨co,se,hA⟩⟩:=r;have hR1:=hR.seq;have hR2:=hR.code;have hR3:=hR.ses;have hR4:=hR.had;dsimp only at hR1 hR2 hR3 hR4;obtain ⟨cn,rfl⟩:∃ cn:Nat,co=((cn:Nat):Int):=⟨co.toNat,qo⟩;obtain ⟨hn,rfl⟩:∃ hn:Nat,hA=((hn:Nat):Int):=⟨hA.toNat,qo⟩;have hrow:qT ⟨sq',⟨((cn:Nat):Int),se,((hn:Nat):Int)⟩⟩=aU sq'++(aU cn++(aU se++aU hn)):=rfl;rw[kZ,lq,hrow] at rd hlr;simp only[aax] at rd;simp only[aaf] at hlr;refine au ?_;refine cl 1 I (Ct.at 3 I (fU (.inr ⟨3,I⟩) 18446744073709551615 _ (by simp only[aaf];omega) rd)) ?_;rintro v45 K45 hs45 ⟨h45,rfl,rfl,hv,rd⟩;rw[fR _ qo qo] at hv rd;subst hv;refine bd 0 (.agg #[.int .u64 (sq':Nat),.int .i64 0,.int .u64 0,.int .i64 0]) I (fun w=>by kernel_rfl) (al 0 (.agg #[.int .u64 0,.int .i64 0,.int .u64 0,.int .i64 0]) I qk fun b11=>?_);refine bJ 0 0 I I qk I I ?_
  refine fin 0 I (ac6 (cl 1 I (Ct.at 4 I (fU (.inr ⟨4,I⟩) 65535 _ (by simp only[aaf];omega) rd)) ?_));rintro v48 K48 hs48 ⟨h48,rfl,rfl,hv,rd⟩;rw[fR _ qo qo] at hv rd;subst hv;refine ar 0 I (ac (x:=((cn:Nat):Int)) qo) (au ?_);refine cl 1 I (Ct.at 4 I (fU (.inr ⟨4,I⟩) 18446744073709551615 _ (by simp only[aaf];omega) rd)) ?_;rintro v53 K53 hs53 ⟨h53,rfl,rfl,hv,rd⟩;rw[fR _ qo qo] at hv rd;subst hv;refine au ?_;refine cl 1 I (Ct.at 4 I (fU (.inr ⟨4,I⟩) 1048576 _ (by simp only[aaf];omega) rd)) ?_;rintro v57 K57 hs57 ⟨h57,rfl,rfl,hv,rd⟩;rw[fR _ qo qo] at hv rd;subst hv;exact ar 0 I (ac (x:=((hn:Nat):Int)) qo) (stp 2 0 I I I I (fin 0 I (ac8 (dy 1 0 I I qk (lit 0 (f0 ⟨sq',⟨((cn:Nat):Int),se,((hn:Nat):Int)⟩⟩).toArray I SU qk fun b63=>nM 0 2 (f0 ⟨sq',⟨((cn:Nat):Int),se,((hn:Nat):Int)⟩⟩) (⟨sq',⟨((cn:Nat):Int),se,((hn:Nat):Int)⟩⟩:d9) I I I og I I (by intro u hu;simp[f0,dI] at hu;rcases hu with rfl|rfl|rfl|rfl <;> rfl) rfl SU (by show _*32<=_;omega) (by simp only[maxLen];omega) fun ao64 c64 g64 o64=>fin 1 rfl (ac7 (WL.drop (WL.drop (ar 0 rfl (cJ (x:=((i+1:Nat):Int)) qo) (fin 1 rfl (bc (x:=(⟨i,aoL,cL,g,h⟩:zZ)) (⟨i+1,ao64,c64,g64,h57⟩:zZ) sb rfl rfl ⟨hil,by dsimp only;rw[htk];exact o64,rd,ax⟩ ax)))))))))))
 refine au ?_;obtain rfl:i=ba rows:=qo
 rw[aaS,lq] at rd;rw[aav] at og;refine au ?_;refine cl 1 I (O0 aoL (ba rows) cL rows (.inr ⟨0,I⟩) og.slS hl hok) ?_;rintro v68 K68 hs68 ⟨rfl,bt,m68,rfl,rfl,aoT,capT,gT,rfl,oT⟩;refine fin 5 I (ac5 (WL.hs (pt bt #[.slice aoT (ba rows) capT] 212::gT::g::pt b8 #[.int .i64 (dl W).1,.slice ao37 (ba (dl W).2) c37] 99::hx36::h::hb33::h20::hs) I (cl 1 I (Ct.at 5 I (GV _ rd)) ?_)));rintro v72 K72 hs72 ⟨h72,rfl,rfl,rfl,rd⟩;refine af 0 I fun b73 h73=>?_
 refine' eB (q:=False) 1 3 77 [73,74] h73 I I I I I I I (fun _=>?x8) (fun b77 h77=>?_)
 case x8=>
  exact af 1 I fun b76 h76=>fin 1 I<|dk (h76.trans ST) I I I
 refine' eB (q:=False) 1 3 81 [77,78] h77 I I I I I I I (fun _=>?x10) (fun b81 h81=>?_)
 case x10=>
  exact eE 1 False I ST fun b80 h80=>fin 1 I<|dk h80 I I I
 refine fin 0 I<|th (ah h81 I (fun e11=>?_) (fun e11=>?_))
 ·rcases e11 with (e|e)|e
  ·exact absurd I e
  ·exact e.elim
  exact e.elim
 refine sk (ac6 (dy 0 3 I I qk ?_));have hG1:=hG.le' le37;refine cl 0 I (yQ W hW ao37 c37 hS hG1) ?_;rintro v84 K84 hs84 ⟨le84,rfl,bW,rfl,hWQ⟩;refine au ?_;refine cl 1 I (HG bW) ?_;rintro v89 K89 hs89 ⟨rfl,b89,rfl,rfl⟩;refine WL.frz fun K2 le2 le3=>?_;have hG2:=hG1.le' (le84.trans le2);refine cl 0 I (Bz bW b89 _ _ ((pz hW).1.imp (fun h=>h.1) id) (hWQ.le le2) hG2 ((bR.pt I).le le3)) ?_;rintro v90 K90 hs90 ⟨rfl,ao90,c90,g90,rfl,rfl,o90⟩;rw[(pz hW).2.1] at o90 ⊢;refine WL.frz fun K4 dm le5=>cl 0 I (F3 ao90 c90 W (o90.slS.le le5 fun _ _ h=>h) hW (hG2.le' dm)) ?_;rintro v91 K91 hs91 ⟨le91,bD,hd,rfl,hD,rfl⟩;refine au ?_;exact bd 2 (.agg #[SX bD,SX bt]) I (fun w=>by kernel_rfl) (bx 0 I fun b97=>fin 2 I (adb (WQ.dropM [pt b97 #[SX bD,SX bt] 103,hd,pt bt #[.slice aoT (ba rows) capT] 212,gT] [g,pt b8 #[.int .i64 (dl W).1,.slice ao37 (ba (dl W).2) c37] 99,hx36,h72,hb33,h20] (bL I I I ⟨(((le37.trans le84).trans le2).trans dm).trans le91,b97,_,I,⟨bD,bt,W,[],hd,_,gT,I,hD,⟨hW,ST,ST,hW,fun s=>I⟩,ST,⟨aoT,capT,gT,I,oT⟩,hl,fun r hr=>(hok r hr).seq⟩,I⟩))))
end
section
abbrev SF:=Int->Option fg
def lZ(s s':Option fg):Prop:=
 match s with
 | none=>s'=none
 | some s=>(s.syn=false/\s'=none)\/∃ v∈s.vs,s'=some ⟨[v],true⟩
def Pk(f f':SF):Prop:=∀ n,lZ (f n) (f' n)
def ia(f:SF)(n:Int):Option (List UInt8):=(f n).map fun s=>s.vs.getLastD []
def FY(D:Dk)(a n:Int):D.read a n=ia (D.sec a) n:=rfl
def Fx(f:SF):Prop:=∀ n s,f n=some s->s.syn=true/\∃ v,s.vs=[v]
def Pk.fx{f f':SF}(h:Pk f f'):Fx f':=by
 intro n s hs;have:=h n;unfold lZ at this
 grind
def Fx.pk{f f':SF}(h:Fx f)(p:Pk f f'):f'=f:=by
 funext n
 have:=p n;unfold lZ at this;cases hf:f n with
 | none=>rw[hf] at this;exact this
 | some t=>
  rw[hf] at this;obtain ⟨h1,v,h2⟩:=h n t hf;rcases this with ⟨h3,_⟩|⟨u,hu,h3⟩
  ·rw[h1] at h3;cases h3
  rw[h2] at hu;simp only[aaK] at hu;rw[h3,hu];obtain ⟨vs,sy⟩:=t;cases h1;cases h2
  rfl
def ki(f:SF):Nat->Nat->List UInt8
 | 0,_=>[]
 | k+1,n=>match ia f n with
  | none=>[]
  | some s=>(s.drop 1).take (jB s)++(if jB s<63 then [] else ki f k (n+1))
def mS(f:SF):List UInt8:=ki f 65537 0
theorem GC(D:Dk)(num:Nat):∀ (k n:Nat),ni D num k n=ki (D.sec (aJ num)) k n
 | 0,_=>rfl
 | k+1,n=>by
  rw[tZ,ki,FY];cases ia (D.sec (aJ num)) n with
  | none=>rfl
  | some s=>dsimp only;rw[GC D num k (n+1)]
theorem uh(D:Dk)(num:Nat):gM D num=mS (D.sec (aJ num)):=GC D num 65537 0
def BC{f:SF}{n:Nat}{s:List UInt8}(h:ia f n=some s)(k:Nat):ki f (k+1) n=(s.drop 1).take (jB s)++(if jB s<63 then [] else ki f k (n+1)):=by
 rw[ki,h]
def rM{f:SF}{n:Nat}(h:f n=none)(k:Nat):ki f (k+1) n=[]:=by
 simp_all [ia,ki]
def m9(c:List UInt8):List UInt8:=fE (UInt8.ofNat (ba c)::c)
def Cx{c:List UInt8}(h:ba c<=63):jB (m9 c)=ba c/\((m9 c).drop 1).take (ba c)=c/\ba (m9 c)=64:=by
 refine ⟨?_,?_,?_⟩
 ·unfold jB m9 fE
  simp
  omega
 all_goals simp_all [m9,fE]
structure iG (f:SF) (T:List UInt8) (t0:Nat):Prop where
 le:t0<=ba T
 has:∀ n:Nat,63*n<ba T->∃ s,f n=some s/\s.vs.getLast?=some (m9 ((T.drop (63*n)).take 63))/\(s.syn=false->t0<=63*n) /\
  ∀ v∈s.vs,∃ k,k<=63/\63*n+k<=ba T/\(63*(n+1)<=63*n+k\/t0<=63*n+k)/\v=m9 ((T.drop (63*n)).take k)
 no:∀ n:Nat,ba T<=63*n->f n=none
 neg:∀ n:Int,n<0->f n=none
theorem IV(T:List UInt8)(n m:Nat):(T.drop (63*n)).take 63++(T.drop (63*(n+1))).take m=(T.drop (63*n)).take (63+m):=by
 rw[List.take_add,aaO,show 63*n+63=63*(n+1) by omega]
theorem iG.read{f:SF}{T:List UInt8}{t0:Nat}(o:iG f T t0):∀ (k n:Nat),ba T<63*(n+k)->ki f k n=T.drop (63*n)
 | 0,n,h=>by rw[abh qo];rfl
 | k+1,n,h=>by
  rcases aaU (63*n) (ba T) with hlt|hge
  ·obtain ⟨s,h1,h2,_,_⟩:=o.has n hlt;have hr:ia f n=some (m9 ((T.drop (63*n)).take 63)):=by simp_all [ia]
   have hc:ba ((T.drop (63*n)).take 63)<=63:=by rw[aam];omega
   obtain ⟨g1,g2,_⟩:=Cx hc;rw[BC hr,g1,g2,iG.read o k (n+1) qo];rw[aam,aan]
   split
   ·rw[aaw,aar (by rw[aan];omega)]
   grind [List.drop_drop,List.take_append_drop]
  rw[rM (o.no n hge),abh hge]
def iG.text{f:SF}{T:List UInt8}{t0:Nat}(o:iG f T t0)(h:ba T<=63*65536):mS f=T:=by
 unfold mS;rw[o.read 65537 0 qo,Nat.mul_zero,abl]
theorem iG.pick{f f':SF}{T:List UInt8}{t0:Nat}(o:iG f T t0)(p:Pk f f'):∀ (k n:Nat),ba T<63*(n+k)->∃ m,ki f' k n=(T.drop (63*n)).take m/\(63*n+m<=ba T\/m=0)/\t0<=63*n+m
 | 0,n,h=>⟨0,by rfl,.inr rfl,by have:=o.le;omega⟩
 | k+1,n,h=>by
  rcases aaU (63*n) (ba T) with hlt|hge
  ·obtain ⟨s,h1,_,h3,h4⟩:=o.has n hlt;have hp:=p n;unfold lZ at hp;rw[h1] at hp;rcases hp with ⟨hp1,hp2⟩|⟨v,hv,hp2⟩
   ·exact ⟨0,by rw[abj,rM hp2],.inr I,by have:=h3 hp1;omega⟩
   obtain ⟨j,hj1,hj2,hj3,rfl⟩:=h4 v hv;have hr:ia f' n=some (m9 ((T.drop (63*n)).take j)):=by unfold ia;rw[hp2];rfl
   have hc:ba ((T.drop (63*n)).take j)=j:=by grind
   obtain ⟨g1,g2,_⟩:=Cx (c:=(T.drop (63*n)).take j) qo;rw[hc] at g1 g2;rw[BC hr,g1,g2]
   by_cases hlt63:j<63
   ·grind
   rw[aaa hlt63];obtain rfl:j=63:=qo
   obtain ⟨m,hm1,hm2,hm3⟩:=iG.pick o p k (n+1) qo
   grind [IV]
  have hp:=p n;unfold lZ at hp;rw[o.no n hge] at hp;exact ⟨0,by rw[abj,rM hp],.inr I,by have:=o.le;omega⟩
def iG.crash{f f':SF}{T:List UInt8}{t0:Nat}(o:iG f T t0)(h:ba T<=63*65536)(p:Pk f f'):∃ m,m<=ba T/\t0<=m/\mS f'=T.take m:=by
 obtain ⟨m,h1,h2,h3⟩:=o.pick p 65537 0 qo;rw[Nat.mul_zero,abl] at h1;exact ⟨m,qo,qo,h1⟩
structure zB (f:SF) (T:List UInt8):Prop where
 fx:Fx f
 text:mS f=T
def iE(f:SF):SF:=fun n=>(f n).map kM
def xL(f:SF):Fx (iE f):=by
 intro n s h;unfold iE at h;cases hf:f n with
 | none=>rw[hf] at h;cases h
 | some t=>rw[hf] at h;cases h;exact ⟨I,_,I⟩
theorem ur(f:SF)(n:Int):ia (iE f) n=ia f n:=by
 unfold ia iE;cases f n with
 | none=>rfl
 | some t=>simp[kM]
theorem AV{f g:SF}(h:∀ n,ia f n=ia g n):∀ (k n:Nat),ki f k n=ki g k n
 | 0,_=>rfl
 | k+1,n=>by rw[ki,ki,h,AV h k (n+1)]
def JH(f:SF):mS (iE f)=mS f:=AV (ur f) _ _
def iG.syn{f:SF}{T:List UInt8}{t0:Nat}(o:iG f T t0):iG (iE f) T (ba T):=by
 refine ⟨aac _,fun n hn=>?_,fun n hn=>by unfold iE;rw[o.no n hn];rfl,fun n hn=>by unfold iE;rw[o.neg n hn];rfl⟩;obtain ⟨s,h1,h2,h3,h4⟩:=o.has n hn;refine ⟨kM s,by unfold iE;rw[h1];rfl,?_,fun h=>(by cases h),fun v hv=>?_⟩
 ·show [s.vs.getLastD []].getLast?=_;rw[abF,h2]
  rfl
 have hv:v∈[s.vs.getLastD []]:=hv;rw[abF,h2] at hv;simp only[aaZ,aaK] at hv;refine ⟨min 63 (ba T-63*n),qo,qo,qo,?_⟩
 grind [List.length_drop]
def iG.closed{f:SF}{T:List UInt8}{t0:Nat}(o:iG f T t0)(h:ba T<=63*65536):zB (iE f) T:=⟨xL f,by rw[JH,o.text h]⟩
def kL(f:SF)(n:Int)(s:fg):SF:=fun k=>if k=n then some s else f k
def iG.write{f:SF}{T c:List UInt8}{t0 n:Nat}(o:iG f T t0)(hn:63*n<=ba T)(hn2:ba T<=63*(n+1))(hc:ba c<=63)(hc0:0<ba c)(hp:T.drop (63*n) <+: c):
  iG (kL f n (io (f n) (UInt8.ofNat (ba c)::c))) (T.take (63*n)++c) t0:=by
 have hl:ba (T.take (63*n))=63*n:=by rw[aam];omega
 have hlen:ba (T.take (63*n)++c)=63*n+ba c:=by rw[aaf,hl]
 have hpl:=hp.length_le;rw[aan] at hpl;have hle:=o.le;refine ⟨qo,fun j hj=>?_,fun j hj=>?_,fun j hj=>?_⟩
 ·by_cases e:j=n
  ·subst e;unfold kL;rw[aab rfl];have hd:(T.take (63*j)++c).drop (63*j)=c:=by simp_all
   refine ⟨_,I,?_,?_,?_⟩
   ·simp_all [aar,io,m9]
   ·intro hs;unfold io at hs;cases hf:f j with
    | none=>
     have:¬63*j<ba T:=fun h=>by obtain ⟨s,h1,_⟩:=o.has j h;rw[hf] at h1;cases h1
     omega
    | some s=>
     rw[hf] at hs;rcases aaU (63*j) (ba T) with h|h
     ·obtain ⟨s',h1,_,h3,_⟩:=o.has j h
      simp_all
     omega
   intro v hv;unfold io at hv;rw[hd];rcases aal.1 hv with hv|hv
   ·cases hf:f j with
    | none=>rw[hf] at hv;simp at hv
    | some s=>
     rw[hf] at hv
     have h:63*j<ba T:=by
      rcases aaU (63*j) (ba T) with h|h
      ·exact h
      have:=o.no j h;rw[hf] at this;cases this
     obtain ⟨s',h1,_,_,h4⟩:=o.has j h;rw[hf] at h1;cases h1;obtain ⟨k,hk1,hk2,hk3,hk4⟩:=h4 v hv;refine ⟨k,hk1,qo,hk3,?_⟩;rw[hk4]
     congr 1
     obtain ⟨r,hr⟩:=hp
     grind
   simp only[aaK] at hv;exact ⟨ba c,hc,qo,qo,by rw[hv,aav];rfl⟩
  have hjn:j<n:=qo
  obtain ⟨s,h1,h2,h3,h4⟩:=o.has j qo
  have hd:∀ k,k<=63->((T.take (63*n)++c).drop (63*j)).take k=(T.drop (63*j)).take k:=by
   intro k hk;rw[aca qo,abS (by rw[aan];omega),abA,ab5,acm qo]
  grind [kL]
 ·unfold kL;rw[aaa qo];exact o.no j qo
 unfold kL;rw[aaa qo];exact o.neg j hj
end
section
abbrev cM:=List UInt8
def kO(rs:List cM):List UInt8:=(rs.map dg).flatten
def tP(r:cM)(rs:List cM):kO (r::rs)=dg r++kO rs:=rfl
def eX(i:Nat)(rs:List cM):List UInt8:=aU i++kO rs
def AO{i m:Nat}{P more:List UInt8}(h:P++more=aU i)(hm:more≠[])(hi:i<18446744073709551616):(aM m (P,0)).2.2≠0:=by
 intro hc;obtain ⟨h1,h2⟩:=ql hc;have h3:=(qm m P 0).1;have e1:=fR (m:=18446744073709551615) (n:=i) [] hi qo;have e2:=fR (m:=18446744073709551615) (n:=(aM m (P,0)).1) ((aM m (P,0)).2.1++more) h3 qo;rw[<-aax,<-h1,h] at e2;rw[aaw,e2] at e1;have:=congrArg (fun x=>x.2.1) e1;simp at this;exact hm this.2
def AD{r P more:List UInt8}(h:P++more=dg r)(hm:more≠[])(hr:ba r<=512):(dw 512 (P,0)).2.2≠0:=by
 intro hc;obtain ⟨_,h1,h2⟩:=tF hc;have e1:=nX (most:=512) (x:=r) [] qo qo;have e2:=nX (most:=512) (x:=(dw 512 (P,0)).1) ((dw 512 (P,0)).2.1++more) qo (by have:((512:Int)).toNat=512:=rfl;omega);rw[<-aax,<-h1,h] at e2;rw[aaw,e2] at e1;have:=congrArg (fun x=>x.2.1) e1;simp at this;exact hm this.2
theorem AE(r:List UInt8):0<ba (dg r):=by
 grind [qa,rX]
def I8:(dw 512 ([],0)).2.2≠0:=AD (r:=[]) (P:=[]) (more:=dg []) rfl (by grind [AE]) ST
theorem AW:∀ (rs:List cM) (m f:Nat),(∀ r∈rs,ba r<=512)->ba ((kO rs).take m)<f ->
  ∃ j,j<=ba rs/\lp f ((kO rs).take m,0)=rs.take j/\ba (kO (rs.take j))<=m/\∀ k,k<=ba rs->ba (kO (rs.take k))<=m->k<=j
 | [],m,f,_,hf=>by
  cases f with
  | zero=>omega
  | succ f=>
   refine ⟨0,aac _,?_,aag _,fun k hk _=>hk⟩;rw[rJ,aaa]
   ·rfl
   show ¬(dw 512 (([]:List UInt8).take m,0)).2.2=0;simp[I8]
 | r::rs,m,f,hr,hf=>by
  cases f with
  | zero=>omega
  | succ f=>
   rw[tP] at hf ⊢;have hr512:=hr r ST
   by_cases hm:ba (dg r)<=m
   ·have ht:(dg r++kO rs).take m=dg r++(kO rs).take (m-ba (dg r)):=by
     rw[abO,aar hm]
    rw[ht] at hf ⊢;have hp:=AE r;rw[aaf] at hf;have e:=nX (most:=512) (x:=r) ((kO rs).take (m-ba (dg r))) qo qo;obtain ⟨j,h1,h2,h3,h4⟩:=AW rs (m-ba (dg r)) f (fun x hx=>hr x (by simp[hx])) qo;refine ⟨j+1,by simp;omega,?_,?_,fun k hk hkm=>?_⟩
    ·rw[rJ,e,aab rfl,h2]
     rfl
    ·rw[abf,tP,aaf];omega
    cases k with
    | zero=>omega
    | succ k=>
     rw[abf,tP,aaf] at hkm
     grind
   refine ⟨0,aag _,?_,aag _,fun k hk hkm=>?_⟩
   ·rw[abS qo,rJ,aaa]
    ·rfl
    exact AD (aaC m<|dg r) (by simp_all) hr512
   cases k with
   | zero=>omega
   | succ k=>
    rw[abf,tP,aaf] at hkm;omega
def rx(t:List UInt8):Option (Nat×List cM)->Prop
 | none=>(aM bP (t,0)).2.2≠0
 | some (i,rs)=>i<=bP/\(aM bP (t,0)).2.2=0/\(aM bP (t,0)).1=i/\lp (ba t+1) (aM bP (t,0)).2=rs
def j5(D:Dk)(n:Nat)(o:Option (Nat×List cM)):Prop:=rx (gM D n) o
def j5.void{D:Dk}{n:Nat}(h:j5 D n none)(W:Wl):lQ D n W=(W,true,true):=aab h
def j5.seg{D:Dk}{n i:Nat}{rs:List cM}(h:j5 D n (some (i,rs)))(W:Wl):lQ D n W=if (W.follows n i).2=false then ((W.follows n i).1,false,false) else ({ (W.follows n i).1 with recs:=(W.follows n i).1.recs++rs },true,false):=by
 obtain ⟨_,h1,h2,h3⟩:=h;unfold lQ;rw[h1,h2,h3]
 rfl
structure pS (f:SF) (s:Nat×List cM):Prop where
 fx:Fx f
 rd:rx (mS f) (some s)
def C8{i:Nat}{rs:List cM}(m:Nat)(hi:i<=bP)(hr:∀ r∈rs,ba r<=512):
  (m<ba (aU i)/\rx ((eX i rs).take m) none)\/(ba (aU i)<=m/\∃ j,j<=ba rs/\rx ((eX i rs).take m) (some (i,rs.take j))/\∀ k,k<=ba rs->ba (eX i (rs.take k))<=m->k<=j):=by
 have hi2:i<18446744073709551616:=by unfold bP at hi;omega
 unfold eX;rcases aaU m (ba (aU i)) with hm|hm
 ·refine .inl ⟨hm,?_⟩;rw[abS qo];exact AO (aaC m (aU i)) (by simp_all) hi2
 refine .inr ⟨hm,?_⟩;rw[abO,aar hm];have hu:=fR (m:=bP) (n:=i) ((kO rs).take (m-ba (aU i))) hi2 hi;obtain ⟨j,h1,h2,h3,h4⟩:=AW rs (m-ba (aU i)) (ba (aU i++(kO rs).take (m-ba (aU i)))+1) hr (by rw[aaf];omega);refine ⟨j,h1,⟨hi,by rw[hu],by rw[hu],by rw[hu,h2]⟩,fun k hk hkm=>h4 k hk ?_⟩;rw[aaf] at hkm;omega
def LG{i:Nat}{rs:List cM}(hi:i<=bP)(hr:∀ r∈rs,ba r<=512):rx (eX i rs) (some (i,rs)):=by
 rcases C8 (i:=i) (rs:=rs) (ba (eX i rs)) hi hr with ⟨h1,_⟩|⟨_,j,h2,h3,h4⟩
 ·grind [eX]
 have:=h4 (ba rs) (aac _) ST
 grind
def EQ:rx [] none:=AO (i:=0) (P:=[]) (more:=aU 0) rfl (by grind [rX]) qo
def zB.segC{f:SF}{i:Nat}{rs:List cM}(h:zB f (eX i rs))(hi:i<=bP)(hr:∀ r∈rs,ba r<=512):pS f (i,rs):=⟨h.fx,by rw[h.text];exact LG hi hr⟩
def pS.crash{f f':SF}{s:Nat×List cM}(o:pS f s)(p:Pk f f'):f'=f:=o.fx.pk p
end
section
theorem rU{κ ν:Type}[DecidableEq κ](k j:κ):∀ (m:List (κ×ν)),(m.map (·.1)).Nodup->aK j (eC k m)=if j=k then none else aK j m
 | [],_=>by simp[eC,aK]
 | (i,v)::m,h=>by
  simp only[aao,abk] at h
  by_cases e:k=i
  ·subst e;simp only[eC,if_true]
   by_cases e2:j=k
   ·subst e2;rw[aab rfl];exact iC.2 h.1
   simp_all [aK]
  simp only[eC,aaa e,aK]
  by_cases e2:j=i
  ·grind
  simp_all [rU]
theorem Cb{κ ν:Type}[DecidableEq κ](g:ν->ν)(j:κ):∀ (m:List (κ×ν)),aK j (m.map fun x=>(x.1,g x.2))=(aK j m).map g
 | []=>rfl
 | (i,v)::m=>by
  by_cases e:j=i
  ·simp[aK,e]
  simp[aK,e,Cb g j m]
def EL(D:Dk)(a:Int):D.stp.sec a=D.sec a:=rfl
def CV(D:Dk)(a n:Int)(b:List UInt8)(a':Int):(D.laid a n b).sec a'=if a'=a then kL (D.sec a) n (io (D.sec a n) b) else D.sec a':=by
 funext k
 unfold Dk.sec Dk.ar Dk.laid;dsimp only;rw[lH]
 by_cases e:a'=a
 ·subst e;rw[aab rfl,aab rfl];unfold kL;show aK k (cG n _ _)=_;rw[lH]
  rfl
 rw[aaa e,aaa e]
def CT(D:Dk)(a a':Int):({ D with areas:=D.synA a }:Dk).sec a'=if a'=a then iE (D.sec a) else D.sec a':=by
 funext k
 unfold Dk.sec Dk.ar Dk.synA;dsimp only;cases hg:aK a D.areas with
 | none=>
  dsimp only
  by_cases e:a'=a
  ·subst e;rw[aab rfl,hg]
   rfl
  rw[aaa e]
 | some l=>
  dsimp only;rw[lH]
  by_cases e:a'=a
  ·subst e;rw[aab rfl,aab rfl]
   grind [Cb,iE]
  rw[aaa e,aaa e]
def CU{D:Dk}(h:(D.areas.map (·.1)).Nodup)(a a':Int):({ D with areas:=eC a D.areas }:Dk).sec a'=if a'=a then fun _=>none else D.sec a':=by
 funext k
 unfold Dk.sec Dk.ar;dsimp only;rw[rU _ _ _ h]
 by_cases e:a'=a
 ·rw[aab e,aab e];rfl
 rw[aaa e,aaa e]
def vd(D E:Dk)(a:Int)(f:SF):Prop:=E.sec a=f/\∀ a',a'≠a->E.sec a'=D.sec a'
structure dH (n:Nat) (D:Dk):Prop where
 left : -1<=D.left
 dead:D.dead=false
 room:(n:Int)<=D.room
 keys:(D.areas.map (·.1)).Nodup
def dH.mono{n m:Nat}{D:Dk}(h:dH n D)(k:m<=n):dH m D:=⟨h.left,h.dead,by have:=h.room;omega,h.keys⟩
def HJ(n:Nat)(E:Dk)(c:Int):Prop:=(c=0/\dH n E)\/(c=30/\E.dead=true)
def yu{D:Dk}(h : -1<=D.left): -1<=D.stp.left:=by
 unfold Dk.stp;dsimp only;omega
def Kl{D:Dk}(h:(D.areas.map (·.1)).Nodup)(a n:Int)(b:List UInt8):((D.laid a n b).areas.map (·.1)).Nodup:=qd h
theorem dH.write{n:Nat}{D:Dk}(h:dH (n+1) D)(a i:Int)(b:List UInt8)(h0:0<=i)(hi:i<65536)(hb:ba b<=64):
  HJ n (D.write a i b).1 (D.write a i b).2/\vd D (D.write a i b).1 a (kL (D.sec a) i (io (D.sec a i) b)):=by
 have h3:=h.room;unfold Dk.write;rw[aaa (by rw[h.dead];decide),aaa qo,aaa qo];dsimp only;refine ⟨?_,?_,fun a' ha=>?_⟩
 ·cases hd:((D.laid a i b).stp).dead with
  | true=>exact .inr ⟨ST,hd⟩
  | false=>
   refine .inl ⟨ST,yu h.left,hd,?_,Kl h.keys a i b⟩;show (n:Int)<=(D.laid a i b).room
   grind [Dk.laid]
 ·rw[EL,CV,aab rfl]
 rw[EL,CV,aaa ha]
theorem dH.sync{n:Nat}{D:Dk}(h:dH n D)(a:Int):
  ((D.sync a).2=0/\dH n (D.sync a).1/\vd D (D.sync a).1 a (iE (D.sec a)))\/((D.sync a).2=30/\(D.sync a).1.dead=true/\∀ a',(D.sync a).1.sec a'=D.sec a'):=by
 unfold Dk.sync;rw[aaa (by rw[h.dead];decide)];cases hd:D.stp.dead with
 | true=>rw[aab rfl];exact .inr ⟨I,hd,fun _=>I⟩
 | false=>
  rw[aaa SU];refine .inl ⟨I,⟨yu h.left,hd,h.room,?_⟩,?_,fun a' ha=>?_⟩
  ·show ((D.synA a).map (·.1)).Nodup;rw[rO];exact h.keys
  ·show ({ D with areas:=D.synA a }:Dk).sec a=_;rw[CT,aab rfl]
  show ({ D with areas:=D.synA a }:Dk).sec a'=_;rw[CT,aaa ha]
theorem dH.free{n:Nat}{D:Dk}(h:dH n D)(a:Int):
  ((D.free a).2=0/\dH n (D.free a).1/\vd D (D.free a).1 a (fun _=>none))\/((D.free a).2=30/\(D.free a).1.dead=true/\∀ a',(D.free a).1.sec a'=D.sec a'):=by
 unfold Dk.free;rw[aaa (by rw[h.dead];decide)];cases hd:D.stp.dead with
 | true=>rw[aab rfl];exact .inr ⟨I,hd,fun _=>I⟩
 | false=>
  rw[aaa SU];refine .inl ⟨I,⟨yu h.left,hd,by have:=h.room;dsimp only;omega,(nC (k:=a) D.areas).map (·.1) |>.nodup h.keys⟩,?_,fun a' ha=>?_⟩
  ·show ({ D with areas:=eC a D.areas }:Dk).sec a=_;rw[CU h.keys,aab rfl]
  show ({ D with areas:=eC a D.areas }:Dk).sec a'=_;rw[CU h.keys,aaa ha]
theorem Ea:∀ (f:Nat) (o:gH) (D:Dk) (n:Nat) (T:List UInt8) (t0:Nat),dH (n+(ba o.rest / 63+1)) D->ba o.rest<63*f->o.full+ba o.rest / 63<65536->0<ba o.rest ->
  iG (D.sec (aJ o.num)) T t0->63*o.full<=ba T->ba T<=63*o.full+62->T.drop (63*o.full) <+: o.rest ->
  ∃ T1,iG ((wrL f o D).2.1.sec (aJ o.num)) T1 t0/\(∀ a',a'≠aJ o.num->(wrL f o D).2.1.sec a'=D.sec a')/\T <+: T1/\T1 <+: T.take (63*o.full)++o.rest/\HJ n (wrL f o D).2.1 (wrL f o D).2.2 /\
   ((wrL f o D).2.2=0->T1=T.take (63*o.full)++o.rest/\ba T1=63*(wrL f o D).1.full+ba (wrL f o D).1.rest/\(wrL f o D).1.rest=T1.drop (63*(wrL f o D).1.full)/\ba (wrL f o D).1.rest<=62)
 | 0,o,D,n,T,t0,_,hf,_,_,_,_,_,_=>by omega
 | f+1,o,D,n,T,t0,h,hf,hfu,hr0,hS,hT1,hT2,hp=>by
  have hcl:ba (o.rest.take (min (ba o.rest) 63))=min (ba o.rest) 63:=by simp
  have hce:UInt8.ofNat (min (ba o.rest) 63)::o.rest.take (min (ba o.rest) 63)=UInt8.ofNat (ba (o.rest.take (min (ba o.rest) 63)))::o.rest.take (min (ba o.rest) 63):=by rw[hcl]
  have hw:=dH.write (n:=n+ba o.rest / 63) (h.mono qo) (aJ o.num) o.full (UInt8.ofNat (min (ba o.rest) 63)::o.rest.take (min (ba o.rest) 63)) qo qo (by simp only[aaj,hcl];omega);have hpl:=hp.length_le;rw[aan] at hpl
  have hpc:T.drop (63*o.full) <+: o.rest.take (min (ba o.rest) 63):=by
   grind
  have hS1:=hS.write hT1 qo (c:=o.rest.take (min (ba o.rest) 63)) qo qo hpc;rw[<-hce,<-hw.2.1] at hS1;have htl:ba (T.take (63*o.full))=63*o.full:=by rw[aam];omega
  have hTpre:T <+: T.take (63*o.full)++o.rest.take (min (ba o.rest) 63):=by
   obtain ⟨r,hr⟩:=hpc
   grind [List.take_append_drop]
  have hpre:T.take (63*o.full)++o.rest.take (min (ba o.rest) 63) <+: T.take (63*o.full)++o.rest:=(List.prefix_append_right_inj _).2 (List.take_prefix _ _);rw[qi];generalize D.write (aJ o.num) o.full (UInt8.ofNat (min (ba o.rest) 63)::o.rest.take (min (ba o.rest) 63))=W at hw hS1;obtain ⟨hor,hat,hfr⟩:=hw
  by_cases hc:W.2≠0\/ba o.rest<63
  ·rw[aab hc];refine ⟨_,hS1,hfr,hTpre,hpre,?_,fun h0=>?_⟩
   ·rcases hor with ⟨g1,g2⟩|g
    ·exact .inl ⟨g1,g2.mono qo⟩
    exact .inr g
   grind
  rw[aaa hc];have hc:=not_or.1 hc;have h0:W.2=0:=Decidable.not_not.1 hc.1
  have hal:dH (n+ba o.rest / 63) W.1:=by
   rcases hor with ⟨_,g⟩|⟨g,_⟩
   all_goals omega
  have hl63:ba (T.take (63*o.full)++o.rest.take (min (ba o.rest) 63))=63*(o.full+1):=by rw[aaf,htl,hcl];omega
  by_cases he:ba o.rest=63
  ·rw[aab he];have ht:o.rest.take (min (ba o.rest) 63)=o.rest:=aar qo;refine ⟨_,hS1,hfr,hTpre,hpre,.inl ⟨I,hal.mono qo⟩,fun _=>⟨by rw[ht],qo,?_,ST⟩⟩
   simp_all
  rw[aaa he];have hrec:=Ea f { o with full:=o.full+1,rest:=o.rest.drop 63 } W.1 n (T.take (63*o.full)++o.rest.take (min (ba o.rest) 63)) t0 (hal.mono (by dsimp only;rw[aan];omega)) (by dsimp only;rw[aan];omega) (by dsimp only;rw[aan];omega) (by dsimp only;rw[aan];omega) hS1 ax ax (by grind);dsimp only at hrec;obtain ⟨T1,r1,r2,r3,r4,r5,r6⟩:=hrec
  have hU:(T.take (63*o.full)++o.rest.take (min (ba o.rest) 63)).take (63*(o.full+1))++o.rest.drop 63=T.take (63*o.full)++o.rest:=by
   rw[aar qo,aax,show min (ba o.rest) 63=63 by omega,aaC]
  rw[hU] at r4 r6;exact ⟨T1,r1,fun a' ha=>by rw[r2 a' ha,hfr a' ha],hTpre.trans r3,r4,r5,r6⟩
end
section
abbrev Vl:=Option (Nat×List cM)
def eQ:Vl->Nat×List cM->Nat×List cM
 | none,s=>s
 | some (f,r),s=>if s.1<f then s else (f,r.take (s.1-f)++s.2)
def jt:Vl->Nat->Prop
 | none,_=>True
 | some (f,r),i=>i<=f+ba r
def eW:Vl->List (Nat×List cM)->Vl
 | v,[]=>v
 | v,s::t=>eW (some (eQ v s)) t
def gi:Vl->List (Nat×List cM)->Prop
 | _,[]=>True
 | v,s::t=>jt v s.1/\s.1+ba s.2<=bP/\gi (some (eQ v s)) t
theorem tL:∀ (a b:List (Nat×List cM)) (v:Vl),eW v (a++b)=eW (eW v a) b
 | [],b,v=>rfl
 | s::a,b,v=>by simp[tL,eW]
theorem xZ:∀ (a b:List (Nat×List cM)) (v:Vl),gi v (a++b)↔gi v a/\gi (eW v a) b
 | [],b,v=>by simp[gi,eW]
 | s::a,b,v=>by simp[xZ,and_assoc,gi,eW]
theorem nZ{v:Vl}{s:Nat×List cM}(h:jt v s.1):(eQ v s).1+ba (eQ v s).2=s.1+ba s.2:=by
 cases v with
 | none=>rfl
 | some x=>
  grind [eQ,jt]
def CR{v:Vl}{s:Nat×List cM}:(eQ v s).1<=s.1:=by
 cases v with
 | none=>exact aac _
 | some x=>
  grind [eQ]
def ra(i:Nat)(a b:Nat×List cM):Prop:=a.1<=i/\b.1<=i/\a.1+ba a.2=b.1+ba b.2/\a.2.drop (i-a.1)=b.2.drop (i-b.1)
def Fr{i:Nat}{v u:Vl}{s:Nat×List cM}(hv:jt v s.1)(hu:jt u s.1)(hi:s.1<=i):ra i (eQ v s) (eQ u s):=by
 have e:∀ w:Vl,jt w s.1->(eQ w s).2.drop (i-(eQ w s).1)=s.2.drop (i-s.1):=by
  intro w hw;cases w with
  | none=>rfl
  | some x=>
   obtain ⟨f,r⟩:=x;unfold eQ;unfold jt at hw;dsimp only
   split
   ·rfl
   dsimp only;rw[acV,abh (by rw[aam];omega),aaL,aam]
   congr 1
   omega
 have h1:=CR (v:=v) (s:=s);have h2:=CR (v:=u) (s:=s);have h3:=nZ hv;have h4:=nZ hu;exact ⟨qo,qo,qo,by rw[e v hv,e u hu]⟩
def Mx{i:Nat}{a b:Nat×List cM}(h:ra i a b){s:Nat×List cM}(ha:jt (some a) s.1):jt (some b) s.1/\ra i (eQ (some a) s) (eQ (some b) s):=by
 obtain ⟨h1,h2,hf,h5⟩:=h;have hb:jt (some b) s.1:=by simp_all [jt]
 refine ⟨hb,?_⟩;rcases aaU i s.1 with hlt|hge
 ·have h6:=nZ ha;have h7:=nZ hb;obtain ⟨f,r⟩:=a;obtain ⟨g,q⟩:=b;unfold jt at ha hb;dsimp only at h1 h2 h5 ha hb hf;unfold eQ at h6 h7 ⊢;dsimp only at h6 h7 ⊢;rw[aaa qo] at h6 ⊢;rw[aaa qo] at h7 ⊢;refine ⟨h1,h2,qo,?_⟩;dsimp only;rw[aca (by rw[aam];omega),aca (by rw[aam];omega),abA,abA,h5]
  congr 2
  omega
 exact Fr ha hb hge
theorem D0{i:Nat}:∀ (l:List (Nat×List cM)) (a b:Nat×List cM),ra i a b->gi (some a) l->gi (some b) l/\∃ a' b',eW (some a) l=some a'/\eW (some b) l=some b'/\ra i a' b'
 | [],a,b,h,_=>⟨trivial,a,b,rfl,rfl,h⟩
 | s::l,a,b,h,ho=>by
  obtain ⟨o1,o2,o3⟩:=ho;obtain ⟨h1,h2⟩:=Mx h o1;obtain ⟨k1,k2⟩:=D0 l _ _ h2 o3;exact ⟨⟨h1,o2,k1⟩,k2⟩
theorem BU{i:Nat}:∀ (l:List (Nat×List cM)) (x:Nat×List cM) (u:Vl),(u=none\/∃ y,u=some y/\y.1+ba y.2=x.1+ba x.2)->gi (some x) l->(∃ s∈l,s.1<=i)->gi u l/\∃ a b,eW (some x) l=some a/\eW u l=some b/\ra i a b
 | [],x,u,_,_,h=>by obtain ⟨s,hs,_⟩:=h;simp at hs
 | s::l,x,u,hu,ho,hex=>by
  obtain ⟨o1,o2,o3⟩:=ho
  have hou:jt u s.1:=by
   rcases hu with rfl|⟨y,rfl,e⟩
   all_goals simp_all [jt]
  by_cases hs:s.1<=i
  ·have h2:=Fr o1 hou hs;obtain ⟨k1,k2⟩:=D0 l _ _ h2 o3;exact ⟨⟨hou,o2,k1⟩,k2⟩
  have hex2:∃ t∈l,t.1<=i:=by
   simp_all
  obtain ⟨k1,k2⟩:=BU l (eQ (some x) s) (some (eQ u s)) (.inr ⟨_,rfl,by rw[nZ o1,nZ hou]⟩) o3 hex2;exact ⟨⟨hou,o2,k1⟩,k2⟩
def VW(W:Wl)(v:Vl):Prop:=(v=none/\W.old=[])\/(W.old≠[]/\v=some (W.first,W.recs))
def JD{D:Dk}{n i:Nat}{rs:List cM}{W:Wl}{v:Vl}(hr:j5 D n (some (i,rs)))(hv:VW W v)(ho:jt v i):
  ∃ W',lQ D n W=(W',true,false)/\VW W' (some (eQ v (i,rs)))/\W'.old=W.old++[(n,i)]/\W'.op=W.op/\W'.next=W.next/\W'.code=W.code/\W'.first+ba W'.recs=i+ba rs:=by
 have he:=nZ (s:=(i,rs)) ho;rw[hr.seg W];rcases hv with ⟨rfl,hold⟩|⟨hold,rfl⟩
 ·have hF:W.follows n i=({ W with first:=i,recs:=[],old:=W.old++[(n,i)] },true):=by simp_all [Wl.follows]
  rw[hF,aaa ST];exact ⟨_,I,.inr ⟨ST,by simp[eQ]⟩,I,I,I,I,ST⟩
 by_cases hlt:i<W.first
 ·have hF:W.follows n i=({ W with first:=i,recs:=[],old:=W.old++[(n,i)] },true):=by unfold Wl.follows;rw[aab (.inr hlt)]
  rw[hF,aaa ST];exact ⟨_,I,.inr ⟨ST,by simp[eQ,hlt]⟩,I,I,I,I,ST⟩
 unfold jt at ho;dsimp only at ho;have hl0:ba W.old≠0:=by simp_all
 have hF:W.follows n i=({ W with recs:=W.recs.take (i-W.first),old:=W.old++[(n,i)] },true):=by
  grind [Wl.follows]
 rw[hF,aaa ST];refine ⟨_,I,.inr ⟨ST,by simp[eQ,hlt]⟩,I,I,I,I,?_⟩
 grind
def ik(fr:Nat)(l:List (Nat×Option (Nat×List cM))):List (Nat×Nat×List cM):=l.filterMap fun x=>if x.1<fr then none else x.2.map fun s=>(x.1,s.1,s.2)
def wg(fr:Nat)(x:Nat×Option (Nat×List cM))(l:List (Nat×Option (Nat×List cM))):ik fr (x::l)=(match (if x.1<fr then none else x.2.map fun s=>(x.1,s.1,s.2)) with
  | none=>ik fr l
  | some y=>y::ik fr l):=by
 unfold ik
 grind
theorem tI{D:Dk}{fr:Nat}:∀ (l:List (Nat×Option (Nat×List cM))) (W:Wl) (v:Vl) (g:List Nat),(∀ x∈l,fr<=x.1->j5 D x.1 x.2)->VW W v->W.first+ba W.recs<=bP->gi v ((ik fr l).map (·.2)) ->
  ∃ W' g',i4 D fr (l.map (·.1)) W g=(W',g',true)/\VW W' (eW v ((ik fr l).map (·.2)))/\W'.old=W.old++(ik fr l).map (fun s=>(s.1,s.2.1))/\W'.op=W.op/\W'.next=W.next/\W'.code=W.code/\(ik fr l=[]->W'.first=W.first/\W'.recs=W.recs) /\
   ∀ n,n∈g'↔n∈g\/∃ x∈l,x.1=n/\(n<fr\/x.2=none)
 | [],W,v,g,_,hv,_,_=>⟨W,g,rfl,hv,by simp[ik],rfl,rfl,rfl,fun _=>⟨rfl,rfl⟩,fun n=>by simp⟩
 | (n,o)::l,W,v,g,hr,hv,ht,ho=>by
  have hr':∀ x∈l,fr<=x.1->j5 D x.1 x.2:=fun x hx=>hr x (by simp[hx]);rw[wg] at ho ⊢;rw[aao];unfold i4
  have skip:((n<fr\/o=none))->fT D fr n W=(W,true,true):=by
   intro h;unfold fT
   by_cases hn:n<fr
   ·rw[aab hn]
   rw[aaa hn];rcases h with h|h
   ·omega
   have:=hr (n,o) ST qo;rw[h] at this;exact this.void W
  by_cases hs:n<fr\/o=none
  ·have hno:(if n<fr then none else o.map fun s=>(n,s.1,s.2))=(none:Option (Nat×Nat×List cM)):=by
    grind
   dsimp only at ho ⊢;rw[hno] at ho ⊢;dsimp only at ho ⊢;obtain ⟨W',g',h1,h2,h3,h4,h5,h6,h7,h8⟩:=tI l W v (g++[n]) hr' hv ht ho;rw[skip hs];rw[aaa (by simp_all)];refine ⟨W',g',by simpa using h1,h2,h3,h4,h5,h6,h7,fun m=>?_⟩;rw[h8 m];simp only[aal,aau,List.not_mem_nil,or_false]
   constructor
   ·rintro ((h|h)|⟨x,hx,h⟩)
    ·exact .inl h
    ·simp_all
    exact .inr ⟨x,.inr hx,h⟩
   grind
  have hs:=not_or.1 hs;obtain ⟨⟨i,rs⟩,rfl⟩:=Option.ne_none_iff_exists'.1 hs.2;dsimp only at ho ⊢;rw[aaa hs.1] at ho ⊢;simp only[aa2,aao] at ho ⊢;obtain ⟨ho1,ho2,ho3⟩:=ho;obtain ⟨W1,k1,k2,k3,k4,k5,k6,k7⟩:=JD (hr (n,some (i,rs)) ST qo) hv ho1;have hst:fT D fr n W=(W1,true,false):=by unfold fT;rw[aaa hs.1,k1]
  obtain ⟨W',g',h1,h2,h3,h4,h5,h6,h7,h8⟩:=tI l W1 _ g hr' k2 (by rw[k7];exact ho2) ho3;rw[hst];rw[aaa (by simp_all)];refine ⟨W',g',by simpa using h1,h2,?_,h4.trans k4,h5.trans k5,h6.trans k6,fun h=>(by cases h),fun m=>?_⟩
  all_goals grind
theorem sB{a b:Nat}(h:a≠b):aJ a≠aJ b:=fun e=>h (pr e)
def Lf{D:Dk}{k:Nat}(h:cY k D)(hk:(D.areas.map (·.1)).Nodup)(g:List Nat)(n:Nat):
  (gP D g n).2=0/\cY k (gP D g n).1/\((gP D g n).1.areas.map (·.1)).Nodup/\vd D (gP D g n).1 (aJ n) (if n∈g then fun _=>none else iE (D.sec (aJ n)))/\∀ a∈(gP D g n).1.areas.map (·.1),a∈D.areas.map (·.1)/\(n∈g->a≠aJ n):=by
 have ha:dH 0 D:=⟨by rw[h.left];decide,h.dead,by have:=h.room;omega,hk⟩;unfold gP
 by_cases hn:n∈g
 ·rw[aab hn,aab hn];have h1:=h.free (aJ n);rcases ha.free (aJ n) with ⟨_,g2,g3⟩|⟨g1,_⟩
  ·refine ⟨h1.1,h1.2,g2.keys,g3,fun a haa=>?_⟩;unfold Dk.free at haa;rw[aaa (by rw[h.dead];decide),aaa (by rw[h.stp.dead];decide)] at haa;have haa:a∈(eC (aJ n) D.areas).map (·.1):=haa;refine ⟨((nC (k:=aJ n) D.areas).map (·.1)).subset haa,fun _ e=>?_⟩;subst e;have:=rU (aJ n) (aJ n) D.areas hk;rw[aab rfl] at this;exact iC.1 this haa
  omega
 rw[aaa hn,aaa hn];have h1:=h.sync (aJ n);rcases ha.sync (aJ n) with ⟨_,g2,g3⟩|⟨g1,_⟩
 ·refine ⟨h1.1,h1.2,g2.keys,g3,fun a haa=>?_⟩;unfold Dk.sync at haa;rw[aaa (by rw[h.dead];decide),aaa (by rw[h.stp.dead];decide)] at haa
  simp_all [rO]
 omega
theorem wx(g:List Nat):∀ (l:List Nat) (D:Dk) (k:Nat),l.Nodup->cY k D->(D.areas.map (·.1)).Nodup ->
  (wsettle g l D).2=0/\cY k (wsettle g l D).1/\((wsettle g l D).1.areas.map (·.1)).Nodup/\(∀ n∈l,(wsettle g l D).1.sec (aJ n)=if n∈g then fun _=>none else iE (D.sec (aJ n)))/\(∀ a,(∀ n∈l,a≠aJ n)->(wsettle g l D).1.sec a=D.sec a) /\
   ∀ a∈(wsettle g l D).1.areas.map (·.1),a∈D.areas.map (·.1)/\∀ n∈l,n∈g->a≠aJ n
 | [],D,k,_,h,hk=>⟨rfl,h,hk,ST,fun _ _=>rfl,fun a ha=>⟨ha,ST⟩⟩
 | n::r,D,k,hn,h,hk=>by
  have hn:=abk.1 hn;obtain ⟨h1,h2,h3,⟨h4,h5⟩,h6⟩:=Lf h hk g n;obtain ⟨g1,g2,g3,g4,g5,g6⟩:=wx g r (gP D g n).1 k hn.2 h2 h3;unfold wsettle;rw[aab h1];refine ⟨g1,g2,g3,fun m hm=>?_,fun a ha=>?_,fun a ha=>?_⟩
  ·rcases aau.1 hm with rfl|hm
   all_goals grind [sB]
  all_goals grind
end
section
structure Sg where
 num:Nat
 idx:Nat
 recs:List cM
def Sg.v(s:Sg):Nat×List cM:=(s.idx,s.recs)
def Sg.T(s:Sg):List UInt8:=eX s.idx s.recs
structure Og where
 num:Nat
 idx:Nat
 recs:List cM
 T:List UInt8
 t0:Nat
structure iI (E:Dk) (S:List Sg) (op:Option Og):Prop where
 keys:∀ a∈E.areas.map (·.1),a % 4=1->(∃ s∈S,a=aJ s.num)\/∃ o,op=some o/\a=aJ o.num
 asc:S.Pairwise fun a b=>a.num<b.num
 bd:∀ s∈S,s.idx<=bP/\∀ r∈s.recs,ba r<=512
 cl:∀ s∈S,pS (E.sec (aJ s.num)) s.v
 op:∀ o,op=some o->(∀ s∈S,s.num<o.num)/\o.idx<=bP/\(∀ r∈o.recs,ba r<=512)/\iG (E.sec (aJ o.num)) o.T o.t0/\o.T <+: eX o.idx o.recs/\ba o.T<=63*65536
structure Cr (D D':Dk):Prop where
 left:D'.left = -1
 dead:D'.dead=false
 pk:∀ a,Pk (D.sec a) (D'.sec a)
 keys:∀ k∈D'.areas.map (·.1),k∈D.areas.map (·.1)
 nd:(D'.areas.map (·.1)).Nodup
 ne:∀ a,a∈D'.areas.map (·.1)↔∃ n x,D'.sec a n=some x
 pos:∀ k∈D'.areas.map (·.1),0<=k
structure rA (D D':Dk):Prop where
 left:D'.left = -1
 dead:D'.dead=false
 pk:∀ n,Pk (D.sec (aJ n)) (D'.sec (aJ n))
 keys:∀ n,aJ n∈D'.areas.map (·.1)->aJ n∈D.areas.map (·.1)
 nd:(D'.areas.map (·.1)).Nodup
 ne:∀ n,aJ n∈D'.areas.map (·.1)↔∃ k x,D'.sec (aJ n) k=some x
 pos:∀ k∈D'.areas.map (·.1),0<=k
def Cr.w{D D':Dk}(h:Cr D D'):rA D D':=⟨h.left,h.dead,fun n=>h.pk _,fun n=>h.keys _,h.nd,fun n=>h.ne _,h.pos⟩
def Cr.liv{D D':Dk}(h:Cr D D')(hr:0<=D'.room):cY 0 D':=⟨h.left,h.dead,qo⟩
def A3{f:SF}(h:∀ n,f n=none):mS f=[]:=rM (h _) _
def JI{f:SF}(h:f 0=none):mS f=[]:=rM (n:=0) h _
def pS.some0{f:SF}{s:Nat×List cM}(h:pS f s):∃ x,f 0=some x:=by
 cases hf:f 0 with
 | some x=>simp
 | none=>
  have h1:=h.rd;rw[JI hf] at h1;exact absurd h1.2.1 EQ
def qF(o:Og):Option (Nat×List cM)->Prop
 | none=>o.t0<ba (aU o.idx)
 | some (i,rs)=>i=o.idx/\∃ j,j<=ba o.recs/\rs=o.recs.take j/\∀ k,k<=ba o.recs->ba (eX o.idx (o.recs.take k))<=o.t0->k<=j
def MZ{D D':Dk}{S:List Sg}{op:Option Og}(d:iI D S op)(c:rA D D')(o:Og)(ho:op=some o):∃ res,qF o res/\j5 D' o.num res/\(aJ o.num∉D'.areas.map (·.1)->res=none):=by
 obtain ⟨h1,h2,h3,h4,h5,h6⟩:=d.op o ho;obtain ⟨m,m1,m2,m3⟩:=h4.crash h6 (c.pk o.num)
 have hTt:gM D' o.num=(eX o.idx o.recs).take m:=by
  rw[uh,m3];obtain ⟨r,hr⟩:=h5
  grind
 by_cases hk:aJ o.num∈D'.areas.map (·.1)
 ·rcases C8 (i:=o.idx) (rs:=o.recs) m h2 h3 with ⟨g1,g2⟩|⟨g1,j,g2,g3,g4⟩
  ·exact ⟨none,by unfold qF;omega,by unfold j5;rw[hTt];exact g2,fun _=>I⟩
  exact ⟨some (o.idx,o.recs.take j),⟨I,j,g2,I,fun k hk1 hk2=>g4 k hk1 qo⟩,by unfold j5;rw[hTt];exact g3,fun h=>absurd hk h⟩
 have hn:∀ n,D'.sec (aJ o.num) n=none:=by
  intro n;cases hx:D'.sec (aJ o.num) n with
  | none=>rfl
  | some x=>exact absurd ((c.ne _).2 ⟨n,x,hx⟩) hk
 refine ⟨none,?_,by simp_all [uh,A3,EQ,j5],fun _=>I⟩;rw[A3 hn] at m3;have:=congrArg List.length m3
 grind [rX,qF]
theorem uM:∀ {a b:List Nat},a.Pairwise (· < ·)->b.Pairwise (· < ·)->(∀ n,n∈a↔n∈b)->a=b
 | [],[],_,_,_=>rfl
 | [],y::b,_,_,h=>by have:=(h y).2 ST;simp at this
 | x::a,[],_,_,h=>by have:=(h x).1 ST;simp at this
 | x::a,y::b,ha,hb,h=>by
  have ha:=aaE.1 ha;have hb:=aaE.1 hb
  have hxy:x=y:=by
   rcases aau.1 ((h x).1 ST) with h1|h1
   ·exact h1
   rcases aau.1 ((h y).2 ST) with h2|h2
   all_goals grind
  subst hxy
  congr 1
  refine uM ha.2 hb.2 fun n=>?_
  grind
def BG{D:Dk}(h:(D.areas.map (·.1)).Nodup)(h0:∀ k∈D.areas.map (·.1),0<=k):(cZ (a8 D)).Pairwise (· < ·):=by
 have hp:∀ k∈a8 D,k∈D.areas.map (·.1):=fun k hk=>(fb _).mem_iff.1 hk;have h1:(cZ (a8 D)).Nodup:=rF ((fb _).symm.nodup h) (fun k hk=>h0 k (hp k hk))
 have h2:(cZ (a8 D)).Pairwise (· <= ·):=by
  unfold cZ;rw[abp];refine ((qj (D.areas.map (·.1))).filter _).imp fun {a b} hab=>?_;omega
 have h3:=abJ.1 h1;exact (h2.and h3).imp fun ⟨a,b⟩=>by omega
def pn{D:Dk}(h0:∀ k∈D.areas.map (·.1),0<=k)(n:Nat):n∈cZ (a8 D)↔aJ n∈D.areas.map (·.1):=by
 have hp:∀ k,k∈a8 D↔k∈D.areas.map (·.1):=fun k=>(fb _).mem_iff
 constructor
 ·grind [BF,aJ]
 intro h;unfold cZ;refine aak.2 ⟨aJ n,abb.2 ⟨(hp _).2 h,by simp[aJ]⟩,by unfold aJ;omega⟩
def JB{D D':Dk}{S:List Sg}{op:Option Og}(d:iI D S op)(c:rA D D'):
  ∃ l:List (Nat×Option (Nat×List cM)),cZ (a8 D')=l.map (·.1)/\(∀ x∈l,j5 D' x.1 x.2) /\
   ((op=none/\l=S.map fun s=>(s.num,some s.v))\/∃ o res,op=some o/\qF o res/\(l=(S.map fun s=>(s.num,some s.v))++[(o.num,res)]\/(l=(S.map fun s=>(s.num,some s.v))/\res=none))):=by
 have hcl:∀ s∈S,D'.sec (aJ s.num)=D.sec (aJ s.num):=fun s hs=>(d.cl s hs).crash (c.pk _)
 have hin:∀ s∈S,aJ s.num∈D'.areas.map (·.1):=fun s hs=>by
  obtain ⟨x,hx⟩:=(d.cl s hs).some0;exact (c.ne _).2 ⟨0,x,by rw[hcl s hs];exact hx⟩
 have hR:∀ s∈S,j5 D' s.num (some s.v):=fun s hs=>by unfold j5;rw[uh,hcl s hs];exact (d.cl s hs).rd
 have hasc:=BG c.nd c.pos
 have hSasc:((S.map fun s=>(s.num,some s.v)).map (·.1):List Nat).Pairwise (· < ·):=by
  rw[aa5,abp];exact d.asc.imp fun h=>h
 have hSmem:∀ n,n∈((S.map fun s=>(s.num,some s.v)).map (·.1):List Nat)↔∃ s∈S,s.num=n:=by
  simp
 have hRl:∀ x∈(S.map fun s=>(s.num,some s.v)),j5 D' x.1 x.2:=by
  simp_all
 cases hop:op with
 | none=>
  refine ⟨_,uM hasc hSasc fun n=>?_,hRl,.inl ⟨I,I⟩⟩;rw[pn c.pos,hSmem]
  constructor
  ·intro h;rcases d.keys _ (c.keys _ h) (by simp[aJ]) with ⟨s,hs,e⟩|⟨o,ho,_⟩
   all_goals grind [pr]
  grind
 | some o=>
  obtain ⟨res,t1,t2,t3⟩:=MZ d c o hop;obtain ⟨hlt,_⟩:=d.op o hop
  by_cases hk:aJ o.num∈D'.areas.map (·.1)
  ·refine ⟨(S.map fun s=>(s.num,some s.v))++[(o.num,res)],uM hasc ?_ fun n=>?_,?_,.inr ⟨o,res,I,t1,.inl I⟩⟩
   ·grind
   ·rw[pn c.pos,aba,aal,hSmem]
    constructor
    ·intro h;rcases d.keys _ (c.keys _ h) (by simp[aJ]) with ⟨s,hs,e⟩|⟨o',ho,e⟩
     all_goals grind [pr]
    grind
   grind
  refine ⟨_,uM hasc hSasc fun n=>?_,hRl,.inr ⟨o,res,I,t1,.inr ⟨I,t3 hk⟩⟩⟩;rw[pn c.pos,hSmem]
  constructor
  ·intro h;rcases d.keys _ (c.keys _ h) (by simp[aJ]) with ⟨s,hs,e⟩|⟨o',ho,e⟩
   all_goals grind [pr]
  grind
end
section
def nG(op:Option Og)(t:Option (Nat×List cM)):Prop:=match op with
 | none=>t=none
 | some o=>qF o t
def kx(op:Option Og)(t:Option (Nat×List cM)):List Sg:=match op,t with
 | some o,some (i,rs)=>[⟨o.num,i,rs⟩]
 | _,_=>[]
theorem EC{op:Option Og}{t:Option (Nat×List cM)}{b:Sg}(h:b∈kx op t):∃ o,op=some o/\b.num=o.num:=by
 cases op with
 | none=>simp[kx] at h
 | some o=>cases t with
  | none=>simp[kx] at h
  | some x=>
   obtain ⟨i,rs⟩:=x;simp only[kx,aaK] at h;exact ⟨o,I,by rw[h]⟩
theorem rK{fr:Nat}:∀ (S:List Sg),(∀ s∈S,fr<=s.num)->ik fr (S.map fun s=>(s.num,some s.v))=S.map fun s=>(s.num,s.idx,s.recs)
 | [],_=>rfl
 | s::S,h=>by
  rw[aao,wg];dsimp only;rw[aaa (by have:=h s ST;omega)];simp only[aa2,aao];rw[rK S (fun x hx=>h x (by simp[hx]))]
  rfl
theorem A9(fr:Nat)(a b:List (Nat×Option (Nat×List cM))):ik fr (a++b)=ik fr a++ik fr b:=by simp[ik]
def A8{fr:Nat}{l:List (Nat×Option (Nat×List cM))}(h:∀ x∈l,x.1<fr):ik fr l=[]:=by
 unfold ik;rw[List.filterMap_eq_nil_iff];intro x hx;rw[aab (h x hx)]
def NT{f:SF}(h:Fx f):iE f=f:=(h.pk (f':=iE f) (by
 intro n;unfold lZ iE;cases hf:f n with
 | none=>rfl
 | some s=>
  obtain ⟨h1,v,h2⟩:=h n s hf
  simp_all [kM]))
def CJ{l:List Int}{M:Nat}(h:∀ n∈cZ l,n<M):jA l<=M:=by
 have:∀ (q:List Nat) (z:Nat),z<=M->(∀ n∈q,n<M)->q.foldl (fun _ n=>n+1) z<=M:=by
  intro q
  induction q with
  | nil=>simp
  | cons a q ih=>grind
 exact this _ 0 (aag _) h
structure H5 (W:Wl) (E:Dk) (S:List Sg) (fr M:Nat):Prop where
 op:W.op=none
 code:W.code=0
 old:W.old=S.map fun s=>(s.num,s.idx)
 lt:∀ s∈S,s.num<W.next
 frn:fr<=W.next
 next:W.next<=M
 seg:iI E S none
 vw:VW W (eW none (S.map Sg.v))
def Iy{D F:Dk}{S:List Sg}{op:Option Og}(d:iI D S op)(c:rA D F)(hr:0<=F.room){fr first M:Nat}(hfirst:first<=bP)(hM:M<=eV)(hfM:fr<=M)
  (hS:∀ s∈S,s.num<M) (ho:∀ o,op=some o->o.num<M)
  (hfr:((∀ s∈S,fr<=s.num)/\(∀ o,op=some o->fr<=o.num)/\∀ t,nG op t->gi none (S.map Sg.v++t.toList))\/((∀ s∈S,s.num<fr)/\∀ o,op=some o->o.num<fr)):
  ∃ S' W E,((∃ t,nG op t/\S'=S++kx op t/\(∀ s∈S,fr<=s.num)/\∀ o,op=some o->fr<=o.num)\/(S'=[]/\(∀ s∈S,s.num<fr)/\∀ o,op=some o->o.num<fr))/\eF F fr first=(some W,E,0)/\H5 W E S' fr M/\(S'=[]->W.first=first/\W.recs=[])/\cY 0 E/\(E.areas.map (·.1)).Nodup /\
   (∀ a,a % 4≠1->E.sec a=F.sec a)/\∀ a∈E.areas.map (·.1),a∈F.areas.map (·.1):=by
 obtain ⟨l,hl,hR,hsh⟩:=JB d c;have hliv:cY 0 F:=⟨c.left,c.dead,qo⟩
 have hlM:∀ n∈cZ (a8 F),n<M:=by
  intro n hn;rw[pn c.pos] at hn;rcases d.keys _ (c.keys n hn) (by simp[aJ]) with ⟨s,hs,e⟩|⟨o,h1,e⟩
  all_goals grind [pr]
 have hnx:=CJ hlM;have hnd:=rF ((fb _).symm.nodup c.nd) (fun k hk=>c.pos k ((fb _).mem_iff.1 hk))
 obtain ⟨S',hS',hseg,hex,hsub⟩:∃ S':List Sg,((∃ t,nG op t/\S'=S++kx op t/\(∀ s∈S,fr<=s.num)/\∀ o,op=some o->fr<=o.num)\/(S'=[]/\(∀ s∈S,s.num<fr)/\∀ o,op=some o->o.num<fr))/\ik fr l=(S'.map fun s=>(s.num,s.idx,s.recs))/\gi none (S'.map Sg.v) /\
   (∀ s∈S',(s∈S\/∃ o t,op=some o/\qF o (some t)/\s=⟨o.num,t.1,t.2⟩)/\fr<=s.num/\(s.num,some s.v)∈l):=by
  rcases hfr with ⟨h1,h2,h3⟩|⟨h1,h2⟩
  ·rcases hsh with ⟨hop,rfl⟩|⟨o,res,hop,ht,hsh⟩
   ·refine ⟨S,.inl ⟨none,by unfold nG;rw[hop],by simp[kx],h1,h2⟩,rK S h1,?_,fun s hs=>⟨.inl hs,h1 s hs,aak.2 ⟨s,hs,rfl⟩⟩⟩
    simp_all [nG]
   have hto:nG op res:=by unfold nG;rw[hop];exact ht
   have hk:=h3 res hto;have hemp:∀ res':Option (Nat×List cM),res'=none->gi none (S.map Sg.v++res'.toList)->gi none (S.map Sg.v):=fun r h1 h2=>by subst h1;simpa using h2
   rcases hsh with rfl|⟨rfl,rfl⟩
   ·cases res with
    | none=>
     refine ⟨S,.inl ⟨none,hto,by simp[kx],h1,h2⟩,?_,hemp none I hk,fun s hs=>⟨.inl hs,h1 s hs,aal.2 (.inl<|aak.2 ⟨s,hs,I⟩)⟩⟩
     grind [A9,rK,ik]
    | some t=>
     obtain ⟨i,rs⟩:=t;refine ⟨S++[⟨o.num,i,rs⟩],.inl ⟨some (i,rs),hto,by simp[kx,hop],h1,h2⟩,?_,?_,fun s hs=>?_⟩
     ·rw[A9,rK S h1,wg]
      simp_all [aaa,ik]
     ·simpa[Sg.v] using hk
     rcases aal.1 hs with hs|hs
     ·grind
     simp only[aaK] at hs;subst hs;exact ⟨.inr ⟨o,(i,rs),hop,ht,I⟩,h2 o hop,aal.2 (.inr (by simp[Sg.v]))⟩
   exact ⟨S,.inl ⟨none,hto,by simp[kx],h1,h2⟩,rK S h1,hemp none I hk,fun s hs=>⟨.inl hs,h1 s hs,aak.2 ⟨s,hs,I⟩⟩⟩
  refine ⟨[],.inr ⟨I,h1,h2⟩,A8 ?_,trivial,ST⟩
  grind
 have hw0:VW (eM fr first (a8 F)) none:=.inl ⟨rfl,rfl⟩;have hv2:(ik fr l).map (·.2)=S'.map Sg.v:=by rw[hseg,aa5];rfl
 obtain ⟨W,g,r1,r2,r3,r4,r5,r6,r7,r8⟩:=tI (D:=F) (fr:=fr) l (eM fr first (a8 F)) none [] (fun x hx _=>hR x hx) hw0 (by simp[eM];omega) (by rw[hv2];exact hex);rw[hv2] at r2;obtain ⟨s1,s2,s3,s4,s5,s6⟩:=wx g (cZ (a8 F)) F 0 hnd hliv c.nd;have hnw:(eM fr first (a8 F)).next<=M:=by simp_all [Nat.max_le,eM]
 have hold:W.old=S'.map fun s=>(s.num,s.idx):=by
  rw[r3,hseg,aa5]
  rfl
 have hkeep:∀ s∈S',s.num∈cZ (a8 F)/\s.num∉g:=by
  intro s hs;obtain ⟨_,h2,h3⟩:=hsub s hs;refine ⟨by grind,fun hg=>?_⟩;rcases (r8 s.num).1 hg with h|⟨x,hx,h4,h5⟩
  ·simp at h
  have hx2:x=(s.num,some s.v):=by
   have hnl:(l.map (·.1)).Nodup:=by rw[<-hl];exact hnd
   have:∀ (q:List (Nat×Option (Nat×List cM))),(q.map (·.1)).Nodup->∀ a∈q,∀ b∈q,a.1=b.1->a=b:=by
    intro q
    induction q with
    | nil=>simp
    | cons y q ih=>
     intro hn a ha b hb e;simp only[aao,abk] at hn;rcases aau.1 ha with h1|h1
     all_goals grind
   exact this l hnl x hx _ h3 h4
  grind
 have hgone:∀ x∈l,(∀ s∈S',s.num≠x.1)->x.1∈g:=by
  intro x hx hn;refine (r8 x.1).2 (.inr ⟨x,hx,I,?_⟩)
  by_cases h1:x.1<fr
  ·exact .inl h1
  right
  cases h2:x.2 with
  | none=>rfl
  | some t=>
   exfalso
   have:(x.1,t.1,t.2)∈ik fr l:=by
    grind [ik]
   grind
 have hcl:∀ s∈S',(wsettle g (cZ (a8 F)) F).1.sec (aJ s.num)=F.sec (aJ s.num)/\pS (F.sec (aJ s.num)) s.v:=by
  intro s hs;obtain ⟨h1,h2,h3⟩:=hsub s hs;have h4:=hkeep s hs;have hfx:Fx (F.sec (aJ s.num)):=(c.pk s.num).fx;refine ⟨by rw[s4 s.num h4.1,aaa h4.2,NT hfx],hfx,?_⟩
  grind [uh,j5]
 refine ⟨S',W,(wsettle g (cZ (a8 F)) F).1,hS',?_,⟨r4,r6,hold,?_,by rw[r5];unfold eM;exact Nat.le_max_right _ _,by rw[r5];exact hnw,?_,r2⟩,fun h=>r7 (by rw[hseg,h];rfl),s2,s3,fun a ha=>s5 a (fun n _ e=>ha (by rw[e];simp[aJ])),fun a ha=>(s6 a ha).1⟩
 ·unfold eF;rw[aaa (by rw[c.dead];decide),aaa qo,aaa qo,hl,r1,aaa ST,<-hl,aaa (by rw[s1];simp)]
 ·intro s hs;rw[r5];have h4:=(hkeep s hs).1;have:=wX (l:=a8 F) (qj _) s.num h4
  grind [eM]
 refine ⟨fun a ha h1=>.inl ?_,?_,fun s hs=>?_,fun s hs=>by rw[(hcl s hs).1];exact (hcl s hs).2,fun o h=>by cases h⟩
 ·obtain ⟨k1,k2⟩:=s6 a ha;have ha0:=c.pos a k1;have hseg:a=aJ (a.toNat / 4):=by unfold aJ;omega
  have hin:a.toNat / 4∈cZ (a8 F):=by rw[pn c.pos,<-hseg];exact k1
  grind
 ·have hasc:=BG c.nd c.pos;rcases hS' with ⟨t,ht,rfl,_⟩|⟨rfl,_⟩
  ·rw[aby];refine ⟨d.asc,?_,fun a ha b hb=>?_⟩
   ·unfold kx
    split <;> simp
   obtain ⟨o,h1,h2⟩:=EC hb;rw[h2];exact (d.op o h1).1 a ha
  simp
 rcases (hsub s hs).1 with h|⟨o,t,h1,h2,h3⟩
 ·exact d.bd s h
 obtain ⟨_,g2,g3,_⟩:=d.op o h1;obtain ⟨k1,j,k2,k3,_⟩:=h2
 grind
end
section
def jm(f:SF)(i:Nat):Nat×List UInt8:=match ia f i with
 | none=>(0,[])
 | some b=>j9 b i
def dN(f:SF):df:=(df.pick ⟨0,[]⟩ (jm f 0)).pick (jm f 1)
def I0(b:List UInt8)(i:Nat):(j9 b i).1=0\/(j9 b i).1 % 2=i:=by
 unfold j9
 grind
def A5(f:SF)(i:Nat):(jm f i).1=0\/(jm f i).1 % 2=i:=by
 unfold jm
 split
 ·omega
 simp[I0]
def Iz{n:Nat}{v:List UInt8}{i:Nat}(hv:ba v<=48)(hn:n<18446744073709551616)(hi:n % 2=i):j9 (du n v) i=(n,v):=by
 have e0:du n v=fP 8 n++(UInt8.ofNat (ba v)::(v++(List.replicate (51-ba v) 0++fP 4 (lf (jp n v)).toNat))):=by
  simp[du,jp]
 have e1:(du n v).getD 8 0=UInt8.ofNat (ba v):=by
  rfl
 have e2:(du n v).take 8=fP 8 n:=by rfl
 have e3:(UInt8.ofNat (ba v)).toNat=ba v:=by simp;omega
 have e4:((du n v).drop 9).take (ba v)=v:=by
  rw[e0,acV,abh (by simp[nY]),nY,aaL,show 9-8=1 from rfl,List.drop_succ_cons,abl,abS (aac _),aav]
 have e5:dT (fP 8 n)=n:=Eu 8 n qo;unfold j9
 grind
def J7{n:Nat}{v:List UInt8}(hv:ba v<=48):fE (du n v)=du n v:=by
 unfold fE;rw[qc hv]
 simp
def J5{a b:Nat×List UInt8}{n:Nat}{v:List UInt8}(ha:a.1=0\/a.1 % 2=0)(hb:b.1=0\/b.1 % 2=1)(hn:n=((df.pick ⟨0,[]⟩ a).pick b).num+1)(he:n % 2=0):
  (df.pick ⟨0,[]⟩ (n,v)).pick b=⟨n,v⟩/\∀ x:Nat×List UInt8,x.1=0->(df.pick ⟨0,[]⟩ x).pick b=(df.pick ⟨0,[]⟩ a).pick b:=by
 grind [df.pick]
def LH{a b:Nat×List UInt8}{n:Nat}{v:List UInt8}(ha:a.1=0\/a.1 % 2=0)(hb:b.1=0\/b.1 % 2=1)(hn:n=((df.pick ⟨0,[]⟩ a).pick b).num+1)(he:n % 2=1):
  (df.pick ⟨0,[]⟩ a).pick (n,v)=⟨n,v⟩/\∀ x:Nat×List UInt8,x.1=0->(df.pick ⟨0,[]⟩ a).pick x=(df.pick ⟨0,[]⟩ a).pick b:=by
 generalize hp:df.pick ⟨0,[]⟩ a=p at *
 have hp0:p.num=a.1\/p.num=0:=by
  rw[<-hp];unfold df.pick
  grind
 grind [df.pick]
theorem tB{f g:SF}{i:Nat}(h:f i=g i):jm f i=jm g i:=by unfold jm ia;rw[h]
def Fx.pk1{f:SF}(h:Fx f){n:Int}{s':Option fg}(p:lZ (f n) s'):s'=f n:=by
 cases hf:f n with
 | none=>rw[hf] at p;exact p
 | some t=>
  rw[hf] at p;obtain ⟨h1,v,h2⟩:=h n t hf;rcases p with ⟨h3,_⟩|⟨u,hu,h3⟩
  ·rw[h1] at h3;cases h3
  rw[h2] at hu;simp only[aaK] at hu;rw[h3,hu];obtain ⟨vs,sy⟩:=t;cases h1;cases h2
  rfl
def nj(f:SF)(n:Nat)(v:List UInt8):SF:=kL f ((n % 2:Nat):Int) (io (f ((n % 2:Nat):Int)) (du n v))
def I1{f:SF}(hf:Fx f){v:List UInt8}(hv:ba v<=48)(hn:(dN f).num+1<18446744073709551616):
  (∀ f',Pk (nj f ((dN f).num+1) v) f'->dN f'=dN f\/dN f'=⟨(dN f).num+1,v⟩)/\dN (iE (nj f ((dN f).num+1) v))=⟨(dN f).num+1,v⟩:=by
 have ha:=A5 f 0;have hb:=A5 f 1;obtain ⟨n,hn'⟩:=bC ((dN f).num+1);rw[<-hn'] at hn ⊢
 have hnew:∀ (g:SF) (i:Nat) (b:Bool),n % 2=i->g i=some ⟨[fE (du n v)],b⟩->jm g i=(n,v):=by
  simp_all [J7,Iz,jm,ia]
 have hnone:∀ (g:SF) (i:Nat),g i=none->(jm g i).1=0:=by
  simp_all [jm,ia]
 have hsec:∀ (i:Nat),n % 2=i->∀ (s':Option fg),lZ (nj f n v i) s'->s'=f i\/s'=none\/s'=some ⟨[fE (du n v)],true⟩:=by
  intro i hi s' hp;have e:nj f n v i=some (io (f i) (du n v)):=by unfold nj kL;rw[hi,aab rfl]
  rw[e] at hp;rcases hp with ⟨_,h⟩|⟨u,hu,h⟩
  ·exact .inr (.inl h)
  unfold io at hu;rcases aal.1 hu with hu|hu
  ·cases hfi:f i with
   | none=>rw[hfi] at hu;simp at hu
   | some t=>
    rw[hfi] at hu;obtain ⟨h1,w,h2⟩:=hf _ t hfi;simp only[aaZ,h2,aaK] at hu
    left
    rw[h,hu];obtain ⟨vs,sy⟩:=t;cases h1;cases h2
    rfl
  simp_all
 have hoth:∀ (i:Nat),n % 2≠i->nj f n v i=f i:=by
  intro i hi;unfold nj kL;rw[aaa qo]
 have hsy:∀ (i:Nat),n % 2=i->iE (nj f n v) i=some ⟨[fE (du n v)],true⟩:=by
  intro i hi;unfold iE nj kL;rw[hi,aab rfl];simp[kM,io]
 rcases Nat.mod_two_eq_zero_or_one n with he|he
 ·obtain ⟨k1,k2⟩:=J5 (v:=v) ha hb hn' he;refine ⟨fun f' p=>?_,?_⟩
  ·have h1:f' ((1:Nat):Int)=f ((1:Nat):Int):=hf.pk1 (by have:=p ((1:Nat):Int);rwa [hoth 1 qo] at this);have e1:jm f' 1=jm f 1:=tB h1;unfold dN;rw[e1];rcases hsec 0 he _ (p ((0:Nat):Int)) with h|h|h
   all_goals grind [tB]
  grind [ur,dN,jm,ia]
 obtain ⟨k1,k2⟩:=LH (v:=v) ha hb hn' he;refine ⟨fun f' p=>?_,?_⟩
 ·have h1:f' ((0:Nat):Int)=f ((0:Nat):Int):=hf.pk1 (by have:=p ((0:Nat):Int);rwa [hoth 0 qo] at this);have e1:jm f' 0=jm f 0:=tB h1;unfold dN;rw[e1];rcases hsec 1 he _ (p ((1:Nat):Int)) with h|h|h
  all_goals grind [tB]
 grind [ur,dN,jm,ia]
def JR{n:Nat}{D:Dk}(h:dH (n+1) D)(area:Nat)(hf:Fx (D.sec area)){S:df}(hS:dN (D.sec area)=S){v:List UInt8}(hv:ba v<=48)(hn:S.num+1<18446744073709551616):
  (∀ a,a≠((area:Nat):Int)->(S.save area D v).2.1.sec a=D.sec a) /\
  (((S.save area D v).2.2=0/\(S.save area D v).1=⟨S.num+1,v⟩/\dH n (S.save area D v).2.1/\Fx ((S.save area D v).2.1.sec area)/\dN ((S.save area D v).2.1.sec area)=⟨S.num+1,v⟩) \/
   ((S.save area D v).2.2=30/\(S.save area D v).2.1.dead=true/\∀ f',Pk ((S.save area D v).2.1.sec area) f'->dN f'=S\/dN f'=⟨S.num+1,v⟩)):=by
 subst hS;obtain ⟨w1,w2⟩:=I1 hf hv hn;have hw:=h.write area (((dN (D.sec area)).num+1) % 2:Nat) (du ((dN (D.sec area)).num+1) v) qo qo (by rw[qc hv];omega);unfold df.save;rw[aaa qo];have e:kL (D.sec area) (((dN (D.sec area)).num+1) % 2:Nat) (io (D.sec area (((dN (D.sec area)).num+1) % 2:Nat)) (du ((dN (D.sec area)).num+1) v))=nj (D.sec area) ((dN (D.sec area)).num+1) v:=rfl;rw[e] at hw;generalize D.write area (((dN (D.sec area)).num+1) % 2:Nat) (du ((dN (D.sec area)).num+1) v)=W at hw;obtain ⟨hor,hat,hfr⟩:=hw;rcases hor with ⟨h0,hal⟩|⟨h0,hdead⟩
 ·rw[aab h0];rcases hal.sync area with ⟨s1,s2,s3,s4⟩|⟨s1,s2,s3⟩
  ·rw[aab s1];refine ⟨fun a ha=>by rw[s4 a ha,hfr a ha],.inl ⟨s1,I,s2,?_,?_⟩⟩
   all_goals simp_all [xL]
  simp_all
 simp_all
structure kf (f:SF) (data:List UInt8):Prop where
 fx:Fx f
 rd:∀ n:Nat,64*n<ba data->ia f n=some (fE ((data.drop (64*n)).take 64))
theorem C9{D:Dk}{place:Nat}{data:List UInt8}(o:kf (D.sec (bU place)) data):∀ (k n:Nat) (acc:List UInt8),acc=data.take (64*n)->ba acc=64*n->ba data<64*(n+k) ->
  ∃ d,pI D place (ba data) k n acc=some d/\d.take (ba data)=data
 | 0,n,acc,h1,h2,h3=>by
  rw[h1,aam] at h2;omega
 | k+1,n,acc,h1,h2,h3=>by
  rw[wA]
  by_cases hlt:ba acc<ba data
  ·rw[aab hlt,FY,o.rd n qo];dsimp only;have hc:ba ((data.drop (64*n)).take 64)=min 64 (ba data-64*n):=by simp
   by_cases hfull:64*(n+1)<=ba data
   ·have hp:fE ((data.drop (64*n)).take 64)=(data.drop (64*n)).take 64:=by unfold fE;rw[hc,show 64-min 64 (ba data-64*n)=0 by omega];simp
    rw[hp];refine C9 o k (n+1) _ ?_ (by rw[aaf,hc];omega) qo
    grind
   have hall:acc++(data.drop (64*n)).take 64=data:=by
    grind [List.take_append_drop]
   cases k with
   | zero=>
    refine ⟨_,I,?_⟩
    grind [fE]
   | succ k=>
    rw[wA,aaa (by grind [fE])];refine ⟨_,I,?_⟩
    grind [fE]
  rw[aaa hlt]
  grind
end
section
def mP(S:df)(vot0:List Int)(sn:bG)(place fr:Nat):Prop:=
 (S.num=0/\sn=⟨0,0,vot0,[]⟩/\place=0/\fr=0) \/
 (S.num≠0/\S.val=Lg.say sn place fr/\sn.idx<=bY/\sn.term<=aC/\place<=bY/\ba sn.data<=2097152/\fr<=bY/\(eu sn.vot).isSome=true)
def IB{l:List Int}(h:(eu l).isSome=true):∃ c,eu l=some [c]:=by
 unfold eu at h ⊢
 simp_all
def JY{D:Dk}{S:df}{vot0:List Int}{sn:bG}{place fr:Nat}(h:mP S vot0 sn place fr)(hd:S.num≠0->kf (D.sec (bU place)) sn.data):lM D S vot0=some (sn,place,fr):=by
 unfold lM;rcases h with ⟨h1,h2,h3,h4⟩|⟨h1,h2,h3,h4,h5,h6,h7,h8⟩
 ·rw[aab h1,h2,h3,h4]
 rw[aaa h1];obtain ⟨c,hc⟩:=IB h8;have hg:=IF hc;unfold bY at h3 h5 h7;unfold aC at h4
 have e1:ma S.val=(sn.idx,(aU sn.term++(aU place++(aU (ba sn.data)++(aU fr++[c]))),0)):=by
  unfold ma;rw[h2];unfold Lg.say;rw[hc];exact fR _ qo (by unfold bY;omega)
 have e2:pZ S.val=(sn.term,(aU place++(aU (ba sn.data)++(aU fr++[c])),0)):=by grind [fR,pZ,aC]
 have e3:ph S.val=(place,(aU (ba sn.data)++(aU fr++[c]),0)):=by grind [fR,ph,bY]
 have e4:pY S.val=(ba sn.data,(aU fr++[c],0)):=by grind [fR,pY]
 have e5:pd S.val=(fr,([c],0)):=by grind [fR,pd,bY]
 have e6:ru S.val=(c.toNat,([],0)):=by unfold ru;rw[e5];rfl
 have e7:UInt8.ofNat c.toNat=c:=by simp
 rw[e6,e4,e3,e2,e1,e5];dsimp only;rw[e7,hg,aaa (by rintro (h|h);exact h I;cases h)];obtain ⟨d,r1,r2⟩:=C9 (hd h1) 32769 0 [] ST rfl qo;rw[r1];dsimp only;rw[r2]
 rfl
theorem wE(pl:Nat):∀ (l:List Int) (D:Dk),cY 0 D->(D.areas.map (·.1)).Nodup ->
  (lgFree pl l D).2=0/\cY 0 (lgFree pl l D).1/\((lgFree pl l D).1.areas.map (·.1)).Nodup/\(∀ a,(a % 4≠2\/a=((bU pl:Nat):Int))->(lgFree pl l D).1.sec a=D.sec a/\(a∈(lgFree pl l D).1.areas.map (·.1)↔a∈D.areas.map (·.1))) /\
   ∀ a∈(lgFree pl l D).1.areas.map (·.1),a∈D.areas.map (·.1)
 | [],D,h,hk=>⟨rfl,h,hk,fun a _=>⟨rfl,Iff.rfl⟩,fun a ha=>ha⟩
 | b::r,D,h,hk=>by
  rw[tD]
  by_cases hb:b % 4=2/\b≠((bU pl:Nat):Int)
  ·rw[aab hb];have h1:=h.free b;have ha:dH 0 D:=⟨by rw[h.left];decide,h.dead,by have:=h.room;omega,hk⟩;rw[aaa qo];rcases ha.free b with ⟨_,g2,g3,g4⟩|⟨g1,_⟩
   ·obtain ⟨r1,r2,r3,r4,r5⟩:=wE pl r _ h1.2 g2.keys
    have hmk:(D.free b).1.areas=eC b D.areas:=by
     grind [Dk.free]
    refine ⟨r1,r2,r3,fun a hor=>?_,fun a ha=>?_⟩
    ·obtain ⟨k1,k2⟩:=r4 a hor
     have hne:a≠b:=by
      omega
     refine ⟨by rw[k1,g4 a hne],k2.trans ?_⟩;rw[hmk]
     constructor
     ·grind [nC]
     intro hm;have hx:=rU b a D.areas hk;rw[aaa hne] at hx;cases hy:aK a D.areas with
     | none=>exact absurd hm (iC.1 hy)
     | some v=>rw[hy] at hx;exact aak.2 ⟨_,iY hx,I⟩
    grind [nC]
   omega
  rw[aaa hb];exact wE pl r D h hk
def i6(sn:bG)(l:List aI):Prop:=fW sn.idx sn.term l=0/\∀ e∈l,kR e
def Iu{e:aI}(h:kR e):jQ e.bytes=some e:=Jw h.2.1 h.2.2 (B3 h.1)
theorem B0:∀ (l:List aI) (i t:Nat),fW i t l=0->(∀ e∈l,kR e)->lA (i+1) (l.map aI.bytes)=some l
 | [],_,_,_,_=>rfl
 | e::l,i,t,h,hg=>by
  obtain ⟨h1,_,h3⟩:=E8 h;rw[aao,xh,Iu (hg e ST)];dsimp only;have:=B0 l e.idx e.term h3 (fun x hx=>hg x (by simp[hx]))
  simp_all
def LV(sn:bG):Vl->List aI->Prop
 | none,l=>l=[]
 | some (f,r),l=>f<=sn.idx+1/\sn.idx+1<=f+ba r/\r.drop (sn.idx+1-f)=l.map aI.bytes
def J1{sn:bG}{W:Wl}{v:Vl}{l:List aI}(hv:VW W v)(hn:v=none->W.first=sn.idx+1/\W.recs=[])(hl:LV sn v l)(hg:i6 sn l):mL sn W=some l:=by
 unfold mL;rcases hv with ⟨rfl,hold⟩|⟨hold,rfl⟩
 ·obtain ⟨h1,h2⟩:=hn rfl;have hl:l=[]:=hl
  simp_all [lA]
 obtain ⟨h1,h2,h3⟩:=hl;rw[aaa qo,h3];exact B0 l _ _ hg.1 hg.2
def cw(op:Option Og):List Sg:=match op with
 | none=>[]
 | some o=>[⟨o.num,o.idx,o.recs⟩]
structure dK (vot0:List Int) (M:Nat) (L:Lg) (D:Dk) (S:List Sg) (op:Option Og):Prop where
 code:L.code=0
 wcode:L.w.code=0
 old:L.w.old=(S++cw op).map fun s=>(s.num,s.idx)
 seg:iI D S op
 opn:op=none->L.w.op=none
 ops:∀ o,op=some o->∃ q,L.w.op=some q/\q.num=o.num/\o.T=eX o.idx o.recs/\ba o.T=63*q.full+ba q.rest/\q.rest=o.T.drop (63*q.full)/\ba q.rest<=62/\q.full<=24
 lt:∀ s∈S++cw op,s.num<L.w.next
 frS:∀ s∈S++cw op,L.fr<=s.num
 frn:L.fr<=L.w.next
 next:L.w.next<=M
 ok:gi none ((S++cw op).map Sg.v)
 val:(S++cw op=[]/\L.w.recs=[]/\L.w.first=L.sn.idx+1/\L.l=[])\/∃ f r,eW none ((S++cw op).map Sg.v)=some (f,r)/\f<=L.w.first/\L.w.first<=L.sn.idx+1/\L.sn.idx+1<=f+ba r/\L.w.recs=r.drop (L.w.first-f)/\r.drop (L.sn.idx+1-f)=L.l.map aI.bytes
 hardF:Fx (D.sec 0)
 hardS:dN (D.sec 0)=L.hard
 hardV:lN L.hard=some (L.kt,L.kv)
 headF:Fx (D.sec 4)
 headS:dN (D.sec 4)=L.head
 headV:mP L.head vot0 L.sn L.place L.fr
 dat:L.head.num≠0->kf (D.sec (bU L.place)) L.sn.data
 good:i6 L.sn L.l
theorem wy:∀ (l:List (Nat×List cM)) (v:Vl),v≠none->eW v l≠none
 | [],v,h=>h
 | s::l,v,h=>wy l _ ST
def ft(D:Dk)(fr M:Nat)(sn:bG)(Q:List aI->Prop):Prop:=
 ∀ F,rA D F->0<=F.room->∃ S' W E l,eF F fr (sn.idx+1)=(some W,E,0)/\H5 W E S' fr M/\(S'=[]->W.first=sn.idx+1/\W.recs=[])/\cY 0 E/\(E.areas.map (·.1)).Nodup/\(∀ a,a % 4≠1->E.sec a=F.sec a)/\(∀ a∈E.areas.map (·.1),a∈F.areas.map (·.1)) /\
  Q l/\i6 sn l/\LV sn (eW none (S'.map Sg.v)) l/\gi none (S'.map Sg.v)/\∀ s∈S',fr<=s.num
def ft.frame{D E:Dk}{fr M:Nat}{sn:bG}(h:ft D fr M sn Q)(hs:∀ n,E.sec (aJ n)=D.sec (aJ n))(hk:∀ n,aJ n∈E.areas.map (·.1)->aJ n∈D.areas.map (·.1)):ft E fr M sn Q:=
 fun F c hr=>h F ⟨c.left,c.dead,fun n=>by rw[<-hs];exact c.pk n,fun n hn=>hk n (c.keys n hn),c.nd,c.ne,c.pos⟩ hr
def ft.imp{D:Dk}{fr M:Nat}{sn:bG}{Q':List aI->Prop}(h:ft D fr M sn Q)(hq:∀ l,Q l->Q' l):ft D fr M sn Q':=fun F c hr=>by
 obtain ⟨S',W,E,l,h1,h2,h3,h4,h5,h6,h7,h8,h9⟩:=h F c hr
 grind
def ge(S:List Sg)(op:Option Og)(sn:bG)(Q:List aI->Prop):Prop:=∀ t,nG op t->gi none (S.map Sg.v++t.toList)/\∃ l,Q l/\i6 sn l/\LV sn (eW none (S.map Sg.v++t.toList)) l
def G5{S:List Sg}{op:Option Og}{t:Option (Nat×List cM)}(h:nG op t):(S++kx op t).map Sg.v=S.map Sg.v++t.toList:=by
 cases op with
 | none=>
  have:t=none:=h;subst this;simp[kx]
 | some o=>cases t with
  | none=>simp[kx]
  | some x=>simp[kx,Sg.v]
def AZ{D:Dk}{S:List Sg}{op:Option Og}(d:iI D S op){sn:bG}{fr M:Nat}(hidx:sn.idx<=bY)(hM:M<=eV)(hfM:fr<=M)(hS:∀ s∈S,fr<=s.num/\s.num<M)(ho:∀ o,op=some o->fr<=o.num/\o.num<M)(hp:ge S op sn Q):ft D fr M sn Q:=by
 intro F c hr;obtain ⟨S',W,E,w1,w2,w3,w4,w5,w6,w7,w8⟩:=Iy d c hr (fr:=fr) (first:=sn.idx+1) (M:=M) (by unfold bY at hidx;unfold bP;omega) hM hfM (fun s hs=>(hS s hs).2) (fun o h=>(ho o h).2) (.inl ⟨fun s hs=>(hS s hs).1,fun o h=>(ho o h).1,fun t ht=>(hp t ht).1⟩);rcases w1 with ⟨t,ht,rfl,_,_⟩|⟨rfl,h1,h2⟩
 ·obtain ⟨k1,l,k2,k3,k4⟩:=hp t ht;refine ⟨_,W,E,l,w2,w3,w4,w5,w6,w7,w8,k2,k3,by rw[G5 ht];exact k4,by rw[G5 ht];exact k1,fun s hs=>?_⟩;rcases aal.1 hs with hs|hs
  all_goals grind [EC]
 have hSn:S=[]:=by
  rw[List.eq_nil_iff_forall_not_mem]
  grind
 have hop:op=none:=by
  cases op with
  | none=>rfl
  | some o=>
   grind
 subst hSn;subst hop;obtain ⟨_,l,k2,k3,k4⟩:=hp none rfl
 grind
def Ix{D:Dk}{sn:bG}{fr M:Nat}(hidx:sn.idx<=bY)(hM:M<=eV)(hfM:fr<=M)(hk:∀ n,aJ n∈D.areas.map (·.1)->n<fr)(hQ:Q []):ft D fr M sn Q:=by
 intro F c hr;have hliv:cY 0 F:=⟨c.left,c.dead,qo⟩
 have hlt:∀ n∈cZ (a8 F),n<fr:=fun n hn=>by
  rw[pn c.pos] at hn;exact hk n (c.keys n hn)
 have hnd:=rF ((fb _).symm.nodup c.nd) (fun k hk=>c.pos k ((fb _).mem_iff.1 hk));have hnx:=CJ hlt
 have hlow:ik fr ((cZ (a8 F)).map fun n=>((n,none):Nat×Option (Nat×List cM)))=[]:=by
  refine A8 ?_
  simp_all
 obtain ⟨W,g,r1,r2,r3,r4,r5,r6,r7,r8⟩:=tI (D:=F) (fr:=fr) ((cZ (a8 F)).map fun n=>(n,none)) (eM fr (sn.idx+1) (a8 F)) none [] (fun x hx h=>by
  grind) (.inl ⟨rfl,rfl⟩) (by unfold bY at hidx;simp[eM];unfold bP;omega) (by rw[hlow];trivial)
 rw[hlow] at r2 r3 r7;have e:((cZ (a8 F)).map fun n=>((n,none):Nat×Option (Nat×List cM))).map (·.1)=cZ (a8 F):=by rw[aa5];exact List.map_id _
 rw[e] at r1;obtain ⟨s1,s2,s3,s4,s5,s6⟩:=wx g (cZ (a8 F)) F 0 hnd hliv c.nd;have hnw:(eM fr (sn.idx+1) (a8 F)).next<=M:=by simp_all [eM]
 have hg:∀ n∈cZ (a8 F),n∈g:=fun n hn=>(r8 n).2 (.inr ⟨(n,none),aak.2 ⟨n,hn,rfl⟩,rfl,.inr rfl⟩);refine ⟨[],W,(wsettle g (cZ (a8 F)) F).1,[],?_,⟨r4,r6,by rw[r3];rfl,ST,by simp_all [eM],by rw[r5];exact hnw,?_,r2⟩,fun _=>r7 I,s2,s3,fun a ha=>s5 a (fun n _ e=>ha (by rw[e];unfold aJ;omega)),fun a ha=>(s6 a ha).1,hQ,⟨rfl,ST⟩,rfl,trivial,ST⟩
 ·unfold eF;rw[aaa (by rw[c.dead];decide),aaa (by unfold bY at hidx;unfold bP;omega),aaa qo,r1,aaa ST,aaa (by rw[s1];simp)]
 refine ⟨fun a ha h1=>?_,List.Pairwise.nil,ST,ST,fun o h=>by cases h⟩
 exfalso
 obtain ⟨k1,k2⟩:=s6 a ha;have ha0:=c.pos a k1;have hseg:a=aJ (a.toNat / 4):=by unfold aJ;omega
 have hin:a.toNat / 4∈cZ (a8 F):=by rw[pn c.pos,<-hseg];exact k1
 exact k2 _ hin (hg _ hin) hseg
def IE{D D':Dk}(c:Cr D D')(hr:0<=D'.room){vot0:List Int}(hv:(eu vot0).isSome=true){kh:Nat×Int}(hh:lN (dN (D'.sec 0))=some kh){sn:bG}{place fr M:Nat}
  (hE:mP (dN (D'.sec 4)) vot0 sn place fr) (hdat:(dN (D'.sec 4)).num≠0->kf (D'.sec (bU place)) sn.data) {Q:List aI->Prop} (hw:ft D fr M sn Q):
  ∃ L E S',gp D' vot0=(some L,E,0)/\L.sn=sn/\(L.kt,L.kv)=kh/\Q L.l/\dK vot0 M L E S' none/\cY 0 E/\(E.areas.map (·.1)).Nodup/\L.hard=dN (D'.sec 0)/\L.head=dN (D'.sec 4)/\L.place=place:=by
 obtain ⟨f1,f2,f3,f4,f5⟩:=wE place (a8 D') D' (c.liv hr) c.nd;obtain ⟨F,hF⟩:=bC ((lgFree place (a8 D') D').1);rw[<-hF] at f2 f3 f4 f5;have hseg4:∀ n,aJ n % 4≠2\/aJ n=((bU place:Nat):Int):=fun n=>.inl (by simp[aJ]);have cF:rA D F:=⟨f2.left,f2.dead,fun n=>by rw[(f4 _ (hseg4 n)).1];exact c.pk _,fun n h=>c.keys _ (f5 _ h),f3,fun n=>by rw[(f4 _ (hseg4 n)).2,(f4 _ (hseg4 n)).1];exact c.ne _,fun k hk=>c.pos k (f5 k hk)⟩;have hroom:0<=F.room:=by have:=f2.room;omega
 obtain ⟨S',W,E,l,w2,w3,w4,w5,w6,w7,w8,hQ,hG,hL,hok,hfrS⟩:=hw F cF hroom
 have hnil:eW none (S'.map Sg.v)=none->S'=[]:=by
  intro h;cases S' with
  | nil=>rfl
  | cons s q=>exact absurd h (wy (q.map Sg.v) (some (eQ none s.v)) (fun e=>by cases e))
 have hrd:=J1 w3.vw (fun h=>w4 (hnil h)) hL hG;have hdead:¬D'.dead=true:=by rw[c.dead];decide
 have hopen:gp D' vot0=(some ⟨W,jz D' 0,jz D' 4,kh.1,kh.2,sn,place,fr,l,0⟩,E,0):=by
  unfold gp;rw[aaa (by rw[hv];decide),aaa hdead];rw[show lN (jz D' 0)=some kh from hh];dsimp only;rw[JY (S:=jz D' 4) hE hdat]
  simp_all [uH,uG]
 have e0:E.sec 0=D'.sec 0:=by simp_all
 have e4:E.sec 4=D'.sec 4:=by simp_all
 have ep:E.sec (bU place)=D'.sec (bU place):=by rw[w7 _ (by simp[bU]),(f4 _ (.inr rfl)).1]
 refine ⟨_,E,S',hopen,I,I,hQ,?_,w5,w6,I,I,I⟩
 exact {
  code:=rfl
  wcode:=w3.code
  old:=by rw[show cw none=[] from rfl,aaw];exact w3.old
  seg:=w3.seg
  opn:=fun _=>w3.op
  ops:=fun o h=>by cases h
  lt:=by rw[show cw none=[] from rfl,aaw];exact w3.lt
  frS:=by rw[show cw none=[] from rfl,aaw];exact hfrS
  frn:=w3.frn
  next:=w3.next
  ok:=by rw[show cw none=[] from rfl,aaw];exact hok
  val:=by
   rw[show cw none=[] from rfl,aaw];rcases w3.vw with ⟨h1,h2⟩|⟨h1,h2⟩
   ·have hS:=hnil h1;obtain ⟨g1,g2⟩:=w4 hS;rw[h1] at hL;exact .inl ⟨hS,g2,g1,hL⟩
   rw[h2] at hL;obtain ⟨g1,g2,g3⟩:=hL
   grind
  hardF:=by rw[e0];exact (c.pk 0).fx
  hardS:=by rw[e0];rfl
  hardV:=hh
  headF:=by rw[e4];exact (c.pk 4).fx
  headS:=by rw[e4];rfl
  headV:=hE
  dat:=fun h=>by rw[ep];exact hdat h
  good:=hG }
end
section
def iI.frame{D E:Dk}{S:List Sg}{op:Option Og}(d:iI D S op)(hs:∀ n,E.sec (aJ n)=D.sec (aJ n))(hk:∀ a∈E.areas.map (·.1),a % 4=1->a∈D.areas.map (·.1)):iI E S op:=
 ⟨fun a ha h1=>d.keys a (hk a ha h1) h1,d.asc,d.bd,fun s h=>by rw[hs];exact d.cl s h,fun o h=>by
  obtain ⟨h1,h2,h3,h4,h5⟩:=d.op o h
  simp_all⟩
structure WI (W:Wl) (D:Dk) (S:List Sg) (op:Option Og):Prop where
 code:W.code=0
 seg:iI D S op
 opn:op=none->W.op=none
 ops:∀ o,op=some o->∃ q,W.op=some q/\q.num=o.num/\o.T=eX o.idx o.recs/\ba o.T=63*q.full+ba q.rest/\q.rest=o.T.drop (63*q.full)/\ba q.rest<=62/\q.full<=24
 lt:∀ s∈S++cw op,s.num<W.next
def Og.lasts(o:Og):Og:={ o with t0:=ba o.T }
def pU(D E:Dk):Prop:=E.dead=true/\(∀ a,E.sec a=D.sec a)/\∀ a∈E.areas.map (·.1),a∈D.areas.map (·.1)
def JL(D:Dk)(a:Int):∀ k∈(D.sync a).1.areas.map (·.1),k∈D.areas.map (·.1):=fun k hk=>by
 rcases (Rw.sync a (Rw.refl [] D)).keys k hk with h|h
 ·exact h
 simp at h
def BD{W:Wl}{D:Dk}{S:List Sg}{op:Option Og}{n:Nat}(w:WI W D S op)(h:dH n D):
  ((W.sync D).1=W/\dH n (W.sync D).2/\WI W (W.sync D).2 S (op.map Og.lasts)/\iI (W.sync D).2 (S++cw op) none/\(∀ a,a % 4≠1->(W.sync D).2.sec a=D.sec a)/\∀ a∈(W.sync D).2.areas.map (·.1),a∈D.areas.map (·.1)) \/
   ((W.sync D).1.code=30/\pU D (W.sync D).2):=by
 unfold Wl.sync;rw[aaa (by rw[w.code];simp)];cases hop:op with
 | none=>
  rw[w.opn hop];dsimp only;subst hop;exact .inl ⟨I,h,w,by rw[show cw none=[] from rfl,aaw];exact w.seg,fun _ _=>I,fun _ h=>h⟩
 | some o=>
  subst hop;obtain ⟨q,q1,q2,q3,q4,q5,q6,q7⟩:=w.ops o rfl;obtain ⟨d1,d2,d3,d4,d5,d6⟩:=w.seg.op o rfl;rw[q1];dsimp only;have hk:=JL D (aJ q.num);have hkd:∀ a∈(D.sync (aJ q.num)).1.areas.map (·.1),a % 4=1->(∃ s∈S,a=aJ s.num)\/∃ o',some o=some o'/\a=aJ o'.num:=fun a ha h1=>w.seg.keys a (hk a ha) h1;rcases h.sync (aJ q.num) with ⟨s1,s2,s3,s4⟩|⟨s1,s2,s3⟩
  ·left
   have hcl:∀ s∈S,(D.sync (aJ q.num)).1.sec (aJ s.num)=D.sec (aJ s.num):=fun s hs=>s4 _ (sB (by have:=d1 s hs;omega));have hsy:(D.sync (aJ q.num)).1.sec (aJ o.num)=iE (D.sec (aJ o.num)):=by rw[<-q2,s3]
   refine ⟨by rw[s1,<-w.code,<-q1],s2,⟨w.code,⟨?_,w.seg.asc,w.seg.bd,fun s hs=>(by rw[hcl s hs];exact w.seg.cl s hs),?_⟩,fun h=>(by cases h),?_,?_⟩,⟨?_,?_,?_,?_,fun o h=>(by cases h)⟩,fun a ha=>s4 a (fun e=>ha (by rw[e];simp[aJ])),hk⟩
   ·intro a ha h1;rcases hkd a ha h1 with h2|⟨o',h2,h3⟩
    ·exact .inl h2
    cases h2;exact .inr ⟨_,I,h3⟩
   ·intro o' ho';cases ho';exact ⟨d1,d2,d3,by show iG _ o.T (ba o.T);rw[show o.lasts.num=o.num from rfl,hsy];exact d4.syn,d5,d6⟩
   ·intro o' ho';cases ho';exact ⟨q,q1,q2,q3,q4,q5,q6,q7⟩
   ·exact w.lt
   ·intro a ha h1;rcases hkd a ha h1 with ⟨s,hs,e⟩|⟨o',h2,h3⟩
    ·grind
    cases h2;exact .inl ⟨⟨o.num,o.idx,o.recs⟩,aal.2 (.inr (by simp[cw])),h3⟩
   ·rw[aby];exact ⟨w.seg.asc,by simp[cw],fun a ha b hb=>by grind [cw]⟩
   ·intro s hs;rcases aal.1 hs with hs|hs
    ·exact w.seg.bd s hs
    grind [cw]
   intro s hs;rcases aal.1 hs with hs|hs
   ·rw[hcl s hs];exact w.seg.cl s hs
   simp only[cw,aaK] at hs;rw[hs];dsimp only;rw[hsy];have:=d4.closed d6;rw[q3] at this;exact this.segC d2 d3
  exact .inr ⟨s1,s2,s3,hk⟩
def D9{q:gH}{D:Dk}{S:List Sg}{o:Og}{n:Nat}(d:iI D S (some o))(hq:q.num=o.num)(hTt:ba o.T=63*q.full+ba q.rest)(hr:q.rest=o.T.drop (63*q.full))(hr62:ba q.rest<=62)(hf:q.full<=15){b:List UInt8}(hb:0<ba b/\ba b<=522){recs':List cM}
  (hrec:∀ r∈recs',ba r<=512) (hTb:o.T++b=eX o.idx recs') (h:dH (n+10) D):
  (∀ a,a % 4≠1->(wrO q b D).2.1.sec a=D.sec a)/\(((wrO q b D).2.2=0/\dH n (wrO q b D).2.1/\iI (wrO q b D).2.1 S (some { o with recs:=recs',T:=eX o.idx recs' })/\(wrO q b D).1.num=q.num /\
    ba (eX o.idx recs')=63*(wrO q b D).1.full+ba (wrO q b D).1.rest/\(wrO q b D).1.rest=(eX o.idx recs').drop (63*(wrO q b D).1.full)/\ba (wrO q b D).1.rest<=62/\(wrO q b D).1.full<=24) \/
   ((wrO q b D).2.2=30/\(wrO q b D).2.1.dead=true/\∃ T1,o.T <+: T1/\T1 <+: eX o.idx recs'/\iI (wrO q b D).2.1 S (some { o with recs:=recs',T:=T1 }))):=by
 obtain ⟨d1,d2,d3,d4,d5,d6⟩:=d.op o rfl;have hl:ba (q.rest++b)=ba q.rest+ba b:=aaf;have hwr:=Ea (ba q.rest+ba b+1) { q with rest:=q.rest++b } D n o.T o.t0 (by dsimp only;rw[hl];exact h.mono qo) (by dsimp only;rw[hl];omega) (by dsimp only;rw[hl];omega) ax (by dsimp only;rw[hq];exact d4) ax ax (by dsimp only;rw[<-hr];exact List.prefix_append _ _);have hnum:=sw q b D;have hkeys:=(yy q b D).keys;obtain ⟨T1,r1,r2,r3,r4,r5,r6⟩:=hwr;have e:wrL (ba q.rest+ba b+1) { q with rest:=q.rest++b } D=wrO q b D:=rfl;rw[e] at r1 r2 r5 r6;dsimp only at r1 r2 r4 r5 r6;have hU:o.T.take (63*q.full)++(q.rest++b)=eX o.idx recs':=by grind [List.take_append_drop]
 rw[hU] at r4 r6;rw[hq] at r1
 have hds:∀ T2,T2=T1->iI (wrO q b D).2.1 S (some { o with recs:=recs',T:=T2 }):=by
  intro T2 e2;subst e2;refine ⟨fun a ha h1=>?_,d.asc,d.bd,fun s hs=>?_,fun o' ho'=>?_⟩
  ·rcases hkeys a ha with h2|h2
   ·rcases d.keys a h2 h1 with h3|⟨o',h3,h4⟩
    all_goals grind
   grind
  ·rw[r2 _ (sB (by have:=d1 s hs;omega))];exact d.cl s hs
  grind
 refine ⟨fun a ha=>r2 a (fun e=>ha (by rw[e];simp[aJ])),?_⟩;rcases r5 with ⟨g1,g2⟩|⟨g1,g2⟩
 all_goals grind
def KD{W:Wl}{D:Dk}{S:List Sg}{op:Option Og}{n:Nat}(w:WI W D S op)(h:dH (n+10) D){i:Nat}(hi:i<=bP):
  (∀ a,a % 4≠1->(W.begin i D).2.sec a=D.sec a) /\
  ((∃ q,q.full<=1/\(W.begin i D).1={ W with op:=some q,next:=W.next+1,old:=W.old++[(W.next,i)] }/\dH n (W.begin i D).2/\WI (W.begin i D).1 (W.begin i D).2 (S++cw op) (some ⟨W.next,i,[],eX i [],0⟩)) \/
   ((W.begin i D).1.code=30/\pU D (W.begin i D).2) \/
   ((W.begin i D).1.code=30/\(W.begin i D).2.dead=true/\∃ T1,T1 <+: eX i []/\iI (W.begin i D).2 (S++cw op) (some ⟨W.next,i,[],T1,0⟩))):=by
 have hi2:i<18446744073709551616:=by unfold bP at hi;omega
 unfold Wl.begin;rcases BD w h with ⟨s1,s2,s3,s4,s5,s6⟩|⟨s1,s2⟩
 ·rw[s1,aaa (by rw[w.code];simp)];generalize hE:(W.sync D).2=E at s2 s3 s4 s5 s6
  have hnk:aJ W.next∉E.areas.map (·.1):=by
   intro hin;rcases s4.keys _ hin (by simp[aJ]) with ⟨s,hs,e⟩|⟨o,ho,_⟩
   ·have:=w.lt s hs;have:=pr e;omega
   cases ho
  have hns:∀ k,E.sec (aJ W.next) k=none:=by
   grind [iC,Dk.sec,Dk.ar]
  have d0:iI E (S++cw op) (some ⟨W.next,i,[],[],0⟩):=⟨fun a ha h1=>(by
    rcases s4.keys a ha h1 with h2|⟨o,ho,_⟩
    ·exact .inl h2
    ·cases ho),s4.asc,s4.bd,s4.cl,fun o ho=>(by
    cases ho;exact ⟨fun s hs=>w.lt s hs,hi,ST,⟨aac _,fun n hn=>by simp at hn,fun n _=>hns _,fun n _=>hns _⟩,List.nil_prefix,ST⟩)⟩
  have hu:=rX i;have hu2:=eY hi2;obtain ⟨r1,r2⟩:=D9 (q:=⟨W.next,i,0,[]⟩) (n:=n) d0 rfl rfl rfl ST ST (b:=aU i) ⟨hu,qo⟩ (recs':=[]) ST (by simp[eX,kO]) s2;refine ⟨fun a ha=>by dsimp only;rw[r1 a ha,s5 a ha],?_⟩;rcases r2 with ⟨g1,g2,g3,g4,g5,g6,g7,g8⟩|⟨g1,g2,T1,g3,g4,g5⟩
  ·left
   have hf1:=(sw ⟨W.next,i,0,[]⟩ (aU i) E).2.2;dsimp only[List.length_nil] at hf1;refine ⟨(wrO ⟨W.next,i,0,[]⟩ (aU i) E).1,qo,?_,g2,?_⟩
   ·dsimp only;rw[g1,<-w.code]
   refine ⟨g1,g3,fun h=>(by cases h),fun o ho=>?_,fun s hs=>?_⟩
   ·grind
   dsimp only;rcases aal.1 hs with hs|hs
   ·have:=w.lt s hs;omega
   grind [cw]
  grind
 rw[aab (by rw[s1];simp)];exact ⟨fun a _=>s2.2.1 a,.inr (.inl ⟨s1,s2⟩)⟩
def KO{W:Wl}{D:Dk}{S:List Sg}{o:Og}{n:Nat}(w:WI W D S (some o)){q:gH}(hq:W.op=some q)(hf:q.full<=15)(h:dH (n+10) D){b:List UInt8}(hb:ba b<=512):
  (∀ a,a % 4≠1->(ef W b D).2.1.sec a=D.sec a) /\
  (((ef W b D).2.2=0/\(∃ q',(ef W b D).1={ W with op:=some q',recs:=W.recs++[b] })/\dH n (ef W b D).2.1/\WI (ef W b D).1 (ef W b D).2.1 S (some { o with recs:=o.recs++[b],T:=eX o.idx (o.recs++[b]) })) \/
   ((ef W b D).2.2=30/\(ef W b D).1.code=30/\(ef W b D).2.1.dead=true/\∃ T1,o.T <+: T1/\iI (ef W b D).2.1 S (some { o with recs:=o.recs++[b],T:=T1 }))):=by
 obtain ⟨q',q1,q2,q3,q4,q5,q6,q7⟩:=w.ops o rfl;obtain rfl:q'=q:=by grind
 have hp:=rG hb
 have hTb:o.T++dg b=eX o.idx (o.recs++[b]):=by
  grind [eX,kO]
 obtain ⟨d1,d2,d3,d4⟩:=w.seg.op o rfl
 obtain ⟨r1,r2⟩:=D9 (q:=q') (n:=n) w.seg q2 q4 q5 q6 hf (b:=dg b) hp (recs':=o.recs++[b]) (fun r hr=>by
  grind) hTb h
 unfold ef;rw[hq];dsimp only;refine ⟨r1,?_⟩;rcases r2 with ⟨g1,g2,g3,g4,g5,g6,g7,g8⟩|⟨g1,g2,T1,g3,g4,g5⟩
 ·refine .inl ⟨g1,⟨_,by rw[aab g1,g1,<-w.code]⟩,g2,⟨g1,g3,fun h=>(by cases h),fun o' ho'=>?_,fun s hs=>?_⟩⟩
  ·grind
  rcases aal.1 hs with hs|hs
  ·exact w.lt s<|aal.2 (.inl hs)
  simp only[cw,aaK] at hs;rw[hs];exact w.lt ⟨o.num,o.idx,o.recs⟩ (by simp[cw])
 exact .inr ⟨g1,g1,g2,T1,g3,g5⟩
end
section
def Vk(first:Nat)(recs:List cM)(sn:bG)(l:List aI):Vl->Prop
 | none=>recs=[]/\first=sn.idx+1/\l=[]
 | some (f,r)=>f<=first/\first<=sn.idx+1/\sn.idx+1<=f+ba r/\recs=r.drop (first-f)/\r.drop (sn.idx+1-f)=l.map aI.bytes
def Vk.fin{first:Nat}{recs:List cM}{sn:bG}{l:List aI}{v:Vl}(h:Vk first recs sn l v):first+ba recs=sn.idx+1+ba l/\first<=sn.idx+1:=by
 cases v with
 | none=>obtain ⟨h1,h2,h3⟩:=h;simp_all
 | some x=>
  obtain ⟨f,r⟩:=x;obtain ⟨h1,h2,h3,h4,h5⟩:=h;have h6:=congrArg List.length h5
  grind
def Vk.endV{first:Nat}{recs:List cM}{sn:bG}{l:List aI}{x:Nat×List cM}(h:Vk first recs sn l (some x)):x.1+ba x.2=sn.idx+1+ba l:=by
 obtain ⟨f,r⟩:=x;obtain ⟨h1,h2,h3,h4,h5⟩:=h;have h6:=congrArg List.length h5
 grind
def Vk.lv{first:Nat}{recs:List cM}{sn:bG}{l:List aI}{v:Vl}(h:Vk first recs sn l v):LV sn v l:=by
 cases v with
 | none=>exact h.2.2
 | some x=>
  obtain ⟨f,r⟩:=x;obtain ⟨h1,h2,h3,h4,h5⟩:=h;exact ⟨qo,h3,h5⟩
def Vk.cut{first:Nat}{recs:List cM}{sn:bG}{l:List aI}{v:Vl}(h:Vk first recs sn l v){i:Nat}(h1:sn.idx+1<=i)(h2:i<=first+ba recs):
  jt v i/\Vk first (recs.take (i-first)) sn (l.take (i-(sn.idx+1))) (some (eQ v (i,[]))):=by
 have hf:=h.fin;cases v with
 | none=>
  obtain ⟨g1,g2,g3⟩:=h;subst g1 g2 g3;simp only[aaG] at h2;obtain rfl:i=sn.idx+1:=qo
  exact ⟨trivial,aac _,aac _,ST,by simp[eQ],by simp[eQ]⟩
 | some x=>
  obtain ⟨f,r⟩:=x;obtain ⟨g1,g2,g3,g4,g5⟩:=h;have h6:=congrArg List.length g5;rw[aan,aaP] at h6;unfold eQ jt;dsimp only;rw[aaa qo,aaw];refine ⟨qo,g1,g2,by rw[aam];omega,?_,?_⟩
  all_goals grind [List.drop_take,List.map_take]
def IZ(v:Vl)(i:Nat)(rs:List cM)(b:cM):eQ v (i,rs++[b])=((eQ v (i,rs)).1,(eQ v (i,rs)).2++[b]):=by
 cases v with
 | none=>rfl
 | some x=>
  grind [eQ]
def Vk.snoc{first:Nat}{recs:List cM}{sn:bG}{l:List aI}{v:Vl}{i:Nat}{rs:List cM}(h:Vk first recs sn l (some (eQ v (i,rs))))(e:aI):
  Vk first (recs++[e.bytes]) sn (l++[e]) (some (eQ v (i,rs++[e.bytes]))):=by
 rw[IZ];generalize eQ v (i,rs)=x at h;obtain ⟨f,r⟩:=x;obtain ⟨g1,g2,g3,g4,g5⟩:=h;dsimp only;refine ⟨g1,g2,by rw[aaf];omega,?_,?_⟩
 all_goals grind
theorem DJ:∀ (a b:List aI) (i t:Nat),fW i t (a++b)=0->fW i t a=0
 | [],_,_,_,_=>rfl
 | e::a,b,i,t,h=>by
  obtain ⟨h1,h2,h3⟩:=E8 h;unfold fW;rw[aaa qo];exact DJ a b _ _ h3
theorem i6.take{sn:bG}{l:List aI}(h:i6 sn l)(k:Nat):i6 sn (l.take k):=
 ⟨DJ (l.take k) (l.drop k) _ _ (by rw[aaC];exact h.1),fun e he=>h.2 e (aaR he)⟩
def ge.mono{S:List Sg}{op:Option Og}{sn:bG}{Q':List aI->Prop}(h:ge S op sn Q)(hq:∀ l,Q l->Q' l):ge S op sn Q':=fun t ht=>by
 obtain ⟨h1,l,h2,h3⟩:=h t ht;exact ⟨h1,l,hq l h2,h3⟩
def J4{S:List Sg}{sn:bG}{l:List aI}{first:Nat}{recs:List cM}(ok:gi none (S.map Sg.v))(vk:Vk first recs sn l (eW none (S.map Sg.v)))(g:i6 sn l)(hq:Q l){i:Nat}(h1:sn.idx+1<=i)(h2:i<=first+ba recs)(h3:i<=bP)
  (hq2:Q (l.take (i-(sn.idx+1)))) (num:Nat) (T:List UInt8):ge S (some ⟨num,i,[],T,0⟩) sn Q/\gi none (S.map Sg.v++[(i,[])])/\Vk first (recs.take (i-first)) sn (l.take (i-(sn.idx+1))) (eW none (S.map Sg.v++[(i,[])])):=by
 obtain ⟨k1,k2⟩:=vk.cut h1 h2
 have ok2:gi none (S.map Sg.v++[(i,[])]):=by
  rw[xZ];exact ⟨ok,k1,qo,trivial⟩
 have vk2:Vk first (recs.take (i-first)) sn (l.take (i-(sn.idx+1))) (eW none (S.map Sg.v++[(i,[])])):=by
  rw[tL];exact k2
 refine ⟨fun t ht=>?_,ok2,vk2⟩;cases t with
 | none=>
  rw[Option.toList_none,aaw];exact ⟨ok,l,hq,g,vk.lv⟩
 | some t=>
  obtain ⟨i',rs⟩:=t;obtain ⟨e1,j,e2,e3,e4⟩:=ht;dsimp only at e1 e2 e3;rw[List.take_nil] at e3;subst e1 e3;exact ⟨ok2,_,hq2,g.take _,vk2.lv⟩
def Nu{S:List Sg}{o:Og}{sn:bG}(h:ge S (some o) sn Q){b:cM}{l:List aI}(ok:gi none (S.map Sg.v++[(o.idx,o.recs++[b])]))(hq:Q l)(g:i6 sn l)(lv:LV sn (eW none (S.map Sg.v++[(o.idx,o.recs++[b])])) l)(T:List UInt8):
  ge S (some { o with recs:=o.recs++[b],T:=T }) sn Q:=by
 intro t ht;cases t with
 | none=>exact h none ht
 | some t=>
  obtain ⟨i',rs⟩:=t;obtain ⟨e1,j,e2,e3,e4⟩:=ht;dsimp only at e1 e2 e3 e4;subst e1 e3;rw[aaf,acz] at e2;rcases aaU (ba o.recs) j with hj|hj
  ·grind
  rw[abS hj];refine h (some (o.idx,o.recs.take j)) ⟨I,j,hj,I,fun k hk1 hk2=>(e4 k (by rw[aaf];omega) ?_)⟩
  grind
def dK.wi{vot0:List Int}{M:Nat}{L:Lg}{D:Dk}{S:List Sg}{op:Option Og}(o:dK vot0 M L D S op):WI L.w D S op:=⟨o.wcode,o.seg,o.opn,o.ops,o.lt⟩
def dK.vk{vot0:List Int}{M:Nat}{L:Lg}{D:Dk}{S:List Sg}{op:Option Og}(o:dK vot0 M L D S op):Vk L.w.first L.w.recs L.sn L.l (eW none ((S++cw op).map Sg.v)):=by
 rcases o.val with ⟨h1,h2,h3,h4⟩|⟨f,r,h1,h2⟩
 ·rw[h1];exact ⟨h2,h3,h4⟩
 rw[h1];exact h2
def dK.chg{vot0:List Int}{M M':Nat}{L:Lg}{D E:Dk}{S S':List Sg}{op op':Option Og}(o:dK vot0 M L D S op){W:Wl}{l:List aI}(w:WI W E S' op')(hold:W.old=(S'++cw op').map fun s=>(s.num,s.idx))(hs:∀ a,a % 4≠1->E.sec a=D.sec a)
  (hfr:∀ s∈S'++cw op',L.fr<=s.num) (hn1:L.fr<=W.next) (hn2:W.next<=M') (ok:gi none ((S'++cw op').map Sg.v)) (vk:Vk W.first W.recs L.sn l (eW none ((S'++cw op').map Sg.v))) (g:i6 L.sn l):dK vot0 M' { L with w:=W,l:=l } E S' op' where
 code:=o.code
 wcode:=w.code
 old:=hold
 seg:=w.seg
 opn:=w.opn
 ops:=w.ops
 lt:=w.lt
 frS:=hfr
 frn:=hn1
 next:=hn2
 ok:=ok
 val:=by
  cases hv:eW none ((S'++cw op').map Sg.v) with
  | none=>
   rw[hv] at vk;refine .inl ⟨?_,vk.1,vk.2.1,vk.2.2⟩;cases hx:S'++cw op' with
   | nil=>rfl
   | cons a q=>rw[hx,aao] at hv;exact absurd hv (wy (q.map Sg.v) (some (eQ none a.v)) (fun e=>by cases e))
  | some x=>
   rw[hv] at vk;exact .inr ⟨x.1,x.2,I,vk⟩
 hardF:=by rw[hs 0 SU];exact o.hardF
 hardS:=by rw[hs 0 SU];exact o.hardS
 hardV:=o.hardV
 headF:=by rw[hs 4 SU];exact o.headF
 headS:=by rw[hs 4 SU];exact o.headS
 headV:=o.headV
 dat:=by rw[hs _ (by simp[bU])];exact o.dat
 good:=g
def dK.found{vot0:List Int}{M M':Nat}{L:Lg}{D E:Dk}{S S':List Sg}{op op':Option Og}(o:dK vot0 M L D S op)(hM:M<=M')(hM':M'<=eV)(hidx:L.sn.idx<=bY)(d:iI E S' op')(hS:∀ s∈S',L.fr<=s.num/\s.num<M')(ho:∀ q,op'=some q->L.fr<=q.num/\q.num<M')(p:ge S' op' L.sn Q):ft E L.fr M' L.sn Q:=
 AZ d hidx hM' (by have:=o.frn;have:=o.next;omega) hS ho p
def dK.foundS{vot0:List Int}{M M':Nat}{L:Lg}{D E:Dk}{S:List Sg}{op:Option Og}(o:dK vot0 M L D S op)(hM:M<=M')(hM':M'<=eV)(hidx:L.sn.idx<=bY)(p:ge S op L.sn Q)(d:iI E S op):ft E L.fr M' L.sn Q:=by
 refine o.found hM hM' hidx d (fun s hs=>?_) (fun q hq=>?_) p
 ·have h1:=o.frS s (aal.2 (.inl hs));have h2:=o.lt s (aal.2 (.inl hs));have:=o.next;omega
 subst hq;have h1:=o.frS ⟨q.num,q.idx,q.recs⟩ (by simp[cw]);have h2:=o.lt ⟨q.num,q.idx,q.recs⟩ (by simp[cw]);have:=o.next;dsimp only at h1 h2;omega
def pU.seg{D E:Dk}(h:pU D E){S:List Sg}{op:Option Og}(d:iI D S op):iI E S op:=d.frame (fun n=>h.2.1 _) fun a ha _=>h.2.2 a ha
def dK.up{vot0:List Int}{M M':Nat}{L:Lg}{D:Dk}{S:List Sg}{op:Option Og}(o:dK vot0 M L D S op)(h:M<=M'):dK vot0 M' L D S op:={ o with next:=aat o.next h }
end
section
def EZ{vot0:List Int}{M M' n:Nat}{L:Lg}{D E:Dk}{S S':List Sg}{q:Og}{op:Option Og}{W:Wl}(o:dK vot0 M L D S op)(hM:M<=M')(hM':M'<=eV)(hidx:L.sn.idx+ba L.l+1<bY)
  (w:WI W E S' (some q)) (hold:W.old=(S'++cw (some q)).map fun s=>(s.num,s.idx)) (hs:∀ a,a % 4≠1->E.sec a=D.sec a) (hfr:∀ s∈S'++cw (some q),L.fr<=s.num) (hn1:L.fr<=W.next) (hn2:W.next<=M')
  (ok:gi none ((S'++cw (some q)).map Sg.v)) (vk:Vk W.first W.recs L.sn L.l (eW none ((S'++cw (some q)).map Sg.v))) {Q:List aI->Prop} (p:ge S' (some q) L.sn Q) {e:aI} (hq:Q (L.l++[e])) (g:i6 L.sn (L.l++[e]))
  {k:gH} (hop:W.op=some k) (hf:k.full<=15) (h:dH (n+10) E) (hb:ba e.bytes<=512):
  ((ef W e.bytes E).2.2=0/\dH n (ef W e.bytes E).2.1/\(∀ a,a % 4≠1->(ef W e.bytes E).2.1.sec a=D.sec a)/\∃ S1 op1,dK vot0 M' { L with w:=(ef W e.bytes E).1,l:=L.l++[e] } (ef W e.bytes E).2.1 S1 op1/\ge S1 op1 L.sn Q) \/
   ((ef W e.bytes E).2.2=30/\(ef W e.bytes E).2.1.dead=true/\(∀ a,a % 4≠1->(ef W e.bytes E).2.1.sec a=D.sec a)/\ft (ef W e.bytes E).2.1 L.fr M' L.sn Q):=by
 obtain ⟨r1,r2⟩:=KO w hop hf h hb;have hv:(S'++cw (some q)).map Sg.v=S'.map Sg.v++[(q.idx,q.recs)]:=by simp[cw,Sg.v]
 rw[hv] at ok vk
 have vk2:Vk W.first (W.recs++[e.bytes]) L.sn (L.l++[e]) (eW none (S'.map Sg.v++[(q.idx,q.recs++[e.bytes])])):=by
  rw[tL] at vk ⊢;exact Vk.snoc vk e
 have ok2:gi none (S'.map Sg.v++[(q.idx,q.recs++[e.bytes])]):=by
  have hfin:=vk.fin;rw[xZ] at ok ⊢;obtain ⟨k1,k2,k3,_⟩:=ok;refine ⟨k1,k2,?_,trivial⟩
  grind [nZ,tL,Vk,eW,bY,bP]
 have hS:∀ s∈S',L.fr<=s.num/\s.num<M':=fun s hs=>⟨hfr s (aal.2 (.inl hs)),by have:=w.lt s (aal.2 (.inl hs));omega⟩
 have hqn:L.fr<=q.num/\q.num<M':=by
  have h1:=hfr ⟨q.num,q.idx,q.recs⟩ (by simp[cw]);have h2:=w.lt ⟨q.num,q.idx,q.recs⟩ (by simp[cw]);dsimp only at h1 h2;omega
 have pos:∀ T,ge S' (some { q with recs:=q.recs++[e.bytes],T:=T }) L.sn Q:=fun T=>Nu p ok2 hq g vk2.lv T;have hsec:∀ a,a % 4≠1->(ef W e.bytes E).2.1.sec a=D.sec a:=fun a ha=>by rw[r1 a ha,hs a ha]
 rcases r2 with ⟨g1,⟨k',g2⟩,g3,g4⟩|⟨g1,g2,g3,T1,g4,g5⟩
 ·refine .inl ⟨g1,g3,hsec,S',_,?_,pos (eX q.idx (q.recs++[e.bytes]))⟩;have e1:(S'++cw (some { q with recs:=q.recs++[e.bytes],T:=eX q.idx (q.recs++[e.bytes]) })).map Sg.v=S'.map Sg.v++[(q.idx,q.recs++[e.bytes])]:=by simp[cw,Sg.v]
  refine o.chg g4 ?_ hsec ?_ ?_ ?_ ?_ ?_ g
  all_goals grind [cw]
 refine .inr ⟨g1,g3,hsec,(o.found hM hM' qo g5 hS (fun q' hq'=>?_) (pos T1))⟩;cases hq';exact hqn
def Cz{vot0:List Int}{M n:Nat}{L:Lg}{D:Dk}{S:List Sg}{op:Option Og}(o:dK vot0 M L D S op)(hM':M+1<=eV)(hidx:L.sn.idx+ba L.l<bY)(p:ge S op L.sn Q)(hq:Q L.l){i:Nat}(h1:L.sn.idx+1<=i)(h2:i<=L.w.first+ba L.w.recs)
  (hq2:Q (L.l.take (i-(L.sn.idx+1)))) (h:dH (n+10) D):
  (∀ a,a % 4≠1->(L.w.begin i D).2.sec a=D.sec a)/\((∃ k,k.full<=1/\(L.w.begin i D).1={ L.w with op:=some k,next:=L.w.next+1,old:=L.w.old++[(L.w.next,i)] }/\dH n (L.w.begin i D).2/\WI (L.w.begin i D).1 (L.w.begin i D).2 (S++cw op) (some ⟨L.w.next,i,[],eX i [],0⟩) /\
   ge (S++cw op) (some ⟨L.w.next,i,[],eX i [],0⟩) L.sn Q/\gi none ((S++cw op).map Sg.v++[(i,[])])/\Vk L.w.first (L.w.recs.take (i-L.w.first)) L.sn (L.l.take (i-(L.sn.idx+1))) (eW none ((S++cw op).map Sg.v++[(i,[])]))) \/
   ((L.w.begin i D).1.code=30/\(L.w.begin i D).2.dead=true/\ft (L.w.begin i D).2 L.fr (M+1) L.sn Q)):=by
 have hfin:=o.vk.fin;have hi:i<=bP:=by unfold bP;unfold bY at hidx;omega
 obtain ⟨r1,r2⟩:=KD o.wi h hi;have hpb:=fun T=>J4 o.ok o.vk o.good hq h1 h2 hi hq2 L.w.next T;refine ⟨r1,?_⟩;rcases r2 with ⟨k,g1,g2,g3,g4⟩|⟨g1,g2⟩|⟨g1,g2,T1,g3,g4⟩
 ·obtain ⟨b1,b2,b3⟩:=hpb (eX i [])
  simp_all
 ·exact .inr ⟨g1,g2.1,o.foundS qo hM' qo p (g2.seg o.seg)⟩
 have hn:=o.next;have hfn:=o.frn;refine .inr ⟨g1,g2,o.found qo hM' qo g4 (fun s hs=>?_) (fun q hq=>?_) (hpb T1).1⟩
 ·have h3:=o.frS s hs;have h4:=o.lt s hs;omega
 cases hq;dsimp only;omega
def Oc{vot0:List Int}{M n:Nat}{L:Lg}{D:Dk}{S:List Sg}{op:Option Og}(o:dK vot0 M L D S op)(hM':M+1<=eV)(hidx:L.sn.idx+ba L.l+1<bY)(p:ge S op L.sn Q)(hq:Q L.l){e:aI}(hq2:Q (L.l++[e]))(g:i6 L.sn (L.l++[e]))(h:dH (n+20) D):
  ((L.w.append e.bytes D).2.2=0/\dH n (L.w.append e.bytes D).2.1/\(∀ a,a % 4≠1->(L.w.append e.bytes D).2.1.sec a=D.sec a)/\∃ S1 op1,dK vot0 (M+1) { L with w:=(L.w.append e.bytes D).1,l:=L.l++[e] } (L.w.append e.bytes D).2.1 S1 op1/\ge S1 op1 L.sn Q) \/
   ((L.w.append e.bytes D).2.2=30/\(L.w.append e.bytes D).2.1.dead=true/\(∀ a,a % 4≠1->(L.w.append e.bytes D).2.1.sec a=D.sec a)/\ft (L.w.append e.bytes D).2.1 L.fr (M+1) L.sn Q):=by
 have hfin:=o.vk.fin;have hb:=AH (g.2 e ST);have hnx:=o.next;have hfn:=o.frn;have htop:L.w.first+ba L.w.recs<bP:=by unfold bP;unfold bY at hidx;omega
 unfold Wl.append;rw[aaa (by rw[o.wcode];simp),aaa qo,aaa qo]
 by_cases hn:mR L.w.op=true
 ·rw[aab hn];have ht0:L.l.take (L.w.first+ba L.w.recs-(L.sn.idx+1))=L.l:=aar qo;obtain ⟨b0,b1⟩:=Cz (n:=n+10) (i:=L.w.first+ba L.w.recs) o hM' qo p hq qo (aac _) (by rw[ht0];exact hq) h;rcases b1 with ⟨k,g1,g2,g3,g4,g5,g6,g7⟩|⟨g1,g2,g3⟩
  ·rw[aaa (by rw[g4.code];simp)];rw[ht0,abx,aav] at g7;have hv:((S++cw op)++cw (some ⟨L.w.next,L.w.first+ba L.w.recs,[],eX (L.w.first+ba L.w.recs) [],0⟩)).map Sg.v=(S++cw op).map Sg.v++[(L.w.first+ba L.w.recs,[])]:=by simp[cw,Sg.v]
   refine EZ (n:=n) o qo hM' hidx g4 ?_ b0 ?_ ?_ ?_ (by rw[hv];exact g6) (by rw[hv,g2];exact g7) g5 hq2 g (k:=k) (by rw[g2]) qo g3 hb
   ·rw[g2];dsimp only;rw[aba,<-o.old];simp[cw]
   ·intro s hs;rcases aal.1 hs with hs|hs
    ·exact o.frS s hs
    simp_all [cw]
   all_goals grind
  simp_all
 rw[aaa hn];cases hop:op with
 | none=>exact absurd (by rw[o.opn hop];rfl) hn
 | some q=>
  subst hop;obtain ⟨k,k1,_⟩:=o.ops q rfl
  have hf:k.full<=15:=by
   grind [mR]
  exact EZ (n:=n) o qo hM' hidx o.wi o.old (fun _ _=>I) o.frS hfn qo o.ok o.vk p hq2 g k1 hf (h.mono qo) hb
end
section
def Cn(M:Nat)(L:Lg):Prop:=L.hard.num<=M/\L.head.num<=M/\L.place<=M
def j6(vot0:List Int)(M:Nat)(E:Dk)(A:List (Nat×Int))(P:bG->List aI->Prop):Prop:=∀ D',Cr E D'->0<=D'.room->∃ L E' S',gp D' vot0=(some L,E',0)/\(L.kt,L.kv)∈A/\P L.sn L.l/\dK vot0 M L E' S' none/\Cn M L/\cY 0 E'/\(E'.areas.map (·.1)).Nodup
def qy{vot0:List Int}{M:Nat}{E:Dk}{A:List (Nat×Int)}(hv:(eu vot0).isSome=true)(hh:∀ f',Pk (E.sec 0) f'->(dN f').num<=M/\∃ kh∈A,lN (dN f')=some kh)
  (he:∀ f',Pk (E.sec 4) f'->(dN f').num<=M/\∃ sn place fr,place<=M/\mP (dN f') vot0 sn place fr/\((dN f').num≠0->∀ g,Pk (E.sec (bU place)) g->kf g sn.data)/\ft E fr M sn (P sn)):j6 vot0 M E A P:=by
 intro D' c hr;obtain ⟨h1,kh,h2,h3⟩:=hh _ (c.pk 0);obtain ⟨e1,sn,place,fr,e2,e3,e4,e5⟩:=he _ (c.pk 4);obtain ⟨L,E',S',k1,k2,k3,k4,k5,k6,k7,k8,k9,k10⟩:=IE c hr hv h3 e3 (fun h=>e4 h _ (c.pk _)) e5;refine ⟨L,E',S',k1,by rw[k3];exact h2,by rw[k2];exact k4,k5,⟨by rw[k8];exact h1,by rw[k9];exact e1,qo⟩,k6,k7⟩
theorem kf.pk{f g:SF}{d:List UInt8}(h:kf f d)(p:Pk f g):kf g d:=by rw[h.fx.pk p];exact h
def dK.hardP{vot0:List Int}{M M':Nat}{L:Lg}{D E:Dk}{S:List Sg}{op:Option Og}(o:dK vot0 M L D S op)(cn:Cn M' L)(hs:E.sec 0=D.sec 0){A:List (Nat×Int)}(hA:(L.kt,L.kv)∈A):∀ f',Pk (E.sec 0) f'->(dN f').num<=M'/\∃ kh∈A,lN (dN f')=some kh:=by
 intro f' p;rw[hs] at p;rw[o.hardF.pk p,o.hardS];exact ⟨cn.1,_,hA,o.hardV⟩
def dK.headP{vot0:List Int}{M M':Nat}{L:Lg}{D E:Dk}{S:List Sg}{op:Option Og}(o:dK vot0 M L D S op)(cn:Cn M' L)(hs:E.sec 4=D.sec 4)(hs2:E.sec (bU L.place)=D.sec (bU L.place))(w:ft E L.fr M' L.sn (P L.sn)):
  ∀ f',Pk (E.sec 4) f'->(dN f').num<=M'/\∃ sn place fr,place<=M'/\mP (dN f') vot0 sn place fr/\((dN f').num≠0->∀ g,Pk (E.sec (bU place)) g->kf g sn.data)/\ft E fr M' sn (P sn):=by
 intro f' p;rw[hs] at p;rw[o.headF.pk p,o.headS];exact ⟨cn.2.1,_,_,_,cn.2.2,o.headV,fun h g pg=>(o.dat h).pk (by rw[<-hs2];exact pg),w⟩
def dK.fnd{vot0:List Int}{M M':Nat}{L:Lg}{D E:Dk}{S:List Sg}{op:Option Og}(o:dK vot0 M L D S op)(hv:(eu vot0).isSome=true)(cn:Cn M' L)(hs:∀ a,a % 4≠1->E.sec a=D.sec a)(w:ft E L.fr M' L.sn (P L.sn)){A:List (Nat×Int)}(hA:(L.kt,L.kv)∈A):j6 vot0 M' E A P:=
 qy hv (o.hardP cn (hs 0 SU) hA) (o.headP cn (hs 4 SU) (hs _ (by simp[bU])) w)
theorem DZ{vot0:List Int}{Q:List aI->Prop}:∀ (x:List aI) (M n:Nat) (L:Lg) (D:Dk) (S:List Sg) (op:Option Og),dK vot0 M L D S op->M+ba x<=eV->L.sn.idx+ba L.l+ba x<bY->ge S op L.sn Q->(∀ k,k<=ba x->Q (L.l++x.take k))->i6 L.sn (L.l++x)->dH (n+20*ba x) D ->
  ((Lg.app1 x L D).2.2=0/\dH n (Lg.app1 x L D).2.1/\(∃ W,(Lg.app1 x L D).1={ L with w:=W,l:=L.l++x })/\∃ S1 op1,dK vot0 (M+ba x) (Lg.app1 x L D).1 (Lg.app1 x L D).2.1 S1 op1/\ge S1 op1 L.sn Q) \/
   ((Lg.app1 x L D).2.2=30/\(Lg.app1 x L D).2.1.dead=true/\(∀ a,a % 4≠1->(Lg.app1 x L D).2.1.sec a=D.sec a)/\ft (Lg.app1 x L D).2.1 L.fr (M+ba x) L.sn Q)
 | [],M,n,L,D,S,op,o,_,_,p,_,_,h=>.inl ⟨rfl,h.mono qo,⟨L.w,by rw[aaw];rfl⟩,S,op,o,p⟩
 | e::r,M,n,L,D,S,op,o,hM,hl,p,hq,g,h=>by
  simp only[aaj] at hM hl h hq;have hq0:Q L.l:=by have:=hq 0 qo;simpa using this
  have hq1:Q (L.l++[e]):=by have:=hq 1 qo;simpa using this
  have hg1:i6 L.sn (L.l++[e]):=by
   have:=g.take (ba L.l+1)
   grind
  rw[tY];rcases Oc (n:=n+20*ba r) o qo qo p hq0 hq1 hg1 (h.mono qo) with ⟨g1,g2,g3,S1,op1,g4,g5⟩|⟨g1,g2,g3,g4⟩
  ·rw[aaa (by rw[g1];simp)];have hap:L.l++e::r=(L.l++[e])++r:=by simp
   rcases DZ r (M+1) n { L with w:=(L.w.append e.bytes D).1,l:=L.l++[e] } _ S1 op1 g4 qo (by grind) g5 (fun k hk=>by
    have:=hq (k+1) qo
    grind) (by dsimp only;rw[<-hap];exact g) g2 with ⟨k1,k2,⟨W,k3⟩,S2,op2,k4,k5⟩|⟨k1,k2,k3,k4⟩
   all_goals grind
  rw[aab qo];refine .inr ⟨g1,g2,g3,fun F c hr=>?_⟩;obtain ⟨S',W,E,l,w1,w2,w3⟩:=g4 F c hr;exact ⟨S',W,E,l,w1,⟨w2.op,w2.code,w2.old,w2.lt,w2.frn,by have:=w2.next;simp only[aaj];omega,w2.seg,w2.vw⟩,w3⟩
end
section
def H4:List aI->List aI->Nat
 | a::l,b::s=>if a=b then H4 l s+1 else 0
 | _,_=>0
def SO(r s:Rl)(sn:bG)(l:List aI):Prop:=(r.sn=s.sn/\sn=s.sn/\∃ k,H4 r.l s.l<=k/\k<=ba s.l/\l=s.l.take k)\/(r.sn≠s.sn/\sn=s.sn/\l=s.l)
def L6{sn:bG}{l x:List aI}(g:i6 sn l)(hf:fW (sn.idx+ba l) (fZ sn l (sn.idx+ba l)).1 x=0)(hx:∀ e∈x,kR e):i6 sn (l++x):=by
 refine ⟨(xy _ _ _ _).2 ⟨g.1,?_⟩,fun e he=>?_⟩
 ·simp_all [BN]
 rcases aal.1 he with he|he
 ·exact g.2 e he
 exact hx e he
end
section
def Cn.up{M M':Nat}{L:Lg}(h:Cn M L)(k:M<=M'):Cn M' L:=⟨aat h.1 k,aat h.2.1 k,aat h.2.2 k⟩
def p9(op:Option Og):Prop:=∀ o,op=some o->o.t0=ba (eX o.idx o.recs)
def qn{S:List Sg}{op:Option Og}{sn:bG}{l:List aI}(hl:p9 op)(ok:gi none ((S++cw op).map Sg.v))(g:i6 sn l)(lv:LV sn (eW none ((S++cw op).map Sg.v)) l):ge S op sn (fun l'=>l'=l):=by
 intro t ht;cases op with
 | none=>
  have:t=none:=ht;subst this;rw[show S++cw none=S from aaw S] at ok lv
  simp_all
 | some o=>
  have h0:=hl o rfl;have hv:(S++cw (some o)).map Sg.v=S.map Sg.v++[(o.idx,o.recs)]:=by simp[cw,Sg.v]
  rw[hv] at ok lv;cases t with
  | none=>
   have ht:o.t0<ba (aU o.idx):=ht
   grind [eX]
  | some t=>
   obtain ⟨i',rs⟩:=t;obtain ⟨e1,j,e2,e3,e4⟩:=ht;have:=e4 (ba o.recs) (aac _) (by simp_all)
   grind
def wN{vot0:List Int}{M n:Nat}{L:Lg}{D:Dk}{S:List Sg}{op:Option Og}(o:dK vot0 M L D S op)(h:dH n D):
  ((L.w.sync D).1=L.w/\dH n (L.w.sync D).2/\(∀ a,a % 4≠1->(L.w.sync D).2.sec a=D.sec a)/\∃ op',dK vot0 M L (L.w.sync D).2 S op'/\p9 op'/\ge S op' L.sn (fun l=>l=L.l)) \/
   ((L.w.sync D).1.code=30/\pU D (L.w.sync D).2):=by
 rcases BD o.wi h with ⟨g1,g2,g3,g4,g5,g6⟩|g
 ·have e1:cw (op.map Og.lasts)=cw op:=by cases op <;> rfl
  have hlst:p9 (op.map Og.lasts):=by
   intro q hq;cases op with
   | none=>cases hq
   | some q'=>
    cases hq;obtain ⟨k,_,_,k3,_⟩:=o.ops q' rfl;show ba q'.T=_;rw[k3]
    rfl
  refine .inl ⟨g1,g2,g5,_,?_,hlst,qn hlst (by rw[e1];exact o.ok) o.good (by rw[e1];exact o.vk.lv)⟩;have:=o.chg (W:=L.w) (l:=L.l) (M':=M) g3 (by rw[e1];exact o.old) g5 (by rw[e1];exact o.frS) o.frn o.next (by rw[e1];exact o.ok) (by rw[e1];exact o.vk) o.good;exact this
 exact .inr g
theorem DI{vot0:List Int}{M n:Nat}:∀ (f:Nat) (L:Lg) (D:Dk) (S:List Sg) (op:Option Og),dK vot0 M L D S op->M<=eV->L.sn.idx<=bY->L.w.first=L.sn.idx+1->p9 op->dH n D ->
  (∀ a,a % 4≠1->(wfree (L.sn.idx+1) f L.w.old D).2.1.sec a=D.sec a) /\
  (((wfree (L.sn.idx+1) f L.w.old D).2.2=0/\dH n (wfree (L.sn.idx+1) f L.w.old D).2.1/\∃ S',dK vot0 M { L with w:={ L.w with old:=(wfree (L.sn.idx+1) f L.w.old D).1 } } (wfree (L.sn.idx+1) f L.w.old D).2.1 S' op) \/
   ((wfree (L.sn.idx+1) f L.w.old D).2.2=30/\(wfree (L.sn.idx+1) f L.w.old D).2.1.dead=true/\ft (wfree (L.sn.idx+1) f L.w.old D).2.1 L.fr M L.sn (fun l=>l=L.l)))
 | 0,L,D,S,op,o,_,_,_,_,h=>⟨fun _ _=>rfl,.inl ⟨rfl,h,S,o⟩⟩
 | f+1,L,D,S,op,o,hM,hidx,hfst,hl,h=>by
  unfold Go.En.wfree
  by_cases hc:1<ba L.w.old/\mK L.w.old (L.sn.idx+1)=true
  ·rw[aab hc];obtain ⟨hc1,hc2⟩:=hc;have hlen:=congrArg List.length o.old;rw[aaP,aaf] at hlen;have hop1:ba (cw op)<=1:=by cases op <;> simp[cw]
   cases S with
   | nil=>simp only[aaG] at hlen;omega
   | cons s0 S=>
    have hold:=o.old;rw[aaz,aao] at hold;have hh:(L.w.old.headD (0,0)).1=s0.num:=by rw[hold];rfl
    have hd:L.w.old.drop 1=(S++cw op).map fun s=>(s.num,s.idx):=by rw[hold];rfl
    rw[hh,hd];have hseg:=o.seg;have hasc:=aaE.1 hseg.asc;have hlt0:∀ q,op=some q->s0.num<q.num:=fun q hq=>(hseg.op q hq).1 s0 ST
    obtain ⟨t,ht1,ht2⟩:∃ s∈(S++cw op).map Sg.v,s.1<=L.sn.idx+1:=by
     unfold mK at hc2;rw[hd,List.any_map,List.any_eq_true] at hc2;obtain ⟨s,h1,h2⟩:=hc2;exact ⟨s.v,aak.2 ⟨s,h1,I⟩,by simpa[Sg.v] using h2⟩
    have hok:=o.ok;have hvk:=o.vk;rw[aaz,aao] at hok hvk;obtain ⟨ok2,a,b,ea,eb,hag⟩:=BU ((S++cw op).map Sg.v) (eQ none s0.v) none (.inl rfl) hok.2.2 ⟨t,ht1,ht2⟩;rw[show eW none (s0.v::(S++cw op).map Sg.v)=eW (some (eQ none s0.v)) ((S++cw op).map Sg.v) from rfl,ea] at hvk
    have hvk2:Vk L.w.first L.w.recs L.sn L.l (eW none ((S++cw op).map Sg.v)):=by
     rw[eb];obtain ⟨f1,r1⟩:=a;obtain ⟨f2,r2⟩:=b;obtain ⟨k1,k2,k3,k4⟩:=hag;obtain ⟨q1,q2,q3,q4,q5⟩:=hvk;dsimp only at k1 k2 k3 k4;refine ⟨qo,q2,qo,?_,?_⟩
     all_goals simp_all
    have hkfree:∀ k∈(D.free (aJ s0.num)).1.areas.map (·.1),k∈D.areas.map (·.1):=fun k hk=>by
     rcases (Rw.free (aJ s0.num) (Rw.refl [] D)).keys k hk with g|g
     ·exact g
     simp at g
    rcases h.free (aJ s0.num) with ⟨g1,g2,g3,g4⟩|⟨g1,g2,g3⟩
    ·rw[aaa (by rw[g1];simp)]
     have hgone:aJ s0.num∉(D.free (aJ s0.num)).1.areas.map (·.1):=by
      unfold Dk.free;rw[aaa (by rw[h.dead];decide)]
      split
      ·grind [Dk.free]
      show aJ s0.num∉(eC (aJ s0.num) D.areas).map (·.1);have hx:=rU (aJ s0.num) (aJ s0.num) D.areas h.keys;rw[aab rfl] at hx;exact iC.1 hx
     have hs1:∀ a,a % 4≠1->(D.free (aJ s0.num)).1.sec a=D.sec a:=fun a ha=>g4 a (fun e=>ha (by rw[e];simp[aJ]))
     have hw:WI { L.w with old:=(S++cw op).map fun s=>(s.num,s.idx) } (D.free (aJ s0.num)).1 S op:=by
      refine ⟨o.wcode,⟨fun a ha h1=>?_,hasc.2,fun s hs=>hseg.bd s (by simp[hs]),fun s hs=>?_,fun q hq=>?_⟩,o.opn,o.ops,fun s hs=>o.lt s (by simp_all)⟩
      ·rcases hseg.keys a (hkfree a ha) h1 with ⟨s,hs,e⟩|h2
       all_goals grind
      ·rw[g4 _ (sB (by have:=hasc.1 s hs;omega))];exact hseg.cl s (by simp[hs])
      obtain ⟨q1,q2,q3,q4,q5⟩:=hseg.op q hq
      grind [sB]
     have ho2:=o.chg (M':=M) hw rfl hs1 (fun s hs=>o.frS s (by simp_all)) o.frn o.next ok2 hvk2 o.good;have hr:=DI f _ _ S op ho2 hM hidx hfst hl g2
     simp_all
    rw[aab qo];exact ⟨fun a _=>g3 a,.inr ⟨g1,g2,o.foundS (aac _) hM hidx (qn hl o.ok o.good o.vk.lv) (pU.seg ⟨g2,g3,hkfree⟩ o.seg)⟩⟩
  rw[aaa hc];exact ⟨fun _ _=>I,.inl ⟨I,h,S,o⟩⟩
end
section
def Vk.low{first:Nat}{recs:List cM}{sn:bG}{l:List aI}{v:Vl}(h:Vk first recs sn l v)(hlt:first<sn.idx+1):Vk (sn.idx+1) (recs.drop (sn.idx+1-first)) sn l v:=by
 cases v with
 | none=>have:=h.2.1;omega
 | some x=>
  obtain ⟨f,r⟩:=x;obtain ⟨q1,q2,q3,q4,q5⟩:=h;refine ⟨qo,aac _,q3,?_,q5⟩
  grind [List.drop_drop]
def IN{W:Wl}{D:Dk}(h:W.code≠0):W.sync D=(W,D):=by unfold Wl.sync;rw[aab h]
def Iw{vot0:List Int}{M n:Nat}{L:Lg}{D:Dk}{S:List Sg}{op:Option Og}(o:dK vot0 M L D S op)(hM':M+1<=eV)(hidx:L.sn.idx+ba L.l<bY)(hl:p9 op)(h:dH (n+10) D):
  (∀ a,a % 4≠1->(L.w.compact1 (L.sn.idx+1) D).2.sec a=D.sec a)/\(((L.w.compact1 (L.sn.idx+1) D).1.first=L.w.first/\(L.w.compact1 (L.sn.idx+1) D).1.recs=L.w.recs/\dH n (L.w.compact1 (L.sn.idx+1) D).2/\∃ S1 op1,dK vot0 (M+1) { L with w:=(L.w.compact1 (L.sn.idx+1) D).1 } (L.w.compact1 (L.sn.idx+1) D).2 S1 op1/\ge S1 op1 L.sn (fun l=>l=L.l)) \/
   ((L.w.compact1 (L.sn.idx+1) D).1.code=30/\(L.w.compact1 (L.sn.idx+1) D).2.dead=true/\ft (L.w.compact1 (L.sn.idx+1) D).2 L.fr (M+1) L.sn (fun l=>l=L.l))):=by
 have hp:=qn hl o.ok o.good o.vk.lv;have hnx:=o.next;have hfn:=o.frn;unfold Wl.compact1
 by_cases he:L.sn.idx+1=L.w.first+ba L.w.recs
 ·rw[aab he];have hfin:=o.vk.fin;have hnil:ba L.l=0:=qo
  have htk:L.l.take (L.sn.idx+1-(L.sn.idx+1))=L.l:=aar qo;obtain ⟨b0,b1⟩:=Cz (n:=n) (i:=L.sn.idx+1) o hM' qo hp rfl (aac _) qo htk h;refine ⟨b0,?_⟩;rcases b1 with ⟨k,g1,g2,g3,g4,g5,g6,g7⟩|⟨g1,g2,g3⟩
  ·rw[htk,aar qo] at g7;have hv:((S++cw op)++cw (some ⟨L.w.next,L.sn.idx+1,[],eX (L.sn.idx+1) [],0⟩)).map Sg.v=(S++cw op).map Sg.v++[(L.sn.idx+1,[])]:=by simp[cw,Sg.v]
   refine .inl ⟨by rw[g2],by rw[g2],g3,_,_,?_,g5⟩
   have:=o.chg (M':=M+1) (l:=L.l) (W:=(L.w.begin (L.sn.idx+1) D).1) g4 (by
    rw[g2];dsimp only;rw[aba,<-o.old];simp[cw]) b0 (fun s hs=>by
    rcases aal.1 hs with hs|hs
    ·exact o.frS s hs
    simp_all [cw]) (by rw[g2];dsimp only;omega) (by rw[g2];dsimp only;omega) (by rw[hv];exact g6) (by rw[hv,g2];exact g7) o.good
   exact this
  exact .inr ⟨g1,g2,g3⟩
 rw[aaa he];exact ⟨fun _ _=>I,.inl ⟨I,I,h.mono qo,S,op,o.up qo,hp⟩⟩
def IL{vot0:List Int}{M n:Nat}{L:Lg}{D:Dk}{S:List Sg}{op:Option Og}(o:dK vot0 M L D S op)(hM':M+1<=eV)(hidx:L.sn.idx+ba L.l<bY)(hlt:L.w.first<L.sn.idx+1)(hl:p9 op)(h:dH (n+10) D):
  (∀ a,a % 4≠1->(L.w.compact (L.sn.idx+1) D).2.1.sec a=D.sec a)/\(((L.w.compact (L.sn.idx+1) D).2.2=0/\dH n (L.w.compact (L.sn.idx+1) D).2.1/\∃ S1 op1,dK vot0 (M+1) { L with w:=(L.w.compact (L.sn.idx+1) D).1 } (L.w.compact (L.sn.idx+1) D).2.1 S1 op1/\p9 op1) \/
   ((L.w.compact (L.sn.idx+1) D).2.1.dead=true/\ft (L.w.compact (L.sn.idx+1) D).2.1 L.fr (M+1) L.sn (fun l=>l=L.l))):=by
 have hfin:=o.vk.fin;obtain ⟨c0,c1⟩:=Iw (n:=n) o hM' hidx hl h;unfold Wl.compact;rw[aaa (by rw[o.wcode];simp),aaa qo,aaa qo];rcases c1 with ⟨e1,e2,c2,S1,op1,c3,c4⟩|⟨c2,c3,c4⟩
 ·rcases wN c3 c2 with ⟨s1,s2,s3,op2,s4,s5,s6⟩|⟨s1,s2⟩
  ·have ew:(L.w.compact2 (L.sn.idx+1) D).1=(L.w.compact1 (L.sn.idx+1) D).1:=s1;have s2:dH n (L.w.compact2 (L.sn.idx+1) D).2:=s2;have s3:∀ a,a % 4≠1->(L.w.compact2 (L.sn.idx+1) D).2.sec a=(L.w.compact1 (L.sn.idx+1) D).2.sec a:=s3;have s4:dK vot0 (M+1) { L with w:=(L.w.compact1 (L.sn.idx+1) D).1 } (L.w.compact2 (L.sn.idx+1) D).2 S1 op2:=s4;rw[ew];have hwc:(L.w.compact1 (L.sn.idx+1) D).1.code=0:=s4.wcode;rw[aaa qo];have hvk:=s4.vk;dsimp only at hvk;rw[e1,e2] at hvk;have ho2:=s4.chg (M':=M+1) (l:=L.l) (W:={ (L.w.compact1 (L.sn.idx+1) D).1 with first:=L.sn.idx+1,recs:=L.w.recs.drop (L.sn.idx+1-L.w.first) }) ⟨s4.wcode,s4.seg,s4.opn,s4.ops,s4.lt⟩ s4.old (fun _ _=>rfl) s4.frS s4.frn s4.next s4.ok (hvk.low hlt) s4.good;have hfr:=DI (ba (L.w.compact1 (L.sn.idx+1) D).1.old+1) _ _ S1 op2 ho2 hM' ax rfl s5 s2
   grind
  have s1:(L.w.compact2 (L.sn.idx+1) D).1.code=30:=s1;have s2:pU (L.w.compact1 (L.sn.idx+1) D).2 (L.w.compact2 (L.sn.idx+1) D).2:=s2;rw[aab qo];exact ⟨fun a ha=>by dsimp only;rw[s2.2.1 a,c0 a ha],.inr ⟨s2.1,c3.foundS (aac _) hM' ax c4 (s2.seg c3.seg)⟩⟩
 simp_all [IN,Wl.compact2]
theorem EX(place:Nat)(data:List UInt8):∀ (f n m:Nat) (b:List UInt8) (D:Dk),b=data.drop (64*n)->ba b<f->n+(ba b+63) / 64<=65536->dH (m+(ba b+63) / 64) D ->
  (∀ j:Nat,j<n->64*j<ba data->ia (D.sec (bU place)) j=some (fE ((data.drop (64*j)).take 64))) ->
  (∀ a,a≠((bU place:Nat):Int)->(lgW place f n b D).1.sec a=D.sec a) /\
  (((lgW place f n b D).2=0/\dH m (lgW place f n b D).1/\∀ j:Nat,64*j<ba data->ia ((lgW place f n b D).1.sec (bU place)) j=some (fE ((data.drop (64*j)).take 64)))\/((lgW place f n b D).2=30/\(lgW place f n b D).1.dead=true))
 | 0,_,_,_,_,_,hf,_,_,_=>by omega
 | f+1,n,m,b,D,hb,hf,hn,h,hw=>by
  rw[sh];have hbl:ba b=ba data-64*n:=by rw[hb,aan]
  by_cases hb0:b=[]
  ·rw[aab hb0];rw[hb0,aaG] at hbl;exact ⟨fun _ _=>I,.inl ⟨I,h.mono qo,fun j hj=>hw j qo hj⟩⟩
  rw[aaa hb0];have hb1:0<ba b:=by grind
  obtain ⟨w1,w2,w3⟩:=dH.write (n:=m+(ba b-64+63) / 64) (h.mono qo) (bU place) n (b.take 64) qo qo (by rw[aam];omega);rcases w1 with ⟨g1,g2⟩|⟨g1,g2⟩
  ·rw[aaa (by rw[g1];simp)]
   obtain ⟨r1,r2⟩:=EX place data f (n+1) m (b.drop 64) _ (by grind [List.drop_drop]) (by rw[aan];omega) (by rw[aan];omega) (by rw[aan];exact g2) (fun j hj hj2=>by
    rw[w2];unfold ia kL
    by_cases e:j=n
    ·subst e;rw[aab rfl,<-hb];simp[io]
    rw[aaa qo];exact hw j qo hj2)
   simp_all
  simp_all
end
section
def Rw.seg{A:List Int}{D E:Dk}(h:Rw A D E)(hA:∀ a∈A,a % 4≠1):∀ a∈E.areas.map (·.1),a % 4=1->a∈D.areas.map (·.1):=fun a ha h1=>by
 rcases h.keys a ha with h2|h2
 ·exact h2
 exact absurd h1<|hA a h2
def ft.fr2{D E:Dk}{fr M:Nat}{sn:bG}(h:ft D fr M sn Q)(hs:∀ a,a % 4=1->E.sec a=D.sec a)(hk:∀ a∈E.areas.map (·.1),a % 4=1->a∈D.areas.map (·.1)):ft E fr M sn Q:=
 h.frame (fun n=>hs _ (by simp[aJ])) fun n hn=>hk _ hn (by unfold aJ;omega)
def QB{vot0:List Int}{M:Nat}{E:Dk}{H:df}{s:bG}{place fr:Nat}(hf:Fx (E.sec 4))(hs:dN (E.sec 4)=H)(hok:mP H vot0 s place fr)(hd:kf (E.sec (bU place)) s.data)(hp:place<=M)(hn:H.num<=M)(w:ft E fr M s (P s)):
  ∀ f',Pk (E.sec 4) f'->(dN f').num<=M/\∃ sn place fr,place<=M/\mP (dN f') vot0 sn place fr/\((dN f').num≠0->∀ g,Pk (E.sec (bU place)) g->kf g sn.data)/\ft E fr M sn (P sn):=by
 intro f' p;rw[hf.pk p,hs];exact ⟨hn,s,place,fr,hp,hok,fun _ g pg=>hd.pk pg,w⟩
structure SOk (s:bG):Prop where
 idx:s.idx<bY
 term:s.term<=aC
 data:ba s.data<=2097152
 vot:(eu s.vot).isSome=true
def NF{vot0:List Int}{M n:Nat}{L:Lg}{D:Dk}{S:List Sg}{op:Option Og}(o:dK vot0 M L D S op)(hv:(eu vot0).isSome=true)(cn:Cn M L){A:List (Nat×Int)}(hA:(L.kt,L.kv)∈A)(s:bG)(hs:SOk s)(fr:Nat)(hM:M+1<=2000000)(hfr:fr<=M)
  (w0:ft D L.fr (M+1) L.sn (P L.sn)) (w1:ft D fr (M+1) s (P s)) (h:dH (n+((ba s.data+63) / 64+1)) D):
  (∀ a,a % 4=1->(L.lay s fr D).2.1.sec a=D.sec a)/\(∀ a∈(L.lay s fr D).2.1.areas.map (·.1),a % 4=1->a∈D.areas.map (·.1)) /\
  (((L.lay s fr D).2.2=0/\dH n (L.lay s fr D).2.1/\(L.lay s fr D).1={ L.laid s fr ⟨L.head.num+1,Lg.say s (L.place+1) fr⟩ with code:=0 }/\(L.lay s fr D).2.1.sec 0=D.sec 0/\Fx ((L.lay s fr D).2.1.sec 4)/\dN ((L.lay s fr D).2.1.sec 4)=⟨L.head.num+1,Lg.say s (L.place+1) fr⟩/\kf ((L.lay s fr D).2.1.sec (bU (L.place+1))) s.data) \/
   ((L.lay s fr D).2.2≠0/\(L.lay s fr D).2.1.dead=true/\j6 vot0 (M+1) (L.lay s fr D).2.1 A P)):=by
 have cn1:=cn.up (show M<=M+1 by omega);have hp:=cn.2.2;have hh:=cn.2.1;have hpa:((bU (L.place+1):Nat):Int) % 4=2:=by simp[bU]
 have hpb:((bU L.place:Nat):Int) % 4=2:=by simp[bU]
 have hpc:((bU L.place:Nat):Int)≠((bU (L.place+1):Nat):Int):=by unfold bU;omega
 obtain ⟨v1,v2⟩:=EX (L.place+1) s.data (ba s.data+1) 0 (n+1) s.data D rfl qo (by have:=hs.data;omega) (h.mono qo) (fun j hj=>by omega);have vk:=yz (L.place+1) (ba s.data+1) 0 s.data D;unfold Lg.lay;generalize lgW (L.place+1) (ba s.data+1) 0 s.data D=R1 at v1 v2 vk;obtain ⟨E1,c1⟩:=R1;dsimp only at v1 v2 vk ⊢;have k1:=vk.seg (fun a ha=>by simp_all);have a1:∀ a,a % 4≠2->E1.sec a=D.sec a:=fun a ha=>v1 a (fun e=>by omega);rcases v2 with ⟨x1,x2,x3⟩|⟨x1,x2⟩
 ·rw[aaa (by rw[x1];simp)];unfold Lg.lay1;have yk:=(Rw.sync (bU (L.place+1)) (Rw.refl [] E1)).seg (fun a ha=>by simp at ha);have y:=x2.sync (bU (L.place+1));generalize E1.sync (bU (L.place+1))=R2 at y yk;obtain ⟨E2,c2⟩:=R2;dsimp only at y yk ⊢;rcases y with ⟨y1,y2,y3,y4⟩|⟨y1,y2,y3⟩
  ·rw[aaa (by rw[y1];simp)];have a2:∀ a,a % 4≠2->E2.sec a=D.sec a:=fun a ha=>by grind
   have b2:E2.sec (bU L.place)=D.sec (bU L.place):=by rw[y4 _ hpc,v1 _ hpc]
   have d2:kf (E2.sec (bU (L.place+1))) s.data:=⟨by rw[y3];exact xL _,fun j hj=>by rw[y3,ur];exact x3 j hj⟩;unfold Lg.lay2;have hsay:=EN (fr:=fr) (place:=L.place+1) (by have:=hs.idx;unfold bY at this;unfold aC;omega) hs.term qo qo hs.data hs.vot;have z:=JR (n:=n) (h:=y2.mono qo) 4 (S:=L.head) (v:=Lg.say s (L.place+1) fr) (by rw[a2 _ SU];exact o.headF) (by rw[a2 _ SU];exact o.headS) hsay qo;have zk:=(EO L.head 4 E2 (Lg.say s (L.place+1) fr)).seg (fun a ha=>by simp_all);generalize L.head.save 4 E2 (Lg.say s (L.place+1) fr)=R3 at z zk;obtain ⟨H,E3,c3⟩:=R3;dsimp only at z zk ⊢;obtain ⟨z0,z⟩:=z;have hp4:((bU L.place:Nat):Int)≠((4:Nat):Int):=qo
   have hp5:((bU (L.place+1):Nat):Int)≠((4:Nat):Int):=qo
   have a3:∀ a,a % 4=1->E3.sec a=D.sec a:=fun a ha=>by grind
   have k3:∀ a∈E3.areas.map (·.1),a % 4=1->a∈D.areas.map (·.1):=fun a ha h1=>k1 a (yk a (zk a ha h1) h1) h1;have e30:E3.sec 0=D.sec 0:=by rw[z0 0 SU,a2 0 SU]
   have d3:kf (E3.sec (bU (L.place+1))) s.data:=by rw[z0 _ hp5];exact d2
   have hok:mP ⟨L.head.num+1,Lg.say s (L.place+1) fr⟩ vot0 s (L.place+1) fr:=.inr ⟨ST,rfl,by have:=hs.idx;omega,hs.term,by unfold bY;omega,hs.data,by unfold bY;omega,hs.vot⟩;rcases z with ⟨z1,z2,z3,z4,z5⟩|⟨z1,z2,z3⟩
   ·rw[aaa (by rw[z1];simp)];unfold Lg.lay3;have u:=z3.free (bU L.place);have uk:=(Rw.free (bU L.place) (Rw.refl [] E3)).seg (fun a ha=>by simp at ha);generalize E3.free (bU L.place)=R4 at u uk;obtain ⟨E4,c4⟩:=R4;dsimp only at u uk ⊢;have k4:∀ a∈E4.areas.map (·.1),a % 4=1->a∈D.areas.map (·.1):=fun a ha h1=>k3 a (uk a ha h1) h1;rcases u with ⟨u1,u2,u3,u4⟩|⟨u1,u2,u3⟩
    ·grind
    have a4:∀ a,a % 4=1->E4.sec a=D.sec a:=fun a ha=>by rw[u3 a,a3 a ha]
    refine ⟨a4,k4,.inr ⟨qo,u2,qy hv (o.hardP cn1 (by rw[u3 0,e30]) hA) (QB (by rw[u3 4];exact z4) (by rw[u3 4];exact z5) hok (by rw[u3];exact d3) qo ax (w1.fr2 a4 k4))⟩⟩
   rw[aab qo];refine ⟨a3,k3,.inr ⟨ax,z2,qy hv (o.hardP cn1 e30 hA) fun f' pf=>?_⟩⟩;rcases z3 f' pf with g|g
   ·rw[g];exact ⟨cn1.2.1,_,_,_,cn1.2.2,o.headV,fun hn g' pg=>(o.dat hn).pk (by rw[z0 _ hp4,b2] at pg;exact pg),w0.fr2 a3 k3⟩
   rw[g];exact ⟨ax,_,_,_,qo,hok,fun _ g' pg=>d3.pk pg,w1.fr2 a3 k3⟩
  rw[aab qo];have a2:∀ a,a % 4≠2->E2.sec a=D.sec a:=fun a ha=>by rw[y3 a,a1 a ha]
  have k2:∀ a∈E2.areas.map (·.1),a % 4=1->a∈D.areas.map (·.1):=fun a ha h1=>k1 a (yk a ha h1) h1;exact ⟨fun a ha=>a2 a qo,k2,.inr ⟨ax,y2,qy hv (o.hardP cn1 (a2 0 SU) hA) (o.headP cn1 (a2 4 SU) (by rw[y3,v1 _ hpc]) (w0.fr2 (fun a ha=>a2 a qo) k2))⟩⟩
 rw[aab qo];exact ⟨fun a ha=>a1 a qo,k1,.inr ⟨ax,x2,qy hv (o.hardP cn1 (a1 0 SU) hA) (o.headP cn1 (a1 4 SU) (v1 _ hpc) (w0.fr2 (fun a ha=>a1 a qo) k1))⟩⟩
end
section
def Rz(vot0:List Int)(M n:Nat)(L:Lg)(E:Dk)(r:Rl)(A:List (Nat×Int))(P:bG->List aI->Prop)(ok c:Prop):Prop:=
 (ok/\dH n E/\L.rl=r/\Cn M L/\∃ S op,dK vot0 M L E S op/\ge S op L.sn (P L.sn)/\(c->ge S op L.sn (fun l=>l=L.l)))\/(E.dead=true/\j6 vot0 M E A P)
theorem j6.up{vot0:List Int}{M M':Nat}{E:Dk}{A:List (Nat×Int)}{P:bG->List aI->Prop}(h:j6 vot0 M E A P)(hM:M<=M'):j6 vot0 M' E A P:=fun D' c hr=>by
 obtain ⟨L',E',S',k1,k2,k3,k4,k5,k6⟩:=h D' c hr;exact ⟨L',E',S',k1,k2,k3,k4.up hM,k5.up hM,k6⟩
theorem Lg.sync_eq{L:Lg}{D:Dk}(hc:L.code=0):L.sync D=({ L with w:=(L.w.sync D).1,code:=(L.w.sync D).1.code },(L.w.sync D).2,(L.w.sync D).1.code):=by
 simp_all [Lg.sync]
def dK.sync0{vot0:List Int}{M:Nat}{L:Lg}{D:Dk}{S:List Sg}{op:Option Og}(o:dK vot0 M L D S op)(h:(L.w.sync D).1=L.w):L.sync D=(L,(L.w.sync D).2,0):=by
 rw[Lg.sync_eq o.code,h,o.wcode];have hc:=o.code;obtain ⟨w,hard,head,kt,kv,sn,place,fr,l,code⟩:=L;cases hc
 rfl
def Vk.snap{first:Nat}{recs:List cM}{sn s:bG}{l:List aI}{v:Vl}(h:Vk first recs sn l v)(h1:sn.idx<s.idx)(h2:s.idx<=sn.idx+ba l):Vk first recs s (l.drop (s.idx-sn.idx)) v:=by
 cases v with
 | none=>
  obtain ⟨_,_,rfl⟩:=h;simp only[aaG] at h2;omega
 | some x=>
  have he:=h.endV;obtain ⟨f,r⟩:=x;obtain ⟨q1,q2,q3,q4,q5⟩:=h;dsimp only at he;refine ⟨q1,qo,qo,q4,?_⟩
  grind [List.map_drop,List.drop_drop]
def Ci{sn s:bG}{l:List aI}(g:i6 sn l)(h1:sn.idx<s.idx)(h2:s.idx<=sn.idx+ba l)(h3:(fZ sn l s.idx).1=s.term):i6 s (l.drop (s.idx-sn.idx)):=by
 refine ⟨?_,fun e he=>g.2 e (abe he)⟩;have h4:=Jz g.1 (k:=s.idx-sn.idx) qo;have h5:=BN (s:=sn) (l:=l) (k:=s.idx-sn.idx) qo
 grind
def dK.newS{vot0:List Int}{M:Nat}{L:Lg}{D E:Dk}{S:List Sg}{op:Option Og}(o:dK vot0 M L D S op){s:bG}(h1:L.sn.idx<s.idx)(h2:s.idx<=L.sn.idx+ba L.l)(h3:(fZ L.sn L.l s.idx).1=s.term){H:df}(hs:∀ a,a % 4=1->E.sec a=D.sec a)(hk:∀ a∈E.areas.map (·.1),a % 4=1->a∈D.areas.map (·.1))
  (e0:E.sec 0=D.sec 0) (f4:Fx (E.sec 4)) (s4:dN (E.sec 4)=H) (hok:mP H vot0 s (L.place+1) L.fr) (hd:kf (E.sec (bU (L.place+1))) s.data):dK vot0 M { L with head:=H,l:=L.l.drop (s.idx-L.sn.idx),place:=L.place+1,sn:=s,code:=0 } E S op where
 code:=rfl
 wcode:=o.wcode
 old:=o.old
 seg:=o.seg.frame (fun n=>hs _ (by simp[aJ])) hk
 opn:=o.opn
 ops:=o.ops
 lt:=o.lt
 frS:=o.frS
 frn:=o.frn
 next:=o.next
 ok:=o.ok
 val:=by
  have vk:=o.vk.snap h1 h2;cases hv:eW none ((S++cw op).map Sg.v) with
  | none=>
   have h4:=o.vk;rw[hv] at h4;have:=congrArg List.length h4.2.2
   grind
  | some x=>
   rw[hv] at vk;exact .inr ⟨x.1,x.2,I,vk⟩
 hardF:=by rw[e0];exact o.hardF
 hardS:=by rw[e0];exact o.hardS
 hardV:=o.hardV
 headF:=f4
 headS:=s4
 headV:=hok
 dat:=fun _=>hd
 good:=Ci o.good h1 h2 h3
def Lh{vot0:List Int}{M n:Nat}{L:Lg}{D:Dk}{S:List Sg}{op:Option Og}(o:dK vot0 M L D S op)(hv:(eu vot0).isSome=true)(cn:Cn M L){A:List (Nat×Int)}(hA:(L.kt,L.kv)∈A)(p:ge S op L.sn (P L.sn))(hq0:P L.sn L.l)(s:bG)(hst:s.term<=aC)(hM:M+2<=2000000)(hidx:L.sn.idx+ba L.l<bY)
  (hq:∀ sn l,SO L.rl (L.rl.save s).1 sn l->P sn l) (h:dH (n+((ba s.data+63) / 64+11)) D):
  Rz vot0 (M+2) n (L.save s D).1 (L.save s D).2.1 (L.rl.save s).1 A P ((L.save s D).2.2=(L.rl.save s).2) ((L.rl.save s).2=0):=by
 have hMw:M+2<=eV:=by unfold eV;omega
 have hfits:L.fits s=L.rl.fits s:=by
  unfold Lg.fits Rl.fits;rw[aaa (by rw[o.code];simp)]
  rfl
 unfold Rl.save at hq ⊢;unfold Lg.save;rw[hfits]
 by_cases hf:L.rl.fits s=0
 ·rw[aaa (show ¬L.rl.fits s≠0 by rw[hf];simp)] at hq ⊢;rw[aaa (show ¬L.rl.fits s≠0 by rw[hf];simp)];obtain ⟨hvt,hd,hlt,htop⟩:=C7 hf;have hlt':L.sn.idx<s.idx:=hlt
  by_cases hh:gQ L.sn L.l s=false
  ·rw[aab hh,aab (show gQ L.rl.sn L.rl.l s=false from hh)];exact .inl ⟨I,h.mono qo,I,cn.up qo,S,op,o.up qo,p,fun hc=>absurd hc (show ¬((180:Int)=0) by decide)⟩
  rw[aaa (show ¬gQ L.rl.sn L.rl.l s=false from hh)] at hq ⊢;rw[aaa hh];have hh':gQ L.sn L.l s=true:=by simpa using hh
  obtain ⟨hin,hat⟩:=DA hh' hlt'
  have htr:(fZ L.sn L.l s.idx).1=s.term:=by
   simp_all [gQ]
  have hne:L.rl.sn≠s:=fun e=>by rw[<-e] at hlt;omega
  have hqs:P s (L.l.drop (s.idx-L.sn.idx)):=hq _ _ (.inr ⟨hne,rfl,rfl⟩);unfold Lg.save1;rcases wN o h with ⟨s1,s2,s3,op',s4,s5,s6⟩|⟨s1,s2⟩
  ·rw[o.sync0 s1,aaa ST];dsimp only;generalize (L.w.sync D).2=E at s2 s3 s4;have hnx:=s4.next;have hfn:=s4.frn;have p1:ge S op' L.sn (P L.sn):=s6.mono fun l hl=>by subst hl;exact hq0
   have vks:=s4.vk.snap hlt' hin;have gs:=Ci s4.good hlt' hin htr;have w0:=s4.foundS (M':=M+1) qo qo qo p1 s4.seg
   have w1:ft E L.fr (M+1) s (P s):=by
    refine AZ s4.seg qo qo qo (fun x hx=>?_) (fun q hq=>?_) ((qn s5 s4.ok gs vks.lv).mono fun l hl=>by rw[hl];exact hqs)
    ·have h1:=s4.frS x (aal.2 (.inl hx));have h2:=s4.lt x (aal.2 (.inl hx));omega
    subst hq;have h1:=s4.frS ⟨q.num,q.idx,q.recs⟩ (by simp[cw]);have h2:=s4.lt ⟨q.num,q.idx,q.recs⟩ (by simp[cw]);dsimp only at h1 h2;omega
   obtain ⟨r1,r2,r3⟩:=NF (n:=n+10) s4 hv cn hA s ⟨htop,hst,hd,hvt⟩ L.fr qo qo w0 w1 (s2.mono qo);unfold Lg.save2;rcases r3 with ⟨x1,x2,x3,x4,x5,x6,x7⟩|⟨x1,x2,x3⟩
   ·rw[aaa (by rw[x1];simp)];have hok:mP ⟨L.head.num+1,Lg.say s (L.place+1) L.fr⟩ vot0 s (L.place+1) L.fr:=.inr ⟨ST,rfl,qo,hst,by have:=cn.2.2;unfold bY;omega,hd,by unfold bY;omega,hvt⟩
    have hL2:(L.lay s L.fr E).1={ L with head:=⟨L.head.num+1,Lg.say s (L.place+1) L.fr⟩,l:=L.l.drop (s.idx-L.sn.idx),place:=L.place+1,sn:=s,code:=0 }:=by
     simp_all [Lg.laid]
    have o2:=(s4.newS hlt' hin htr r1 r2 x4 x5 x6 hok x7).up (show M<=M+1 by omega);rw[hL2];generalize (L.lay s L.fr E).2.1=E2 at x2 o2;have c2:Cn (M+1) { L with head:=⟨L.head.num+1,Lg.say s (L.place+1) L.fr⟩,l:=L.l.drop (s.idx-L.sn.idx),place:=L.place+1,sn:=s,code:=0 }:=⟨by have:=cn.1;dsimp only;omega,by have:=cn.2.1;dsimp only;omega,by have:=cn.2.2;dsimp only;omega⟩;have hfin:=s4.vk.fin;have hc:=IL (n:=n) o2 qo (by dsimp only;rw[aan];omega) ax s5 x2;dsimp only at hc ⊢;obtain ⟨h0,hc⟩:=hc;rcases hc with ⟨k1,k2,S3,HR,k3,k4⟩|⟨k1,k2⟩
    ·rw[k1];have pl:=qn k4 k3.ok k3.good k3.vk.lv;exact .inl ⟨I,k2,I,c2.up qo,S3,HR,k3,pl.mono (fun l hl=>by rw[hl];exact hqs),fun _=>pl⟩
    exact .inr ⟨k1,o2.fnd hv (c2.up qo) h0 (ft.imp k2 fun l hl=>by rw[hl];exact hqs) hA⟩
   rw[aab x1];exact .inr ⟨x2,x3.up qo⟩
  rw[aab (by rw[Lg.sync_eq o.code];dsimp only;omega),Lg.sync_eq o.code];exact .inr ⟨s2.1,o.fnd hv (cn.up qo) (fun a _=>s2.2.1 a) (o.foundS qo hMw qo p (s2.seg o.seg)) hA⟩
 rw[aab hf,aab hf];exact .inl ⟨I,h.mono qo,I,cn.up qo,S,op,o.up qo,p,fun hc=>absurd hc hf⟩
end
section
def nf:fg:=⟨[],false⟩
def jY(s:fg)(p:Int):Option (List UInt8):=
 if s.syn=true then s.vs[(max p 0).toNat % ba s.vs]?
 else if (max p 0).toNat % (ba s.vs+1)=0 then none else s.vs[(max p 0).toNat % (ba s.vs+1)-1]?
def qH(s:fg)(ps:List Int):Prop:=0<ba ps/\(s.syn=false\/1<ba s.vs)
instance (s:fg) (ps:List Int):Decidable (qH s ps):=by unfold qH;exact inferInstance
def kP(s:fg)(ps:List Int):Int:=if qH s ps then ps.headD 0 else 0
def i7(s:fg)(ps:List Int):List Int:=if qH s ps then ps.drop 1 else ps
def eZ(l:Ar):List Int->List Int->Ar->Int->Ar×List Int×Int
 | [],ps,m,room=>(m,ps,room)
 | n::r,ps,m,room=>
  match jY ((aK n l).getD nf) (kP ((aK n l).getD nf) ps) with
  | some v=>eZ l r (i7 ((aK n l).getD nf) ps) (cG n ⟨[v],true⟩ m) room
  | none=>eZ l r (i7 ((aK n l).getD nf) ps) m (room+1)
def fA(D:Dk):List Int->List Int->List (Int×Ar)->Int->List (Int×Ar)×Int
 | [],_,m,room=>(m,room)
 | a::r,ps,m,room=>
  fA D r (eZ (D.ar a) (gV ((D.ar a).map (·.1))) ps [] room).2.1 (if ba (eZ (D.ar a) (gV ((D.ar a).map (·.1))) ps [] room).1=0 then m else cG a (eZ (D.ar a) (gV ((D.ar a).map (·.1))) ps [] room).1 m) (eZ (D.ar a) (gV ((D.ar a).map (·.1))) ps [] room).2.2
def Dk.crash(D:Dk)(ps:List Int):Dk:=⟨(fA D (a8 D) ps [] (max D.room 0)).2,0,(fA D (a8 D) ps [] (max D.room 0)).1,-1,false⟩
def NW{s:fg}(h:s.vs≠[])(p:Int):lZ (some s) ((jY s p).map fun v=>⟨[v],true⟩):=by
 have hl:0<ba s.vs:=abc.2 h;unfold lZ jY;dsimp only
 by_cases hs:s.syn=true
 ·rw[aab hs];have hlt:(max p 0).toNat % ba s.vs<ba s.vs:=abz _ hl
  simp_all
 grind
theorem uv(l:Ar):∀ (ns:List Int) (ps:List Int) (m:Ar) (room:Int),ns.Nodup->(∀ n∈ns,aK n m=none)->(∀ n∈ns,∃ s,aK n l=some s/\s.vs≠[])->(m.map (·.1)).Nodup ->
  (∀ n∈ns,lZ (aK n l) (aK n (eZ l ns ps m room).1))/\(∀ n,n∉ns->aK n (eZ l ns ps m room).1=aK n m)/\((eZ l ns ps m room).1.map (·.1)).Nodup/\room<=(eZ l ns ps m room).2.2/\(eZ l ns ps m room).2.2<=room+(ba ns:Int)/\(eZ l ns ps m room).2.2+(ba (eZ l ns ps m room).1:Int)=room+(ba m:Int)+(ba ns:Int)
 | [],ps,m,room,_,_,_,hm=>⟨ST,fun _ _=>rfl,hm,abo _,by simp[eZ],by simp[eZ]⟩
 | n::r,ps,m,room,hn,hmn,hl,hm=>by
  have hn:=abk.1 hn;obtain ⟨s,hs,hv⟩:=hl n ST;have hpk:=NW hv (kP ((aK n l).getD nf) ps);have e:(aK n l).getD nf=s:=by rw[hs];rfl
  unfold eZ;rw[e] at hpk ⊢;cases hf:jY s (kP s ps) with
  | some v=>
   rw[hf] at hpk;dsimp only;have hset:ba (cG n (⟨[v],true⟩:fg) m)=ba m+1:=by rw[rI,hmn n ST];rfl
   obtain ⟨r1,r2,r3,r4,r5,r6⟩:=uv l r (i7 s ps) (cG n ⟨[v],true⟩ m) room hn.2 (fun j hj=>by rw[lH,aaa (fun e=>hn.1 (by rw[<-e];exact hj))];exact hmn j (by simp[hj])) (fun j hj=>hl j (by simp[hj])) (qd hm);refine ⟨fun j hj=>?_,fun j hj=>?_,r3,r4,by simp only[aaj];omega,by grind⟩
   ·rcases aau.1 hj with rfl|hj
    ·rw[r2 _ hn.1,lH,aab rfl,hs];exact hpk
    exact r1 j hj
   simp_all [lH]
  | none=>
   rw[hf] at hpk;dsimp only;obtain ⟨r1,r2,r3,r4,r5,r6⟩:=uv l r (i7 s ps) m (room+1) hn.2 (fun j hj=>hmn j (by simp[hj])) (fun j hj=>hl j (by simp[hj])) hm
   grind
theorem yg{c:Nat}{D:Dk}(o:D.Ok c):∀ (ks:List Int) (ps:List Int) (m:List (Int×Ar)) (room:Int),ks.Nodup->(∀ a∈ks,aK a m=none)->(m.map (·.1)).Nodup->(∀ x∈m,x.2≠[]) ->
  (∀ a∈ks,∀ n,lZ (D.sec a n) (aK n ((aK a (fA D ks ps m room).1).getD [])))/\(∀ a,a∉ks->aK a (fA D ks ps m room).1=aK a m)/\((fA D ks ps m room).1.map (·.1)).Nodup/\(∀ x∈(fA D ks ps m room).1,x.2≠[])/\room<=(fA D ks ps m room).2/\∀ a∈(fA D ks ps m room).1.map (·.1),a∈ks\/a∈m.map (·.1)
 | [],ps,m,room,_,_,hm,hx=>⟨ST,fun _ _=>rfl,hm,hx,abo _,fun a ha=>.inr ha⟩
 | a::r,ps,m,room,hn,hma,hm,hx=>by
  have hn:=abk.1 hn
  have hnd:((D.ar a).map (·.1)).Nodup:=by
   unfold Dk.ar;cases hg:aK a D.areas with
   | none=>simp
   | some l=>exact (o.ns _ (iY hg)).1
  have hvs:∀ n∈gV ((D.ar a).map (·.1)),∃ s,aK n (D.ar a)=some s/\s.vs≠[]:=by
   intro n hn;have hn:=(fb _).mem_iff.1 hn;cases hg:aK n (D.ar a) with
   | none=>exact absurd hn (iC.1 hg)
   | some s=>
    refine ⟨s,I,?_⟩;have h1:=iY hg;unfold Dk.ar at h1;cases hg2:aK a D.areas with
    | none=>rw[hg2] at h1;simp at h1
    | some l=>rw[hg2] at h1;exact (o.vs _ (iY hg2) _ h1).1
  obtain ⟨q1,q2,q3,q4,q5,q6⟩:=uv (D.ar a) (gV ((D.ar a).map (·.1))) ps [] room ((fb _).symm.nodup hnd) (fun _ _=>rfl) hvs ST;unfold fA;generalize eZ (D.ar a) (gV ((D.ar a).map (·.1))) ps [] room=R at q1 q2 q3 q4 q5 q6;obtain ⟨l,ps',room'⟩:=R;dsimp only at q1 q2 q3 q4 q5 q6 ⊢;obtain ⟨m',hm'⟩:=bC (if ba l=0 then m else cG a l m);rw[<-hm']
  have hget:∀ b,aK b m'=if b=a/\l≠[] then some l else aK b m:=by
   intro b;rw[hm']
   by_cases h0:ba l=0
   all_goals simp_all [lH]
  have hnd':(m'.map (·.1)).Nodup:=by
   grind [qd]
  have hne':∀ x∈m',x.2≠[]:=by
   intro x hxx;rw[hm'] at hxx
   split at hxx
   ·exact hx x hxx
   rename_i h0;rcases j7 hxx with rfl|h1
   all_goals grind
  have hkm:∀ b∈m'.map (·.1),b=a\/b∈m.map (·.1):=by
   intro b hb;rw[hm'] at hb
   split at hb
   ·exact .inr hb
   obtain ⟨x,hxx,rfl⟩:=aak.1 hb;rcases j7 hxx with rfl|h1
   all_goals grind
  obtain ⟨r1,r2,r3,r4,r5,r6⟩:=yg o r ps' m' room' hn.2 (fun b hb=>by grind) hnd' hne';refine ⟨fun b hb n=>?_,fun b hb=>?_,r3,r4,qo,fun b hb=>?_⟩
  ·rcases aau.1 hb with rfl|hb
   ·rw[r2 _ hn.1,hget]
    have hl:aK n ((if b=b/\l≠[] then some l else aK b m).getD [])=aK n l:=by
     grind
    rw[hl]
    by_cases hin:n∈gV ((D.ar b).map (·.1))
    ·exact q1 n hin
    rw[q2 n hin];have:aK n (D.ar b)=none:=iC.2 (fun h=>hin ((fb _).mem_iff.2 h));unfold Dk.sec;rw[this]
    rfl
   exact r1 b hb n
  all_goals grind
def DS{c:Nat}{D:Dk}(o:bf c D)(ps:List Int):Cr D (D.crash ps)/\0<=(D.crash ps).room:=by
 obtain ⟨r1,r2,r3,r4,r5,r6⟩:=yg o.ok (a8 D) ps [] (max D.room 0) ((fb _).symm.nodup o.ok.keys) (fun _ _=>rfl) ST ST
 have hk:∀ k∈(D.crash ps).areas.map (·.1),k∈D.areas.map (·.1):=fun k hk=>by
  rcases r6 k hk with h|h
  ·exact (fb _).mem_iff.1 h
  simp at h
 refine ⟨⟨I,I,fun a n=>?_,hk,r3,fun a=>?_,fun k h=>(o.ar k (hk k h)).1⟩,by show 0<=(fA D (a8 D) ps [] (max D.room 0)).2;omega⟩
 ·by_cases ha:a∈a8 D
  ·exact r1 a ha n
  have h1:aK a D.areas=none:=iC.2 (fun h=>ha ((fb _).mem_iff.2 h));have h2:aK a (D.crash ps).areas=none:=by rw[show (D.crash ps).areas=(fA D (a8 D) ps [] (max D.room 0)).1 from rfl,r2 a ha];rfl
  unfold Dk.sec Dk.ar;rw[h1,h2]
  rfl
 constructor
 ·intro ha;cases hg:aK a (D.crash ps).areas with
  | none=>exact absurd ha (iC.1 hg)
  | some l=>
   have hne:=r4 _ (iY hg);cases l with
   | nil=>exact absurd rfl hne
   | cons x l=>
    refine ⟨x.1,x.2,?_⟩
    simp_all [Dk.sec,Dk.ar,aK]
 rintro ⟨n,x,h⟩;unfold Dk.sec Dk.ar at h;cases hg:aK a (D.crash ps).areas with
 | none=>rw[hg] at h;simp[aK] at h
 | some l=>exact aak.2 ⟨_,iY hg,rfl⟩
end
section
instance:DecidableEq bG:=fun a b=>decidable_of_iff (a.idx=b.idx/\a.term=b.term/\a.vot=b.vot/\a.data=b.data) (by cases a;cases b;simp)
def dK.same{vot0:List Int}{M:Nat}{L:Lg}{D E:Dk}{S:List Sg}{op:Option Og}(o:dK vot0 M L D S op)(h:E.areas=D.areas):dK vot0 M L E S op:=by
 have hs:∀ a,E.sec a=D.sec a:=fun a=>by
  unfold Dk.sec Dk.ar;rw[h]
 exact {
  code:=o.code
  wcode:=o.wcode
  old:=o.old
  seg:=o.seg.frame (fun n=>hs _) fun a ha _=>by rw[<-h];exact ha
  opn:=o.opn
  ops:=o.ops
  lt:=o.lt
  frS:=o.frS
  frn:=o.frn
  next:=o.next
  ok:=o.ok
  val:=o.val
  hardF:=by rw[hs];exact o.hardF
  hardS:=by rw[hs];exact o.hardS
  hardV:=o.hardV
  headF:=by rw[hs];exact o.headF
  headS:=by rw[hs];exact o.headS
  headV:=o.headV
  dat:=by rw[hs];exact o.dat
  good:=o.good }
def Dk.arm(D:Dk)(i:Int):Dk:=if D.dead=true then D else { D with left:=max i (-1) }
def NV{vot0:List Int}(hv:(eu vot0).isSome=true){D:Dk}(h:D.areas=[]):j6 vot0 0 D [(0,-1)] (fun sn l=>sn=⟨0,0,vot0,[]⟩/\l=[]):=by
 have hs:∀ a,D.sec a=fun _=>none:=fun a=>by
  funext n
  unfold Dk.sec Dk.ar;rw[h]
  rfl
 have hp:∀ a f',Pk (D.sec a) f'->f'=fun _=>none:=fun a f' p=>by
  rw[hs a] at p
  funext n
  exact p n
 have e0:dN (fun _=>none)=⟨0,[]⟩:=rfl;refine qy hv (fun f' p=>?_) fun f' p=>?_
 ·rw[hp 0 f' p,e0];exact ⟨aac _,_,ST,I⟩
 rw[hp 4 f' p,e0];exact ⟨aac _,⟨0,0,vot0,[]⟩,0,0,aac _,.inl ⟨I,I,I,I⟩,fun h=>absurd I h,Ix (aag _) (aag _) (aac _) (fun n hn=>by rw[h] at hn;simp at hn) ⟨rfl,rfl⟩⟩
end
section
def RO{hs m:List PH}(b:Nat)(D:Dk)(hm:iO K b D m)(i:Int)(hi : -9223372036854775808<=i/\i<=9223372036854775807):
  aj w0 11 [SX b,.int .i64 i] K (m++hs) (fun v K' hs'=>K'=K/\∃ m',hs'=m'++hs/\iO K b (D.arm i) m'/\v=.tuple #[]):=by
 obtain ⟨bo,ho,ins,rfl,hO,hI⟩:=hm;refine dj Tryz.func11 ?_;refine ac9 (bE 3 0 (v:=.bool D.dead) I I I (ar 0 (v':=.bool (!D.dead)) I I (fin 0 I (th (nt I (fun e1=>?_) (fun e1=>?_))))))
 ·have e:D.arm i={ D with left:=max i (-1) }:=by simp_all [Dk.arm]
  refine rg ?_;refine ar 2 (v':=.int .i64 (max i (-1))) I (congrArg (Value.int .i64) qo) (au ?_);exact gW I ⟨I,_,I,⟨bo,ho,ins,by rw[e],hO,by rw[e];exact hI⟩,I⟩
 have e:D.arm i=D:=by simp_all [Dk.arm]
 refine sk ?_;exact gW I ⟨I,_,I,⟨bo,ho,ins,by rw[e],hO,by rw[e];exact hI⟩,I⟩
def RN{h:PH}{hs:List PH}(b:Nat)(D:Dk)(hm:da K b D h)(i:Int)(hi : -9223372036854775808<=i/\i<=9223372036854775807):aj w0 11 [SX b,.int .i64 i] K (h::hs)
  (fun v K' hs'=>K'=K/\∃ h',hs'=h'::hs/\da K b (D.arm i) h'/\v=.tuple #[]):=by
 obtain ⟨m,rfl,d,hm⟩:=hm;refine Ct.bun d (RO b D hm i hi) ?_;rintro v K' hs' ⟨rfl,m',rfl,hm',rfl⟩;exact ⟨m',I,fun d'=>⟨I,_,I,⟨m',I,d',hm'⟩,I⟩⟩
def RM{h:PH}{hs:List PH}{lb db:Nat}{L:Lg}{D:Dk}(hL:gw K lb db L D h)(i:Int)(hi : -9223372036854775808<=i/\i<=9223372036854775807):
  aj w0 11 [SX db,.int .i64 i] K (h::hs) (fun v K' hs'=>∃ h',hs'=h'::hs/\Le K K'/\gw K' lb db L (D.arm i) h'/\v=.tuple #[]):=
 vu hL fun m hm=>by
  obtain ⟨wb,hb,eb,aV,cV,aD,cD,aL,cL,wh,hh,eh,gl,dh,rfl,h2,h3,h4,h5,h6,h7,h8⟩:=hm;refine (Ct.at (S:=fun v K' h'=>K'=K/\da K db (D.arm i) h'/\v=.tuple #[]) 5 I ((RN db D h6 i hi).mono ?_)).mono ?_
  ·simp_all
  rintro v K' hs' ⟨h',rfl,rfl,g1,rfl⟩;exact ⟨Le.refl _,_,I,⟨wb,hb,eb,aV,cV,aD,cD,aL,cL,wh,hh,eh,gl,h',I,h2,h3,h4,h5,g1,h7,h8⟩,I⟩
end
section
def Hi(p:Int):Value.int .i64 (if p<0 then 0 else p)=.int .i64 (((max p 0).toNat:Nat):Int):=congrArg (Value.int .i64) (by split <;> omega)
def JT{hs:List PH}(s:fg)(v:Value)(hv:lw K v s)(hne:s.vs≠[])(hlen:ba s.vs<=1099511627776)(p:Int)(hp : -9223372036854775808<=p/\p<=9223372036854775807):
  aj w0 48 [v,.int .i64 p] K hs (fun u K' hs'=>K'=K/\hs'=hs/\u=.tuple #[.string ⟨((jY s p).getD []).toArray⟩,.bool (jY s p).isSome]):=by
 obtain ⟨ao,c,rfl,x⟩:=hv;obtain ⟨k,hk⟩:∃ k,ba s.vs=k+1:=⟨ba s.vs-1,by have:=abc.2 hne;omega⟩
 have hget:∀ i,i<k+1->∃ b,s.vs[i]?=some b/\(kU s.vs)[i]?=some (.string ⟨b.toArray⟩):=fun i hi=>by
  have h1:i<ba s.vs:=qo
  exact ⟨s.vs[i],aae h1,by unfold kU;rw[aa4,aae h1];rfl⟩
 rw[hk] at x;rw[hk];refine dj Tryz.func48 ?_;refine ac9 (bx 0 I fun b2=>fin 2 I (ac6 (bE 1 0 (v:=.slice ao (k+1) c) I I I (fin 2 I (ac5 (bE 1 0 (v:=.bool s.syn) I I I ?_))))));cases hsy:s.syn with
 | true=>
  obtain ⟨j,hj⟩:=bC ((max p 0).toNat % (k+1));have hjl:j<k+1:=by rw[hj];exact abz _ qo
  have hf:jY s p=s.vs[j]?:=by unfold jY;rw[aab hsy,hk,<-hj]
  obtain ⟨b,g1,g2⟩:=hget j hjl;rw[hf,g1];refine au ?_;refine ar 1 I (Hi p) (ar 1 I (kc .i64 (max p 0).toNat (k+1)) ?_);rw[<-hj];refine fin 1 I (ac5 (bE 1 0 (v:=.bool true) I I I (au ?_)));refine af 1 I fun b25 h25=>fin 0 I (th (ah h25 I (fun e2=>?_) (fun e2=>?_)))
  ·exact absurd e2 qo
  exact sk<|ac6 (bE 1 0 (v:=.slice ao (k+1) c) I I I (fe 1 j I qo I x g2 fun a29 hc29=>ld 0 I (.inl I) hc29<|fin 2 I (adb (WQ.drop<|bL I I I ⟨I,I,I⟩))))
 | false=>
  obtain ⟨j,hj⟩:=bC ((max p 0).toNat % (k+1+1));have hjl:j<k+1+1:=by rw[hj];exact abz _ qo
  have hf:jY s p=if j=0 then none else s.vs[j-1]?:=by unfold jY;rw[aaa (by rw[hsy];simp),hk,<-hj]
  rw[hf];refine au ?_;refine ar 1 I (v':=.int .i64 (k+1+1:Nat)) (ac qo) (au ?_);refine ar 1 I (Hi p) (ar 1 I (kc .i64 (max p 0).toNat (k+1+1)) ?_);rw[<-hj];refine fin 1 I (ac5 (bE 1 0 (v:=.bool false) I I I (au ?_)));refine ar 1 I (v':=.int .i64 ((j:Int)-1)) (ac qo) (au ?_);refine af 1 I fun b25 h25=>fin 0 I (th (ah h25 I (fun e2=>?_) (fun e2=>?_)))
  ·rw[aab (show j=0 by omega)];exact ac9 (fin 2 I (adb (rT (WQ.drop (bL I I I ⟨I,I,I⟩)))))
  rw[aaa (show ¬j=0 by omega)];obtain ⟨b,g1,g2⟩:=hget (j-1) qo;rw[g1];exact sk (ac6 (bE 1 0 (v:=.slice ao (k+1) c) I I I (fe 1 (j-1) I qo I x g2 fun a29 hc29=>ld 0 I (.inl I) hc29 (fin 2 I (adb (WQ.drop (bL I I I ⟨I,I,I⟩)))))))
end
section
structure tA where
 j:Nat
 K:PH
 mm:Ar
 mv:List (Int×Value)
 hl:PH
 room:Int
 ps:List Int
 ap:Option Addr
 cp:Nat
structure tz where
 i:Nat
 K:PH
 m:List (Int×Ar)
 ins:lF
 ho:PH
 room:Int
 ps:List Int
 ap:Option Addr
 cp:Nat
abbrev mc(room:Int)(m:List (Int×Ar)):Dk:=⟨room,0,m,-1,false⟩
def Mh{l:Ar}{n:Int}{r ps:List Int}{m:Ar}{room:Int}{s:fg}{v:List UInt8}(h:(aK n l).getD nf=s)(hf:jY s (kP s ps)=some v):eZ l (n::r) ps m room=eZ l r (i7 s ps) (cG n ⟨[v],true⟩ m) room:=by
 subst h;simp only[eZ];rw[hf]
def Mi{l:Ar}{n:Int}{r ps:List Int}{m:Ar}{room:Int}{s:fg}(h:(aK n l).getD nf=s)(hf:jY s (kP s ps)=none):eZ l (n::r) ps m room=eZ l r (i7 s ps) m (room+1):=by
 subst h;simp only[eZ];rw[hf]
def N4{D:Dk}{a:Int}{r qs rs:List Int}{m:List (Int×Ar)}{mm:Ar}{room rm:Int}(h:(mm,rs,rm)=eZ (D.ar a) (gV ((D.ar a).map (·.1))) qs [] room):fA D (a::r) qs m room=fA D r rs (if ba mm=0 then m else cG a mm m) rm:=by
 simp only[fA];rw[<-h]
def LY(ps:List Int)(n:Nat)(h:ba ps=n+1):((iv ps).drop (1*1)).take (n*1)=iv (ps.drop 1):=by
 simp_all [aar,iv]
def Gl{w0:World}{K:PH}{hs m:List PH}(b:Nat)(D:Dk)(c:Nat)(o:bf c D)(hc:c<=1000000000)(hm:iO K b D m)(ps:List Int)(hps:∀ p∈ps,-9223372036854775808<=p/\p<=9223372036854775807)(ap:Option Addr)(cp:Nat)(xp:aH K ap (ba ps) cp 1 (iv ps))(hpl:ba ps<1099511627776):
  aj w0 12 [SX b,.slice ap (ba ps) cp] K (m++hs)
   (fun v K' hs'=>Le K K'/\∃ b2 m2,hs'=m2++(m++hs)/\iO K' b2 (D.crash ps) m2/\v=SX b2):=by
 obtain ⟨bo,ho,ins,rfl,hO,hI⟩:=hm;have hroom:=o.ok.room;refine bH Tryz.func12 ?_;refine cl 0 I (GL D.room hroom) ?_;rintro v19 K19 hs19 ⟨rfl,cb,mE,rfl,⟨boE,hoE,insE,rfl,hOE,hIE⟩,rfl⟩
 have hinsE:insE=[]:=by
  cases insE with
  | nil=>rfl
  | cons x r=>exact hIE.elim
 subst hinsE;have hmax:max D.room 0=D.room:=qo
 have hks:∀ k∈a8 D,k∈D.areas.map (·.1):=fun k hk=>(fb _).mem_iff.1 hk;have hknd:(a8 D).Nodup:=(fb _).symm.nodup o.ok.keys;have hkl:ba (a8 D)=ba D.areas:=by unfold a8;rw[(fb _).length_eq,aaP]
 have hlen:=o.len;refine fin 1 I (ac5 (WL.perm (hs':=(pt b (cK D bo) 62::ho::cm ins)++([pt cb (cK (gr D.room) boE) 62,hoE]++hs)) (abK [_,_] (pt b (cK D bo) 62::ho::cm ins) hs) (cl 1 I (GB b D c o.ok qo (fun k hk=>(o.ar k hk).1) ⟨bo,ho,ins,I,hO,hI⟩) ?_)));rintro v21 K21 hs21 ⟨le1,rfl,ak,ck,rfl,xk⟩;refine WL.perm (hs':=[pt cb (cK (mc D.room []) boE) 62,hoE]++((pt b (cK D bo) 62::ho::cm ins)++(cm ([]:lF)++hs))) (abK (pt b (cK D bo) 62::ho::cm ins) [_,_] hs) (au ?_)
 refine loop (σ:=tz) (fun s=>[(0,SX b),(1,.slice s.ap (ba s.ps) s.cp),(5,SX cb),(21,.slice ak (ba (a8 D)) ck),(22,.int .i64 ((ba (a8 D):Nat):Int)),(23,.int .i64 s.i)]) (fun s=>s.K)
  (fun s=>[pt cb (cK (mc s.room s.m) boE) 62,s.ho]++((pt b (cK D bo) 62::ho::cm ins)++(cm s.ins++hs)))
  (fun s=>s.i<=ba (a8 D)/\Le K21 s.K/\fA D ((a8 D).drop s.i) s.ps s.m s.room=fA D (a8 D) ps [] D.room/\dG vC s8 s.ho boE (fv s.ins)/\fY s.K s.ins s.m/\aH s.K s.ap (ba s.ps) s.cp 1 (iv s.ps)/\(∀ p∈s.ps,p∈ps)/\ba s.ps<=ba ps /\
   (∀ k∈s.m.map (·.1),k∈(a8 D).take s.i)/\0<=s.room/\s.room<=1099511627776+((c*s.i:Nat):Int)) (fun s=>ba (a8 D)-s.i) ⟨0,K21,[],[],hoE,D.room,ps,ap,cp⟩
  ⟨aag _,Le.refl _,rfl,hOE,trivial,xp.le le1,fun _ h=>h,aac _,ST,hroom.1,ax⟩ sb rfl rfl ?_
 rintro ⟨i,K1,m,insE,hoE,room,qs,aq,cq⟩ ⟨hi,le,hR,hOE,hIE,xq,hsub,hql,hkm,hr0,hr1⟩;dsimp only at *;refine ac9 (af 0 I fun b24 h24=>au ?_);refine ah h24 I (fun e2=>?_) (fun e2=>?_)
 ·have hi1:i<ba (a8 D):=qo
  have hcm:c*(i+1)<=1000000000*1000000000:=ab2 hc qo;have hcm2:c*(i+1)=c*i+c:=Nat.mul_succ c i;obtain ⟨a,ha⟩:∃ a,(a8 D)[i]?=some a:=⟨_,aae hi1⟩;have hamem:a∈a8 D:=aap ha
  have hdrop:(a8 D).drop i=a::(a8 D).drop (i+1):=by
   simp_all [aaF]
  obtain ⟨bi,h,tl,hAr,hperm⟩:=tn (hI.le (le1.trans le)) a (cm insE++hs);have hmo:=rV (hI.le (le1.trans le)) hAr;rcases hAr with ⟨g1,_⟩|⟨bi,i1,mv,i2,q1,q2,rfl,g2,g3,g4,g5,g6,hMv,hMR,rfl⟩
  ·exact absurd (hks a hamem)<|iC.1 g1
  have hp:=(hperm (pt b (cK D bo) 62) ho).2 ST;have haD:(a,D.ar a)∈D.areas:=by rw[g3];simp
  have hns:=o.ok.ns _ haD;have hat:=o.ok.at_ _ haD;have hvs:=o.ok.vs _ haD;dsimp only at hns hat hvs;have hkeys:=hMR.keys;have hmvl:=hMR.len;obtain ⟨ns,hnsd⟩:=bC (gV ((D.ar a).map (·.1)));have hnsl:ba ns=ba (D.ar a):=by rw[hnsd,(fb _).length_eq,aaP]
  refine au ?_;refine fe 0 i I I I (xk.le le) (show (rq (a8 D))[i]?=some (.int .u64 a) by unfold rq;rw[aa4,ha];rfl) fun a25 hc25=>?_;refine ld 0 I (.inl I) hc25 (au ?_);refine rk 0 I fun bq=>?_;have hmap0:=dG.empty (enc:=oP) (encv:=(id:Value->Value)) bq 0;refine WL.perm (hs':=pt cb (cK (mc room m) boE) 62::hoE::sg bq (.map #[] 0)::h::pt b (cK D bo) 62::ho::(cm i1++(cm i2++(cm insE++hs)))) ((abK [_] [_,_] _).trans (((hp.cons _).cons _).cons _)) (au ?_);refine jJ 1 (z:=.map none) a I Tryz.underlying60 qk i9 I (.inr ⟨5,I⟩) hO ?_;rw[hmo];refine cl 0 I (GN false bi) ?_;rintro v34 K34 hs34 ⟨rfl,b1,rfl,rfl⟩
  refine cl 0 I (EI false (m:=mv) _ [SX b1] (by rw[hkeys];exact hns.1) (by grind) (zb h b1 bi) (GM false id h b1 bi mv (by rw[hkeys];exact hns.1) hMv) qk qo
   (fun x y fr=>⟨⟨_,.inr ⟨2,rfl⟩,bR.pt rfl⟩,.inr ⟨6,rfl⟩⟩)) ?_
  rintro v35 K35 hs35 ⟨le2,rfl,an,cn,rfl,xn⟩;rw[hkeys,<-hnsd] at xn;rw[show ba mv=ba ns from qo] at xn ⊢;refine WL.drop (au ?_)
  refine loop (σ:=tA) (fun s=>[(0,SX b),(1,.slice s.ap (ba s.ps) s.cp),(5,SX cb),(7,.int .u64 a),(8,.map (some bq)),(21,.slice ak (ba (a8 D)) ck),(22,.int .i64 ((ba (a8 D):Nat):Int)),(23,.int .i64 (i:Nat)),(35,.slice an (ba ns) cn),(36,.int .i64 (ba ns)),(37,.int .i64 s.j)]) (fun s=>s.K)
   (fun s=>pt cb (cK (mc s.room m) boE) 62::hoE::s.hl::h::pt b (cK D bo) 62::ho::(cm i1++(cm i2++(cm insE++hs))))
   (fun s=>s.j<=ba ns/\Le K35 s.K/\eZ (D.ar a) (ns.drop s.j) s.ps s.mm s.room=eZ (D.ar a) ns qs [] room/\dG oP id s.hl bq s.mv/\MR (lw s.K) s.mv s.mm/\aH s.K s.ap (ba s.ps) s.cp 1 (iv s.ps)/\(∀ p∈s.ps,p∈qs)/\ba s.ps<=ba qs/\room<=s.room/\s.room<=room+((s.j:Nat):Int)) (fun s=>ba ns-s.j)
   ⟨0,K35,[],[],sg bq (.map #[] 0),room,qs,aq,cq⟩ ⟨aag _,Le.refl _,rfl,hmap0,trivial,xq.le le2,fun _ h=>h,aac _,abo _,ST⟩ ⟨rfl,rfl,rfl,rfl,rfl,rfl,rfl,rfl,rfl,rfl,rfl,trivial⟩ rfl rfl ?_
  rintro ⟨j,K2,mm,mw,hl,rm,rs,aR,cr⟩ ⟨hj,le3,hQ,hMl,hMRl,xr,hsub2,hrl,hrm0,hrm1⟩;dsimp only at *;refine ac9 (aX 0 I (fun e4=>?_) (fun e4=>?_))
  ·refine au ?_;have hj1:j<ba ns:=qo
   obtain ⟨n,hn⟩:∃ n,ns[j]?=some n:=⟨_,aae hj1⟩;have hnd:ns.drop j=n::ns.drop (j+1):=by simp_all [aaF]
   have hnmem:n∈(D.ar a).map (·.1):=by
    grind [fb]
   rcases MR.get n (hMR.imp fun _ _ h=>lw.le (le2.trans le3) h) with ⟨_,h2⟩|⟨v,s,q1',q2',hsec⟩
   ·exact absurd hnmem<|iC.1 h2
   have hsv:=hvs _ (iY q2');dsimp only at hsv;have hgd:(aK n (D.ar a)).getD nf=s:=by rw[q2'];rfl
   obtain ⟨av,cv,rfl,xv⟩:=hsec;refine au ?_;refine fe 0 j I I I (xn.le le3) (show (gG false ns)[j]?=some (.int .i64 n) by unfold gG;rw[aa4,hn];rfl) fun a39 hc39=>?_;refine ld 0 I (.inl I) hc39 (au ?_);refine jJ 1 (z:=.map none) a I Tryz.underlying60 qk i9 I (.inr ⟨5,I⟩) hO ?_;rw[hmo];refine jJ 1 (z:=.agg #[.slice none 0 0,.bool false]) n I Tryz.underlying112 qk mZ I (.inr ⟨3,I⟩) hMv ?_;rw[q1'];refine al 0 (.agg #[.slice none 0 0,.bool false]) I qk fun b11=>?_;refine bJ 0 0 I I qk I I ?_;refine WL.hs (pt b11 #[.slice av (ba s.vs) cv,.bool s.syn] 119::pt cb (cK (mc rm m) boE) 62::hoE::hl::h::pt b (cK D bo) 62::ho::(cm i1++(cm i2++(cm insE++hs)))) I (fin 0 I (ac6 (fin 1 I (th ?_))))
   refine jn (σ:=Option Addr×Nat) (fun z=>[(0,SX b),(1,.slice z.1 (ba (i7 s rs)) z.2),(5,SX cb),(7,.int .u64 a),(8,.map (some bq)),(10,.int .i64 n),(11,SX b11),(12,.int .i64 (kP s rs)),(21,.slice ak (ba (a8 D)) ck),(22,.int .i64 ((ba (a8 D):Nat):Int)),(23,.int .i64 (i:Nat)),(35,.slice an (ba ns) cn),(36,.int .i64 (ba ns)),(37,.int .i64 (j:Nat))])
    (fun _=>pt b11 #[.slice av (ba s.vs) cv,.bool s.syn] 119::pt cb (cK (mc rm m) boE) 62::hoE::hl::h::pt b (cK D bo) 62::ho::(cm i1++(cm i2++(cm insE++hs)))) (fun z=>aH K2 z.1 (ba (i7 s rs)) z.2 1 (iv (i7 s rs))) ?_ ?_
   ·refine ac9 (af 2 I fun b51 h51=>?_)
    refine' gu (q:=s.syn=false\/1<ba s.vs) 1 10 62 [51,52] h51 I I I I I I I (fun _=>?x6) (fun b62 h62=>?_)
    case x6=>
     refine au ?_;refine eE 0 (s.syn=false) I ST fun b55 h55=>?_
     refine' eB (q:=1<ba s.vs) 1 5 61 [55,56] h55 I I I I I I I (fun _=>?x7) (fun b61 h61=>?_)
     case x7=>
      refine au ?_;exact af 1 I fun b60 h60=>fin 1 I (dk (h60.trans qo) I I I)
     exact fin 1 I<|dk h61 I I I
    refine fin 0 I<|th (ah h62 I (fun e9=>?_) (fun e9=>?_))
    ·have hu:qH s rs:=⟨qo,e9.2⟩;obtain ⟨k,hk⟩:∃ k,ba rs=k+1:=⟨ba rs-1,qo⟩;have e1:kP s rs=rs.headD 0:=aab hu;have e2':i7 s rs=rs.drop 1:=aab hu;have hkl2:ba (rs.drop 1)=k:=by simp;omega
     refine ac9 (fe 1 0 I I I xr (u:=.int .i64 (rs.headD 0)) (by cases rs with|nil=>simp at hk|cons x r=>rfl) fun a64 hc64=>ld 0 I (.inl I) hc64 (au ?_));refine sl 1 1 k I xr I (by show ((ba rs:Nat):Int)=_;omega) qo (LY rs k hk) fun ao67 c67 x67=>fin 1 rfl ?_;exact jx (ao67,c67) (by rw[e2',hkl2];exact x67) ⟨I,by rw[e2',hkl2];rfl,rfl,rfl,rfl,rfl,rfl,by rw[e1];rfl,rfl,rfl,rfl,rfl,rfl,rfl,trivial⟩ rfl rfl
    have hu:¬qH s rs:=fun h=>e9 ⟨by have:=h.1;omega,h.2⟩;have e1:kP s rs=0:=aaa hu;have e2':i7 s rs=rs:=aaa hu;refine sk ?_;exact jx (aR,cr) (by rw[e2'];exact xr) ⟨I,by rw[e2'];rfl,rfl,rfl,rfl,rfl,rfl,by rw[e1];rfl,rfl,rfl,rfl,rfl,rfl,rfl,trivial⟩ rfl rfl
   rintro ⟨ar2,cr2⟩ xr2;dsimp only at *
   have hpick : -9223372036854775808<=kP s rs/\kP s rs<=9223372036854775807:=by
    unfold kP
    split
    ·rename_i hu;cases rs with
     | nil=>simp
     | cons x r=>exact hps x (hsub x (hsub2 x ST))
    omega
   have hsubR:∀ p∈i7 s rs,p∈qs:=fun p hp'=>hsub2 p (by
    grind [i7])
   have hlenR:ba (i7 s rs)<=ba qs:=by
    unfold i7
    grind
   refine ac9 (dy 0 0 I I qk (cl 1 I (JT s _ ⟨av,cv,I,xv⟩ hsv.1 qo (kP s rs) hpick) ?_));rintro v71 K71 hs71 ⟨rfl,rfl,rfl⟩;refine fin 5 I (ac6 ?_);cases hf:jY s (kP s rs) with
   | some vb=>
    have hstep:eZ (D.ar a) (ns.drop j) rs mm rm=eZ (D.ar a) (ns.drop (j+1)) (i7 s rs) (cG n ⟨[vb],true⟩ mm) rm:=by
     rw[hnd];exact Mh hgd hf
    refine au ?_;refine lit 3 #[str vb] I SU qk fun b78=>WL.frz fun K3 l1 l2=>?_;have x78:aH K3 (some ⟨b78,0,none⟩) 1 1 1 (kU [vb]):=(aZ.ofPt (b:=b78) (c:=#[str vb]) (e:=9) (n:=1) (size:=1) rfl SU).isS.le l2;refine bd 0 (.agg #[.slice (some ⟨b78,0,none⟩) 1 1,.bool true]) I (fun w=>by kernel_rfl) (rj 0 3 n (.agg #[.slice (some ⟨b78,0,none⟩) 1 1,.bool true]) I I Tryz.underlying112 mZ I I hMl fun hl' hMl'=>WL.hs (pt b11 #[.slice av (ba s.vs) cv,.bool s.syn] 119::pt cb (cK (mc rm m) boE) 62::hoE::hl'::h::pt b (cK D bo) 62::ho::(cm i1++(cm i2++(cm insE++hs)))) I (WL.drop (au ?_)));refine ar 0 I (ac (x:=((j+1:Nat):Int)) qo) (fin 1 I ?_)
    exact bc (x:=(⟨j,K71,mm,mw,hl,rm,rs,aR,cr⟩:tA)) (⟨j+1,K3,cG n ⟨[vb],true⟩ mm,cG n (.agg #[.slice (some ⟨b78,0,none⟩) 1 1,.bool true]) mw,hl',rm,i7 s rs,ar2,cr2⟩:tA) sb I I
     ⟨ax,le3.trans l1,hstep.symm.trans hQ,hMl',(hMRl.imp fun _ _ h=>lw.le l1 h).set ⟨_,1,rfl,x78⟩,xr2.le l1,hsubR,hlenR,hrm0,ax⟩ ax
   | none=>
    have hstep:eZ (D.ar a) (ns.drop j) rs mm rm=eZ (D.ar a) (ns.drop (j+1)) (i7 s rs) mm (rm+1):=by
     rw[hnd];exact Mi hgd hf
    refine au ?_;refine ar 0 I (ac (x:=rm+1) qo) (stp 2 1 I I I I (WL.hs (pt b11 #[.slice av (ba s.vs) cv,.bool s.syn] 119::pt cb (cK (mc (rm+1) m) boE) 62::hoE::hl::h::pt b (cK D bo) 62::ho::(cm i1++(cm i2++(cm insE++hs)))) I (WL.drop (au ?_))));refine ar 0 I (ac (x:=((j+1:Nat):Int)) qo) (fin 1 I ?_)
    exact bc (x:=(⟨j,K71,mm,mw,hl,rm,rs,aR,cr⟩:tA)) (⟨j+1,K71,mm,mw,hl,rm+1,i7 s rs,ar2,cr2⟩:tA) sb I I
     ⟨ax,le3,hstep.symm.trans hQ,hMl,hMRl,xr2,hsubR,hlenR,ax,ax⟩ ax
  refine au ?_;obtain rfl:j=ba ns:=qo
  rw[aaS] at hQ;have hQ':(mm,rs,rm)=eZ (D.ar a) (gV ((D.ar a).map (·.1))) qs [] room:=by rw[<-hnsd];exact hQ
  have hstepA:fA D ((a8 D).drop i) qs m room=fA D ((a8 D).drop (i+1)) rs (if ba mm=0 then m else cG a mm m) rm:=by
   rw[hdrop];exact N4 hQ'
  have hnotin:a∉m.map (·.1):=fun hm'=>by
   have h1:=hkm a hm';have h2:=abR.1 (by rw[aaC];exact hknd:((a8 D).take i++(a8 D).drop i).Nodup)
   grind
  have htk:(a8 D).take (i+1)=(a8 D).take i++[a]:=by rw[aaA,ha];rfl
  refine au ?_;refine HV 1 I Tryz.underlying112 (.inr ⟨2,I⟩) hMl ?_;have hml:=hMRl.len;refine af 0 I fun b90 h90=>fin 0 I (th (ah h90 I (fun e13=>?_) (fun e13=>?_)))
  ·have hm0:ba mm≠0:=qo
   rw[aaa hm0] at hstepA;have hnew:cG a mm m=m++[(a,mm)]:=sd (iC.2 hnotin)
   have hnew2:cG a bq (fv insE)=fv (insE++[(a,bq,hl)]):=by
    grind [sd,iC,qf,pB,fv]
   have hP:(hl::((pt b (cK D bo) 62::ho::cm ins)++(cm insE++hs))).Perm ((pt b (cK D bo) 62::ho::cm ins)++(cm (insE++[(a,bq,hl)])++hs)):=by
    have h1:=(aaI (a:=hl) (l₁:=(pt b (cK D bo) 62::ho::cm ins)++cm insE) (l₂:=hs)).symm
    simp_all [cm]
   refine au ?_;refine rj 2 1 a bq I I Tryz.underlying60 i9 I I hOE fun hoE' hOE'=>?_;rw[hnew2] at hOE';refine WL.perm (hs':=[pt cb (cK (mc rm (cG a mm m)) boE) 62,hoE']++((pt b (cK D bo) 62::ho::cm ins)++(cm (insE++[(a,bq,hl)])++hs))) ((((hp.symm.cons _).trans hP).cons _).cons _) (au ?_);refine ar 0 I (ac (x:=((i+1:Nat):Int)) qo) (fin 1 I ?_)
   refine bc (x:=(⟨i,K21,m,insE,hoE,room,qs,aq,cq⟩:tz)) (⟨i+1,K2,cG a mm m,insE++[(a,bq,hl)],hoE',rm,rs,aR,cr⟩:tz) sb I I
    ⟨ax,(le.trans le2).trans le3,hstepA.symm.trans hR,hOE',?_,xr,fun p hp'=>hsub p (hsub2 p hp'),ax,?_,ax,ax⟩ ax
   ·dsimp only;rw[hnew];exact fY.app (hIE.le (le2.trans le3)) ⟨I,⟨mw,hMl,hMRl⟩,trivial⟩
   grind
  have hm0:ba mm=0:=qo
  rw[aab hm0] at hstepA;refine sk (WQ.perm (hs':=hl::([pt cb (cK (mc rm m) boE) 62,hoE]++((pt b (cK D bo) 62::ho::cm ins)++(cm insE++hs)))) ((((hp.symm.cons _).cons _).cons _).trans (ig _ 2 _ I)) (WQ.drop (ac7 (ar 0 I (ac (x:=((i+1:Nat):Int)) qo) (fin 1 I ?_)))))
  refine bc (x:=(⟨i,K21,m,insE,hoE,room,qs,aq,cq⟩:tz)) (⟨i+1,K2,m,insE,hoE,rm,rs,aR,cr⟩:tz) sb I I
   ⟨ax,(le.trans le2).trans le3,hstepA.symm.trans hR,hOE,hIE.le (le2.trans le3),xr,fun p hp'=>hsub p (hsub2 p hp'),ax,fun k hk=>by grind,ax,ax⟩ ax
 obtain rfl:i=ba (a8 D):=qo
 rw[aaS] at hR;have hR':(m,room)=fA D (a8 D) ps [] D.room:=hR;have hD:D.crash ps=mc room m:=by unfold Dk.crash;rw[hmax,<-hR']
 refine ex (xt (xt (xb (ac6 (fin 2 I (adb (WQ.perm (hs':=(pt cb (cK (mc room m) boE) 62::hoE::cm insE)++((pt b (cK D bo) 62::ho::cm ins)++hs)) (((abK (pt b (cK D bo) 62::ho::cm ins) (cm insE) hs).cons _).cons _) ?_)))))));exact ay I I ⟨le1.trans le,cb,_,I,by rw[hD];exact ⟨boE,hoE,insE,I,hOE,hIE⟩,I⟩
end
section
def Mc{s:fg}{p:Int}{v:List UInt8}(h:jY s p=some v):v∈s.vs:=by
 grind [jY]
def Av(l:Ar)(y:Int×fg):Prop:=∃ s,aK y.1 l=some s/\∃ v∈s.vs,y.2=⟨[v],true⟩
theorem yW(l:Ar):∀ (ns:List Int) (ps:List Int) (m:Ar) (room:Int),(∀ y∈m,Av l y)->(∀ n∈ns,∃ s,aK n l=some s)->∀ y∈(eZ l ns ps m room).1,Av l y
 | [],ps,m,room,h,_=>h
 | n::r,ps,m,room,h,hl=>by
  obtain ⟨s,hs⟩:=hl n ST;have e:(aK n l).getD nf=s:=by rw[hs];rfl
  unfold eZ;rw[e];cases hf:jY s (kP s ps) with
  | some v=>
   refine yW l r _ _ _ (fun y hy=>?_) (fun j hj=>hl j (by simp[hj]));rcases j7 hy with rfl|hy
   ·exact ⟨s,hs,v,Mc hf,I⟩
   exact h y hy
  | none=>exact yW l r _ _ _ h (fun j hj=>hl j (by simp[hj]))
def Ia(D:Dk)(x:Int×Ar):Prop:=(x.2.map (·.1)).Nodup/\ba x.2<=ba (D.ar x.1)/\∀ y∈x.2,Av (D.ar x.1) y
def pN(D:Dk)(ks:List Int):Nat:=(ks.map fun a=>ba (D.ar a)).sum
theorem yX{c:Nat}{D:Dk}(o:D.Ok c):∀ (ks:List Int) (ps:List Int) (m:List (Int×Ar)) (room:Int),ks.Nodup->(∀ a∈ks,aK a m=none)->(∀ x∈m,Ia D x) ->
  (∀ x∈(fA D ks ps m room).1,Ia D x)/\(fA D ks ps m room).2+(fD (fA D ks ps m room).1:Int)<=room+(fD m:Int)+(pN D ks:Int)
 | [],ps,m,room,_,_,h=>⟨h,by simp[fA,pN]⟩
 | a::r,ps,m,room,hn,hma,h=>by
  have hn:=abk.1 hn
  have hnd:((D.ar a).map (·.1)).Nodup:=by
   unfold Dk.ar;cases hg:aK a D.areas with
   | none=>simp
   | some l=>exact (o.ns _ (iY hg)).1
  have hvs:∀ n∈gV ((D.ar a).map (·.1)),∃ s,aK n (D.ar a)=some s/\s.vs≠[]:=by
   intro n hn;have hn:=(fb _).mem_iff.1 hn;cases hg:aK n (D.ar a) with
   | none=>exact absurd hn (iC.1 hg)
   | some s=>
    refine ⟨s,I,?_⟩;have h1:=iY hg;unfold Dk.ar at h1;cases hg2:aK a D.areas with
    | none=>rw[hg2] at h1;simp at h1
    | some l=>rw[hg2] at h1;exact (o.vs _ (iY hg2) _ h1).1
  obtain ⟨q1,q2,q3,q4,q5,q6⟩:=uv (D.ar a) (gV ((D.ar a).map (·.1))) ps [] room ((fb _).symm.nodup hnd) (fun _ _=>rfl) hvs ST;have q7:=yW (D.ar a) (gV ((D.ar a).map (·.1))) ps [] room ST (fun n hn=>let ⟨s,h1,_⟩:=hvs n hn;⟨s,h1⟩);have hsl:ba (gV ((D.ar a).map (·.1)))=ba (D.ar a):=by rw[(fb _).length_eq,aaP]
  have hsum:pN D (a::r)=ba (D.ar a)+pN D r:=by simp[pN]
  unfold fA;generalize eZ (D.ar a) (gV ((D.ar a).map (·.1))) ps [] room=R at q1 q2 q3 q4 q5 q6 q7;obtain ⟨l,ps',room'⟩:=R;dsimp only at q1 q2 q3 q4 q5 q6 q7 ⊢;rw[hsl] at q5 q6;simp only[aaG] at q6
  by_cases h0:ba l=0
  ·rw[aab h0];obtain ⟨r1,r2⟩:=yX o r ps' m room' hn.2 (fun b hb=>hma b (by simp[hb])) h;exact ⟨r1,qo⟩
  rw[aaa h0];have ht:=tK (a:=a) (l:=l) m;rw[hma a ST] at ht;simp only[abm,aaG] at ht
  obtain ⟨r1,r2⟩:=yX o r ps' (cG a l m) room' hn.2 (fun b hb=>by rw[lH,aaa (fun e=>hn.1 (by rw[<-e];exact hb))];exact hma b (by simp[hb])) (fun x hx=>by
   rcases j7 hx with rfl|hx
   ·exact ⟨q3,ax,q7⟩
   exact h x hx)
  exact ⟨r1,qo⟩
theorem wl{κ ν:Type}[DecidableEq κ]:∀ {m:List (κ×ν)},(m.map (·.1)).Nodup->∀ x∈m,aK x.1 m=some x.2
 | (k,v)::m,h,x,hx=>by
  simp only[aao,abk] at h;rcases aau.1 hx with rfl|hx
  ·simp[aK]
  have hne:¬x.1=k:=fun e=>h.1 (by grind);simp only[aK,hne,if_false];exact wl h.2 x hx
def La{c:Nat}{D:Dk}(o:D.Ok c):pN D (a8 D)=fD D.areas:=by
 unfold pN a8 fD;rw[((fb (D.areas.map (·.1))).map fun a=>ba (D.ar a)).sum_nat,aa5]
 congr 1
 refine abC fun x hx=>?_;simp only[Function.comp_apply];unfold Dk.ar;rw[wl o.keys x hx]
 rfl
def Kj{n:Nat}{l:List Int}(h:l.Nodup)(hb:∀ a∈l,0<=a/\a<(n:Int)):ba l<=n:=by
 have:=acZ h (l₂:=(List.range n).map Int.ofNat) (fun a ha=>aak.2 ⟨a.toNat,by have:=hb a ha;rw[List.mem_range];omega,by grind⟩);simpa using this
theorem bf.crash{c q:Nat}{D:Dk}(o:bf c D)(hq:ba D.areas<=q)(ps:List Int):bf (65536+q) (D.crash ps)/\ba (D.crash ps).areas<=q/\D.room<=(D.crash ps).room:=by
 obtain ⟨r1,r2,r3,r4,r5,r6⟩:=yg o.ok (a8 D) ps [] (max D.room 0) ((fb _).symm.nodup o.ok.keys) (fun _ _=>rfl) ST ST;obtain ⟨s1,s2⟩:=yX o.ok (a8 D) ps [] (max D.room 0) ((fb _).symm.nodup o.ok.keys) (fun _ _=>rfl) ST;rw[La o.ok] at s2;have hroom:=o.ok.room;have hcap:=o.cap
 have hk:∀ k∈(D.crash ps).areas.map (·.1),k∈D.areas.map (·.1):=fun k hk=>by
  rcases r6 k hk with h|h
  ·exact (fb _).mem_iff.1 h
  simp at h
 have hsum:(D.crash ps).room+(fD (D.crash ps).areas:Int)<=D.room+(fD D.areas:Int):=by
  have:(fD ([]:List (Int×Ar)):Int)=0:=rfl;show (fA D (a8 D) ps [] (max D.room 0)).2+(fD (fA D (a8 D) ps [] (max D.room 0)).1:Int)<=_;omega
 have har:∀ x∈(D.crash ps).areas,∃ l,(x.1,l)∈D.areas/\D.ar x.1=l:=fun x hx=>by
  obtain ⟨y,hy,he⟩:=aak.1 (hk x.1 (aak.2 ⟨x,hx,rfl⟩));refine ⟨y.2,by rw[<-he];exact hy,?_⟩;unfold Dk.ar;rw[<-he,wl o.ok.keys y hy]
  rfl
 have hlen:ba (D.crash ps).areas<=q:=by
  have h1:=acZ r3 (l₂:=D.areas.map fun x:Int×Ar=>x.1) (fun k h=>hk k h);simp only[aaP] at h1;exact aat h1 hq
 have hat:∀ x∈(D.crash ps).areas,∀ y∈x.2,0<=y.1/\y.1<65536:=fun x hx y hy=>by
  obtain ⟨_,_,h3⟩:=s1 x hx;obtain ⟨l,hl,e⟩:=har x hx;obtain ⟨s,g1,_⟩:=h3 y hy;rw[e] at g1;have h:=o.ok.at_ _ hl _ (iY g1);exact h
 refine ⟨⟨⟨r3,fun x hx=>?_,fun x hx y hy=>?_,?_,⟨abo 0,by show (0:Int)<=_;omega⟩,⟨by show (-1:Int) <= -1;omega,by show (-1:Int)<=_;omega⟩,fun x hx y hy=>?_⟩,fun k h=>o.ar k (hk k h),?_,qo⟩,hlen,?_⟩
 ·have h:=Kj (n:=65536) (s1 x hx).1 (fun a ha=>by
   grind)
  rw[aaP] at h;exact ⟨(s1 x hx).1,qo⟩
 ·obtain ⟨_,_,h3⟩:=s1 x hx;obtain ⟨l,hl,e⟩:=har x hx;obtain ⟨s,g1,v,g2,g3⟩:=h3 y hy;rw[e] at g1;have hv:=o.ok.vs _ hl _ (iY g1)
  grind
 ·show 0<=(fA D (a8 D) ps [] (max D.room 0)).2/\(fA D (a8 D) ps [] (max D.room 0)).2<=1099511627776;have:(D.crash ps).room=(fA D (a8 D) ps [] (max D.room 0)).2:=rfl;omega
 ·exact hat x hx y hy
 ·omega
 have:(D.crash ps).room=(fA D (a8 D) ps [] (max D.room 0)).2:=rfl;omega
def PC{dh:PH}{hs:List PH}(b:Nat)(D:Dk)(c:Nat)(o:bf c D)(hc:c<=1000000000)(hD:da K b D dh)(ps:List Int)(hps:∀ p∈ps,-9223372036854775808<=p/\p<=9223372036854775807)(ap:Option Addr)(cp:Nat)(xp:aH K ap (ba ps) cp 1 (iv ps))(hpl:ba ps<1099511627776):
  aj w0 12 [SX b,.slice ap (ba ps) cp] K (dh::hs)
   (fun v K' hs'=>∃ b2 d2,hs'=d2::dh::hs/\Le K K'/\da K' b2 (D.crash ps) d2/\v=SX b2):=by
 obtain ⟨m,rfl,d,hm⟩:=hD;refine ⟨(Gl (w0:=w0) (hs:=hs) b D c o hc hm ps hps ap cp xp hpl).1,fun w hw=>((Gl (w0:=w0) (hs:=hs) b D c o hc hm ps hps ap cp xp hpl).2 w (hw.split d)).mono ?_⟩;rintro e w' ⟨v,K',hs',rfl,⟨le,b2,m2,rfl,hm2,rfl⟩,hS⟩;obtain ⟨d2,hS2⟩:=aY.join m2 hS;have hS4:aY w0 w' K' (m++(fp m2::hs)):=hS2.perm (abK [fp m2] m hs);obtain ⟨_,hS5⟩:=aY.join m hS4;exact ⟨_,K',_,I,⟨b2,fp m2,I,le,⟨m2,I,d2,hm2⟩,I⟩,hS5.perm (aaq _ _ _)⟩
end
section
def HR:SP:=⟨3,0,0,0,0,[],⟨0,0,[],[]⟩⟩
theorem bf.arm{c:Nat}{D:Dk}(o:bf c D)(i:Int)(hi:i<=9223372036854775807):bf c (D.arm i):=by
 unfold Dk.arm
 split
 ·exact o
 exact ⟨⟨o.ok.keys,o.ok.ns,o.ok.vs,o.ok.room,o.ok.steps,⟨ax,ax⟩,o.ok.at_⟩,o.ar,o.len,o.cap⟩
def CC(D:Dk)(i:Int):(D.arm i).areas=D.areas:=by
 unfold Dk.arm
 split <;> rfl
end
section
def jI(c:bM):Prop:=c.ok/\c.ses<=aC/\c.seq<=aC
def eH(i:Nat)(c:bM):aI:=⟨i,1,1,c.bytes⟩
def eK:Nat->List bM->List aI
 | _,[]=>[]
 | i,c::r=>eH (i+1) c::eK (i+1) r
theorem n4:∀ (l:List bM) (i:Nat),ba (eK i l)=ba l
 | [],_=>rfl
 | c::r,i=>by rw[eK,aaj,n4 r,aaj]
theorem Bw:∀ (l:List bM) (i:Nat) (c:bM),eK i (l++[c])=eK i l++[eH (i+ba l+1) c]
 | [],i,c=>rfl
 | d::r,i,c=>by
  rw[aaz,eK,eK,Bw r (i+1) c,aaj,aaz,show i+1+ba r+1=i+(ba r+1)+1 by omega]
theorem tV:∀ (l:List bM) (i j:Nat),(eK i l)[j]?=(l[j]?).map (eH (i+j+1))
 | [],_,_=>by simp[eK]
 | c::r,i,0=>by simp[eK]
 | c::r,i,j+1=>by
  rw[eK,acU,acU,tV r (i+1) j,show i+1+j+1=i+(j+1)+1 by omega]
def JA{l:List bM}{i:Nat}{e:aI}(h:e∈eK i l):e.term=1:=by
 obtain ⟨j,hj⟩:=aa1.1 h;rw[tV] at hj;cases hl:l[j]? with
 | none=>rw[hl] at hj;simp at hj
 | some c=>rw[hl] at hj;simp only[aa2,aad] at hj;rw[<-hj];rfl
def jI.put{c:bM}(h:jI c):lO c=some c.bytes:=aab h.1
def jI.get{c:bM}(h:jI c):kG c.bytes=some c:=NR h.2.1 h.2.2 h.put
def jI.len{c:bM}(h:jI c):ba c.bytes<=200:=Bs h.get
def Py{c:bM}(h:jI c){i:Nat}(h1:i≠0)(h2:i<=1000000):kR (eH i c):=
 ⟨⟨h1,by show (1:Nat)≠0;decide,.inr (.inl ⟨rfl,by show (kG c.bytes).isSome=true;rw[h.get];rfl⟩)⟩,by show i<=aC;unfold aC;omega,by show (1:Nat)<=aC;decide⟩
def Q3{sn:bG}(h:sn.term<=1)(cs:List bM)(i:Nat):(fZ sn (eK sn.idx cs) i).1<=1:=by
 unfold fZ
 split
 ·exact h
 split
 ·omega
 dsimp only;cases hl:(eK sn.idx cs)[i-sn.idx-1]? with
 | none=>exact aag _
 | some e=>exact Nat.le_of_eq (JA (aap hl))
def vK:(eu [0]).isSome=true:=by decide
structure jk (fl:Bool) (k:Nat) (sn:bG) (cs:List bM) (L:Lg) (D:Dk):Prop where
 esn:L.sn=sn
 el:L.l=eK sn.idx cs
 alv:dH (4000*(500-k)) D
 cn:Cn (110*k) L
 inv:∃ S op,dK [0] (110*k) L D S op/\ge S op L.sn (fun l=>l=L.l)
 rn:Rn (120000*k) (103*k) L D
 sim:fl=true->gI k (110*k) L/\cY (16777216-33000*k) D
 sb:sn.idx<=1000/\sn.term<=1
 len:ba cs<=k
 ok:∀ c∈cs,jI c
structure z8 (fl:Bool) (k:Nat) (sn:bG) (cs:List bM) (c:bM) (L:Lg) (D:Dk):Prop where
 esn:L.sn=sn
 el:L.l=eK sn.idx (cs++[c])
 alv:dH (4000*(500-(k+1))) D
 cn:Cn (110*k+1) L
 inv:∃ S op,dK [0] (110*k+1) L D S op/\ge S op L.sn (fun l=>l=eK sn.idx cs\/l=eK sn.idx (cs++[c]))
 rn:Rn (120000*k+12) (103*k+1) L D
 sim:fl=true->gI k (110*k+1) L/\cY (16777216-33000*(k+1)) D
 sb:sn.idx<=1000/\sn.term<=1
 len:ba cs<=k
 ok:∀ d∈cs++[c],jI d
def z7(sn:bG)(cs:List bM)(c:bM)(E:Dk):Prop:=∃ M A,M<=1000000/\j6 [0] M E A (fun s l=>s=sn/\(l=eK sn.idx cs\/l=eK sn.idx (cs++[c])))
def jk.app{fl:Bool}{k:Nat}{sn:bG}{cs:List bM}{L:Lg}{D:Dk}(o:jk fl k sn cs L D)(hk:k<=498)(c:bM)(hc:jI c):
  Rn (120000*k+12) (103*k+1) (L.append [eH (sn.idx+ba cs+1) c] D).1 (L.append [eH (sn.idx+ba cs+1) c] D).2.1 /\
  (((L.append [eH (sn.idx+ba cs+1) c] D).2.2=0/\z8 fl k sn cs c (L.append [eH (sn.idx+ba cs+1) c] D).1 (L.append [eH (sn.idx+ba cs+1) c] D).2.1) \/
   ((L.append [eH (sn.idx+ba cs+1) c] D).2.2=30/\fl=false/\z7 sn cs c (L.append [eH (sn.idx+ba cs+1) c] D).2.1)):=by
 obtain ⟨S,op,li,hp⟩:=o.inv;have hsb:=o.sb;have hlen:=o.len;have hsn:=o.esn;have hl:=o.el;have hll:ba L.l=ba cs:=by rw[hl,n4]
 have hg:kR (eH (sn.idx+ba cs+1) c):=Py hc qo qo;have hlast:L.last=sn.idx+ba cs:=by unfold Lg.last;rw[hsn,hll]
 have hTt:(fZ L.sn L.l L.last).1<=1:=by rw[hsn,hl];exact Q3 hsb.2 cs _
 have hfr:fW L.last (fZ L.sn L.l L.last).1 [eH (sn.idx+ba cs+1) c]=0:=by
  unfold fW
  rw[aaa (by
   rintro (h|h)
   ·exact h (by rw[hlast];rfl)
   have h2:(1:Nat)<(fZ L.sn L.l L.last).1:=h;omega)]
  rfl
 have hx:∀ e∈[eH (sn.idx+ba cs+1) c],kR e:=fun e he=>by rw[aaK.1 he];exact hg
 have hfol:kz L.last (fZ L.sn L.l L.last).1 [eH (sn.idx+ba cs+1) c]=0:=Mb (fun e he=>(hx e he).1) hfr;have hrn:=o.rn.append [eH (sn.idx+ba cs+1) c] (fun e he=>(hx e he).2) (by simp;omega)
 have e1:L.append [eH (sn.idx+ba cs+1) c] D=L.app1 [eH (sn.idx+ba cs+1) c] D:=by
  unfold Lg.append;rw[aaa (by rw[li.code];simp),aaa qo]
 have hsim:fl=true->(L.append [eH (sn.idx+ba cs+1) c] D).2.2=(L.rl.append [eH (sn.idx+ba cs+1) c]).2/\cY (16777216-33000*(k+1)) (L.append [eH (sn.idx+ba cs+1) c] D).2.1/\gI k (110*k+1) (L.append [eH (sn.idx+ba cs+1) c] D).1:=fun hf=>by
  obtain ⟨s1,s2⟩:=o.sim hf;have h:=s1.append (n:=16777216-33000*(k+1)) [eH (sn.idx+ba cs+1) c] (s2.mono (by simp;omega)) (fun e he=>(hx e he).2) (by rw[hsn,hll];unfold bY;simp;omega);exact ⟨h.1,h.2.1,h.2.2.1⟩
 have hnew:L.l++[eH (sn.idx+ba cs+1) c]=eK sn.idx (cs++[c]):=by rw[hl,Bw]
 refine ⟨hrn,?_⟩
 rcases DZ (Q:=fun l=>l=eK sn.idx cs\/l=eK sn.idx (cs++[c])) [eH (sn.idx+ba cs+1) c] (110*k) (4000*(500-(k+1))) L D S op li (by unfold eV;simp;omega) (by rw[hsn,hll];unfold bY;simp;omega) (hp.mono fun l h=>.inl (h.trans hl)) (fun j hj=>by
   simp only[aaj,aaG] at hj;rcases abq j with rfl|h
   ·simp_all
   obtain rfl:j=1:=qo
   exact .inr hnew) (L6 li.good hfr hx) (o.alv.mono (by simp;omega)) with ⟨g1,g2,⟨W,g3⟩,S1,op1,g4,g5⟩|⟨g1,g2,g3,g4⟩
 ·refine .inl ⟨by rw[e1];exact g1,?_⟩;have hL1:(L.append [eH (sn.idx+ba cs+1) c] D).1={ L with w:=W,l:=L.l++[eH (sn.idx+ba cs+1) c] }:=by rw[e1];exact g3
  have hsn1:(L.append [eH (sn.idx+ba cs+1) c] D).1.sn=sn:=by rw[hL1];exact hsn
  refine ⟨hsn1,by rw[hL1];exact hnew,by rw[e1];exact g2,?_,⟨S1,op1,by rw[e1];exact g4,by rw[hsn1];rw[hsn] at g5;exact g5⟩,hrn,fun hf=>⟨(hsim hf).2.2,(hsim hf).2.1⟩,hsb,hlen,?_⟩
  ·rw[hL1];have h:=o.cn;exact ⟨aat h.1 qo,aat h.2.1 qo,aat h.2.2 qo⟩
  intro d hd;rcases aal.1 hd with h|h
  ·exact o.ok d h
  rw[aaK.1 h];exact hc
 refine .inr ⟨by rw[e1];exact g1,?_,?_⟩
 ·cases hf:fl with
  | false=>rfl
  | true=>
   have:=(hsim hf).2.1.dead;rw[e1,g2] at this;cases this
 have cn1:Cn (110*k+1) L:=by
  have h:=o.cn;exact ⟨aat h.1 qo,aat h.2.1 qo,aat h.2.2 qo⟩
 refine ⟨110*k+1,[(L.kt,L.kv)],qo,?_⟩;rw[e1];refine (li.fnd vK cn1 g3 (P:=fun s l=>s=sn/\(l=eK sn.idx cs\/l=eK sn.idx (cs++[c]))) ?_ ST)
 simp_all
theorem z8.sync{fl:Bool}{k:Nat}{sn:bG}{cs:List bM}{c:bM}{L:Lg}{D:Dk}(o:z8 fl k sn cs c L D)(hk:k<=498):
  Rn (120000*(k+1)) (103*(k+1)) (L.sync D).1 (L.sync D).2.1 /\
  (((L.sync D).2.2=0/\jk fl (k+1) sn (cs++[c]) (L.sync D).1 (L.sync D).2.1)\/((L.sync D).2.2=30/\fl=false/\z7 sn cs c (L.sync D).2.1)):=by
 obtain ⟨S,op,li,hp⟩:=o.inv;have hsn:=o.esn;have hsb:=o.sb;have hrn:=o.rn.sync.up (c':=120000*(k+1)) (q':=103*(k+1)) qo qo
 have hsim:fl=true->cY (16777216-33000*(k+1)) (L.sync D).2.1/\gI (k+1) (110*(k+1)) (L.sync D).1:=fun hf=>by
  obtain ⟨s1,s2⟩:=o.sim hf;have h:=s1.sync s2;exact ⟨h.2.1,h.2.2.1.up qo qo⟩
 refine ⟨hrn,?_⟩;rcases wN (n:=4000*(500-(k+1))) li o.alv with ⟨s1,s2,s3,op',s4,s5,s6⟩|⟨s1,s2⟩
 ·rw[li.sync0 s1] at hrn hsim ⊢;refine .inl ⟨I,hsn,o.el,s2,?_,⟨S,op',s4.up qo,s6⟩,hrn,fun hf=>⟨(hsim hf).2,(hsim hf).1⟩,hsb,by have:=o.len;simp_all,o.ok⟩;have h:=o.cn;exact ⟨aat h.1 qo,aat h.2.1 qo,aat h.2.2 qo⟩
 rw[Lg.sync_eq li.code] at hsim ⊢;refine .inr ⟨s1,?_,110*k+1,[(L.kt,L.kv)],qo,?_⟩
 ·cases hf:fl with
  | false=>rfl
  | true=>
   have:=(hsim hf).1.dead;rw[s2.1] at this;cases this
 refine li.fnd vK o.cn (fun a _=>s2.2.1 a) (P:=fun s l=>s=sn/\(l=eK sn.idx cs\/l=eK sn.idx (cs++[c]))) ?_ ST
 have:(fun l=>L.sn=sn/\(l=eK sn.idx cs\/l=eK sn.idx (cs++[c])))=fun l=>(l=eK sn.idx cs\/l=eK sn.idx (cs++[c])):=by
  funext l
  simp[hsn]
 rw[this];exact li.foundS (aac _) (by unfold eV;omega) (by rw[hsn];unfold bY;omega) hp (s2.seg li.seg)
theorem jk.fnd{fl:Bool}{k:Nat}{sn:bG}{cs:List bM}{L:Lg}{D:Dk}(o:jk fl k sn cs L D)(hk:k<=500):j6 [0] (110*k) D [(L.kt,L.kv)] (fun s l=>s=sn/\l=eK sn.idx cs):=by
 obtain ⟨S,op,li,hp⟩:=o.inv;have hsn:=o.esn;have hsb:=o.sb;refine li.fnd vK o.cn (fun _ _=>I) (P:=fun s l=>s=sn/\l=eK sn.idx cs) ?_ ST
 have:(fun l=>L.sn=sn/\l=eK sn.idx cs)=fun l=>l=L.l:=by
  funext l
  simp[hsn,o.el]
 rw[this];exact li.foundS (aac _) (by unfold eV;omega) (by rw[hsn];unfold bY;omega) hp li.seg
theorem jk.save{k:Nat}{cs:List bM}{L:Lg}{D:Dk}(o:jk true k ⟨0,0,[0],[]⟩ cs L D)(hk:k<=498)(hn:0<ba cs)(data:List UInt8)(hd:ba data<=200000):
  (L.save ⟨ba cs,1,[0],data⟩ D).2.2=0/\jk true (k+1) ⟨ba cs,1,[0],data⟩ [] (L.save ⟨ba cs,1,[0],data⟩ D).1 (L.save ⟨ba cs,1,[0],data⟩ D).2.1:=by
 obtain ⟨S,op,li,hp⟩:=o.inv;have hsn:=o.esn;have hl:=o.el;have hlen:=o.len;have hll:ba L.l=ba cs:=by rw[hl,n4]
 obtain ⟨s,hs⟩:∃ s:bG,s=⟨ba cs,1,[0],data⟩:=⟨_,rfl⟩;have hsi:s.idx=ba cs:=by rw[hs]
 have hst:s.term=1:=by rw[hs]
 have hsd:s.data=data:=by rw[hs]
 have hsv:s.vot=[0]:=by rw[hs]
 rw[<-hs]
 have hfits:L.rl.fits s=0:=by
  unfold Rl.fits
  rw[aaa (by rw[hsv,hsd];rintro (h|h);exact absurd h SU;omega),aaa (by
   have h1:L.rl.sn.idx=0:=by show L.sn.idx=0;rw[hsn]
   rw[h1,hsi];unfold bY;omega)]
 have hhas:gQ L.rl.sn L.rl.l s=true:=by
  show gQ L.sn L.l s=true;unfold gQ fZ;rw[hsn,hsi,hst,aaa (by show ¬ba cs=0;omega),aaa (by simp_all)]
  grind [tV,eH]
 have hsave:L.rl.save s=({ L.rl with sn:=s,l:=L.rl.l.drop (s.idx-L.rl.sn.idx) },0):=by
  simp_all [Rl.save]
 have hdrop:L.rl.l.drop (s.idx-L.rl.sn.idx)=[]:=by
  show L.l.drop (s.idx-L.sn.idx)=[]
  simp_all
 obtain ⟨s1,s2⟩:=o.sim rfl;have hsm:=s1.save (n:=16777216-33000*(k+1)) s (s2.mono (by rw[hsd];omega)) (by rw[hsi];unfold aC;omega) (by rw[hst];decide) qo qo;have hrn:=(o.rn.save (k:=3200) s (by rw[hst];decide) qo (by rw[hsd];omega)).up (c':=120000*(k+1)) (q':=103*(k+1)) qo qo;have hcode:(L.save s D).2.2=0:=by rw[hsm.1,hsave]
 refine ⟨hcode,?_⟩;have hr:=Lh (n:=4000*(500-(k+1))) li vK o.cn (A:=[(L.kt,L.kv)]) (P:=fun _ _=>True) ST (hp.mono fun _ _=>trivial) trivial s (by rw[hst];decide) qo (by grind [bY]) (fun _ _ _=>trivial) (o.alv.mono (by rw[hsd];omega));rcases hr with ⟨g1,g2,g3,g4,S1,op1,g5,g6,g7⟩|⟨g1,_⟩
 ·have h1:(L.save s D).1.sn=s:=by
   have:=congrArg Rl.sn g3;rw[hsave] at this;exact this
  have h2:(L.save s D).1.l=[]:=by
   have:=congrArg Rl.l g3;rw[hsave] at this;exact this.trans hdrop
  exact ⟨h1,by rw[h2];rfl,g2,(⟨aat g4.1 qo,aat g4.2.1 qo,aat g4.2.2 qo⟩),⟨S1,op1,g5.up qo,g7 (by rw[hsave])⟩,hrn,fun _=>⟨hsm.2.2.1.up qo qo,hsm.2.1⟩,⟨by rw[hsi];omega,qo⟩,aag _,ST⟩
 have:=hsm.2.1.dead;rw[g1] at this;cases this
theorem jk.arm{k:Nat}{sn:bG}{cs:List bM}{L:Lg}{D:Dk}(o:jk true k sn cs L D)(i:Int)(hi:i<=9223372036854775807):jk false k sn cs L (D.arm i):=by
 obtain ⟨S,op,li,hp⟩:=o.inv;have hd:¬D.dead=true:=by rw[o.alv.dead];decide
 have e:D.arm i={ D with left:=max i (-1) }:=by unfold Dk.arm;rw[aaa hd]
 refine ⟨o.esn,o.el,?_,o.cn,⟨S,op,li.same (CC D i),hp⟩,⟨o.rn.lb,o.rn.ok.arm i hi,o.rn.old,by rw[CC];exact o.rn.ar⟩,(fun hf=>by cases hf),o.sb,o.len,o.ok⟩;rw[e];exact ⟨ax,o.alv.dead,o.alv.room,o.alv.keys⟩
theorem j6.opened{M c q:Nat}{E:Dk}{A:List (Nat×Int)}{P:bG->List aI->Prop}(h:j6 [0] M E A P)(o:bf c E)(hq:ba E.areas<=q)(ps:List Int):∃ L,gp (E.crash ps) [0]=(some L,(gp (E.crash ps) [0]).2.1,0)/\P L.sn L.l/\Rn (65536+3*q) q L (gp (E.crash ps) [0]).2.1:=by
 have hc:=DS o ps;obtain ⟨L,E2,S,h1,_,h3,_⟩:=h _ hc.1 hc.2;obtain ⟨g1,g2,_⟩:=o.crash hq ps;have r:=(Rn.opened g1 g2 (first:=[0]) (L:=L) (by rw[h1])).1
 grind
def vT:Lg:=⟨⟨none,1,[],[],0,0⟩,⟨0,[]⟩,⟨0,[]⟩,0,-1,⟨0,0,[0],[]⟩,0,0,[],0⟩
def uW:gp (gr 16777216) [0]=(some vT,gr 16777216,0):=by kernel_rfl
def jk.new:jk true 0 ⟨0,0,[0],[]⟩ [] vT (gr 16777216):=by
 have hc:=DS (yf (r:=16777216) qo) [];rw[show (gr 16777216).crash []=gr 16777216 from by kernel_rfl] at hc;obtain ⟨L,E,S,h1,_,_,h4,h5,_⟩:=NV vK (D:=gr 16777216) rfl _ hc.1 hc.2;rw[uW] at h1;cases h1;have r:=(Rn.opened (yf (r:=16777216) qo) (q:=0) (by simp[gr]) (first:=[0]) (L:=vT) (by rw[uW])).1;rw[uW] at r;exact ⟨I,I,⟨SU,I,SU,by simp[gr]⟩,h5,⟨S,none,h4,(qn (fun q hq=>by cases hq) h4.ok h4.good h4.vk.lv)⟩,r,fun _=>⟨⟨I,⟨I,fun o h=>by cases h⟩,aac _,aac _,aac _,aac _,aac _,I,I⟩,⟨I,I,by simp[gr]⟩⟩,⟨ST,by show 0<=1;decide⟩,aac _,ST⟩
end
section
def dr(cs:List bM):List bM:=cs.filter fun c=>decide c.ok
theorem py(a b:List bM):dr (a++b)=dr a++dr b:=aa0 ..
theorem ue{c:bM}(h:c.ok):dr [c]=[c]:=by unfold dr;simp[h]
def Fd{c:bM}(h:¬c.ok):dr [c]=[]:=by unfold dr;simp[h]
def Fe{cs:List bM}{i:Nat}{c:bM}(h:cs[i]?=some c)(hc:c.ok):(dr cs)[ba (dr (cs.take i))]?=some c/\(dr cs).take (ba (dr (cs.take i)))=dr (cs.take i):=by
 have hi:=(aas.1 h).1;have hg:cs[i]=c:=(aas.1 h).2
 have e:cs=cs.take i++([c]++cs.drop (i+1)):=by
  grind [List.take_append_drop,List.drop_eq_getElem_cons]
 have e2:dr cs=dr (cs.take i)++([c]++dr (cs.drop (i+1))):=by
  grind [py,ue]
 grind
structure tx where
 i:Nat
 L:Lg
 D:Dk
 h:PH
 K:PH
def HM(fl:Bool)(k1:Nat)(sn:bG)(cs0 e:List bM)(v:Value)(L:Lg)(D:Dk):Prop:=
 ∃ n:Nat,v=.int .i64 (n:Nat)/\((n=ba e/\∃ k,k<=k1/\jk fl k sn (cs0++e) L D)\/(fl=false/\∃ c,e[n]?=some c/\z7 sn (cs0++e.take n) c D/\bf 60000000 D/\ba D.areas<=51500))
def GT{h:PH}{hs:List PH}(fl:Bool)(k0:Nat)(sn:bG)(cs0:List bM)(L:Lg)(D:Dk)(lb db:Nat)(hK:jk fl k0 sn cs0 L D)(hL:gw K lb db L D h)(aL:Option Addr)(cL:Nat)(cs:List bM)(x:bF 5 nK K aL (ba cs) cL cs)
  (hb:∀ c∈cs,c.ses<=18446744073709551615/\c.seq<=18446744073709551615) (hk:k0+ba cs<=498):
  aj w0 6 [SX lb,.slice aL (ba cs) cL] K (h::hs)
   (fun v K' hs'=>Le K K'/\∃ h' L' D',hs'=h'::hs/\gw K' lb db L' D' h'/\HM fl (k0+ba cs) sn cs0 (dr cs) v L' D'):=by
 have hmx:aC=18446744073709551615:=rfl;refine bH Tryz.func6 ?_
 refine loop (σ:=tx) (fun s=>[(0,SX lb),(5,.int .i64 ((ba (dr (cs.take s.i)):Nat):Int)),(11,.slice aL (ba cs) cL),(12,.int .i64 (ba cs)),(13,.int .i64 s.i)]) (fun s=>s.K) (fun s=>s.h::hs)
  (fun s=>s.i<=ba cs/\Le K s.K/\gw s.K lb db s.L s.D s.h/\∃ k,k<=k0+s.i/\jk fl k sn (cs0++dr (cs.take s.i)) s.L s.D) (fun s=>ba cs-s.i) ⟨0,L,D,h,K⟩
  ⟨aag _,Le.refl _,hL,k0,aac _,by rw[abj];show jk fl k0 sn (cs0++[]) L D;rw[aaw];exact hK⟩ sb I I ?_
 rintro ⟨i,L1,D1,h1,K1⟩ ⟨hi,le1,hL1,k,hk1,o⟩;dsimp only at *
 have hel:ba (dr (cs.take i))<=i:=by
  grind [dr]
 refine ac9 (aX 0 I (fun e2=>?_) (fun e2=>?_))
 ·refine au ?_;obtain ⟨c,hc⟩:∃ c,cs[i]?=some c:=⟨_,aae qo⟩;obtain ⟨q1,q2⟩:=hb c (aap hc)
  have htk:cs.take (i+1)=cs.take i++[c]:=by
   simp_all [mC]
  have x1:=x.le le1 fun _ _ h=>h;obtain ⟨ad,rfl⟩:=x1.addr qo SU;obtain ⟨vs1,xv1⟩:=x1.isS;refine au ?_;refine dz 0 i I I xv1 qo SU fun a15 e15=>?_;cases e15;obtain ⟨cc,hcc,hccl,hccc⟩:=x1.cells hc;obtain rfl:=hcc;refine eD 0 c.v.toList I qk (.inl I) hccc (al 0 (.agg #[.int .i64 0,.int .u64 0,.int .u64 0,.string ⟨#[]⟩,.int .i64 0]) I qk fun b7=>?_);refine bJ 0 0 I I qk I I ?_;refine WL.hs (pt b7 c.v 50::h1::hs) I (fin 0 I (ac6 (dy 0 0 I I qk (cl 0 I (ES c qo qo) ?_))));rintro v19 K1 hs19 ⟨rfl,h19,ao19,c19,rfl,rfl,o19⟩;refine au ?_
  by_cases hok:c.ok
  ·have hC:jI c:=⟨hok,q1,q2⟩;have hp:=hC.put;rw[hp] at o19 ⊢;have hbl:=hC.len;obtain ⟨hrA,hA⟩:=o.app qo c hC;have hcl:ba (cs0++dr (cs.take i))<=k:=o.len;refine af 1 I fun b23 h23=>fin 0 I (th (ah h23 I (fun e3=>absurd I e3) (fun e3=>WC.frz fun K2 le2 le3=>WC.drop ?_)));have xb:aH K2 ao19 (ba c.bytes) c19 1 (bv c.bytes):=o19.isS.le le3;refine sk (ac6 (cl 2 I (yT lb db L1 D1 (120000*k) o.rn.lb qo (hL1.le le2)) ?_));rintro v26 K2 hs26 ⟨rfl,rfl,rfl⟩;have hidx:L1.sn.idx+ba L1.l=sn.idx+ba (cs0++dr (cs.take i)):=by rw[o.esn,o.el,n4]
   have hsb:=o.sb;rw[hidx];refine ar 0 I (v':=.int .u64 ((sn.idx+ba (cs0++dr (cs.take i))+1:Nat):Int)) (by grind [cJ]) (bd 1 (.agg (aI.v (eH (sn.idx+ba (cs0++dr (cs.take i))+1) c) ao19 c19)) I (fun w=>by kernel_rfl) (lit 0 (aI.v (eH (sn.idx+ba (cs0++dr (cs.take i))+1) c) ao19 c19) I SU qk fun b30=>WL.frz fun K3 dm le5=>?_))
   have xE:bF 4 (iH K3) K3 (some ⟨b30,0,none⟩) 1 1 [eH (sn.idx+ba (cs0++dr (cs.take i))+1) c]:=⟨[(aI.v (eH (sn.idx+ba (cs0++dr (cs.take i))+1) c) ao19 c19).toList],rfl,(by
     have:=(aZ.ofPt (b:=b30) (c:=(aI.v (eH (sn.idx+ba (cs0++dr (cs.take i))+1) c) ao19 c19)) (e:=84) (n:=1) (size:=4) rfl (by simp[maxLen])).isS.le le5
     simp_all),⟨⟨ao19,c19,rfl,xb.le dm⟩,trivial⟩,by simp[aI.v]⟩
   refine cl 0 I (Ob lb db L1 D1 (120000*k) o.rn.lb o.rn.ok (hL1.le (le2.trans dm)) (some ⟨b30,0,none⟩) 1 [eH (sn.idx+ba (cs0++dr (cs.take i))+1) c] xE (fun e he=>by
    rw[aaK.1 he];exact ⟨by show sn.idx+_+1<=aC;omega,by show (1:Nat)<=aC;omega,by show ba c.bytes<_;omega⟩) (by show 120000*k+12*1<=_;omega)) ?_
   rintro v31 K4 hs31 ⟨h31,rfl,le6,hL31,rfl⟩;have leA:=le1.trans (le2.trans (dm.trans le6));refine au ?_;rcases hA with ⟨a1,oA⟩|⟨a1,a2,a3⟩
   ·rw[a1];obtain ⟨hrS,hS⟩:=oA.sync qo;refine aX 1 I (fun h5=>absurd I h5) (fun h5=>cl 2 I (OA lb db _ _ (120000*k+12) hrA.lb qo hrA.ok hL31) ?_);rintro v36 K5 hs36 ⟨h36,rfl,le7,hL36,rfl⟩;rcases hS with ⟨b1,oS⟩|⟨b1,b2,b3⟩
    ·rw[b1];refine aX 0 I (fun h6=>absurd I h6) (fun h6=>au ?_);refine ar 1 I (v':=.int .i64 ((ba (dr (cs.take (i+1))):Nat):Int)) (by rw[ac qo,htk,py,ue hok,aaf];rfl) (au ?_);exact ar 0 I (ac (x:=((i+1:Nat):Int)) qo) (fin 1 I (bc (x:=(⟨i,L1,D1,h1,K1⟩:tx)) (⟨i+1,_,_,h36,K5⟩:tx) ⟨I,I,I,I,I,trivial⟩ I I ⟨ax,leA.trans le7,hL36,k+1,ax,by simp_all [py,ue]⟩ ax))
    rw[b1];refine aX 0 I (fun h6=>au ?_) (fun h6=>absurd SU h6);obtain ⟨f1,f2⟩:=Fe hc hok;exact ay I I ⟨leA.trans le7,h36,_,_,I,hL36,_,I,.inr ⟨b2,c,f1,by rw[f2];exact b3,hrS.ok.up qo,by have:=hrS.ar;omega⟩⟩
   rw[a1];refine aX 1 I (fun h5=>au ?_) (fun h5=>absurd SU h5);obtain ⟨f1,f2⟩:=Fe hc hok;exact ay I I ⟨leA,h31,_,_,I,hL31,_,I,.inr ⟨a2,c,f1,by rw[f2];exact a3,hrA.ok.up qo,by have:=hrA.ar;omega⟩⟩
  rw[rS hok] at o19 ⊢;refine af 1 I fun b23 h23=>fin 0 I (th (ah h23 I (fun e3=>WC.drop (WC.drop (ex (xt (xb (ac8 (ar 0 I (ac (x:=((i+1:Nat):Int)) qo) (fin 1 I ?_)))))))) (fun e3=>absurd (show ¬(170:Int)=0 by decide) e3)));have he:dr (cs.take (i+1))=dr (cs.take i):=by rw[htk,py,Fd hok,aaw]
  exact bc (x:=(⟨i,L1,D1,h1,K1⟩:tx)) (⟨i+1,L1,D1,h1,K1⟩:tx) ⟨I,by rw[he];rfl,rfl,rfl,rfl,trivial⟩ rfl rfl ⟨ax,le1,hL1,k,ax,by dsimp only;rw[he];exact o⟩ ax
 refine au ?_;obtain rfl:i=ba cs:=qo
 rw[aav] at *;refine au ?_;exact ay I I ⟨le1,h1,L1,D1,I,hL1,_,I,.inl ⟨I,k,hk1,o⟩⟩
end
section
def DR(x:List az×List d9)(a:List bM)(c:bM):ff x (a++[c])=((dU (ff x a).1 (ff x a).2 c).1,(dU (ff x a).1 (ff x a).2 c).2.1):=by rw[ye];rfl
theorem J6{sn:bG}{l:List aI}(h:ba l<=1048576):mM sn l (sn.idx+1) 1048576=l:=by
 unfold mM i8;cases l with
 | nil=>simp
 | cons e r=>
  simp_all [aaa,aar]
theorem jI.word{c:bM}(h:jI c):ba c.word<=96:=by
 rcases h.1 with ⟨_,_,_,h,_⟩|⟨_,h,_⟩
 ·rw[h];decide
 exact h
def H6(sn:bG)(W:List az)(rows:List d9):Prop:=(sn.idx=0/\W=[]/\rows=[])\/(0<sn.idx/\sn.data=f9 (fw W rows)/\ba (fw W rows)<=2097152/\d7 W/\(∀ r∈rows,lx r)/\ba rows<=4096)
structure zU where
 b:Nat
 m:List PH
 K:PH
structure zC where
 i:Nat
 m:List PH
 K:PH
def NC{hv:PH}{hs:List PH}(W:List az)(rows:List d9)(d:List UInt8)(hd:d=f9 (fw W rows))(hW:d7 W)(hok:∀ r∈rows,lx r)(hl:ba rows<=4096)(hB:ba (fw W rows)<=2097152)(ao:Option Addr)(cap:Nat)(hm:In K hs hv)(x:aH hv ao (ba d) cap 1 (bv d))(hG:d8 K):
  aj w0 32 [.slice ao (ba d) cap] K hs
   (fun v K' hs'=>Le K K'/\∃ b m,hs'=m++hs/\lj K' b W rows m/\v=.tuple #[SX b,.int .i64 0]):=by
 subst hd;exact ND W rows hW hok hl hB ao cap hm x hG
def EP{h:PH}{hs:List PH}(lb db:Nat)(L:Lg)(D:Dk)(c:Nat)(hb:dL c L)(hc:c<=1000000000)(hL:gw K lb db L D h)(sn:bG)(hsn:L.sn=sn)(cs:List bM)(hl:L.l=eK sn.idx cs)(hok:∀ d∈cs,jI d)(hsi:sn.idx<=1000)(hcl:ba cs<=1000)(W0:List az)(rows0:List d9)(hS:H6 sn W0 rows0)(hG:d8 K):
  aj w0 7 [SX lb] K (h::hs)
   (fun v K' hs'=>Le K K'/\∃ b m,hs'=m++(h::hs)/\v=.tuple #[SX b,.bool true]/\lj K' b (ff (W0,rows0) cs).1 (ff (W0,rows0) cs).2 m):=by
 have hmx:aC=18446744073709551615:=rfl;refine bH Tryz.func7 ?_;refine cl 0 I (OZ hG) ?_;rintro v12 K1 hs12 ⟨le1,b0,m0,rfl,hM0,rfl⟩;obtain ⟨bD0,bt0,l00,over0,hd0,a0,g0,rfl,hrest0⟩:=id hM0;refine fin 1 I (ac6 (WL.hs (pt b0 #[SX bD0,SX bt0] 103::hd0::a0::g0::h::hs) I (cl 1 I (Ct.at 4 I (P2 lb db L D c hb (hL.le le1))) ?_)));rintro v14 K2 hs14 ⟨h14,rfl,rfl,le2,hSn⟩;rw[hsn] at hSn;obtain ⟨aV,cV,aD,cD,rfl,xV,xD⟩:=hSn;refine al 0 (.agg #[.int .u64 0,.int .u64 0,.slice none 0 0,.slice none 0 0]) I qk fun b5=>?_;refine bJ 0 0 I I qk I I ?_;refine WL.hs (pt b5 (eg sn aV cV aD cD) 42::pt b0 #[SX bD0,SX bt0] 103::hd0::a0::g0::h14::hs) I (fin 0 I (th (H1 (σ:=zU) (fun s=>[(0,SX lb),(4,.pointer (some ⟨s.b,0,none⟩)),(5,SX b5)]) (fun s=>s.K) (fun s=>s.m++(pt b5 (eg sn aV cV aD cD) 42::h14::hs)) (fun s=>Le K2 s.K/\lj s.K s.b W0 rows0 s.m) ?_ ?_)))
 ·refine au ?_;refine af 0 I fun b17 h17=>fin 0 I (th (ah h17 I (fun e2=>?_) (fun e2=>?_)))
  ·rcases hS with ⟨h0,_⟩|⟨h0,hd,hB,hW,hR,hRl⟩
   ·exact absurd e2 qo
   refine au ?_;refine cl 0 I (NC W0 rows0 sn.data hd hW hR hRl hB aD cD (.inl I) xD (hG.le' (le1.trans le2))) ?_;rintro v21 K3 hs21 ⟨le3,b3,m3,rfl,hM3,rfl⟩;obtain ⟨bD3,bt3,l03,over3,ph,a3,g3,rfl,hrest3⟩:=id hM3;refine au ?_;exact aX 1 I (fun h3=>absurd I h3) (fun h3=>fin 0 I (th (dt I (sk (ac8 (fin 2 I (WQ.dropM [pt b3 #[SX bD3,SX bt3] 103,ph,a3,g3,pt b5 (eg sn aV cV aD cD) 42] [pt b0 #[SX bD0,SX bt0] 103,hd0,a0,g0] (vU (⟨b3,_,K3⟩:zU) ⟨le3,hM3⟩ ⟨I,I,I,trivial⟩ I I))))))))
  rcases hS with ⟨h0,rfl,rfl⟩|⟨h0,_⟩
  ·refine sk ?_;exact WQ.perm (hs':=[pt b0 #[SX bD0,SX bt0] 103,hd0,a0,g0]++(pt b5 (eg sn aV cV aD cD) 42::h14::hs)) (aaI (l₁:=[_,_,_,_])).symm (vU (⟨b0,_,K2⟩:zU) ⟨Le.refl _,hM0.le le2⟩ ⟨I,I,I,trivial⟩ I I)
  exact absurd (show (0:Int)<((sn.idx:Nat):Int) by omega) e2
 rintro ⟨b,m,K3⟩ ⟨le3,hM⟩;dsimp only at *;obtain ⟨bD,bt,l0,over,hd,a,g,rfl,hrest⟩:=id hM;refine sq (ac9 (WL.hs (pt b #[SX bD,SX bt] 103::hd::a::g::pt b5 (eg sn aV cV aD cD) 42::h14::hs) I (au ?_)));refine ar 0 I (v':=.int .u64 (sn.idx+1:Nat)) (by grind [cJ]) (cl 0 I (Ct.at 5 I (Mf lb db L D c hb hc (hL.le (le1.trans (le2.trans le3))) (sn.idx+1) qo 1048576 SU)) ?_);rintro v31 K4 hs31 ⟨h31,rfl,rfl,dm,aE,cE,rfl,xE⟩
 have hpa:mM L.sn L.l (sn.idx+1) 1048576=eK sn.idx cs:=by
  grind [J6,n4]
 rw[hpa] at xE ⊢;rw[n4] at xE ⊢;have leK:=le1.trans (le2.trans (le3.trans dm));refine au ?_
 refine loop (σ:=zC) (fun s=>[(4,SX b),(31,.slice aE (ba cs) cE),(32,.int .i64 (ba cs)),(33,.int .i64 s.i)]) (fun s=>s.K) (fun s=>s.m++(pt b5 (eg sn aV cV aD cD) 42::h31::hs))
  (fun s=>s.i<=ba cs/\Le K4 s.K/\lj s.K b (ff (W0,rows0) (cs.take s.i)).1 (ff (W0,rows0) (cs.take s.i)).2 s.m) (fun s=>ba cs-s.i) ⟨0,_,K4⟩ ⟨aag _,Le.refl _,hM.le dm⟩ ⟨rfl,rfl,rfl,rfl,trivial⟩ rfl rfl ?_
 rintro ⟨i,m,K5⟩ ⟨hi,le5,hSt⟩;dsimp only at *;refine ac9 (af 0 I fun b34 h34=>au ?_);refine ah h34 I (fun e5=>?_) (fun e5=>?_)
 ·obtain ⟨d,ma⟩:∃ d,cs[i]?=some d:=⟨_,aae qo⟩;have hC:=hok d (aap ma);have hbl:=hC.len;have hwl:=hC.word
  have htk:cs.take (i+1)=cs.take i++[d]:=by
   simp_all [mC]
  have hEg:(eK sn.idx cs)[i]?=some (eH (sn.idx+i+1) d):=by rw[tV,ma];rfl
  have x1:=xE.le le5 fun _ _ h=>iH.le le5 h;obtain ⟨ad,rfl⟩:=x1.addr qo SU;obtain ⟨vs1,xv1⟩:=x1.isS;obtain ⟨cc,⟨aB,cB,rfl,xB⟩,hccl,hccc⟩:=x1.cells hEg;refine au ?_;refine dz 0 i I I xv1 qo SU fun a35 e35=>?_;cases e35;refine eD 0 (aI.v (eH (sn.idx+i+1) d) aB cB).toList I qk (.inl I) hccc (al 0 (.agg #[.int .u64 0,.int .u64 0,.int .i64 0,.slice none 0 0]) I qk fun b9=>?_);refine bJ 0 0 I I qk I I ?_;refine WL.hs (pt b9 (aI.v (eH (sn.idx+i+1) d) aB cB) 84::(m++(pt b5 (eg sn aV cV aD cD) 42::h31::hs))) I (au ?_);refine cl 0 I (E7 aB cB d.bytes (.inl I) xB qo) ?_;rintro v40 K5 hs40 ⟨rfl,rfl,rfl⟩;rw[hC.get];refine al 3 (.agg #[.int .i64 0,.int .u64 0,.int .u64 0,.string ⟨#[]⟩,.int .i64 0]) I qk fun b10=>?_;refine bJ 0 0 I I qk I I ?_;refine WL.hs (pt b10 d.v 50::pt b9 (aI.v (eH (sn.idx+i+1) d) aB cB) 84::(m++(pt b5 (eg sn aV cV aD cD) 42::h31::hs))) I (fin 1 I (ac8 (dy 1 0 I I qk (WL.drop (WL.drop (cl 0 I (SC b _ _ d hSt (hG.le' (leK.trans le5)) (by have:=hC.2.1;omega) (by have:=hC.2.2;omega) qo) ?_))))))
  rintro v45 K6 hs45 ⟨le6,rfl,m6,rfl,hM6⟩;refine au ?_;exact ar 0 I (ac (x:=((i+1:Nat):Int)) qo) (fin 1 I (bc (x:=(⟨i,m,K5⟩:zC)) (⟨i+1,m6,K6⟩:zC) sb I I ⟨ax,le5.trans le6,by dsimp only;rw[htk,DR];exact hM6⟩ ax))
 obtain rfl:i=ba cs:=qo
 rw[aav] at hSt;exact ex (xt (xt (xb (ac6 (fin 3 I (adb (WQ.dropM m [pt b5 (eg sn aV cV aD cD) 42] (bL I I I ⟨leK.trans le5,b,m,I,I,hSt⟩))))))))
end
section
def Kn{n:Nat}{W:List az}{rows:List d9}(h:lY n W rows)(hn:n<=100):ba (fw W rows)<=199000:=by
 have hf:=h.few;have hr:=h.rowsN;have hk:=h.words.pk;have hb:=hk.bas;have hl:=hk.len;have h1:=Mp h.words;have h2:=xm (dl W).2 0 qo fun j s hs=>⟨by rw[aaD];exact hk.fm j s hs,by have:=hk.arcs j s hs;omega⟩;have h3:=eY (n:=(dl W).1.toNat) qo;have h4:=eY (n:=ba (dl W).2) qo;have h5:=BX h.row
 grind [eY,qa,i5,fw]
def j6.imp{vot0:List Int}{M:Nat}{E:Dk}{A:List (Nat×Int)}{Q:bG->List aI->Prop}(h:j6 vot0 M E A P)(hq:∀ s l,P s l->Q s l):j6 vot0 M E A Q:=fun D' c hr=>by
 obtain ⟨L',E',S',k1,k2,k3,k4⟩:=h D' c hr
 grind
def DQ{cs:List bM}(hb:∀ c∈cs,c.ses<=18446744073709551615/\c.seq<=18446744073709551615/\ba c.word<1099511627776):∀ c∈dr cs,jI c:=fun c hc=>by
 unfold dr at hc;obtain ⟨h1,h2⟩:=abb.1 hc;exact ⟨of_decide_eq_true h2,(hb c h1).1,(hb c h1).2.1⟩
theorem xz(cs:List bM):ba (dr cs)<=ba cs:=act _ _
theorem Is{α:Type}{e:List α}{c:α}{n:Nat}(h:ba e<n):(e++[c]).take n=e.take n++[c]:=by
 grind [List.take_of_length_le]
theorem WC.hs{P:Program}{w0:World}{Q:Exit->Act->World->Prop}{n:Nat}{l:Sl}{K:PH}{hs:List PH}{c:Code}(hs':List PH)(e:hs=hs')(hk:WC P w0 c Q n l K hs'):WC P w0 c Q n l K hs:=by
 subst e;exact hk
structure z6 where
 sn:bG
 L:Lg
 D:Dk
 h:PH
 K:PH
structure tv where
 i:Nat
 K:PH
 aW:Option Addr
 cW:Nat
 aR:Option Addr
 cR:Nat
def Me{k1:Nat}{sn:bG}{e:List bM}{v:Value}{L:Lg}{D:Dk}(h:HM false k1 sn [] e v L D)(hk:k1<=500):∃ (n:Nat),v=.int .i64 (n:Nat)/\n<=ba e/\(∃ M A,j6 [0] M D A (fun s l=>s=sn/\∃ j,n<=j/\j<=n+1/\j<=ba e/\l=eK sn.idx (e.take j)))/\bf 60000000 D/\ba D.areas<=51500:=by
 obtain ⟨n,rfl,⟨rfl,k,hkk,o⟩|⟨_,c,hc,⟨M,A,_,hF⟩,hD,hA⟩⟩:=h
 ·refine ⟨_,I,aac _,⟨_,_,(o.fnd qo).imp fun s l ⟨h1,h2⟩=>⟨h1,ba e,aac _,aaN _,aac _,by rw[aav];exact h2⟩⟩,o.rn.ok.up qo,by have:=o.rn.ar;omega⟩
 have hn:=(aas.1 hc).1;refine ⟨n,I,qo,⟨M,A,hF.imp fun s l ⟨h1,h2⟩=>⟨h1,?_⟩⟩,hD,hA⟩;rcases h2 with h2|h2
 ·grind
 refine ⟨n+1,aaN _,aac _,hn,?_⟩
 simp_all [mC]
def LW{w0:World}{K:PH}{hs:List PH}(aL:Option Addr)(cL:Nat)(cs:List bM)(at':Int)(aP:Option Addr)(cP:Nat)(ps:List Int)(x:bF 5 nK K aL (ba cs) cL cs)(hb:∀ c∈cs,c.ses<=18446744073709551615/\c.seq<=18446744073709551615/\ba c.word<1099511627776)(hat : -9223372036854775808<=at'/\at'<=9223372036854775807)
  (xp:aH K aP (ba ps) cP 1 (iv ps)) (hps:∀ p∈ps,-9223372036854775808<=p/\p<=9223372036854775807) (hpl:ba ps<1099511627776) (hn:ba cs<1099511627776) (hG:d8 K):
  aj w0 3 [.slice aL (ba cs) cL,.int .i64 at',.slice aP (ba ps) cP] K hs (fun v K' hs'=>Le K K'/\v=.bool true):=by
 have hmx:aC=18446744073709551615:=rfl;refine bH Tryz.func3 ?_;refine cl 0 I (Rp 16777216 qo) ?_;rintro v25 K25 hs25 ⟨rfl,db,dh,rfl,hD,rfl⟩;refine au ?_;refine eE 1 (False) I ST fun b27 h27=>?_
 refine' eB 1 4 32 [27,28] h27 I I I I I I I (fun _=>?x2) (fun b32 h32=>?_)
 case x2=>
  exact af 2 I fun b31 h31=>fin 1 I<|dk h31 I I I
 refine fin 0 I<|th (ah h32 I (fun e4=>?_) (fun e4=>?_))
 ·refine ac9 (eE 1 (True) I ST fun b34 h34=>?_);obtain rfl:b34=true:=h34.2 trivial;refine au ?_;exact ay I I ⟨Le.refl _,I⟩
 have hlen:ba cs<=200:=by
  omega
 refine sk (ac6 (lit 0 #[.int .i64 0] I SU qk fun b35=>WL.frz fun K2 le2 le3=>?_));have xV:aH K2 (some ⟨b35,0,none⟩) 1 1 1 (iv [0]):=(aZ.ofPt (b:=b35) (c:=#[.int .i64 0]) (e:=3) (n:=1) (size:=1) rfl (by simp[maxLen])).isS.le le3;refine bd 0 (.agg #[.slice (some ⟨b35,0,none⟩) 1 1]) I (fun w=>by kernel_rfl) (al 0 (.agg #[.slice none 0 0]) I qk fun b8=>?_);refine bJ 0 0 I I qk I I ?_;refine WL.hs (pt b8 #[.slice (some ⟨b35,0,none⟩) 1 1] 27::dh::hs) I (fin 0 I (ac6 (dy 1 0 I I qk (WL.perm (aaq _ _ _) (cl 0 I (GJ db (gr 16777216) 0 (yf qo) qo (hD.le le2) [0] ST (some ⟨b35,0,none⟩) 1 xV) ?_)))));rintro v40 K40 hs40 ⟨h40,rfl,le40,hX⟩;rw[uW] at hX;dsimp only at hX;rcases hX with ⟨h0,_⟩|⟨L0,lb,h0,rfl,hL0⟩
 ·cases h0
 cases h0;refine au ?_;refine aX 1 I (fun h6=>absurd I h6) (fun h6=>au ?_);refine ar 2 I (NO (ba cs) qo) ?_;obtain ⟨hf,hhf⟩:∃ hf:Nat,hf=ba cs / 2:=⟨_,rfl⟩;rw[<-hhf];have hfl:hf<=100/\hf<=ba cs/\ba cs-hf<=100:=qo
 refine au ?_;have x40:bF 5 nK K40 aL (ba cs) cL cs:=x.le (le2.trans le40) fun _ _ h=>h;obtain ⟨css,hcn,hcS,hcal,hccl⟩:=id x40;refine sl 3 0 hf I hcS I ST qo (ys:=(css.take hf).flatten) (by rw[abr,abl];exact qg hf hccl) fun ao51 c51 x51=>?_;have hl1:ba (cs.take hf)=hf:=by rw[aam];omega
 have x51':bF 5 nK K40 ao51 (ba (cs.take hf)) c51 (cs.take hf):=⟨css.take hf,rfl,by rw[hl1];exact x51,hcal.take hf,fun d hd=>hccl d (aaR hd)⟩;have hF1:=GT (w0:=w0) (hs:=pt b8 #[.slice (some ⟨b35,0,none⟩) 1 1] 27::hs) true 0 ⟨0,0,[0],[]⟩ [] vT (gr 16777216) lb db jk.new hL0 ao51 c51 (cs.take hf) x51' (fun c hc=>⟨(hb c (aaR hc)).1,(hb c (aaR hc)).2.1⟩) qo;rw[hl1] at hF1;refine cl 0 I hF1 ?_;rintro v52 K52 hs52 ⟨le52,h52,L1,D1,rfl,hL1,n1,rfl,⟨rfl,k1,hk1,o1⟩|⟨hcon,_⟩⟩
 rotate_left
 ·cases hcon
 rw[aaL] at o1;obtain ⟨e1,he1⟩:=bC (dr (cs.take hf));obtain ⟨e2,he2⟩:=bC (dr (cs.drop hf));have hee:dr cs=e1++e2:=by grind [py,List.take_append_drop]
 have hok1:∀ c∈e1,jI c:=fun c hc=>DQ hb c (by rw[hee];exact List.mem_append_left _ hc);have hok2:∀ c∈e2,jI c:=fun c hc=>DQ hb c (by rw[hee];exact ab9 _ hc);have hel1:ba e1<=100:=by grind [xz]
 have hel2:ba e2<=100:=by grind [xz]
 rw[<-he1] at o1 ⊢
 have hSt1:lY (ba e1) (ff ([],[]) e1).1 (ff ([],[]) e1).2:=by
  have:=yJ e1 (x:=([],[])) lY.zero fun c hc=>by have:=(hok1 c hc).2.2;omega
  rwa [aaD] at this
 have leA:Le K25 K52:=le2.trans (le40.trans le52);refine au ?_;refine cl 1 I (EP lb db L1 D1 (120000*k1) o1.rn.lb qo hL1 ⟨0,0,[0],[]⟩ o1.esn e1 o1.el hok1 ST qo [] [] (.inl ⟨I,I,I⟩) (hG.le' leA)) ?_;rintro v55 K55 hs55 ⟨le55,bS,m55,rfl,rfl,hM55⟩;obtain ⟨bD5,bt5,l05,over5,pd,a5,g5,rfl,hrest5⟩:=id hM55;refine fin 5 I (ac5 (eE 1 False I ST fun b59 h59=>fin 0 I (th (ah h59 I (fun e7=>e7.elim) (fun e7=>?_)))));have fP:Le K25 K55:=leA.trans le55;obtain ⟨W1,hW1⟩:=bC ((ff ([],[]) e1).1);obtain ⟨R1,hR1⟩:=bC ((ff ([],[]) e1).2);rw[<-hW1,<-hR1] at hSt1 hM55
 refine sk (th (H1 (σ:=z6) (fun s=>[(0,.slice aL (ba cs) cL),(1,.int .i64 at'),(2,.slice aP (ba ps) cP),(7,SX db),(8,SX b8),(9,SX lb),(11,.int .i64 (hf:Nat)),(12,.int .i64 (ba e1))]) (fun s=>s.K) (fun s=>s.h::pt b8 #[.slice (some ⟨b35,0,none⟩) 1 1] 27::hs)
  (fun s=>Le K55 s.K/\gw s.K lb db s.L s.D s.h/\(∃ k,k<=101/\jk true k s.sn [] s.L s.D)/\H6 s.sn W1 R1/\s.sn.idx=ba e1) ?_ ?_))
 ·by_cases h8:(0:Int)<((ba e1:Nat):Int)
  ·refine sq (WC.hs (pt bS #[SX bD5,SX bt5] 103::pd::a5::g5::h52::pt b8 #[.slice (some ⟨b35,0,none⟩) 1 1] 27::hs) I (bI [pt b8 #[.slice (some ⟨b35,0,none⟩) 1 1] 27] 13 [0,2,4,6,8,12,14,11,17,18,21,22,24] ST qk qk (gD qk 1 ((0:Int)<((ba e1:Nat):Int)) I ST (fun h8=>?_) (fun h9=>absurd h8 h9))));have hLL:L1.sn.idx+ba L1.l=ba e1:=by rw[o1.esn,o1.el,n4];simp
   refine ja qk 3 0 I qk I qk (aG qk 1 I (cl 0 I (Ct.keep 4 I (yT lb db L1 D1 (120000*k1) o1.rn.lb qo (hL1.le le55))) ?_));rintro v65 K55 hs65 ⟨rfl,rfl,rfl⟩;rw[hLL];refine bp ST I (aG qk 0 I ?_);have hI:=Kn hSt1 hel1;have hsl:=vY (fw W1 R1);have hu1:=eY (n:=ba (fw W1 R1)) qo;refine cl 0 I (O9 bS W1 R1 hM55 hSt1.row qo (hG.le' fP)) ?_;rintro v68 K68 hs68 ⟨le68,g68,ao68,c68,rfl,rfl,o68⟩;refine WL.frz fun K3 dm le5=>fF ST (le68.trans dm) (me qk 0 (.agg (eg ⟨ba e1,1,[0],f9 (fw W1 R1)⟩ (some ⟨b35,0,none⟩) 1 ao68 c68)) I (fun w=>by kernel_rfl) (au ?_));have leC:Le K2 K3:=(le40.trans (le52.trans le55)).trans (le68.trans dm);refine cl 0 I (Ct.at 4 I (P6 lb db L1 D1 (120000*k1) o1.rn.lb qo o1.rn.ok (hL1.le (le55.trans (le68.trans dm))) ⟨ba e1,1,[0],f9 (fw W1 R1)⟩ (by show ba e1<_;omega) (by show (1:Nat)<=aC;omega) ST (by show ba (f9 (fw W1 R1))<_;omega) (some ⟨b35,0,none⟩) 1 ao68 c68 (xV.le leC) (o68.isS.le le5))) ?_
   rintro v70 K70 hs70 ⟨h70,rfl,le70,hL70,rfl⟩;obtain ⟨sv1,sv2⟩:=o1.save qo qo (f9 (fw W1 R1)) qo;rw[sv1];refine fF ST le70 (gE qk 0 False I ST fun b71 h71=>au ?_);exact ah h71 I (fun e9=>e9.elim) (fun e9=>sk (WQ.drop (WQ.drop (WQ.drop (WQ.drop (vU (⟨⟨ba e1,1,[0],f9 (fw W1 R1)⟩,_,_,h70,K70⟩:z6) ⟨(le68.trans dm).trans le70,hL70,⟨k1+1,qo,sv2⟩,.inr ⟨by show 0<ba e1;omega,rfl,qo,hSt1.words,hSt1.row,by have:=hSt1.rowsN;omega⟩,rfl⟩ sb rfl rfl))))))
  refine sq (WC.hs (pt bS #[SX bD5,SX bt5] 103::pd::a5::g5::h52::pt b8 #[.slice (some ⟨b35,0,none⟩) 1 1] 27::hs) I (bI [pt b8 #[.slice (some ⟨b35,0,none⟩) 1 1] 27] 13 [0,2,4,6,8,12,14,10,16,18,20,22,24] ST qk qk (gD qk 1 ((0:Int)<((ba e1:Nat):Int)) I ST (fun h9=>absurd h9 h8) (fun h9=>?_))));have hz:e1=[]:=aaX qo;refine be qk 11 I (th (dt I (sk (WQ.drop (WQ.drop (WQ.drop (WQ.drop ?_)))))));exact vU (⟨⟨0,0,[0],[]⟩,L1,D1,h52,K55⟩:z6) ⟨Le.refl _,hL1.le le55,⟨k1,qo,by rw[hz] at o1;exact o1⟩,.inl ⟨I,by rw[hW1,hz];rfl,by rw[hR1,hz];rfl⟩,by rw[hz];rfl⟩ sb rfl rfl
 rintro ⟨sn,L2,D2,h2,K4⟩ ⟨dm,hL2,⟨k2,hk2,o2⟩,hSn,hsi⟩;dsimp only at *;have leC:Le K25 K4:=fP.trans dm;refine ac9 (cl 2 I (RM hL2 at' hat) ?_);rintro v75 K75 hs75 ⟨h75,rfl,le75,hL75,rfl⟩;have o3:=o2.arm at' hat.2;have leD:Le K25 K75:=leC.trans le75;refine au ?_;have x75:bF 5 nK K75 aL (ba cs) cL cs:=x.le leD fun _ _ h=>h;obtain ⟨css,hcn,hcS,hcal,hccl⟩:=id x75
 refine sl 3 hf (ba cs-hf) I hcS I (by show ((ba cs:Nat):Int)=_;omega) qo (ys:=(css.drop hf).flatten) (by
  have h1:ba css=ba cs:=hcal.len;have h2:css.flatten.drop (hf*5)=(css.drop hf).flatten:=rW hf hccl
  have h3:ba (css.drop hf).flatten=(ba cs-hf)*5:=by
   rw[qp (fun d hd=>hccl d (abe hd)),aan,h1]
  grind) fun ao79 c79 x79=>?_
 have hl2:ba (cs.drop hf)=ba cs-hf:=by simp
 have x79':bF 5 nK K75 ao79 (ba (cs.drop hf)) c79 (cs.drop hf):=⟨css.drop hf,rfl,by rw[hl2];exact x79,hcal.drop hf,fun d hd=>hccl d (abe hd)⟩;have hF2:=GT (w0:=w0) (hs:=pt b8 #[.slice (some ⟨b35,0,none⟩) 1 1] 27::hs) false k2 sn [] L2 (D2.arm at') lb db o3 hL75 ao79 c79 (cs.drop hf) x79' (fun c hc=>⟨(hb c (abe hc)).1,(hb c (abe hc)).2.1⟩) qo;rw[hl2,<-he2] at hF2;refine cl 0 I hF2 ?_;rintro v80 K80 hs80 ⟨le80,h80,L3,D3,rfl,hL3,hQ⟩;obtain ⟨n2,rfl,hn2,⟨M,A,hFn⟩,hD3,hA3⟩:=Me hQ qo;refine WL.lgd hL3 fun dh3 hDk3=>?_;have leE:Le K25 K80:=leD.trans le80;refine au ?_;refine bI [pt b8 #[.slice (some ⟨b35,0,none⟩) 1 1] 27] 10 [0,2,6,5,9,10,12,14,16,18] ST qk qk (ja qk 2 0 I qk I qk (aG qk 0 I (cl 0 I (PC db D3 60000000 hD3 qo hDk3 ps hps aP cP (xp.le leE) hpl) ?_)))
 rintro v84 K84 hs84 ⟨db4,d4,rfl,le84,hDk4,rfl⟩;refine fF ST le84 (au ?_);obtain ⟨L4,hO4,⟨hs4,j,hj1,hj2,hj3,hl4⟩,rn4⟩:=hFn.opened hD3 hA3 ps;obtain ⟨gD4,_,_⟩:=hD3.crash hA3 ps;have leF:Le K25 K84:=leE.trans le84;refine cl 0 I (GJ db4 (D3.crash ps) (65536+51500) gD4 qo hDk4 [0] ST (some ⟨b35,0,none⟩) 1 (xV.le ((((le40.trans (le52.trans le55)).trans dm).trans le75).trans (le80.trans le84)))) ?_;rintro v86 K86 hs86 ⟨h86,rfl,le86,hX⟩;rw[hO4] at hX;dsimp only at hX;rcases hX with ⟨h0,_⟩|⟨L5,lb5,h0,rfl,hL5⟩
 ·cases h0
 cases h0;refine fF ST le86 (au ?_);refine aX 1 I (fun h10=>absurd I h10) (fun h10=>au ?_);have hjl:ba (e2.take j)=j:=by rw[aam];omega
 have hlast:L4.sn.idx+ba L4.l=ba e1+j:=by rw[hl4,n4,hjl,hs4,hsi]
 refine cl 1 I (yT lb5 db4 L4 _ _ rn4.lb qo hL5) ?_;rintro v92 K86 hs92 ⟨rfl,rfl,rfl⟩;rw[hlast];refine ar 0 I (ac (x:=((ba e1+j:Nat):Int)) qo) (au ?_);have leG:Le K25 K86:=leF.trans le86;refine cl 1 I (EP lb5 db4 L4 _ _ rn4.lb qo hL5 sn hs4 (e2.take j) hl4 (fun c hc=>hok2 c (aaR hc)) qo qo W1 R1 hSn (hG.le' leG)) ?_;rintro v96 K96 hs96 ⟨le96,bT,m96,rfl,rfl,hM96⟩
 have hdo:ff (W1,R1) (e2.take j)=ff ([],[]) ((dr cs).take (ba e1+j)):=by
  rw[hee,abO,aar (l:=e1) qo,abx,ye,hW1,hR1]
 rw[hdo] at hM96;have leH:Le K25 K96:=leG.trans le96;refine au ?_;refine eE 1 False I ST fun b100 h100=>?_
 refine' eB 1 6 107 [100,101] h100 I I I I I I I (fun _=>?x11) (fun b107 h107=>?_)
 case x11=>
  exact ar 3 I (v':=.int .i64 (ba e1+n2:Nat)) (by rw[ac qo];rfl) (af 0 rfl fun b106 h106=>fin 1 rfl (dk h106 rfl rfl rfl))
 refine' eB 1 7 115 [107,108] h107 I I I I I I I (fun _=>?x13) (fun b115 h115=>?_)
 case x13=>
  exact ar 3 I (v':=.int .i64 (ba e1+n2:Nat)) (by rw[ac qo];rfl) (ar 0 rfl (v':=.int .i64 (ba e1+n2+1:Nat)) (by rw[ac qo];rfl) (af 0 rfl fun b114 h114=>fin 1 rfl (dk h114 rfl rfl rfl)))
 refine fin 0 I<|th (ah h115 I (fun e15=>?_) (fun e15=>?_))
 ·exfalso
  grind
 refine sk (ac6 (al 0 (.agg #[.slice none 0 0,.slice none 0 0]) I qk fun b19=>au ?_));obtain ⟨rest,hrest⟩:=bC (h86::dh3::pt b8 #[.slice (some ⟨b35,0,none⟩) 1 1] 27::hs)
 have hall:∀ i,lY (ba ((dr (cs.take i)).take (ba e1+j))) (ff ([],[]) ((dr (cs.take i)).take (ba e1+j))).1 (ff ([],[]) ((dr (cs.take i)).take (ba e1+j))).2:=fun i=>by
  have:=yJ ((dr (cs.take i)).take (ba e1+j)) (x:=([],[])) lY.zero fun c hc=>by
   have h1:=aaR hc;have h2:c∈cs:=aaR (abb.1 (show c∈(cs.take i).filter _ from h1)).1;have:=(hb c h2).2.1;omega
  rwa [aaD] at this
 have h00:(dr (cs.take 0)).take (ba e1+j)=[]:=by simp[dr]
 refine loop (σ:=tv) (fun s=>[(16,.int .i64 (ba e1+j:Nat)),(17,SX bT),(19,SX b19),(20,.int .i64 (((ba ((dr (cs.take s.i)).take (ba e1+j)):Nat)):Int)),(116,.slice aL (ba cs) cL),(117,.int .i64 (ba cs)),(118,.int .i64 s.i)]) (fun s=>s.K)
  (fun s=>pt b19 #[.slice s.aW (ba (ff ([],[]) ((dr (cs.take s.i)).take (ba e1+j))).1) s.cW,.slice s.aR (ba (ff ([],[]) ((dr (cs.take s.i)).take (ba e1+j))).2) s.cR] 48::(m96++(h86::dh3::pt b8 #[.slice (some ⟨b35,0,none⟩) 1 1] 27::hs)))
  (fun s=>s.i<=ba cs/\Le K96 s.K/\bF 2 cC s.K s.aW (ba (ff ([],[]) ((dr (cs.take s.i)).take (ba e1+j))).1) s.cW (ff ([],[]) ((dr (cs.take s.i)).take (ba e1+j))).1/\bF 4 kX s.K s.aR (ba (ff ([],[]) ((dr (cs.take s.i)).take (ba e1+j))).2) s.cR (ff ([],[]) ((dr (cs.take s.i)).take (ba e1+j))).2) (fun s=>ba cs-s.i) ⟨0,K96,none,0,none,0⟩
  ⟨aag _,Le.refl _,by dsimp only;rw[h00];exact bF.nil _ _ _ _,by dsimp only;rw[h00];exact bF.nil _ _ _ _⟩ ⟨I,I,I,by dsimp only;rw[h00];rfl,rfl,rfl,rfl,trivial⟩ rfl (by dsimp only;rw[h00];rfl) ?_
 rintro ⟨i,K1,aW,cW,aR,cR⟩ ⟨hi,le1,xW,xR⟩;dsimp only at *;have hSi:=hall i;have hSf:=hSi.few;have hSr:=hSi.rowsN
 have htl:ba ((dr (cs.take i)).take (ba e1+j))<=200:=by
  have h1:=xz (cs.take i);rw[aam] at h1 ⊢;omega
 have leI:Le K25 K1:=leH.trans le1;refine ac9 (af 0 I fun b119 h119=>au ?_);refine ah h119 I (fun e17=>?_) (fun e17=>?_)
 ·obtain ⟨c,hc⟩:∃ c,cs[i]?=some c:=⟨_,aae qo⟩;obtain ⟨q1,q2,q3⟩:=hb c (aap hc)
  have htk:cs.take (i+1)=cs.take i++[c]:=by
   grind [mC]
  obtain ⟨E,hE⟩:=bC (dr (cs.take i));obtain ⟨T,hTt⟩:=bC (ff ([],[]) ((dr (cs.take i)).take (ba e1+j)));rw[<-hTt] at xW xR hSi hSf hSr ⊢;have x1:=x.le leI fun _ _ h=>h;obtain ⟨ad,rfl⟩:=x1.addr qo SU;obtain ⟨vs1,xv1⟩:=x1.isS;refine au ?_;refine dz 0 i I I xv1 qo SU fun a120 e120=>?_;cases e120;obtain ⟨cc,hcc,hccl2,hccc⟩:=x1.cells hc;obtain rfl:=hcc;refine eD 0 c.v.toList I qk (.inl I) hccc (al 0 (.agg #[.int .i64 0,.int .u64 0,.int .u64 0,.string ⟨#[]⟩,.int .i64 0]) I qk fun b22=>?_);refine bJ 0 0 I I qk I I ?_;refine WL.hs (pt b22 c.v 50::pt b19 #[.slice aW (ba T.1) cW,.slice aR (ba T.2) cR] 48::(m96++(h86::dh3::pt b8 #[.slice (some ⟨b35,0,none⟩) 1 1] 27::hs))) I (fin 0 I (ac6 (dy 0 0 I I qk (cl 0 I (ES c qo qo) ?_))));rintro v124 K1 hs124 ⟨rfl,h124,ao124,c124,rfl,rfl,o124⟩
  refine au ?_;refine af 1 I fun b128 h128=>?_
  refine' gu 1 4 133 [128,129] h128 I I I I I I I (fun _=>?x19) (fun b133 h133=>?_)
  case x19=>
   exact af 2 I fun b132 h132=>fin 1 I<|dk h132 I I I
  refine fin 0 I<|th (ah h133 I (fun e21=>?_) (fun e21=>?_))
  ·obtain ⟨e21a,e21b⟩:=e21
   have hok:c.ok:=by
    by_cases h:c.ok
    ·exact h
    rw[rS h] at e21a;exact absurd e21a SU
   have hlt:ba E<ba e1+j:=by
    grind
   have hnx:(dr (cs.take (i+1))).take (ba e1+j)=(dr (cs.take i)).take (ba e1+j)++[c]:=by
    grind [py,ue,Is]
   have hT2:ff ([],[]) ((dr (cs.take (i+1))).take (ba e1+j))=((dU T.1 T.2 c).1,(dU T.1 T.2 c).2.1):=by rw[hnx,DR,<-hTt]
   refine ac9 (dy 0 2 I I qk (dy 0 1 I I qk (cl 0 I (Pz aW aR cW cR T.1 T.2 c xW xR hSi.words qo q1 q2 q3) ?_)));rintro v137 K137 hs137 ⟨le137,rfl,aW2,cW2,aR2,cR2,rfl,xW2,xR2⟩;refine bJ 3 2 I I qk I I ?_;exact WL.hs (h124::pt b22 c.v 50::pt b19 #[.slice aW2 (ba (dU T.1 T.2 c).1) cW2,.slice aR2 (ba (dU T.1 T.2 c).2.1) cR2] 48::(m96++(h86::dh3::pt b8 #[.slice (some ⟨b35,0,none⟩) 1 1] 27::hs))) I (fin 0 I (ac8 (WL.drop (WL.drop (ar 1 I (v':=.int .i64 ((ba ((dr (cs.take (i+1))).take (ba e1+j)):Nat):Int)) (by rw[ac qo,hnx,aaf];rfl) (fin 1 rfl (ac7 (ar 0 rfl (ac (x:=((i+1:Nat):Int)) qo) (fin 1 rfl (bc (x:=(⟨i,K1,aW,cW,aR,cR⟩:tv)) (⟨i+1,K137,aW2,cW2,aR2,cR2⟩:tv) sb rfl (by dsimp only;rw[hT2]) ⟨ax,le1.trans le137,by dsimp only;rw[hT2];exact xW2,by dsimp only;rw[hT2];exact xR2⟩ ax))))))))))
  have hnx:(dr (cs.take (i+1))).take (ba e1+j)=(dr (cs.take i)).take (ba e1+j):=by
   by_cases hok:c.ok
   ·grind [dr,ec,lO]
   rw[htk,py,Fd hok,aaw]
  exact sk (ac7 (WL.drop (WL.drop (ar 0 I (ac (x:=((i+1:Nat):Int)) qo) (fin 1 I (bc (x:=(⟨i,K1,aW,cW,aR,cR⟩:tv)) (⟨i+1,K1,aW,cW,aR,cR⟩:tv) ⟨I,I,I,by dsimp only;rw[hnx];rfl,rfl,rfl,rfl,trivial⟩ rfl (by dsimp only;rw[hnx,<-hTt]) ⟨ax,le1,by dsimp only;rw[hnx,<-hTt];exact xW,by dsimp only;rw[hnx,<-hTt];exact xR⟩ ax))))))
 obtain rfl:i=ba cs:=qo
 rw[aav] at *;refine ex (xt (xt (xb (th (sq (bI [pt b19 #[.slice aW (ba (ff ([],[]) ((dr cs).take (ba e1+j))).1) cW,.slice aR (ba (ff ([],[]) ((dr cs).take (ba e1+j))).2) cR] 48] 6 [0,4,6,3,9,10] ST qk qk (dF qk 2 0 I I I (aG qk 0 I (WL.perm (aaI).symm (cl 0 I (KM bT _ _ (hM96.le le1) (hG.le' leI)) ?_))))))))));rintro v144 K144 hs144 ⟨le144,ao8,c8,rfl,rfl,x8⟩;refine fF ST le144 (aG qk 0 I (cl 0 I (OH ao8 aW c8 cW _ _ x8 (xW.le le144 fun _ _ h=>h) qo) ?_));rintro v147 K147 hs147 ⟨rfl,rfl,t,rfl,ht⟩;obtain rfl:t=true:=ht.2 rfl;exact fF ST (Le.refl _) (be qk 1 I (adb (ay I I ⟨leI.trans le144,I⟩)))
end
end Go.En
