/-
  Part 6.
-/
import Derived.Test.YtaifbolghjccjaaGreatSm5
set_option linter.defProp false
set_option linter.unusedSectionVars false
set_option linter.unusedSimpArgs false
set_option linter.unusedVariables false
set_option maxRecDepth 4000
namespace Go.En
open Go.Proofs Go.Proofs.YtaifbolghjccjaaGreat
open List renaming length -> eq
attribute [local irreducible] Code.wp wpList Calls
variable {Q : List af->Prop} {P : aX->List af->Prop}
section
structure gC (L:Lg) (m:aB):Prop where
 vote:m.kind=2->m.good=true->L.kt=m.term->L.kv=m.to
 asks:m.kind=1->L.kt=m.term->L.kv=m.frm
 has:m.kind=4->m.good=true->m.idx<=L.last
 ents:∀ e∈m.ents,L.sn.idx<e.idx->L.rl.ent e.idx=some e
def TL(R:Nd)(L:Lg):Prop:=∀ m∈R.out,gC L m
theorem TL.nil{R:Nd}{L:Lg}(h:R.out=[]):TL R L:=fun m hm=>by rw[h] at hm;cases hm
def TL.r{R R':Nd}{L:Lg}(h:TL R L)(h1:R'.out=R.out:=by rfl):TL R' L:=fun m hm=>h m (by rw[<-h1];exact hm)
theorem TL.did{R:Nd}{L:Lg}(h:TL R L)(e:Int):TL (R.did e) L:=by
 unfold Nd.did
 split
 ·exact h
 exact TL.nil I
theorem TL.say{R:Nd}{L:Lg}(h:TL R L){m:aB}(hm:gC L { m with frm:=R.nd,term:=L.kt }):TL (R.say L m) L:=fun x hx=>by
 rcases aaj.1 hx with hx|hx
 ·exact h x hx
 rw[aaz.1 hx];exact hm
theorem gC.free{L:Lg}{m:aB}(h1:m.kind≠1/\(m.kind=2->m.good=false)/\(m.kind=4->m.good=false))(he:m.ents=[]):gC L m:=
 ⟨fun h h'=>(by rw[h1.2.1 h] at h';cases h'),fun h=>absurd h h1.1,fun h h'=>(by rw[h1.2.2 h] at h';cases h'),fun e h=>(by rw[he] at h;cases h)⟩
def gC.grow{L L':Lg}{m:aB}(h:gC L m)(h1:L'.kt=L.kt)(h2:L'.kv=L.kv)(h3:L'.sn=L.sn)(h4:∃ x,L'.l=L.l++x):gC L' m:=by
 obtain ⟨x,h4⟩:=h4;refine ⟨fun a b c=>?_,fun a b=>?_,fun a b=>?_,fun e he hi=>?_⟩
 ·rw[h2];exact h.vote a b qo
 ·rw[h2];exact h.asks a qo
 ·have:=h.has a b
  grind [Lg.last]
 rw[h3] at hi;have g:=h.ents e he hi;unfold Rl.ent at g ⊢;show (if e.idx<=L'.sn.idx then none else L'.l[e.idx-L'.sn.idx-1]?)=some e;have g:(if e.idx<=L.sn.idx then none else L.l[e.idx-L.sn.idx-1]?)=some e:=g
 grind
def Gn{L:Lg}(hw:L.rl.wf)(i:Nat):∀ e∈gW L.sn L.l i 8,L.rl.ent e.idx=some e:=by
 intro e he;unfold gW at he
 split at he
 ·cases he
 have hm:e∈L.l:=aaM (aaW he);obtain ⟨j,hj⟩:=abJ.1 hm;have hi:e.idx=L.sn.idx+j+1:=hw.idx hj;unfold Rl.ent;show (if e.idx<=L.sn.idx then none else L.l[e.idx-L.sn.idx-1]?)=some e
 grind
theorem zp:∀ (x:List af) (L:Lg) (D:Dk),∃ y,(L.app1 x D).1.l=L.l++y
 | [],L,D=>⟨[],by simp[Lg.app1]⟩
 | e::r,L,D=>by
  unfold Lg.app1
  split
  ·simp
  obtain ⟨y,hy⟩:=zp r { L with w:=(L.w.append e.bytes D).1,l:=L.l++[e] } (L.w.append e.bytes D).2.1;exact ⟨[e]++y,by rw[hy];simp⟩
def E0(L:Lg)(x:List af)(D:Dk):∃ y,(L.append x D).1.l=L.l++y:=by
 unfold Lg.append
 split
 ·simp
 split
 all_goals simp[zp]
def Kk(L:Lg)(D:Dk):(L.sync D).1.l=L.l:=by
 unfold Lg.sync
 split <;> rfl
section
variable {c q z k u n:Nat} {R:Nd} {L:Lg} {D:Dk}
theorem TL.send(h:TL R L)(hw:L.rl.wf)(v:Int):TL (R.send L v) L:=by
 unfold Nd.send
 split
 ·exact h
 split
 ·exact TL.say (h.r) (gC.free ⟨(by show (5:Int)≠1;decide),fun h=>absurd h Nm,fun h=>absurd h (by show ¬(5:Int)=4;decide)⟩ rfl)
 exact TL.say (h.r) ⟨fun h=>absurd h (by show ¬(3:Int)=2;decide),fun h=>absurd h (by show ¬(3:Int)=1;decide),fun h=>absurd h Nm,fun e he _=>Gn hw _ e he⟩
theorem TL.tellL(a:Bool)(hw:L.rl.wf):∀ (l:List Int) {R:Nd},TL R L->TL (Nd.tellL a L l R) L
 | [],R,h=>h
 | v::r,R,h=>by
  unfold Nd.tellL;refine TL.tellL a hw r (TL.send ?_ hw v)
  split
  ·exact h.r
  exact h
theorem TL.tell(h:TL R L)(hw:L.rl.wf)(a:Bool):TL (R.tell L a) L:=by
 unfold Nd.tell;refine TL.tellL a hw _ ?_
 split
 ·exact h.r
 exact h
theorem TL.agr1(h:TL R L):TL (R.agr1 L) L:=by
 unfold Nd.agr1;dsimp only
 split
 ·exact h.r
 exact h
theorem TL.agree(h:TL R L)(hw:L.rl.wf):TL (R.agree L) L:=by
 unfold Nd.agree Nd.agr2
 split
 ·exact (h.agr1.tell hw true).r
 exact h.agr1
theorem TL.lay2(h:TL R L)(hw:L.rl.wf):TL (R.lay2 L) L:=by
 unfold Nd.lay2
 split
 ·exact (h.agree hw).tell hw false
 exact h.agree hw
def TL.app(h:TL R L)(e:af):TL R (L.append [e] D).1:=fun m hm=>by
 have hs:=qE L [e] D;exact (h m hm).grow hs.1 hs.2.1 hs.2.2 (E0 L [e] D)
def TL.syn(h:TL R L):TL R (L.sync D).1:=fun m hm=>by
 have hs:=qR L D;exact (h m hm).grow hs.1 hs.2.1 hs.2.2 ⟨[],by simp[Kk]⟩
theorem TL.lay(t:TL R L)(h:PI u (n+11) R L D)(o:NI c q z k R L D)(hc:c<=800000000)(kind:Int)(data:List UInt8):TL (R.lay L D kind data).1 (R.lay L D kind data).2.1:=by
 have h1:=o.last qo;have hkt:=o.rn.lb.kt;obtain ⟨a1,a2,a3⟩:=h.append o qo ⟨L.last+1,L.kt,kind,data⟩ ⟨by grind [cM,ac],hkt⟩;obtain ⟨b1,b2,b3⟩:=a1.sync;have ta:TL R (L.append [⟨L.last+1,L.kt,kind,data⟩] D).1:=t.app _;unfold Nd.lay;dsimp only
 split
 ·exact ta.did _
 split
 ·exact ta.syn.did _
 exact ta.syn.lay2 b1.ti.wf
theorem TL.elect(t:TL R L)(h:PI u (n+11) R L D)(o:NI c q z k R L D)(hc:c<=800000000)(h0:L.kt≠0)(l:List Int):TL (R.elect L D l).1 (R.elect L D l).2.1:=by
 unfold Nd.elect
 split
 ·exact t
 have ht:TI (R.up L) L:=⟨h.ti.out,fun _=>h0,h.ti.com,h.ti.wf⟩;exact TL.lay (R:=R.up L) t.r (h.t ht) (o.upR qo) hc 0 []
theorem TL.asks:∀ (l:List Int) {R:Nd},L.kv=R.nd->TL R L->TL (Nd.asks L l R) L
 | [],R,_,h=>h
 | v::r,R,hv,h=>by
  unfold Nd.asks;exact TL.asks r hv (h.say ⟨fun h=>absurd h (by show ¬(1:Int)=2;decide),fun _ _=>hv,fun h=>absurd h (by show ¬(1:Int)=4;decide),fun e he=>(by cases he)⟩)
theorem TL.stand(hout:R.out=[])(h:PI u (n+12) R L D)(o:NI c q z k R L D)(hc:c<=700000000)(hu:u<=1000000)(hkt:L.kt<cM)(l:List Int):TL (R.stand L D l).1 (R.stand L D l).2.1:=by
 have hkm:L.kt+1<=ac:=by unfold cM at hkt;unfold ac;omega
 have oa:=o.setHard (L.kt+1) R.nd hkm;obtain ⟨a1,a2,a3⟩:=h.setHard (n:=n+11) hu (L.kt+1) R.nd hkm;obtain ⟨s1,s2,s3⟩:=pc L D (L.kt+1) R.nd;unfold Nd.stand;dsimp only;generalize L.setHard D (L.kt+1) R.nd=A at oa a1 a2 a3 s3 ⊢;obtain ⟨L1,D1,c1⟩:=A;dsimp only at oa a1 a2 a3 s3 ⊢
 split
 ·exact TL.did (TL.nil hout) _
 rename_i hc0;have hc0:=Decidable.not_not.1 hc0;have hk1:L1.kt≠0:=qo
 have hkv:L1.kv=R.nd:=by
  omega
 have hcf:fS L1.cfg.1:=iV oa.rn.lb oa.cf L1.last;have ht:TI R.cand L1:=⟨a1.ti.out,fun _=>hk1,a1.ti.com,a1.ti.wf⟩
 obtain ⟨t1,t2,t3⟩:=TI.asks oa.rn.lb qo hk1 (R.cand.oth L1) ht o.rb.nd (fun v hv=>by
  obtain ⟨g1,g2⟩:=abL.1 hv;exact ⟨hcf.mem g1,fun e=>by simp[e] at g2⟩)
 have hol:=mj R.cand oa.rn.lb oa.cf;exact TL.elect (TL.asks (R.cand.oth L1) (R:=R.cand) hkv (TL.nil (R:=R.cand) hout)) (a1.t t1) (oa.r ((Rb.asks L1 (R.cand.oth L1) oa.rb.cand).up (j:=k+8) qo)) qo hk1 l
theorem TL.tick(hout:R.out=[])(h:PI u (n+12) R L D)(o:NI c q z k R L D)(hc:c<=700000000)(hu:u<=1000000)(d:Nat):TL (R.tick L D d).1 (R.tick L D d).2.1:=by
 unfold Nd.tick
 split
 ·exact TL.nil hout
 split
 ·unfold Nd.beat
  split
  ·exact TL.tell (R:={ R with el:=0 }) (TL.nil hout) h.ti.wf true
  exact TL.nil hout
 unfold Nd.idle
 split
 ·exact TL.nil hout
 exact TL.stand (R:=R.idle0 d) hout (h.t<|h.ti.r) (o.r<|o.rb.idle0 d) hc hu qo L.cfg.1
def FC{ht t:Nat}{hv c:Int}{nw:Bool}(h:(gz ht hv t c nw).2=true):(gz ht hv t c nw).1.2=c:=by
 unfold gz at h ⊢
 grind
theorem TL.asked(hout:R.out=[])(m:aB):TL (R.asked L D m).1 (R.asked L D m).2.1:=by
 unfold Nd.asked;dsimp only;have hgv:=FC (ht:=L.kt) (t:=m.term) (hv:=L.kv) (c:=m.frm) (nw:=gX m.lt m.idx (L.trm L.last).1 L.last);generalize gz L.kt L.kv m.term m.frm (gX m.lt m.idx (L.trm L.last).1 L.last)=gr at hgv ⊢
 split
 ·rename_i hg;obtain ⟨s1,s2,s3⟩:=pc L D gr.1.1 gr.1.2;generalize L.setHard D gr.1.1 gr.1.2=A at s3 ⊢;obtain ⟨L1,D1,c1⟩:=A;dsimp only at s3 ⊢
  split
  ·exact TL.did (TL.nil hout) _
  rename_i hc0;have hc0:=Decidable.not_not.1 hc0
  have hkv:L1.kv=m.frm:=by
   simp_all
  exact TL.say (R:={ R with el:=0,wt:=0 }) (TL.nil hout) ⟨fun _ _ _=>hkv,fun h=>absurd h Nm,fun h=>absurd h (by show ¬(2:Int)=4;decide),fun e he=>(by cases he)⟩
 exact TL.say (TL.nil hout) (gC.free ⟨(by show (2:Int)≠1;decide),fun _=>rfl,fun h=>absurd h Nm⟩ rfl)
theorem TL.stale(hout:R.out=[])(m:aB):TL (R.stale L m) L:=by
 unfold Nd.stale
 split
 ·exact TL.say (TL.nil hout)<|gC.free ⟨Nm,fun _=>I,fun _=>I⟩ I
 split
 ·exact TL.say (TL.nil hout)<|gC.free ⟨Nm,fun _=>I,fun _=>I⟩ I
 exact TL.nil hout
theorem TL.voted(hout:R.out=[])(h:PI u (n+11) R L D)(o:NI c q z k R L D)(hc:c<=800000000)(m:aB)(h0:L.kt≠0):TL (R.voted L D m).1 (R.voted L D m).2.1:=by
 unfold Nd.voted
 split
 ·exact TL.nil hout
 have ho:Rb z (k+1) { R with yes:=R.yes++[m.frm] }:={ o.rb.up (aau k) with yes:=by have:=o.rb.yes;simp;omega };exact TL.elect (R:={ R with yes:=R.yes++[m.frm] }) (TL.nil hout) (h.t (h.ti.r)) (o.r ho) hc h0 L.cfg.1
theorem TL.appE(hout:R.out=[])(m:aB)(i:Nat)(g:Bool)(hg:g=true->i<=L.last):TL (R.appE L D m i g).1 L:=by
 unfold Nd.appE;exact TL.say (R:={ R with com:=if g=true then max R.com (min m.com i) else R.com }) (TL.nil hout) ⟨fun h=>absurd h Nm,fun h=>absurd h (by show ¬(4:Int)=1;decide),fun _ h=>hg h,fun e he=>(by cases he)⟩
def TL.appc(hout:R.out=[])(h:PI u (n+100) R L D)(o:NI c q z k R L D)(hc:c<=700000000)(m:aB)(hb:m.bd)(ho:m.ok)(hk:m.kind=3):TL (R.app L D m).1 (R.app L D m).2.1:=by
 have hf:=gx ho;unfold Nd.app;dsimp only
 split
 ·exact TL.nil hout
 rename_i hcl;have hcl:=(not_or.1 hcl).2;unfold Nd.clashes at hcl
 have hn:∀ e∈m.ents,iK L R.com e.idx e.term=false:=fun e he=>by
  simp_all
 have of:=o.r (o.rb.foll (x:=m.frm) qo);have hff:TI (R.foll m.frm) L:=h.ti.r rfl rfl rfl (.inr rfl);obtain ⟨a1,a2,a3,a4,a5⟩:=(h.t hff).merge of qo m.idx m.lt m.ents (fun e he=>⟨(hb.ents e he).1,(hb.ents e he).2.1⟩) (lA ho hk).2 hn;have hfo:(R.foll m.frm).out=[]:=hout;generalize L.merge m.idx m.lt m.ents D=A at a1 a2 a3 a4 a5 ⊢;obtain ⟨L1,D1,i,gd,c1⟩:=A;dsimp only at a1 a2 a3 a4 a5 ⊢
 split
 ·exact TL.nil hfo
 split
 ·exact TL.did (TL.nil hfo) _
 split
 ·exact TL.appE (D:=D1) hfo m i false (fun h=>by cases h)
 rename_i hgd;have hgd:gd=true:=by simpa using hgd
 have hl:(L1.sync D1).1.last=L1.last:=by
  obtain ⟨_,_,_,g4,_⟩:=a1.sim.sync a1.liv;rw[Lg.last_rl,g4];rfl
 generalize L1.sync D1=B at hl ⊢;obtain ⟨L2,D2,c2⟩:=B;dsimp only at hl ⊢
 split
 ·exact TL.did (TL.nil hfo) _
 exact TL.appE (D:=D2) hfo m i true (fun _=>by rw[hl];exact a5 hgd)
theorem TL.appended(hout:R.out=[])(hw:L.rl.wf)(m:aB):TL (R.appended L m) L:=by
 unfold Nd.appended
 split
 ·exact TL.nil hout
 have h1:TL (R.appd1 L m) L:=by
  unfold Nd.appd1;dsimp only
  split
  ·exact TL.agree (TL.nil hout) hw
  exact TL.nil hout
 unfold Nd.appd2
 split
 ·exact h1.send hw _
 exact h1
theorem TL.chunked(hout:R.out=[])(hw:L.rl.wf)(m:aB):TL (R.chunked L m) L:=by
 unfold Nd.chunked
 split
 ·exact TL.nil hout
 exact TL.send (R:=R.setP m.frm { R.p m.frm with ws:=false,of:=m.off }) (TL.nil hout) hw _
theorem TL.inst(hout:R.out=[])(h:PI u (n+(4*z+3)) R L D)(o:NI c q z k R L D)(hu:u<=1000000)(m:aB)(hi:R.ps.idx=m.idx):TL (R.inst L D m).1 (R.inst L D m).2.1:=by
 have hp:=o.rb.ps;obtain ⟨h1,h2,h3,h4⟩:=h.sim.install R.ps (n:=n) (h.liv.mono qo) hp.1 hp.2.1 hu qo;have z1:=xy (r:=L.rl) (s:=R.ps);rw[<-h4,<-h1] at z1;unfold Nd.inst;dsimp only;generalize L.install R.ps D=A at z1 ⊢;obtain ⟨L1,D1,c1⟩:=A;dsimp only at z1 ⊢
 split
 ·exact TL.nil hout
 split
 ·simp_all [TL.did,TL.nil]
 rename_i hc1;obtain ⟨s1,s2⟩:=z1 (Decidable.not_not.1 hc1);have e2:m.idx<=L1.last:=by rw[<-hi];exact s2
 exact TL.say (TL.nil hout) ⟨fun h=>absurd h (by show ¬(4:Int)=2;decide),fun h=>absurd h Nm,fun _ _=>e2,fun e he=>(by cases he)⟩
theorem TL.chunk(hout:R.out=[])(h:PI u (n+(4*z+7)) R L D)(o:NI c q z k R L D)(hu:u<=1000000)(m:aB)(hb:m.bd)(ho:m.ok)(hk:m.kind=5):TL (R.chunk L D m).1 (R.chunk L D m).2.1:=by
 have hf:=gx ho;unfold Nd.chunk;dsimp only;have of:=o.rb.foll (x:=m.frm) qo;have hff:TI (R.foll m.frm) L:=h.ti.r rfl rfl rfl (.inr rfl)
 split
 ·exact TL.nil hout
 split
 ·rename_i hci;have hco:=h.ti.com.2;exact TL.say (TL.nil hout) ⟨fun h=>absurd h (by show ¬(4:Int)=2;decide),fun h=>absurd h Nm,fun _ _=>aas hci hco,fun e he=>(by cases he)⟩
 obtain ⟨p1,p2,p3,p4,p5⟩:=tL (R.foll m.frm) m;have hpo:((R.foll m.frm).piece m).out=[]:=by rw[p3];exact hout
 have hpp:TI ((R.foll m.frm).piece m) L:=hff.r p3 p1 p2 (.inl p4)
 split
 ·exact TL.say (TL.nil hpo) (gC.free ⟨Nm,fun h=>absurd h (by show ¬(6:Int)=2;decide),fun h=>absurd h (by show ¬(6:Int)=4;decide)⟩ rfl)
 exact TL.inst hpo ((h.t hpp).up (n':=n+(4*(z+1)+3)) (aac _) qo) (o.r<|of.piece m hb ho hk) hu m p5
theorem TL.take3(hout:R.out=[])(h:PI u (n+(4*z+100)) R L D)(o:NI c q z k R L D)(hc:c<=499900000)(hu:u<=1000000)(m:aB)(hb:m.bd)(ho:m.ok)(h0:L.kt≠0):TL (R.take3 L D m).1 (R.take3 L D m).2.1:=by
 unfold Nd.take3
 split
 ·exact TL.asked hout m
 split
 ·exact TL.voted hout (h.up (n':=n+11) (aac _) qo) o qo m h0
 split
 ·rename_i h3;exact TL.appc hout (h.up (n':=n+100) (aac _) qo) o qo m hb ho h3
 split
 ·exact TL.appended hout h.ti.wf m
 split
 ·rename_i h5;exact TL.chunk hout (h.up (n':=n+(4*z+7)) (aac _) qo) o hu m hb ho h5
 split
 ·exact TL.chunked hout h.ti.wf m
 exact TL.nil hout
theorem TL.take(hout:R.out=[])(h:PI u (n+(4*z+101)) R L D)(o:NI c q z k R L D)(hc:c<=499800000)(hu:u<=900000)(m:aB)(hb:m.bd):TL (R.take L D m).1 (R.take L D m).2.1:=by
 unfold Nd.take
 split
 ·exact TL.nil hout
 split
 ·exact TL.nil hout
 rename_i hq
 split
 ·exact TL.nil hout
 have ho:m.ok:=by
  simp_all [enc]
 have ht0:m.term≠0:=ho.1.2.2.2.2;unfold Nd.take1;dsimp only
 split
 ·obtain ⟨a1,a2,a3⟩:=(h.up (n':=n+(4*z+100)+1) (aac _) qo).raise qo m.term hb.term;have oa:=o.raise m.term hb.term
  have hro:(R.raise L D m.term).1.out=[]:=by
   grind [Nd.raise,Nd.did]
  split
  ·exact TL.nil hro
  rename_i hz;have hk:=a3 (Decidable.not_not.1 hz)
  grind [TL.take3,Nd.take2]
 rename_i hlt;unfold Nd.take2
 split
 ·exact TL.stale hout m
 exact TL.take3 hout (h.up (n':=n+(4*z+100)) (aac _) qo) o qo qo m hb ho qo
theorem TL.call(hout:R.out=[])(h:PI u (n+(4*z+101)) R L D)(o:NI c q z k R L D)(hc:c<=499800000)(hu:u<=900000)(x:Cl)(hb:x.m.bd):TL (R.call L D x).1 (R.call L D x).2.1:=by
 unfold Nd.call
 split
 ·exact TL.tick hout (h.up (n':=n+12) (aac _) qo) o qo qo x.draw
 split
 ·exact TL.take hout h o hc hu x.m hb
 split
 ·unfold Nd.propose
  split
  ·exact TL.nil hout
  split
  ·exact TL.nil hout
  exact TL.lay (TL.nil hout) (h.up (n':=n+11) (aac _) qo) o qo 1<|ob (iH lK)
 split
 ·unfold Nd.change;dsimp only
  split
  ·exact TL.nil hout
  split
  ·exact TL.nil hout
  generalize (if x.m.good=true then iz L.cfg.1 x.n else iW L.cfg.1 x.n)=r
  split
  ·exact TL.nil hout
  have hlt:=o.last qo;obtain ⟨R1,hR1⟩:=be (if x.m.good=true then R.setP x.n (Pr.new (L.last+1)) else R);rw[<-hR1]
  have h1:TI R1 L/\R1.out=[]/\Rb z k R1:=by
   rw[hR1]
   split
   ·exact ⟨h.ti.r,hout,o.rb.setP x.n (p:=Pr.new (L.last+1)) ⟨by unfold cM;exact (by decide:0+1<=4611686018427387904),hlt,by show 0<=ac;omega,aaC 0,by show (0:Int)<=2097152;omega⟩⟩
   exact ⟨h.ti,hout,o.rb⟩
  exact TL.lay (TL.nil h1.2.1) ((h.t h1.1).up (n':=n+11) (aac _) qo) (o.r h1.2.2) qo 2<|ob (bU r.1)
 split
 ·unfold Nd.read
  split
  ·exact TL.nil hout
  split
  ·exact TL.nil hout
  exact TL.tell (TL.nil hout) h.ti.wf true
 grind [TL.nil,TL.did,Nd.save]
end
end
section
abbrev SF:=Int->Option ef
def js(s s':Option ef):Prop:=
 match s with
 | none=>s'=none
 | some s=>(s.syn=false/\s'=none)\/∃ v∈s.vs,s'=some ⟨[v],true⟩
def Pk(f f':SF):Prop:=∀ n,js (f n) (f' n)
def fC(f:SF)(n:Int):Option (List UInt8):=(f n).map fun s=>s.vs.getLastD []
def Cb(D:Dk)(a n:Int):D.read a n=fC (D.sec a) n:=rfl
def Fx(f:SF):Prop:=∀ n s,f n=some s->s.syn=true/\∃ v,s.vs=[v]
def Pk.fx{f f':SF}(h:Pk f f'):Fx f':=by
 intro n s hs;have:=h n;unfold js at this
 grind
def Fx.pk{f f':SF}(h:Fx f)(p:Pk f f'):f'=f:=by
 funext n
 have:=p n;unfold js at this;cases hf:f n with
 | none=>rw[hf] at this;exact this
 | some t=>
  rw[hf] at this;obtain ⟨h1,v,h2⟩:=h n t hf;rcases this with ⟨h3,_⟩|⟨u,hu,h3⟩
  ·rw[h1] at h3;cases h3
  rw[h2] at hu;simp only[aaz] at hu;rw[h3,hu];obtain ⟨vs,sy⟩:=t;cases h1;cases h2
  rfl
def iC(f:SF):Nat->Nat->List UInt8
 | 0,_=>[]
 | k+1,n=>match fC f n with
  | none=>[]
  | some s=>(s.drop 1).take (gK s)++(if gK s<63 then [] else iC f k (n+1))
def j6(f:SF):List UInt8:=iC f 65537 0
theorem CI(D:Dk)(num:Nat):∀ (k n:Nat),km D num k n=iC (D.sec (aK num)) k n
 | 0,_=>rfl
 | k+1,n=>by
  rw[qP,iC,Cb];cases fC (D.sec (aK num)) n with
  | none=>rfl
  | some s=>dsimp only;rw[CI D num k (n+1)]
theorem rc(D:Dk)(num:Nat):fw D num=j6 (D.sec (aK num)):=CI D num 65537 0
def yz{f:SF}{n:Nat}{s:List UInt8}(h:fC f n=some s)(k:Nat):iC f (k+1) n=(s.drop 1).take (gK s)++(if gK s<63 then [] else iC f k (n+1)):=by
 rw[iC,h]
def py{f:SF}{n:Nat}(h:f n=none)(k:Nat):iC f (k+1) n=[]:=by
 simp_all [fC,iC]
def kf(c:List UInt8):List UInt8:=eE (UInt8.ofNat (eq c)::c)
def zi{c:List UInt8}(h:eq c<=63):gK (kf c)=eq c/\((kf c).drop 1).take (eq c)=c/\eq (kf c)=64:=by
 refine ⟨?_,?_,?_⟩
 ·unfold gK kf eE
  simp
  omega
 all_goals simp_all [kf,eE]
structure fO (f:SF) (T:List UInt8) (t0:Nat):Prop where
 le:t0<=eq T
 has:∀ n:Nat,63*n<eq T->∃ s,f n=some s/\s.vs.getLast?=some (kf ((T.drop (63*n)).take 63))/\(s.syn=false->t0<=63*n) /\
  ∀ v∈s.vs,∃ k,k<=63/\63*n+k<=eq T/\(63*(n+1)<=63*n+k\/t0<=63*n+k)/\v=kf ((T.drop (63*n)).take k)
 no:∀ n:Nat,eq T<=63*n->f n=none
 neg:∀ n:Int,n<0->f n=none
theorem Fd(T:List UInt8)(n m:Nat):(T.drop (63*n)).take 63++(T.drop (63*(n+1))).take m=(T.drop (63*n)).take (63+m):=by
 rw[List.take_add,aaR,show 63*n+63=63*(n+1) by omega]
theorem fO.read{f:SF}{T:List UInt8}{t0:Nat}(o:fO f T t0):∀ (k n:Nat),eq T<63*(n+k)->iC f k n=T.drop (63*n)
 | 0,n,h=>by rw[aa6 qo];rfl
 | k+1,n,h=>by
  rcases aaL (63*n) (eq T) with hlt|hge
  ·obtain ⟨s,h1,h2,_,_⟩:=o.has n hlt;have hr:fC f n=some (kf ((T.drop (63*n)).take 63)):=by simp_all [fC]
   have hc:eq ((T.drop (63*n)).take 63)<=63:=by rw[aam];omega
   obtain ⟨g1,g2,_⟩:=zi hc;rw[yz hr,g1,g2,fO.read o k (n+1) qo];rw[aam,aak]
   split
   ·rw[aar,aav (by rw[aak];omega)]
   grind [List.drop_drop,List.take_append_drop]
  rw[py (o.no n hge),aa6 hge]
def fO.text{f:SF}{T:List UInt8}{t0:Nat}(o:fO f T t0)(h:eq T<=63*65536):j6 f=T:=by
 unfold j6;rw[o.read 65537 0 qo,Nat.mul_zero,abs]
theorem fO.pick{f f':SF}{T:List UInt8}{t0:Nat}(o:fO f T t0)(p:Pk f f'):∀ (k n:Nat),eq T<63*(n+k)->∃ m,iC f' k n=(T.drop (63*n)).take m/\(63*n+m<=eq T\/m=0)/\t0<=63*n+m
 | 0,n,h=>⟨0,by rfl,.inr rfl,by have:=o.le;omega⟩
 | k+1,n,h=>by
  rcases aaL (63*n) (eq T) with hlt|hge
  ·obtain ⟨s,h1,_,h3,h4⟩:=o.has n hlt;have hp:=p n;unfold js at hp;rw[h1] at hp;rcases hp with ⟨hp1,hp2⟩|⟨v,hv,hp2⟩
   ·exact ⟨0,by rw[abI,py hp2],.inr I,by have:=h3 hp1;omega⟩
   obtain ⟨j,hj1,hj2,hj3,rfl⟩:=h4 v hv;have hr:fC f' n=some (kf ((T.drop (63*n)).take j)):=by unfold fC;rw[hp2];rfl
   have hc:eq ((T.drop (63*n)).take j)=j:=by grind
   obtain ⟨g1,g2,_⟩:=zi (c:=(T.drop (63*n)).take j) qo;rw[hc] at g1 g2;rw[yz hr,g1,g2]
   by_cases hlt63:j<63
   ·grind
   rw[aaa hlt63];obtain rfl:j=63:=qo
   obtain ⟨m,hm1,hm2,hm3⟩:=fO.pick o p k (n+1) qo
   grind [Fd]
  have hp:=p n;unfold js at hp;rw[o.no n hge] at hp;exact ⟨0,by rw[abI,py hp],.inr I,by have:=o.le;omega⟩
def fO.crash{f f':SF}{T:List UInt8}{t0:Nat}(o:fO f T t0)(h:eq T<=63*65536)(p:Pk f f'):∃ m,m<=eq T/\t0<=m/\j6 f'=T.take m:=by
 obtain ⟨m,h1,h2,h3⟩:=o.pick p 65537 0 qo;rw[Nat.mul_zero,abs] at h1;exact ⟨m,qo,qo,h1⟩
structure wI (f:SF) (T:List UInt8):Prop where
 fx:Fx f
 text:j6 f=T
def fN(f:SF):SF:=fun n=>(f n).map iP
def uE(f:SF):Fx (fN f):=by
 intro n s h;unfold fN at h;cases hf:f n with
 | none=>rw[hf] at h;cases h
 | some t=>rw[hf] at h;cases h;exact ⟨I,_,I⟩
theorem ro(f:SF)(n:Int):fC (fN f) n=fC f n:=by
 unfold fC fN;cases f n with
 | none=>rfl
 | some t=>simp[iP]
theorem yc{f g:SF}(h:∀ n,fC f n=fC g n):∀ (k n:Nat),iC f k n=iC g k n
 | 0,_=>rfl
 | k+1,n=>by rw[iC,iC,h,yc h k (n+1)]
def FW(f:SF):j6 (fN f)=j6 f:=yc (ro f) _ _
def fO.syn{f:SF}{T:List UInt8}{t0:Nat}(o:fO f T t0):fO (fN f) T (eq T):=by
 refine ⟨aac _,fun n hn=>?_,fun n hn=>by unfold fN;rw[o.no n hn];rfl,fun n hn=>by unfold fN;rw[o.neg n hn];rfl⟩;obtain ⟨s,h1,h2,h3,h4⟩:=o.has n hn;refine ⟨iP s,by unfold fN;rw[h1];rfl,?_,fun h=>(by cases h),fun v hv=>?_⟩
 ·show [s.vs.getLastD []].getLast?=_;rw[abw,h2]
  rfl
 have hv:v∈[s.vs.getLastD []]:=hv;rw[abw,h2] at hv;simp only[aa0,aaz] at hv;refine ⟨min 63 (eq T-63*n),qo,qo,qo,?_⟩
 grind [List.length_drop]
def fO.closed{f:SF}{T:List UInt8}{t0:Nat}(o:fO f T t0)(h:eq T<=63*65536):wI (fN f) T:=⟨uE f,by rw[FW,o.text h]⟩
def iO(f:SF)(n:Int)(s:ef):SF:=fun k=>if k=n then some s else f k
def fO.write{f:SF}{T c:List UInt8}{t0 n:Nat}(o:fO f T t0)(hn:63*n<=eq T)(hn2:eq T<=63*(n+1))(hc:eq c<=63)(hc0:0<eq c)(hp:T.drop (63*n) <+: c):
  fO (iO f n (fI (f n) (UInt8.ofNat (eq c)::c))) (T.take (63*n)++c) t0:=by
 have hl:eq (T.take (63*n))=63*n:=by rw[aam];omega
 have hlen:eq (T.take (63*n)++c)=63*n+eq c:=by rw[aah,hl]
 have hpl:=hp.length_le;rw[aak] at hpl;have hle:=o.le;refine ⟨qo,fun j hj=>?_,fun j hj=>?_,fun j hj=>?_⟩
 ·by_cases e:j=n
  ·subst e;unfold iO;rw[aab rfl];have hd:(T.take (63*j)++c).drop (63*j)=c:=by simp_all
   refine ⟨_,I,?_,?_,?_⟩
   ·simp_all [aav,fI,kf]
   ·intro hs;unfold fI at hs;cases hf:f j with
    | none=>
     have:¬63*j<eq T:=fun h=>by obtain ⟨s,h1,_⟩:=o.has j h;rw[hf] at h1;cases h1
     omega
    | some s=>
     rw[hf] at hs;rcases aaL (63*j) (eq T) with h|h
     ·obtain ⟨s',h1,_,h3,_⟩:=o.has j h
      simp_all
     omega
   intro v hv;unfold fI at hv;rw[hd];rcases aaj.1 hv with hv|hv
   ·cases hf:f j with
    | none=>rw[hf] at hv;simp at hv
    | some s=>
     rw[hf] at hv
     have h:63*j<eq T:=by
      rcases aaL (63*j) (eq T) with h|h
      ·exact h
      have:=o.no j h;rw[hf] at this;cases this
     obtain ⟨s',h1,_,_,h4⟩:=o.has j h;rw[hf] at h1;cases h1;obtain ⟨k,hk1,hk2,hk3,hk4⟩:=h4 v hv;refine ⟨k,hk1,qo,hk3,?_⟩;rw[hk4]
     congr 1
     obtain ⟨r,hr⟩:=hp
     grind
   simp only[aaz] at hv;exact ⟨eq c,hc,qo,qo,by rw[hv,aaE];rfl⟩
  have hjn:j<n:=qo
  obtain ⟨s,h1,h2,h3,h4⟩:=o.has j qo
  have hd:∀ k,k<=63->((T.take (63*n)++c).drop (63*j)).take k=(T.drop (63*j)).take k:=by
   intro k hk;rw[ab1 qo,abu (by rw[aak];omega),abE,abF,Nat.min_eq_left qo]
  grind [iO]
 ·unfold iO;rw[aaa qo];exact o.no j qo
 unfold iO;rw[aaa qo];exact o.neg j hj
end
section
abbrev bX:=List UInt8
def iQ(rs:List bX):List UInt8:=(rs.map cm).flatten
def qK(r:bX)(rs:List bX):iQ (r::rs)=cm r++iQ rs:=rfl
def dM(i:Nat)(rs:List bX):List UInt8:=aI i++iQ rs
def xQ{i m:Nat}{P more:List UInt8}(h:P++more=aI i)(hm:more≠[])(hi:i<18446744073709551616):(aG m (P,0)).2.2≠0:=by
 intro hc;obtain ⟨h1,h2⟩:=nt hc;have h3:=(nu m P 0).1;have e1:=iU (m:=18446744073709551615) (n:=i) [] hi qo;have e2:=iU (m:=18446744073709551615) (n:=(aG m (P,0)).1) ((aG m (P,0)).2.1++more) h3 qo;rw[<-aaD,<-h1,h] at e2;rw[aar,e2] at e1;have:=congrArg (fun x=>x.2.1) e1;simp at this;exact hm this.2
def xw{r P more:List UInt8}(h:P++more=cm r)(hm:more≠[])(hr:eq r<=512):(bR 512 (P,0)).2.2≠0:=by
 intro hc;obtain ⟨_,h1,h2⟩:=qB hc;have e1:=qA (most:=512) (x:=r) [] qo qo;have e2:=qA (most:=512) (x:=(bR 512 (P,0)).1) ((bR 512 (P,0)).2.1++more) qo (by have:((512:Int)).toNat=512:=rfl;omega);rw[<-aaD,<-h1,h] at e2;rw[aar,e2] at e1;have:=congrArg (fun x=>x.2.1) e1;simp at this;exact hm this.2
theorem xx(r:List UInt8):0<eq (cm r):=by
 grind [m9,pG]
def Fr:(bR 512 ([],0)).2.2≠0:=xw (r:=[]) (P:=[]) (more:=cm []) rfl (by grind [xx]) Nm
theorem yd:∀ (rs:List bX) (m f:Nat),(∀ r∈rs,eq r<=512)->eq ((iQ rs).take m)<f ->
  ∃ j,j<=eq rs/\iX f ((iQ rs).take m,0)=rs.take j/\eq (iQ (rs.take j))<=m/\∀ k,k<=eq rs->eq (iQ (rs.take k))<=m->k<=j
 | [],m,f,_,hf=>by
  cases f with
  | zero=>omega
  | succ f=>
   refine ⟨0,aac _,?_,aad _,fun k hk _=>hk⟩;rw[pn,aaa]
   ·rfl
   show ¬(bR 512 (([]:List UInt8).take m,0)).2.2=0;simp[Fr]
 | r::rs,m,f,hr,hf=>by
  cases f with
  | zero=>omega
  | succ f=>
   rw[qK] at hf ⊢;have hr512:=hr r Nm
   by_cases hm:eq (cm r)<=m
   ·have ht:(cm r++iQ rs).take m=cm r++(iQ rs).take (m-eq (cm r)):=by
     rw[acm,aav hm]
    rw[ht] at hf ⊢;have hp:=xx r;rw[aah] at hf;have e:=qA (most:=512) (x:=r) ((iQ rs).take (m-eq (cm r))) qo qo;obtain ⟨j,h1,h2,h3,h4⟩:=yd rs (m-eq (cm r)) f (fun x hx=>hr x (by simp[hx])) qo;refine ⟨j+1,by simp;omega,?_,?_,fun k hk hkm=>?_⟩
    ·rw[pn,e,aab rfl,h2]
     rfl
    ·rw[abY,qK,aah];omega
    cases k with
    | zero=>omega
    | succ k=>
     rw[abY,qK,aah] at hkm
     grind
   refine ⟨0,aad _,?_,aad _,fun k hk hkm=>?_⟩
   ·rw[abu qo,pn,aaa]
    ·rfl
    exact xw (aaA m<|cm r) (by simp_all) hr512
   cases k with
   | zero=>omega
   | succ k=>
    rw[abY,qK,aah] at hkm;omega
def o9(t:List UInt8):Option (Nat×List bX)->Prop
 | none=>(aG bn (t,0)).2.2≠0
 | some (i,rs)=>i<=bn/\(aG bn (t,0)).2.2=0/\(aG bn (t,0)).1=i/\iX (eq t+1) (aG bn (t,0)).2=rs
def iq(D:Dk)(n:Nat)(o:Option (Nat×List bX)):Prop:=o9 (fw D n) o
def iq.void{D:Dk}{n:Nat}(h:iq D n none)(W:Wl):jl D n W=(W,true,true):=aab h
def iq.seg{D:Dk}{n i:Nat}{rs:List bX}(h:iq D n (some (i,rs)))(W:Wl):jl D n W=if (W.follows n i).2=false then ((W.follows n i).1,false,false) else ({ (W.follows n i).1 with recs:=(W.follows n i).1.recs++rs },true,false):=by
 obtain ⟨_,h1,h2,h3⟩:=h;unfold jl;rw[h1,h2,h3]
 rfl
structure mN (f:SF) (s:Nat×List bX):Prop where
 fx:Fx f
 rd:o9 (j6 f) (some s)
def zO{i:Nat}{rs:List bX}(m:Nat)(hi:i<=bn)(hr:∀ r∈rs,eq r<=512):
  (m<eq (aI i)/\o9 ((dM i rs).take m) none)\/(eq (aI i)<=m/\∃ j,j<=eq rs/\o9 ((dM i rs).take m) (some (i,rs.take j))/\∀ k,k<=eq rs->eq (dM i (rs.take k))<=m->k<=j):=by
 have hi2:i<18446744073709551616:=by unfold bn at hi;omega
 unfold dM;rcases aaL m (eq (aI i)) with hm|hm
 ·refine .inl ⟨hm,?_⟩;rw[abu qo];exact xQ (aaA m (aI i)) (by simp_all) hi2
 refine .inr ⟨hm,?_⟩;rw[acm,aav hm];have hu:=iU (m:=bn) (n:=i) ((iQ rs).take (m-eq (aI i))) hi2 hi;obtain ⟨j,h1,h2,h3,h4⟩:=yd rs (m-eq (aI i)) (eq (aI i++(iQ rs).take (m-eq (aI i)))+1) hr (by rw[aah];omega);refine ⟨j,h1,⟨hi,by rw[hu],by rw[hu],by rw[hu,h2]⟩,fun k hk hkm=>h4 k hk ?_⟩;rw[aah] at hkm;omega
def Hk{i:Nat}{rs:List bX}(hi:i<=bn)(hr:∀ r∈rs,eq r<=512):o9 (dM i rs) (some (i,rs)):=by
 rcases zO (i:=i) (rs:=rs) (eq (dM i rs)) hi hr with ⟨h1,_⟩|⟨_,j,h2,h3,h4⟩
 ·grind [dM]
 have:=h4 (eq rs) (aac _) Nm
 grind
def A6:o9 [] none:=xQ (i:=0) (P:=[]) (more:=aI 0) rfl (by grind [pG]) qo
def wI.segC{f:SF}{i:Nat}{rs:List bX}(h:wI f (dM i rs))(hi:i<=bn)(hr:∀ r∈rs,eq r<=512):mN f (i,rs):=⟨h.fx,by rw[h.text];exact Hk hi hr⟩
def mN.crash{f f':SF}{s:Nat×List bX}(o:mN f s)(p:Pk f f'):f'=f:=o.fx.pk p
end
section
theorem nk{κ ν:Type}[DecidableEq κ](k j:κ):∀ (m:List (κ×ν)),(m.map (·.1)).Nodup->a8 j (dv k m)=if j=k then none else a8 j m
 | [],_=>by simp[dv,a8]
 | (i,v)::m,h=>by
  simp only[aaq,aa7] at h
  by_cases e:k=i
  ·subst e;simp only[dv,if_true]
   by_cases e2:j=k
   ·subst e2;rw[aab rfl];exact fQ.2 h.1
   simp_all [a8]
  simp only[dv,aaa e,a8]
  by_cases e2:j=i
  ·grind
  simp_all [nk]
theorem y6{κ ν:Type}[DecidableEq κ](g:ν->ν)(j:κ):∀ (m:List (κ×ν)),a8 j (m.map fun x=>(x.1,g x.2))=(a8 j m).map g
 | []=>rfl
 | (i,v)::m=>by
  by_cases e:j=i
  ·simp[a8,e]
  simp[a8,e,y6 g j m]
def A4(D:Dk)(a:Int):D.stp.sec a=D.sec a:=rfl
def zK(D:Dk)(a n:Int)(b:List UInt8)(a':Int):(D.laid a n b).sec a'=if a'=a then iO (D.sec a) n (fI (D.sec a n) b) else D.sec a':=by
 funext k
 unfold Dk.sec Dk.ar Dk.laid;dsimp only;rw[kB]
 by_cases e:a'=a
 ·subst e;rw[aab rfl,aab rfl];unfold iO;show a8 k (cj n _ _)=_;rw[kB]
  rfl
 rw[aaa e,aaa e]
def zI(D:Dk)(a a':Int):({ D with areas:=D.synA a }:Dk).sec a'=if a'=a then fN (D.sec a) else D.sec a':=by
 funext k
 unfold Dk.sec Dk.ar Dk.synA;dsimp only;cases hg:a8 a D.areas with
 | none=>
  dsimp only
  by_cases e:a'=a
  ·subst e;rw[aab rfl,hg]
   rfl
  rw[aaa e]
 | some l=>
  dsimp only;rw[kB]
  by_cases e:a'=a
  ·subst e;rw[aab rfl,aab rfl]
   grind [y6,fN]
  rw[aaa e,aaa e]
def zJ{D:Dk}(h:(D.areas.map (·.1)).Nodup)(a a':Int):({ D with areas:=dv a D.areas }:Dk).sec a'=if a'=a then fun _=>none else D.sec a':=by
 funext k
 unfold Dk.sec Dk.ar;dsimp only;rw[nk _ _ _ h]
 by_cases e:a'=a
 ·rw[aab e,aab e];rfl
 rw[aaa e,aaa e]
def sc(D E:Dk)(a:Int)(f:SF):Prop:=E.sec a=f/\∀ a',a'≠a->E.sec a'=D.sec a'
structure bO (n:Nat) (D:Dk):Prop where
 left : -1<=D.left
 dead:D.dead=false
 room:(n:Int)<=D.room
 keys:(D.areas.map (·.1)).Nodup
def bO.mono{n m:Nat}{D:Dk}(h:bO n D)(k:m<=n):bO m D:=⟨h.left,h.dead,by have:=h.room;omega,h.keys⟩
def DQ(n:Nat)(E:Dk)(c:Int):Prop:=(c=0/\bO n E)\/(c=30/\E.dead=true)
def vl{D:Dk}(h : -1<=D.left): -1<=D.stp.left:=by
 unfold Dk.stp;dsimp only;omega
def Gv{D:Dk}(h:(D.areas.map (·.1)).Nodup)(a n:Int)(b:List UInt8):((D.laid a n b).areas.map (·.1)).Nodup:=ng h
theorem bO.write{n:Nat}{D:Dk}(h:bO (n+1) D)(a i:Int)(b:List UInt8)(h0:0<=i)(hi:i<65536)(hb:eq b<=64):
  DQ n (D.write a i b).1 (D.write a i b).2/\sc D (D.write a i b).1 a (iO (D.sec a) i (fI (D.sec a i) b)):=by
 have h3:=h.room;unfold Dk.write;rw[aaa (by rw[h.dead];decide),aaa qo,aaa qo];dsimp only;refine ⟨?_,?_,fun a' ha=>?_⟩
 ·cases hd:((D.laid a i b).stp).dead with
  | true=>exact .inr ⟨Nm,hd⟩
  | false=>
   refine .inl ⟨Nm,vl h.left,hd,?_,Gv h.keys a i b⟩;show (n:Int)<=(D.laid a i b).room
   grind [Dk.laid]
 ·rw[A4,zK,aab rfl]
 rw[A4,zK,aaa ha]
theorem bO.sync{n:Nat}{D:Dk}(h:bO n D)(a:Int):
  ((D.sync a).2=0/\bO n (D.sync a).1/\sc D (D.sync a).1 a (fN (D.sec a)))\/((D.sync a).2=30/\(D.sync a).1.dead=true/\∀ a',(D.sync a).1.sec a'=D.sec a'):=by
 unfold Dk.sync;rw[aaa (by rw[h.dead];decide)];cases hd:D.stp.dead with
 | true=>rw[aab rfl];exact .inr ⟨I,hd,fun _=>I⟩
 | false=>
  rw[aaa Nn];refine .inl ⟨I,⟨vl h.left,hd,h.room,?_⟩,?_,fun a' ha=>?_⟩
  ·show ((D.synA a).map (·.1)).Nodup;rw[pB];exact h.keys
  ·show ({ D with areas:=D.synA a }:Dk).sec a=_;rw[zI,aab rfl]
  show ({ D with areas:=D.synA a }:Dk).sec a'=_;rw[zI,aaa ha]
theorem bO.free{n:Nat}{D:Dk}(h:bO n D)(a:Int):
  ((D.free a).2=0/\bO n (D.free a).1/\sc D (D.free a).1 a (fun _=>none))\/((D.free a).2=30/\(D.free a).1.dead=true/\∀ a',(D.free a).1.sec a'=D.sec a'):=by
 unfold Dk.free;rw[aaa (by rw[h.dead];decide)];cases hd:D.stp.dead with
 | true=>rw[aab rfl];exact .inr ⟨I,hd,fun _=>I⟩
 | false=>
  rw[aaa Nn];refine .inl ⟨I,⟨vl h.left,hd,by have:=h.room;dsimp only;omega,(kF (k:=a) D.areas).map (·.1) |>.nodup h.keys⟩,?_,fun a' ha=>?_⟩
  ·show ({ D with areas:=dv a D.areas }:Dk).sec a=_;rw[zJ h.keys,aab rfl]
  show ({ D with areas:=dv a D.areas }:Dk).sec a'=_;rw[zJ h.keys,aaa ha]
theorem AL:∀ (f:Nat) (o:fq) (D:Dk) (n:Nat) (T:List UInt8) (t0:Nat),bO (n+(eq o.rest / 63+1)) D->eq o.rest<63*f->o.full+eq o.rest / 63<65536->0<eq o.rest ->
  fO (D.sec (aK o.num)) T t0->63*o.full<=eq T->eq T<=63*o.full+62->T.drop (63*o.full) <+: o.rest ->
  ∃ T1,fO ((wrL f o D).2.1.sec (aK o.num)) T1 t0/\(∀ a',a'≠aK o.num->(wrL f o D).2.1.sec a'=D.sec a')/\T <+: T1/\T1 <+: T.take (63*o.full)++o.rest/\DQ n (wrL f o D).2.1 (wrL f o D).2.2 /\
   ((wrL f o D).2.2=0->T1=T.take (63*o.full)++o.rest/\eq T1=63*(wrL f o D).1.full+eq (wrL f o D).1.rest/\(wrL f o D).1.rest=T1.drop (63*(wrL f o D).1.full)/\eq (wrL f o D).1.rest<=62)
 | 0,o,D,n,T,t0,_,hf,_,_,_,_,_,_=>by omega
 | f+1,o,D,n,T,t0,h,hf,hfu,hr0,hS,hT1,hT2,hp=>by
  have hcl:eq (o.rest.take (min (eq o.rest) 63))=min (eq o.rest) 63:=by simp
  have hce:UInt8.ofNat (min (eq o.rest) 63)::o.rest.take (min (eq o.rest) 63)=UInt8.ofNat (eq (o.rest.take (min (eq o.rest) 63)))::o.rest.take (min (eq o.rest) 63):=by rw[hcl]
  have hw:=bO.write (n:=n+eq o.rest / 63) (h.mono qo) (aK o.num) o.full (UInt8.ofNat (min (eq o.rest) 63)::o.rest.take (min (eq o.rest) 63)) qo qo (by simp only[aan,hcl];omega);have hpl:=hp.length_le;rw[aak] at hpl
  have hpc:T.drop (63*o.full) <+: o.rest.take (min (eq o.rest) 63):=by
   grind
  have hS1:=hS.write hT1 qo (c:=o.rest.take (min (eq o.rest) 63)) qo qo hpc;rw[<-hce,<-hw.2.1] at hS1;have htl:eq (T.take (63*o.full))=63*o.full:=by rw[aam];omega
  have hTpre:T <+: T.take (63*o.full)++o.rest.take (min (eq o.rest) 63):=by
   obtain ⟨r,hr⟩:=hpc
   grind [List.take_append_drop]
  have hpre:T.take (63*o.full)++o.rest.take (min (eq o.rest) 63) <+: T.take (63*o.full)++o.rest:=(List.prefix_append_right_inj _).2 (List.take_prefix _ _);rw[nq];generalize D.write (aK o.num) o.full (UInt8.ofNat (min (eq o.rest) 63)::o.rest.take (min (eq o.rest) 63))=W at hw hS1;obtain ⟨hor,hat,hfr⟩:=hw
  by_cases hc:W.2≠0\/eq o.rest<63
  ·rw[aab hc];refine ⟨_,hS1,hfr,hTpre,hpre,?_,fun h0=>?_⟩
   ·rcases hor with ⟨g1,g2⟩|g
    ·exact .inl ⟨g1,g2.mono qo⟩
    exact .inr g
   grind
  rw[aaa hc];have hc:=not_or.1 hc;have h0:W.2=0:=Decidable.not_not.1 hc.1
  have hal:bO (n+eq o.rest / 63) W.1:=by
   rcases hor with ⟨_,g⟩|⟨g,_⟩
   all_goals omega
  have hl63:eq (T.take (63*o.full)++o.rest.take (min (eq o.rest) 63))=63*(o.full+1):=by rw[aah,htl,hcl];omega
  by_cases he:eq o.rest=63
  ·rw[aab he];have ht:o.rest.take (min (eq o.rest) 63)=o.rest:=aav qo;refine ⟨_,hS1,hfr,hTpre,hpre,.inl ⟨I,hal.mono qo⟩,fun _=>⟨by rw[ht],qo,?_,Nm⟩⟩
   simp_all
  rw[aaa he];have hrec:=AL f { o with full:=o.full+1,rest:=o.rest.drop 63 } W.1 n (T.take (63*o.full)++o.rest.take (min (eq o.rest) 63)) t0 (hal.mono (by dsimp only;rw[aak];omega)) (by dsimp only;rw[aak];omega) (by dsimp only;rw[aak];omega) (by dsimp only;rw[aak];omega) hS1 aH aH (by grind);dsimp only at hrec;obtain ⟨T1,r1,r2,r3,r4,r5,r6⟩:=hrec
  have hU:(T.take (63*o.full)++o.rest.take (min (eq o.rest) 63)).take (63*(o.full+1))++o.rest.drop 63=T.take (63*o.full)++o.rest:=by
   rw[aav qo,aaD,show min (eq o.rest) 63=63 by omega,aaA]
  rw[hU] at r4 r6;exact ⟨T1,r1,fun a' ha=>by rw[r2 a' ha,hfr a' ha],hTpre.trans r3,r4,r5,r6⟩
end
section
abbrev Vl:=Option (Nat×List bX)
def dK:Vl->Nat×List bX->Nat×List bX
 | none,s=>s
 | some (f,r),s=>if s.1<f then s else (f,r.take (s.1-f)++s.2)
def gB:Vl->Nat->Prop
 | none,_=>True
 | some (f,r),i=>i<=f+eq r
def dO:Vl->List (Nat×List bX)->Vl
 | v,[]=>v
 | v,s::t=>dO (some (dK v s)) t
def eU:Vl->List (Nat×List bX)->Prop
 | _,[]=>True
 | v,s::t=>gB v s.1/\s.1+eq s.2<=bn/\eU (some (dK v s)) t
theorem qH:∀ (a b:List (Nat×List bX)) (v:Vl),dO v (a++b)=dO (dO v a) b
 | [],b,v=>rfl
 | s::a,b,v=>by simp[qH,dO]
theorem uN:∀ (a b:List (Nat×List bX)) (v:Vl),eU v (a++b)↔eU v a/\eU (dO v a) b
 | [],b,v=>by simp[eU,dO]
 | s::a,b,v=>by simp[uN,and_assoc,eU,dO]
theorem lp{v:Vl}{s:Nat×List bX}(h:gB v s.1):(dK v s).1+eq (dK v s).2=s.1+eq s.2:=by
 cases v with
 | none=>rfl
 | some x=>
  grind [dK,gB]
def zG{v:Vl}{s:Nat×List bX}:(dK v s).1<=s.1:=by
 cases v with
 | none=>exact aac _
 | some x=>
  grind [dK]
def oA(i:Nat)(a b:Nat×List bX):Prop:=a.1<=i/\b.1<=i/\a.1+eq a.2=b.1+eq b.2/\a.2.drop (i-a.1)=b.2.drop (i-b.1)
def BV{i:Nat}{v u:Vl}{s:Nat×List bX}(hv:gB v s.1)(hu:gB u s.1)(hi:s.1<=i):oA i (dK v s) (dK u s):=by
 have e:∀ w:Vl,gB w s.1->(dK w s).2.drop (i-(dK w s).1)=s.2.drop (i-s.1):=by
  intro w hw;cases w with
  | none=>rfl
  | some x=>
   obtain ⟨f,r⟩:=x;unfold dK;unfold gB at hw;dsimp only
   split
   ·rfl
   dsimp only;rw[acv,aa6 (by rw[aam];omega),abd,aam]
   congr 1
   omega
 have h1:=zG (v:=v) (s:=s);have h2:=zG (v:=u) (s:=s);have h3:=lp hv;have h4:=lp hu;exact ⟨qo,qo,qo,by rw[e v hv,e u hu]⟩
def H6{i:Nat}{a b:Nat×List bX}(h:oA i a b){s:Nat×List bX}(ha:gB (some a) s.1):gB (some b) s.1/\oA i (dK (some a) s) (dK (some b) s):=by
 obtain ⟨h1,h2,hf,h5⟩:=h;have hb:gB (some b) s.1:=by simp_all [gB]
 refine ⟨hb,?_⟩;rcases aaL i s.1 with hlt|hge
 ·have h6:=lp ha;have h7:=lp hb;obtain ⟨f,r⟩:=a;obtain ⟨g,q⟩:=b;unfold gB at ha hb;dsimp only at h1 h2 h5 ha hb hf;unfold dK at h6 h7 ⊢;dsimp only at h6 h7 ⊢;rw[aaa qo] at h6 ⊢;rw[aaa qo] at h7 ⊢;refine ⟨h1,h2,qo,?_⟩;dsimp only;rw[ab1 (by rw[aam];omega),ab1 (by rw[aam];omega),abE,abE,h5]
  congr 2
  omega
 exact BV ha hb hge
theorem AG{i:Nat}:∀ (l:List (Nat×List bX)) (a b:Nat×List bX),oA i a b->eU (some a) l->eU (some b) l/\∃ a' b',dO (some a) l=some a'/\dO (some b) l=some b'/\oA i a' b'
 | [],a,b,h,_=>⟨trivial,a,b,rfl,rfl,h⟩
 | s::l,a,b,h,ho=>by
  obtain ⟨o1,o2,o3⟩:=ho;obtain ⟨h1,h2⟩:=H6 h o1;obtain ⟨k1,k2⟩:=AG l _ _ h2 o3;exact ⟨⟨h1,o2,k1⟩,k2⟩
theorem yQ{i:Nat}:∀ (l:List (Nat×List bX)) (x:Nat×List bX) (u:Vl),(u=none\/∃ y,u=some y/\y.1+eq y.2=x.1+eq x.2)->eU (some x) l->(∃ s∈l,s.1<=i)->eU u l/\∃ a b,dO (some x) l=some a/\dO u l=some b/\oA i a b
 | [],x,u,_,_,h=>by obtain ⟨s,hs,_⟩:=h;simp at hs
 | s::l,x,u,hu,ho,hex=>by
  obtain ⟨o1,o2,o3⟩:=ho
  have hou:gB u s.1:=by
   rcases hu with rfl|⟨y,rfl,e⟩
   all_goals simp_all [gB]
  by_cases hs:s.1<=i
  ·have h2:=BV o1 hou hs;obtain ⟨k1,k2⟩:=AG l _ _ h2 o3;exact ⟨⟨hou,o2,k1⟩,k2⟩
  have hex2:∃ t∈l,t.1<=i:=by
   simp_all
  obtain ⟨k1,k2⟩:=yQ l (dK (some x) s) (some (dK u s)) (.inr ⟨_,rfl,by rw[lp o1,lp hou]⟩) o3 hex2;exact ⟨⟨hou,o2,k1⟩,k2⟩
def VW(W:Wl)(v:Vl):Prop:=(v=none/\W.old=[])\/(W.old≠[]/\v=some (W.first,W.recs))
def FQ{D:Dk}{n i:Nat}{rs:List bX}{W:Wl}{v:Vl}(hr:iq D n (some (i,rs)))(hv:VW W v)(ho:gB v i):
  ∃ W',jl D n W=(W',true,false)/\VW W' (some (dK v (i,rs)))/\W'.old=W.old++[(n,i)]/\W'.op=W.op/\W'.next=W.next/\W'.code=W.code/\W'.first+eq W'.recs=i+eq rs:=by
 have he:=lp (s:=(i,rs)) ho;rw[hr.seg W];rcases hv with ⟨rfl,hold⟩|⟨hold,rfl⟩
 ·have hF:W.follows n i=({ W with first:=i,recs:=[],old:=W.old++[(n,i)] },true):=by simp_all [Wl.follows]
  rw[hF,aaa Nm];exact ⟨_,I,.inr ⟨Nm,by simp[dK]⟩,I,I,I,I,Nm⟩
 by_cases hlt:i<W.first
 ·have hF:W.follows n i=({ W with first:=i,recs:=[],old:=W.old++[(n,i)] },true):=by unfold Wl.follows;rw[aab (.inr hlt)]
  rw[hF,aaa Nm];exact ⟨_,I,.inr ⟨Nm,by simp[dK,hlt]⟩,I,I,I,I,Nm⟩
 unfold gB at ho;dsimp only at ho;have hl0:eq W.old≠0:=by simp_all
 have hF:W.follows n i=({ W with recs:=W.recs.take (i-W.first),old:=W.old++[(n,i)] },true):=by
  grind [Wl.follows]
 rw[hF,aaa Nm];refine ⟨_,I,.inr ⟨Nm,by simp[dK,hlt]⟩,I,I,I,I,?_⟩
 grind
def fG(fr:Nat)(l:List (Nat×Option (Nat×List bX))):List (Nat×Nat×List bX):=l.filterMap fun x=>if x.1<fr then none else x.2.map fun s=>(x.1,s.1,s.2)
def tn(fr:Nat)(x:Nat×Option (Nat×List bX))(l:List (Nat×Option (Nat×List bX))):fG fr (x::l)=(match (if x.1<fr then none else x.2.map fun s=>(x.1,s.1,s.2)) with
  | none=>fG fr l
  | some y=>y::fG fr l):=by
 unfold fG
 grind
theorem qF{D:Dk}{fr:Nat}:∀ (l:List (Nat×Option (Nat×List bX))) (W:Wl) (v:Vl) (g:List Nat),(∀ x∈l,fr<=x.1->iq D x.1 x.2)->VW W v->W.first+eq W.recs<=bn->eU v ((fG fr l).map (·.2)) ->
  ∃ W' g',ga D fr (l.map (·.1)) W g=(W',g',true)/\VW W' (dO v ((fG fr l).map (·.2)))/\W'.old=W.old++(fG fr l).map (fun s=>(s.1,s.2.1))/\W'.op=W.op/\W'.next=W.next/\W'.code=W.code/\(fG fr l=[]->W'.first=W.first/\W'.recs=W.recs) /\
   ∀ n,n∈g'↔n∈g\/∃ x∈l,x.1=n/\(n<fr\/x.2=none)
 | [],W,v,g,_,hv,_,_=>⟨W,g,rfl,hv,by simp[fG],rfl,rfl,rfl,fun _=>⟨rfl,rfl⟩,fun n=>by simp⟩
 | (n,o)::l,W,v,g,hr,hv,ht,ho=>by
  have hr':∀ x∈l,fr<=x.1->iq D x.1 x.2:=fun x hx=>hr x (by simp[hx]);rw[tn] at ho ⊢;rw[aaq];unfold ga
  have skip:((n<fr\/o=none))->eN D fr n W=(W,true,true):=by
   intro h;unfold eN
   by_cases hn:n<fr
   ·rw[aab hn]
   rw[aaa hn];rcases h with h|h
   ·omega
   have:=hr (n,o) Nm qo;rw[h] at this;exact this.void W
  by_cases hs:n<fr\/o=none
  ·have hno:(if n<fr then none else o.map fun s=>(n,s.1,s.2))=(none:Option (Nat×Nat×List bX)):=by
    grind
   dsimp only at ho ⊢;rw[hno] at ho ⊢;dsimp only at ho ⊢;obtain ⟨W',g',h1,h2,h3,h4,h5,h6,h7,h8⟩:=qF l W v (g++[n]) hr' hv ht ho;rw[skip hs];rw[aaa (by simp_all)];refine ⟨W',g',by simpa using h1,h2,h3,h4,h5,h6,h7,fun m=>?_⟩;rw[h8 m];simp only[aaj,aay,List.not_mem_nil,or_false]
   constructor
   ·rintro ((h|h)|⟨x,hx,h⟩)
    ·exact .inl h
    ·simp_all
    exact .inr ⟨x,.inr hx,h⟩
   grind
  have hs:=not_or.1 hs;obtain ⟨⟨i,rs⟩,rfl⟩:=Option.ne_none_iff_exists'.1 hs.2;dsimp only at ho ⊢;rw[aaa hs.1] at ho ⊢;simp only[aa9,aaq] at ho ⊢;obtain ⟨ho1,ho2,ho3⟩:=ho;obtain ⟨W1,k1,k2,k3,k4,k5,k6,k7⟩:=FQ (hr (n,some (i,rs)) Nm qo) hv ho1;have hst:eN D fr n W=(W1,true,false):=by unfold eN;rw[aaa hs.1,k1]
  obtain ⟨W',g',h1,h2,h3,h4,h5,h6,h7,h8⟩:=qF l W1 _ g hr' k2 (by rw[k7];exact ho2) ho3;rw[hst];rw[aaa (by simp_all)];refine ⟨W',g',by simpa using h1,h2,?_,h4.trans k4,h5.trans k5,h6.trans k6,fun h=>(by cases h),fun m=>?_⟩
  all_goals grind
theorem pO{a b:Nat}(h:a≠b):aK a≠aK b:=fun e=>h (kE e)
def Hd{D:Dk}{k:Nat}(h:bD k D)(hk:(D.areas.map (·.1)).Nodup)(g:List Nat)(n:Nat):
  (fy D g n).2=0/\bD k (fy D g n).1/\((fy D g n).1.areas.map (·.1)).Nodup/\sc D (fy D g n).1 (aK n) (if n∈g then fun _=>none else fN (D.sec (aK n)))/\∀ a∈(fy D g n).1.areas.map (·.1),a∈D.areas.map (·.1)/\(n∈g->a≠aK n):=by
 have ha:bO 0 D:=⟨by rw[h.left];decide,h.dead,by have:=h.room;omega,hk⟩;unfold fy
 by_cases hn:n∈g
 ·rw[aab hn,aab hn];have h1:=h.free (aK n);rcases ha.free (aK n) with ⟨_,g2,g3⟩|⟨g1,_⟩
  ·refine ⟨h1.1,h1.2,g2.keys,g3,fun a haa=>?_⟩;unfold Dk.free at haa;rw[aaa (by rw[h.dead];decide),aaa (by rw[h.stp.dead];decide)] at haa;have haa:a∈(dv (aK n) D.areas).map (·.1):=haa;refine ⟨((kF (k:=aK n) D.areas).map (·.1)).subset haa,fun _ e=>?_⟩;subst e;have:=nk (aK n) (aK n) D.areas hk;rw[aab rfl] at this;exact fQ.1 this haa
  omega
 rw[aaa hn,aaa hn];have h1:=h.sync (aK n);rcases ha.sync (aK n) with ⟨_,g2,g3⟩|⟨g1,_⟩
 ·refine ⟨h1.1,h1.2,g2.keys,g3,fun a haa=>?_⟩;unfold Dk.sync at haa;rw[aaa (by rw[h.dead];decide),aaa (by rw[h.stp.dead];decide)] at haa
  simp_all [pB]
 omega
theorem tB(g:List Nat):∀ (l:List Nat) (D:Dk) (k:Nat),l.Nodup->bD k D->(D.areas.map (·.1)).Nodup ->
  (wsettle g l D).2=0/\bD k (wsettle g l D).1/\((wsettle g l D).1.areas.map (·.1)).Nodup/\(∀ n∈l,(wsettle g l D).1.sec (aK n)=if n∈g then fun _=>none else fN (D.sec (aK n)))/\(∀ a,(∀ n∈l,a≠aK n)->(wsettle g l D).1.sec a=D.sec a) /\
   ∀ a∈(wsettle g l D).1.areas.map (·.1),a∈D.areas.map (·.1)/\∀ n∈l,n∈g->a≠aK n
 | [],D,k,_,h,hk=>⟨rfl,h,hk,Nm,fun _ _=>rfl,fun a ha=>⟨ha,Nm⟩⟩
 | n::r,D,k,hn,h,hk=>by
  have hn:=aa7.1 hn;obtain ⟨h1,h2,h3,⟨h4,h5⟩,h6⟩:=Hd h hk g n;obtain ⟨g1,g2,g3,g4,g5,g6⟩:=tB g r (fy D g n).1 k hn.2 h2 h3;unfold wsettle;rw[aab h1];refine ⟨g1,g2,g3,fun m hm=>?_,fun a ha=>?_,fun a ha=>?_⟩
  ·rcases aay.1 hm with rfl|hm
   all_goals grind [pO]
  all_goals grind
end
section
structure Sg where
 num:Nat
 idx:Nat
 recs:List bX
def Sg.v(s:Sg):Nat×List bX:=(s.idx,s.recs)
def Sg.T(s:Sg):List UInt8:=dM s.idx s.recs
structure Og where
 num:Nat
 idx:Nat
 recs:List bX
 T:List UInt8
 t0:Nat
structure fK (E:Dk) (S:List Sg) (op:Option Og):Prop where
 keys:∀ a∈E.areas.map (·.1),a % 4=1->(∃ s∈S,a=aK s.num)\/∃ o,op=some o/\a=aK o.num
 asc:S.Pairwise fun a b=>a.num<b.num
 bd:∀ s∈S,s.idx<=bn/\∀ r∈s.recs,eq r<=512
 cl:∀ s∈S,mN (E.sec (aK s.num)) s.v
 op:∀ o,op=some o->(∀ s∈S,s.num<o.num)/\o.idx<=bn/\(∀ r∈o.recs,eq r<=512)/\fO (E.sec (aK o.num)) o.T o.t0/\o.T <+: dM o.idx o.recs/\eq o.T<=63*65536
structure Cr (D D':Dk):Prop where
 left:D'.left = -1
 dead:D'.dead=false
 pk:∀ a,Pk (D.sec a) (D'.sec a)
 keys:∀ k∈D'.areas.map (·.1),k∈D.areas.map (·.1)
 nd:(D'.areas.map (·.1)).Nodup
 ne:∀ a,a∈D'.areas.map (·.1)↔∃ n x,D'.sec a n=some x
 pos:∀ k∈D'.areas.map (·.1),0<=k
structure pa (D D':Dk):Prop where
 left:D'.left = -1
 dead:D'.dead=false
 pk:∀ n,Pk (D.sec (aK n)) (D'.sec (aK n))
 keys:∀ n,aK n∈D'.areas.map (·.1)->aK n∈D.areas.map (·.1)
 nd:(D'.areas.map (·.1)).Nodup
 ne:∀ n,aK n∈D'.areas.map (·.1)↔∃ k x,D'.sec (aK n) k=some x
 pos:∀ k∈D'.areas.map (·.1),0<=k
def Cr.w{D D':Dk}(h:Cr D D'):pa D D':=⟨h.left,h.dead,fun n=>h.pk _,fun n=>h.keys _,h.nd,fun n=>h.ne _,h.pos⟩
def Cr.liv{D D':Dk}(h:Cr D D')(hr:0<=D'.room):bD 0 D':=⟨h.left,h.dead,qo⟩
def yi{f:SF}(h:∀ n,f n=none):j6 f=[]:=py (h _) _
def FX{f:SF}(h:f 0=none):j6 f=[]:=py (n:=0) h _
def mN.some0{f:SF}{s:Nat×List bX}(h:mN f s):∃ x,f 0=some x:=by
 cases hf:f 0 with
 | some x=>simp
 | none=>
  have h1:=h.rd;rw[FX hf] at h1;exact absurd h1.2.1 A6
def nV(o:Og):Option (Nat×List bX)->Prop
 | none=>o.t0<eq (aI o.idx)
 | some (i,rs)=>i=o.idx/\∃ j,j<=eq o.recs/\rs=o.recs.take j/\∀ k,k<=eq o.recs->eq (dM o.idx (o.recs.take k))<=o.t0->k<=j
def IC{D D':Dk}{S:List Sg}{op:Option Og}(d:fK D S op)(c:pa D D')(o:Og)(ho:op=some o):∃ res,nV o res/\iq D' o.num res/\(aK o.num∉D'.areas.map (·.1)->res=none):=by
 obtain ⟨h1,h2,h3,h4,h5,h6⟩:=d.op o ho;obtain ⟨m,m1,m2,m3⟩:=h4.crash h6 (c.pk o.num)
 have hTt:fw D' o.num=(dM o.idx o.recs).take m:=by
  rw[rc,m3];obtain ⟨r,hr⟩:=h5
  grind
 by_cases hk:aK o.num∈D'.areas.map (·.1)
 ·rcases zO (i:=o.idx) (rs:=o.recs) m h2 h3 with ⟨g1,g2⟩|⟨g1,j,g2,g3,g4⟩
  ·exact ⟨none,by unfold nV;omega,by unfold iq;rw[hTt];exact g2,fun _=>I⟩
  exact ⟨some (o.idx,o.recs.take j),⟨I,j,g2,I,fun k hk1 hk2=>g4 k hk1 qo⟩,by unfold iq;rw[hTt];exact g3,fun h=>absurd hk h⟩
 have hn:∀ n,D'.sec (aK o.num) n=none:=by
  intro n;cases hx:D'.sec (aK o.num) n with
  | none=>rfl
  | some x=>exact absurd ((c.ne _).2 ⟨n,x,hx⟩) hk
 refine ⟨none,?_,by simp_all [rc,yi,A6,iq],fun _=>I⟩;rw[yi hn] at m3;have:=congrArg List.length m3
 grind [pG,nV]
theorem rP:∀ {a b:List Nat},a.Pairwise (· < ·)->b.Pairwise (· < ·)->(∀ n,n∈a↔n∈b)->a=b
 | [],[],_,_,_=>rfl
 | [],y::b,_,_,h=>by have:=(h y).2 Nm;simp at this
 | x::a,[],_,_,h=>by have:=(h x).1 Nm;simp at this
 | x::a,y::b,ha,hb,h=>by
  have ha:=aa1.1 ha;have hb:=aa1.1 hb
  have hxy:x=y:=by
   rcases aay.1 ((h x).1 Nm) with h1|h1
   ·exact h1
   rcases aay.1 ((h y).2 Nm) with h2|h2
   all_goals grind
  subst hxy
  congr 1
  refine rP ha.2 hb.2 fun n=>?_
  grind
def yC{D:Dk}(h:(D.areas.map (·.1)).Nodup)(h0:∀ k∈D.areas.map (·.1),0<=k):(ca (aU D)).Pairwise (· < ·):=by
 have hp:∀ k∈aU D,k∈D.areas.map (·.1):=fun k hk=>(dJ _).mem_iff.1 hk;have h1:(ca (aU D)).Nodup:=pd ((dJ _).symm.nodup h) (fun k hk=>h0 k (hp k hk))
 have h2:(ca (aU D)).Pairwise (· <= ·):=by
  unfold ca;rw[abA];refine ((nr (D.areas.map (·.1))).filter _).imp fun {a b} hab=>?_;omega
 have h3:=abB.1 h1;exact (h2.and h3).imp fun ⟨a,b⟩=>by omega
def lZ{D:Dk}(h0:∀ k∈D.areas.map (·.1),0<=k)(n:Nat):n∈ca (aU D)↔aK n∈D.areas.map (·.1):=by
 have hp:∀ k,k∈aU D↔k∈D.areas.map (·.1):=fun k=>(dJ _).mem_iff
 constructor
 ·grind [yB,aK]
 intro h;unfold ca;refine aap.2 ⟨aK n,abL.2 ⟨(hp _).2 h,by simp[aK]⟩,by unfold aK;omega⟩
def FK{D D':Dk}{S:List Sg}{op:Option Og}(d:fK D S op)(c:pa D D'):
  ∃ l:List (Nat×Option (Nat×List bX)),ca (aU D')=l.map (·.1)/\(∀ x∈l,iq D' x.1 x.2) /\
   ((op=none/\l=S.map fun s=>(s.num,some s.v))\/∃ o res,op=some o/\nV o res/\(l=(S.map fun s=>(s.num,some s.v))++[(o.num,res)]\/(l=(S.map fun s=>(s.num,some s.v))/\res=none))):=by
 have hcl:∀ s∈S,D'.sec (aK s.num)=D.sec (aK s.num):=fun s hs=>(d.cl s hs).crash (c.pk _)
 have hin:∀ s∈S,aK s.num∈D'.areas.map (·.1):=fun s hs=>by
  obtain ⟨x,hx⟩:=(d.cl s hs).some0;exact (c.ne _).2 ⟨0,x,by rw[hcl s hs];exact hx⟩
 have hR:∀ s∈S,iq D' s.num (some s.v):=fun s hs=>by unfold iq;rw[rc,hcl s hs];exact (d.cl s hs).rd
 have hasc:=yC c.nd c.pos
 have hSasc:((S.map fun s=>(s.num,some s.v)).map (·.1):List Nat).Pairwise (· < ·):=by
  rw[aa3,abA];exact d.asc.imp fun h=>h
 have hSmem:∀ n,n∈((S.map fun s=>(s.num,some s.v)).map (·.1):List Nat)↔∃ s∈S,s.num=n:=by
  simp
 have hRl:∀ x∈(S.map fun s=>(s.num,some s.v)),iq D' x.1 x.2:=by
  simp_all
 cases hop:op with
 | none=>
  refine ⟨_,rP hasc hSasc fun n=>?_,hRl,.inl ⟨I,I⟩⟩;rw[lZ c.pos,hSmem]
  constructor
  ·intro h;rcases d.keys _ (c.keys _ h) (by simp[aK]) with ⟨s,hs,e⟩|⟨o,ho,_⟩
   all_goals grind [kE]
  grind
 | some o=>
  obtain ⟨res,t1,t2,t3⟩:=IC d c o hop;obtain ⟨hlt,_⟩:=d.op o hop
  by_cases hk:aK o.num∈D'.areas.map (·.1)
  ·refine ⟨(S.map fun s=>(s.num,some s.v))++[(o.num,res)],rP hasc ?_ fun n=>?_,?_,.inr ⟨o,res,I,t1,.inl I⟩⟩
   ·grind
   ·rw[lZ c.pos,aaX,aaj,hSmem]
    constructor
    ·intro h;rcases d.keys _ (c.keys _ h) (by simp[aK]) with ⟨s,hs,e⟩|⟨o',ho,e⟩
     all_goals grind [kE]
    grind
   grind
  refine ⟨_,rP hasc hSasc fun n=>?_,hRl,.inr ⟨o,res,I,t1,.inr ⟨I,t3 hk⟩⟩⟩;rw[lZ c.pos,hSmem]
  constructor
  ·intro h;rcases d.keys _ (c.keys _ h) (by simp[aK]) with ⟨s,hs,e⟩|⟨o',ho,e⟩
   all_goals grind [kE]
  grind
end
section
def kN(op:Option Og)(t:Option (Nat×List bX)):Prop:=match op with
 | none=>t=none
 | some o=>nV o t
def iF(op:Option Og)(t:Option (Nat×List bX)):List Sg:=match op,t with
 | some o,some (i,rs)=>[⟨o.num,i,rs⟩]
 | _,_=>[]
theorem AV{op:Option Og}{t:Option (Nat×List bX)}{b:Sg}(h:b∈iF op t):∃ o,op=some o/\b.num=o.num:=by
 cases op with
 | none=>simp[iF] at h
 | some o=>cases t with
  | none=>simp[iF] at h
  | some x=>
   obtain ⟨i,rs⟩:=x;simp only[iF,aaz] at h;exact ⟨o,I,by rw[h]⟩
theorem po{fr:Nat}:∀ (S:List Sg),(∀ s∈S,fr<=s.num)->fG fr (S.map fun s=>(s.num,some s.v))=S.map fun s=>(s.num,s.idx,s.recs)
 | [],_=>rfl
 | s::S,h=>by
  rw[aaq,tn];dsimp only;rw[aaa (by have:=h s Nm;omega)];simp only[aa9,aaq];rw[po S (fun x hx=>h x (by simp[hx]))]
  rfl
theorem yo(fr:Nat)(a b:List (Nat×Option (Nat×List bX))):fG fr (a++b)=fG fr a++fG fr b:=by simp[fG]
def yn{fr:Nat}{l:List (Nat×Option (Nat×List bX))}(h:∀ x∈l,x.1<fr):fG fr l=[]:=by
 unfold fG;rw[List.filterMap_eq_nil_iff];intro x hx;rw[aab (h x hx)]
def Jy{f:SF}(h:Fx f):fN f=f:=(h.pk (f':=fN f) (by
 intro n;unfold js fN;cases hf:f n with
 | none=>rfl
 | some s=>
  obtain ⟨h1,v,h2⟩:=h n s hf
  simp_all [iP]))
def zy{l:List Int}{M:Nat}(h:∀ n∈ca l,n<M):gJ l<=M:=by
 have:∀ (q:List Nat) (z:Nat),z<=M->(∀ n∈q,n<M)->q.foldl (fun _ n=>n+1) z<=M:=by
  intro q
  induction q with
  | nil=>simp
  | cons a q ih=>grind
 exact this _ 0 (aad _) h
structure D9 (W:Wl) (E:Dk) (S:List Sg) (fr M:Nat):Prop where
 op:W.op=none
 code:W.code=0
 old:W.old=S.map fun s=>(s.num,s.idx)
 lt:∀ s∈S,s.num<W.next
 frn:fr<=W.next
 next:W.next<=M
 seg:fK E S none
 vw:VW W (dO none (S.map Sg.v))
def EI{D F:Dk}{S:List Sg}{op:Option Og}(d:fK D S op)(c:pa D F)(hr:0<=F.room){fr first M:Nat}(hfirst:first<=bn)(hM:M<=cG)(hfM:fr<=M)
  (hS:∀ s∈S,s.num<M) (ho:∀ o,op=some o->o.num<M)
  (hfr:((∀ s∈S,fr<=s.num)/\(∀ o,op=some o->fr<=o.num)/\∀ t,kN op t->eU none (S.map Sg.v++t.toList))\/((∀ s∈S,s.num<fr)/\∀ o,op=some o->o.num<fr)):
  ∃ S' W E,((∃ t,kN op t/\S'=S++iF op t/\(∀ s∈S,fr<=s.num)/\∀ o,op=some o->fr<=o.num)\/(S'=[]/\(∀ s∈S,s.num<fr)/\∀ o,op=some o->o.num<fr))/\dz F fr first=(some W,E,0)/\D9 W E S' fr M/\(S'=[]->W.first=first/\W.recs=[])/\bD 0 E/\(E.areas.map (·.1)).Nodup /\
   (∀ a,a % 4≠1->E.sec a=F.sec a)/\∀ a∈E.areas.map (·.1),a∈F.areas.map (·.1):=by
 obtain ⟨l,hl,hR,hsh⟩:=FK d c;have hliv:bD 0 F:=⟨c.left,c.dead,qo⟩
 have hlM:∀ n∈ca (aU F),n<M:=by
  intro n hn;rw[lZ c.pos] at hn;rcases d.keys _ (c.keys n hn) (by simp[aK]) with ⟨s,hs,e⟩|⟨o,h1,e⟩
  all_goals grind [kE]
 have hnx:=zy hlM;have hnd:=pd ((dJ _).symm.nodup c.nd) (fun k hk=>c.pos k ((dJ _).mem_iff.1 hk))
 obtain ⟨S',hS',hseg,hex,hsub⟩:∃ S':List Sg,((∃ t,kN op t/\S'=S++iF op t/\(∀ s∈S,fr<=s.num)/\∀ o,op=some o->fr<=o.num)\/(S'=[]/\(∀ s∈S,s.num<fr)/\∀ o,op=some o->o.num<fr))/\fG fr l=(S'.map fun s=>(s.num,s.idx,s.recs))/\eU none (S'.map Sg.v) /\
   (∀ s∈S',(s∈S\/∃ o t,op=some o/\nV o (some t)/\s=⟨o.num,t.1,t.2⟩)/\fr<=s.num/\(s.num,some s.v)∈l):=by
  rcases hfr with ⟨h1,h2,h3⟩|⟨h1,h2⟩
  ·rcases hsh with ⟨hop,rfl⟩|⟨o,res,hop,ht,hsh⟩
   ·refine ⟨S,.inl ⟨none,by unfold kN;rw[hop],by simp[iF],h1,h2⟩,po S h1,?_,fun s hs=>⟨.inl hs,h1 s hs,aap.2 ⟨s,hs,rfl⟩⟩⟩
    simp_all [kN]
   have hto:kN op res:=by unfold kN;rw[hop];exact ht
   have hk:=h3 res hto;have hemp:∀ res':Option (Nat×List bX),res'=none->eU none (S.map Sg.v++res'.toList)->eU none (S.map Sg.v):=fun r h1 h2=>by subst h1;simpa using h2
   rcases hsh with rfl|⟨rfl,rfl⟩
   ·cases res with
    | none=>
     refine ⟨S,.inl ⟨none,hto,by simp[iF],h1,h2⟩,?_,hemp none I hk,fun s hs=>⟨.inl hs,h1 s hs,aaj.2 (.inl<|aap.2 ⟨s,hs,I⟩)⟩⟩
     grind [yo,po,fG]
    | some t=>
     obtain ⟨i,rs⟩:=t;refine ⟨S++[⟨o.num,i,rs⟩],.inl ⟨some (i,rs),hto,by simp[iF,hop],h1,h2⟩,?_,?_,fun s hs=>?_⟩
     ·rw[yo,po S h1,tn]
      simp_all [aaa,fG]
     ·simpa[Sg.v] using hk
     rcases aaj.1 hs with hs|hs
     ·grind
     simp only[aaz] at hs;subst hs;exact ⟨.inr ⟨o,(i,rs),hop,ht,I⟩,h2 o hop,aaj.2 (.inr (by simp[Sg.v]))⟩
   exact ⟨S,.inl ⟨none,hto,by simp[iF],h1,h2⟩,po S h1,hemp none I hk,fun s hs=>⟨.inl hs,h1 s hs,aap.2 ⟨s,hs,I⟩⟩⟩
  refine ⟨[],.inr ⟨I,h1,h2⟩,yn ?_,trivial,Nm⟩
  grind
 have hw0:VW (dD fr first (aU F)) none:=.inl ⟨rfl,rfl⟩;have hv2:(fG fr l).map (·.2)=S'.map Sg.v:=by rw[hseg,aa3];rfl
 obtain ⟨W,g,r1,r2,r3,r4,r5,r6,r7,r8⟩:=qF (D:=F) (fr:=fr) l (dD fr first (aU F)) none [] (fun x hx _=>hR x hx) hw0 (by simp[dD];omega) (by rw[hv2];exact hex);rw[hv2] at r2;obtain ⟨s1,s2,s3,s4,s5,s6⟩:=tB g (ca (aU F)) F 0 hnd hliv c.nd;have hnw:(dD fr first (aU F)).next<=M:=by simp_all [Nat.max_le,dD]
 have hold:W.old=S'.map fun s=>(s.num,s.idx):=by
  rw[r3,hseg,aa3]
  rfl
 have hkeep:∀ s∈S',s.num∈ca (aU F)/\s.num∉g:=by
  intro s hs;obtain ⟨_,h2,h3⟩:=hsub s hs;refine ⟨by grind,fun hg=>?_⟩;rcases (r8 s.num).1 hg with h|⟨x,hx,h4,h5⟩
  ·simp at h
  have hx2:x=(s.num,some s.v):=by
   have hnl:(l.map (·.1)).Nodup:=by rw[<-hl];exact hnd
   have:∀ (q:List (Nat×Option (Nat×List bX))),(q.map (·.1)).Nodup->∀ a∈q,∀ b∈q,a.1=b.1->a=b:=by
    intro q
    induction q with
    | nil=>simp
    | cons y q ih=>
     intro hn a ha b hb e;simp only[aaq,aa7] at hn;rcases aay.1 ha with h1|h1
     all_goals grind
   exact this l hnl x hx _ h3 h4
  grind
 have hgone:∀ x∈l,(∀ s∈S',s.num≠x.1)->x.1∈g:=by
  intro x hx hn;refine (r8 x.1).2 (.inr ⟨x,hx,I,?_⟩)
  by_cases h1:x.1<fr
  ·exact .inl h1
  right
  cases h2:x.2 with
  | none=>rfl
  | some t=>
   exfalso
   have:(x.1,t.1,t.2)∈fG fr l:=by
    grind [fG]
   grind
 have hcl:∀ s∈S',(wsettle g (ca (aU F)) F).1.sec (aK s.num)=F.sec (aK s.num)/\mN (F.sec (aK s.num)) s.v:=by
  intro s hs;obtain ⟨h1,h2,h3⟩:=hsub s hs;have h4:=hkeep s hs;have hfx:Fx (F.sec (aK s.num)):=(c.pk s.num).fx;refine ⟨by rw[s4 s.num h4.1,aaa h4.2,Jy hfx],hfx,?_⟩
  grind [rc,iq]
 refine ⟨S',W,(wsettle g (ca (aU F)) F).1,hS',?_,⟨r4,r6,hold,?_,by rw[r5];unfold dD;exact Nat.le_max_right _ _,by rw[r5];exact hnw,?_,r2⟩,fun h=>r7 (by rw[hseg,h];rfl),s2,s3,fun a ha=>s5 a (fun n _ e=>ha (by rw[e];simp[aK])),fun a ha=>(s6 a ha).1⟩
 ·unfold dz;rw[aaa (by rw[c.dead];decide),aaa qo,aaa qo,hl,r1,aaa Nm,<-hl,aaa (by rw[s1];simp)]
 ·intro s hs;rw[r5];have h4:=(hkeep s hs).1;have:=uo (l:=aU F) (nr _) s.num h4
  grind [dD]
 refine ⟨fun a ha h1=>.inl ?_,?_,fun s hs=>?_,fun s hs=>by rw[(hcl s hs).1];exact (hcl s hs).2,fun o h=>by cases h⟩
 ·obtain ⟨k1,k2⟩:=s6 a ha;have ha0:=c.pos a k1;have hseg:a=aK (a.toNat / 4):=by unfold aK;omega
  have hin:a.toNat / 4∈ca (aU F):=by rw[lZ c.pos,<-hseg];exact k1
  grind
 ·have hasc:=yC c.nd c.pos;rcases hS' with ⟨t,ht,rfl,_⟩|⟨rfl,_⟩
  ·rw[ab3];refine ⟨d.asc,?_,fun a ha b hb=>?_⟩
   ·unfold iF
    split <;> simp
   obtain ⟨o,h1,h2⟩:=AV hb;rw[h2];exact (d.op o h1).1 a ha
  simp
 rcases (hsub s hs).1 with h|⟨o,t,h1,h2,h3⟩
 ·exact d.bd s h
 obtain ⟨_,g2,g3,_⟩:=d.op o h1;obtain ⟨k1,j,k2,k3,_⟩:=h2
 grind
end
section
def gw(f:SF)(i:Nat):Nat×List UInt8:=match fC f i with
 | none=>(0,[])
 | some b=>iw b i
def cK(f:SF):bZ:=(bZ.pick ⟨0,[]⟩ (gw f 0)).pick (gw f 1)
def Fh(b:List UInt8)(i:Nat):(iw b i).1=0\/(iw b i).1 % 2=i:=by
 unfold iw
 grind
def yl(f:SF)(i:Nat):(gw f i).1=0\/(gw f i).1 % 2=i:=by
 unfold gw
 split
 ·omega
 simp[Fh]
def EJ{n:Nat}{v:List UInt8}{i:Nat}(hv:eq v<=48)(hn:n<18446744073709551616)(hi:n % 2=i):iw (co n v) i=(n,v):=by
 have e0:co n v=fa 8 n++(UInt8.ofNat (eq v)::(v++(List.replicate (51-eq v) 0++fa 4 (lc (gy n v)).toNat))):=by
  simp[co,gy]
 have e1:(co n v).getD 8 0=UInt8.ofNat (eq v):=by
  rfl
 have e2:(co n v).take 8=fa 8 n:=by rfl
 have e3:(UInt8.ofNat (eq v)).toNat=eq v:=by simp;omega
 have e4:((co n v).drop 9).take (eq v)=v:=by
  rw[e0,acv,aa6 (by simp[ln]),ln,abd,show 9-8=1 from rfl,List.drop_succ_cons,abs,abu (aac _),aaE]
 have e5:dQ (fa 8 n)=n:=AQ 8 n qo;unfold iw
 grind
def Gp{n:Nat}{v:List UInt8}(hv:eq v<=48):eE (co n v)=co n v:=by
 unfold eE;rw[nc hv]
 simp
def Gm{a b:Nat×List UInt8}{n:Nat}{v:List UInt8}(ha:a.1=0\/a.1 % 2=0)(hb:b.1=0\/b.1 % 2=1)(hn:n=((bZ.pick ⟨0,[]⟩ a).pick b).num+1)(he:n % 2=0):
  (bZ.pick ⟨0,[]⟩ (n,v)).pick b=⟨n,v⟩/\∀ x:Nat×List UInt8,x.1=0->(bZ.pick ⟨0,[]⟩ x).pick b=(bZ.pick ⟨0,[]⟩ a).pick b:=by
 grind [bZ.pick]
def Ho{a b:Nat×List UInt8}{n:Nat}{v:List UInt8}(ha:a.1=0\/a.1 % 2=0)(hb:b.1=0\/b.1 % 2=1)(hn:n=((bZ.pick ⟨0,[]⟩ a).pick b).num+1)(he:n % 2=1):
  (bZ.pick ⟨0,[]⟩ a).pick (n,v)=⟨n,v⟩/\∀ x:Nat×List UInt8,x.1=0->(bZ.pick ⟨0,[]⟩ a).pick x=(bZ.pick ⟨0,[]⟩ a).pick b:=by
 generalize hp:bZ.pick ⟨0,[]⟩ a=p at *
 have hp0:p.num=a.1\/p.num=0:=by
  rw[<-hp];unfold bZ.pick
  grind
 grind [bZ.pick]
theorem qv{f g:SF}{i:Nat}(h:f i=g i):gw f i=gw g i:=by unfold gw fC;rw[h]
def Fx.pk1{f:SF}(h:Fx f){n:Int}{s':Option ef}(p:js (f n) s'):s'=f n:=by
 cases hf:f n with
 | none=>rw[hf] at p;exact p
 | some t=>
  rw[hf] at p;obtain ⟨h1,v,h2⟩:=h n t hf;rcases p with ⟨h3,_⟩|⟨u,hu,h3⟩
  ·rw[h1] at h3;cases h3
  rw[h2] at hu;simp only[aaz] at hu;rw[h3,hu];obtain ⟨vs,sy⟩:=t;cases h1;cases h2
  rfl
def ku(f:SF)(n:Nat)(v:List UInt8):SF:=iO f ((n % 2:Nat):Int) (fI (f ((n % 2:Nat):Int)) (co n v))
def Fi{f:SF}(hf:Fx f){v:List UInt8}(hv:eq v<=48)(hn:(cK f).num+1<18446744073709551616):
  (∀ f',Pk (ku f ((cK f).num+1) v) f'->cK f'=cK f\/cK f'=⟨(cK f).num+1,v⟩)/\cK (fN (ku f ((cK f).num+1) v))=⟨(cK f).num+1,v⟩:=by
 have ha:=yl f 0;have hb:=yl f 1;obtain ⟨n,hn'⟩:=be ((cK f).num+1);rw[<-hn'] at hn ⊢
 have hnew:∀ (g:SF) (i:Nat) (b:Bool),n % 2=i->g i=some ⟨[eE (co n v)],b⟩->gw g i=(n,v):=by
  simp_all [Gp,EJ,gw,fC]
 have hnone:∀ (g:SF) (i:Nat),g i=none->(gw g i).1=0:=by
  simp_all [gw,fC]
 have hsec:∀ (i:Nat),n % 2=i->∀ (s':Option ef),js (ku f n v i) s'->s'=f i\/s'=none\/s'=some ⟨[eE (co n v)],true⟩:=by
  intro i hi s' hp;have e:ku f n v i=some (fI (f i) (co n v)):=by unfold ku iO;rw[hi,aab rfl]
  rw[e] at hp;rcases hp with ⟨_,h⟩|⟨u,hu,h⟩
  ·exact .inr (.inl h)
  unfold fI at hu;rcases aaj.1 hu with hu|hu
  ·cases hfi:f i with
   | none=>rw[hfi] at hu;simp at hu
   | some t=>
    rw[hfi] at hu;obtain ⟨h1,w,h2⟩:=hf _ t hfi;simp only[aa0,h2,aaz] at hu
    left
    rw[h,hu];obtain ⟨vs,sy⟩:=t;cases h1;cases h2
    rfl
  simp_all
 have hoth:∀ (i:Nat),n % 2≠i->ku f n v i=f i:=by
  intro i hi;unfold ku iO;rw[aaa qo]
 have hsy:∀ (i:Nat),n % 2=i->fN (ku f n v) i=some ⟨[eE (co n v)],true⟩:=by
  intro i hi;unfold fN ku iO;rw[hi,aab rfl];simp[iP,fI]
 rcases Nat.mod_two_eq_zero_or_one n with he|he
 ·obtain ⟨k1,k2⟩:=Gm (v:=v) ha hb hn' he;refine ⟨fun f' p=>?_,?_⟩
  ·have h1:f' ((1:Nat):Int)=f ((1:Nat):Int):=hf.pk1 (by have:=p ((1:Nat):Int);rwa [hoth 1 qo] at this);have e1:gw f' 1=gw f 1:=qv h1;unfold cK;rw[e1];rcases hsec 0 he _ (p ((0:Nat):Int)) with h|h|h
   all_goals grind [qv]
  grind [ro,cK,gw,fC]
 obtain ⟨k1,k2⟩:=Ho (v:=v) ha hb hn' he;refine ⟨fun f' p=>?_,?_⟩
 ·have h1:f' ((0:Nat):Int)=f ((0:Nat):Int):=hf.pk1 (by have:=p ((0:Nat):Int);rwa [hoth 0 qo] at this);have e1:gw f' 0=gw f 0:=qv h1;unfold cK;rw[e1];rcases hsec 1 he _ (p ((1:Nat):Int)) with h|h|h
  all_goals grind [qv]
 grind [ro,cK,gw,fC]
def yM{n:Nat}{D:Dk}(h:bO (n+1) D)(area:Nat)(hf:Fx (D.sec area)){S:bZ}(hS:cK (D.sec area)=S){v:List UInt8}(hv:eq v<=48)(hn:S.num+1<18446744073709551616):
  (∀ a,a≠((area:Nat):Int)->(S.save area D v).2.1.sec a=D.sec a) /\
  (((S.save area D v).2.2=0/\(S.save area D v).1=⟨S.num+1,v⟩/\bO n (S.save area D v).2.1/\Fx ((S.save area D v).2.1.sec area)/\cK ((S.save area D v).2.1.sec area)=⟨S.num+1,v⟩) \/
   ((S.save area D v).2.2=30/\(S.save area D v).2.1.dead=true/\∀ f',Pk ((S.save area D v).2.1.sec area) f'->cK f'=S\/cK f'=⟨S.num+1,v⟩)):=by
 subst hS;obtain ⟨w1,w2⟩:=Fi hf hv hn;have hw:=h.write area (((cK (D.sec area)).num+1) % 2:Nat) (co ((cK (D.sec area)).num+1) v) qo qo (by rw[nc hv];omega);unfold bZ.save;rw[aaa qo];have e:iO (D.sec area) (((cK (D.sec area)).num+1) % 2:Nat) (fI (D.sec area (((cK (D.sec area)).num+1) % 2:Nat)) (co ((cK (D.sec area)).num+1) v))=ku (D.sec area) ((cK (D.sec area)).num+1) v:=rfl;rw[e] at hw;generalize D.write area (((cK (D.sec area)).num+1) % 2:Nat) (co ((cK (D.sec area)).num+1) v)=W at hw;obtain ⟨hor,hat,hfr⟩:=hw;rcases hor with ⟨h0,hal⟩|⟨h0,hdead⟩
 ·rw[aab h0];rcases hal.sync area with ⟨s1,s2,s3,s4⟩|⟨s1,s2,s3⟩
  ·rw[aab s1];refine ⟨fun a ha=>by rw[s4 a ha,hfr a ha],.inl ⟨s1,I,s2,?_,?_⟩⟩
   all_goals simp_all [uE]
  simp_all
 simp_all
structure iB (f:SF) (data:List UInt8):Prop where
 fx:Fx f
 rd:∀ n:Nat,64*n<eq data->fC f n=some (eE ((data.drop (64*n)).take 64))
theorem zP{D:Dk}{place:Nat}{data:List UInt8}(o:iB (D.sec (bu place)) data):∀ (k n:Nat) (acc:List UInt8),acc=data.take (64*n)->eq acc=64*n->eq data<64*(n+k) ->
  ∃ d,mz D place (eq data) k n acc=some d/\d.take (eq data)=data
 | 0,n,acc,h1,h2,h3=>by
  rw[h1,aam] at h2;omega
 | k+1,n,acc,h1,h2,h3=>by
  rw[tH]
  by_cases hlt:eq acc<eq data
  ·rw[aab hlt,Cb,o.rd n qo];dsimp only;have hc:eq ((data.drop (64*n)).take 64)=min 64 (eq data-64*n):=by simp
   by_cases hfull:64*(n+1)<=eq data
   ·have hp:eE ((data.drop (64*n)).take 64)=(data.drop (64*n)).take 64:=by unfold eE;rw[hc,show 64-min 64 (eq data-64*n)=0 by omega];simp
    rw[hp];refine zP o k (n+1) _ ?_ (by rw[aah,hc];omega) qo
    grind
   have hall:acc++(data.drop (64*n)).take 64=data:=by
    grind [List.take_append_drop]
   cases k with
   | zero=>
    refine ⟨_,I,?_⟩
    grind [eE]
   | succ k=>
    rw[tH,aaa (by grind [eE])];refine ⟨_,I,?_⟩
    grind [eE]
  rw[aaa hlt]
  grind
end
section
def dI:Nat:=2305843009213693952
def Bp:bH+1000000<=dI:=by decide
def jH(S:bZ)(vot0:List Int)(sn:aX)(place fr:Nat):Prop:=
 (S.num=0/\sn=⟨0,0,vot0,[]⟩/\place=0/\fr=0) \/
 (S.num≠0/\S.val=Lg.say sn place fr/\sn.idx<=bH/\sn.term<=ac/\place<=bH/\eq sn.data<=2097152/\fr<=bH/\(bU sn.vot).isSome=true)
def EN{l:List Int}(h:(bU l).isSome=true):∃ c,bU l=some [c]:=by
 unfold bU at h ⊢
 simp_all
def Gc{D:Dk}{S:bZ}{vot0:List Int}{sn:aX}{place fr:Nat}(h:jH S vot0 sn place fr)(hd:S.num≠0->iB (D.sec (bu place)) sn.data):jk D S vot0=some (sn,place,fr):=by
 unfold jk;rcases h with ⟨h1,h2,h3,h4⟩|⟨h1,h2,h3,h4,h5,h6,h7,h8⟩
 ·rw[aab h1,h2,h3,h4]
 rw[aaa h1];obtain ⟨c,hc⟩:=EN h8;have hg:=ET hc;unfold bH at h3 h5 h7;unfold ac at h4
 have e1:la S.val=(sn.idx,(aI sn.term++(aI place++(aI (eq sn.data)++(aI fr++[c]))),0)):=by
  unfold la;rw[h2];unfold Lg.say;rw[hc];exact iU _ qo (by unfold bH;omega)
 have e2:kZ S.val=(sn.term,(aI place++(aI (eq sn.data)++(aI fr++[c])),0)):=by grind [iU,kZ,ac]
 have e3:oX S.val=(place,(aI (eq sn.data)++(aI fr++[c]),0)):=by grind [iU,oX,bH]
 have e4:mX S.val=(eq sn.data,(aI fr++[c],0)):=by grind [iU,mX]
 have e5:qm S.val=(fr,([c],0)):=by grind [iU,qm,bH]
 have e6:oV S.val=(c.toNat,([],0)):=by unfold oV;rw[e5];rfl
 have e7:UInt8.ofNat c.toNat=c:=by simp
 rw[e6,e4,e3,e2,e1,e5];dsimp only;rw[e7,hg,aaa (by rintro (h|h);exact h I;cases h)];obtain ⟨d,r1,r2⟩:=zP (hd h1) 32769 0 [] Nm rfl qo;rw[r1];dsimp only;rw[r2]
 rfl
def Fq{n t:Nat}{v:Int}(hn:n≠0)(ht:t<=ac)(hv : -1<=v/\v<=6):iy ⟨n,aI t++aI (v+1).toNat⟩=some (t,v):=by
 unfold ac at ht;unfold iy;rw[aaa hn];dsimp only;have e1:=iU (m:=ac) (n:=t) (aI (v+1).toNat) qo (by unfold ac;omega);have e2:=iU (m:=7) (n:=(v+1).toNat) [] qo qo;rw[aar] at e2;rw[e1];dsimp only;rw[e2];dsimp only;rw[aab (show jp (([]:List UInt8),0)=0 from rfl)]
 congr 2
 omega
theorem tR(pl:Nat):∀ (l:List Int) (D:Dk),bD 0 D->(D.areas.map (·.1)).Nodup ->
  (lgFree pl l D).2=0/\bD 0 (lgFree pl l D).1/\((lgFree pl l D).1.areas.map (·.1)).Nodup/\(∀ a,(a % 4≠2\/a=((bu pl:Nat):Int))->(lgFree pl l D).1.sec a=D.sec a/\(a∈(lgFree pl l D).1.areas.map (·.1)↔a∈D.areas.map (·.1))) /\
   ∀ a∈(lgFree pl l D).1.areas.map (·.1),a∈D.areas.map (·.1)
 | [],D,h,hk=>⟨rfl,h,hk,fun a _=>⟨rfl,Iff.rfl⟩,fun a ha=>ha⟩
 | b::r,D,h,hk=>by
  rw[qz]
  by_cases hb:b % 4=2/\b≠((bu pl:Nat):Int)
  ·rw[aab hb];have h1:=h.free b;have ha:bO 0 D:=⟨by rw[h.left];decide,h.dead,by have:=h.room;omega,hk⟩;rw[aaa qo];rcases ha.free b with ⟨_,g2,g3,g4⟩|⟨g1,_⟩
   ·obtain ⟨r1,r2,r3,r4,r5⟩:=tR pl r _ h1.2 g2.keys
    have hmk:(D.free b).1.areas=dv b D.areas:=by
     grind [Dk.free]
    refine ⟨r1,r2,r3,fun a hor=>?_,fun a ha=>?_⟩
    ·obtain ⟨k1,k2⟩:=r4 a hor
     have hne:a≠b:=by
      omega
     refine ⟨by rw[k1,g4 a hne],k2.trans ?_⟩;rw[hmk]
     constructor
     ·grind [kF]
     intro hm;have hx:=nk b a D.areas hk;rw[aaa hne] at hx;cases hy:a8 a D.areas with
     | none=>exact absurd hm (fQ.1 hy)
     | some v=>rw[hy] at hx;exact aap.2 ⟨_,f8 hx,I⟩
    grind [kF]
   omega
  rw[aaa hb];exact tR pl r D h hk
def gf(sn:aX)(l:List af):Prop:=cH sn.idx sn.term l=0/\∀ e∈l,ic e
def EG{e:af}(h:ic e):fL e.bytes=some e:=FF h.2.1 h.2.2 (yX h.1)
theorem yU:∀ (l:List af) (i t:Nat),cH i t l=0->(∀ e∈l,ic e)->i9 (i+1) (l.map af.bytes)=some l
 | [],_,_,_,_=>rfl
 | e::l,i,t,h,hg=>by
  obtain ⟨h1,_,h3⟩:=nI h;rw[aaq,uz,EG (hg e Nm)];dsimp only;have:=yU l e.idx e.term h3 (fun x hx=>hg x (by simp[hx]))
  simp_all
def LV(sn:aX):Vl->List af->Prop
 | none,l=>l=[]
 | some (f,r),l=>f<=sn.idx+1/\sn.idx+1<=f+eq r/\r.drop (sn.idx+1-f)=l.map af.bytes
def Ge{sn:aX}{W:Wl}{v:Vl}{l:List af}(hv:VW W v)(hn:v=none->W.first=sn.idx+1/\W.recs=[])(hl:LV sn v l)(hg:gf sn l):j2 sn W=some l:=by
 unfold j2;rcases hv with ⟨rfl,hold⟩|⟨hold,rfl⟩
 ·obtain ⟨h1,h2⟩:=hn rfl;have hl:l=[]:=hl
  simp_all [i9]
 obtain ⟨h1,h2,h3⟩:=hl;rw[aaa qo,h3];exact yU l _ _ hg.1 hg.2
def bz(op:Option Og):List Sg:=match op with
 | none=>[]
 | some o=>[⟨o.num,o.idx,o.recs⟩]
structure ct (vot0:List Int) (M:Nat) (L:Lg) (D:Dk) (S:List Sg) (op:Option Og):Prop where
 code:L.code=0
 wcode:L.w.code=0
 old:L.w.old=(S++bz op).map fun s=>(s.num,s.idx)
 seg:fK D S op
 opn:op=none->L.w.op=none
 ops:∀ o,op=some o->∃ q,L.w.op=some q/\q.num=o.num/\o.T=dM o.idx o.recs/\eq o.T=63*q.full+eq q.rest/\q.rest=o.T.drop (63*q.full)/\eq q.rest<=62/\q.full<=24
 lt:∀ s∈S++bz op,s.num<L.w.next
 frS:∀ s∈S++bz op,L.fr<=s.num
 frn:L.fr<=L.w.next
 next:L.w.next<=M
 ok:eU none ((S++bz op).map Sg.v)
 val:(S++bz op=[]/\L.w.recs=[]/\L.w.first=L.sn.idx+1/\L.l=[])\/∃ f r,dO none ((S++bz op).map Sg.v)=some (f,r)/\f<=L.w.first/\L.w.first<=L.sn.idx+1/\L.sn.idx+1<=f+eq r/\L.w.recs=r.drop (L.w.first-f)/\r.drop (L.sn.idx+1-f)=L.l.map af.bytes
 hardF:Fx (D.sec 0)
 hardS:cK (D.sec 0)=L.hard
 hardV:iy L.hard=some (L.kt,L.kv)
 headF:Fx (D.sec 4)
 headS:cK (D.sec 4)=L.head
 headV:jH L.head vot0 L.sn L.place L.fr
 dat:L.head.num≠0->iB (D.sec (bu L.place)) L.sn.data
 good:gf L.sn L.l
theorem tE:∀ (l:List (Nat×List bX)) (v:Vl),v≠none->dO v l≠none
 | [],v,h=>h
 | s::l,v,h=>tE l _ Nm
def d7(D:Dk)(fr M:Nat)(sn:aX)(Q:List af->Prop):Prop:=
 ∀ F,pa D F->0<=F.room->∃ S' W E l,dz F fr (sn.idx+1)=(some W,E,0)/\D9 W E S' fr M/\(S'=[]->W.first=sn.idx+1/\W.recs=[])/\bD 0 E/\(E.areas.map (·.1)).Nodup/\(∀ a,a % 4≠1->E.sec a=F.sec a)/\(∀ a∈E.areas.map (·.1),a∈F.areas.map (·.1)) /\
  Q l/\gf sn l/\LV sn (dO none (S'.map Sg.v)) l/\eU none (S'.map Sg.v)/\∀ s∈S',fr<=s.num
def d7.frame{D E:Dk}{fr M:Nat}{sn:aX}(h:d7 D fr M sn Q)(hs:∀ n,E.sec (aK n)=D.sec (aK n))(hk:∀ n,aK n∈E.areas.map (·.1)->aK n∈D.areas.map (·.1)):d7 E fr M sn Q:=
 fun F c hr=>h F ⟨c.left,c.dead,fun n=>by rw[<-hs];exact c.pk n,fun n hn=>hk n (c.keys n hn),c.nd,c.ne,c.pos⟩ hr
def d7.imp{D:Dk}{fr M:Nat}{sn:aX}{Q':List af->Prop}(h:d7 D fr M sn Q)(hq:∀ l,Q l->Q' l):d7 D fr M sn Q':=fun F c hr=>by
 obtain ⟨S',W,E,l,h1,h2,h3,h4,h5,h6,h7,h8,h9⟩:=h F c hr
 grind
def dw(S:List Sg)(op:Option Og)(sn:aX)(Q:List af->Prop):Prop:=∀ t,kN op t->eU none (S.map Sg.v++t.toList)/\∃ l,Q l/\gf sn l/\LV sn (dO none (S.map Sg.v++t.toList)) l
def Dd{S:List Sg}{op:Option Og}{t:Option (Nat×List bX)}(h:kN op t):(S++iF op t).map Sg.v=S.map Sg.v++t.toList:=by
 cases op with
 | none=>
  have:t=none:=h;subst this;simp[iF]
 | some o=>cases t with
  | none=>simp[iF]
  | some x=>simp[iF,Sg.v]
def yg{D:Dk}{S:List Sg}{op:Option Og}(d:fK D S op){sn:aX}{fr M:Nat}(hidx:sn.idx<=dI)(hM:M<=cG)(hfM:fr<=M)(hS:∀ s∈S,fr<=s.num/\s.num<M)(ho:∀ o,op=some o->fr<=o.num/\o.num<M)(hp:dw S op sn Q):d7 D fr M sn Q:=by
 intro F c hr;obtain ⟨S',W,E,w1,w2,w3,w4,w5,w6,w7,w8⟩:=EI d c hr (fr:=fr) (first:=sn.idx+1) (M:=M) (by unfold dI at hidx;unfold bn;omega) hM hfM (fun s hs=>(hS s hs).2) (fun o h=>(ho o h).2) (.inl ⟨fun s hs=>(hS s hs).1,fun o h=>(ho o h).1,fun t ht=>(hp t ht).1⟩);rcases w1 with ⟨t,ht,rfl,_,_⟩|⟨rfl,h1,h2⟩
 ·obtain ⟨k1,l,k2,k3,k4⟩:=hp t ht;refine ⟨_,W,E,l,w2,w3,w4,w5,w6,w7,w8,k2,k3,by rw[Dd ht];exact k4,by rw[Dd ht];exact k1,fun s hs=>?_⟩;rcases aaj.1 hs with hs|hs
  all_goals grind [AV]
 have hSn:S=[]:=by
  rw[List.eq_nil_iff_forall_not_mem]
  grind
 have hop:op=none:=by
  cases op with
  | none=>rfl
  | some o=>
   grind
 subst hSn;subst hop;obtain ⟨_,l,k2,k3,k4⟩:=hp none rfl
 grind
def xL{D:Dk}{sn:aX}{fr M:Nat}(hidx:sn.idx<=dI)(hM:M<=cG)(hfM:fr<=M)(hk:∀ n,aK n∈D.areas.map (·.1)->n<fr)(hQ:Q []):d7 D fr M sn Q:=by
 intro F c hr;have hliv:bD 0 F:=⟨c.left,c.dead,qo⟩
 have hlt:∀ n∈ca (aU F),n<fr:=fun n hn=>by
  rw[lZ c.pos] at hn;exact hk n (c.keys n hn)
 have hnd:=pd ((dJ _).symm.nodup c.nd) (fun k hk=>c.pos k ((dJ _).mem_iff.1 hk));have hnx:=zy hlt
 have hlow:fG fr ((ca (aU F)).map fun n=>((n,none):Nat×Option (Nat×List bX)))=[]:=by
  refine yn ?_
  simp_all
 obtain ⟨W,g,r1,r2,r3,r4,r5,r6,r7,r8⟩:=qF (D:=F) (fr:=fr) ((ca (aU F)).map fun n=>(n,none)) (dD fr (sn.idx+1) (aU F)) none [] (fun x hx h=>by
  grind) (.inl ⟨rfl,rfl⟩) (by unfold dI at hidx;simp[dD];unfold bn;omega) (by rw[hlow];trivial)
 rw[hlow] at r2 r3 r7;have e:((ca (aU F)).map fun n=>((n,none):Nat×Option (Nat×List bX))).map (·.1)=ca (aU F):=by rw[aa3];exact List.map_id _
 rw[e] at r1;obtain ⟨s1,s2,s3,s4,s5,s6⟩:=tB g (ca (aU F)) F 0 hnd hliv c.nd;have hnw:(dD fr (sn.idx+1) (aU F)).next<=M:=by simp_all [dD]
 have hg:∀ n∈ca (aU F),n∈g:=fun n hn=>(r8 n).2 (.inr ⟨(n,none),aap.2 ⟨n,hn,rfl⟩,rfl,.inr rfl⟩);refine ⟨[],W,(wsettle g (ca (aU F)) F).1,[],?_,⟨r4,r6,by rw[r3];rfl,Nm,by simp_all [dD],by rw[r5];exact hnw,?_,r2⟩,fun _=>r7 I,s2,s3,fun a ha=>s5 a (fun n _ e=>ha (by rw[e];unfold aK;omega)),fun a ha=>(s6 a ha).1,hQ,⟨rfl,Nm⟩,rfl,trivial,Nm⟩
 ·unfold dz;rw[aaa (by rw[c.dead];decide),aaa (by unfold dI at hidx;unfold bn;omega),aaa qo,r1,aaa Nm,aaa (by rw[s1];simp)]
 refine ⟨fun a ha h1=>?_,List.Pairwise.nil,Nm,Nm,fun o h=>by cases h⟩
 exfalso
 obtain ⟨k1,k2⟩:=s6 a ha;have ha0:=c.pos a k1;have hseg:a=aK (a.toNat / 4):=by unfold aK;omega
 have hin:a.toNat / 4∈ca (aU F):=by rw[lZ c.pos,<-hseg];exact k1
 exact k2 _ hin (hg _ hin) hseg
def ER{D D':Dk}(c:Cr D D')(hr:0<=D'.room){vot0:List Int}(hv:(bU vot0).isSome=true){kh:Nat×Int}(hh:iy (cK (D'.sec 0))=some kh){sn:aX}{place fr M:Nat}
  (hE:jH (cK (D'.sec 4)) vot0 sn place fr) (hdat:(cK (D'.sec 4)).num≠0->iB (D'.sec (bu place)) sn.data) {Q:List af->Prop} (hw:d7 D fr M sn Q):
  ∃ L E S',fA D' vot0=(some L,E,0)/\L.sn=sn/\(L.kt,L.kv)=kh/\Q L.l/\ct vot0 M L E S' none/\bD 0 E/\(E.areas.map (·.1)).Nodup/\L.hard=cK (D'.sec 0)/\L.head=cK (D'.sec 4)/\L.place=place:=by
 obtain ⟨f1,f2,f3,f4,f5⟩:=tR place (aU D') D' (c.liv hr) c.nd;obtain ⟨F,hF⟩:=be ((lgFree place (aU D') D').1);rw[<-hF] at f2 f3 f4 f5;have hseg4:∀ n,aK n % 4≠2\/aK n=((bu place:Nat):Int):=fun n=>.inl (by simp[aK]);have cF:pa D F:=⟨f2.left,f2.dead,fun n=>by rw[(f4 _ (hseg4 n)).1];exact c.pk _,fun n h=>c.keys _ (f5 _ h),f3,fun n=>by rw[(f4 _ (hseg4 n)).2,(f4 _ (hseg4 n)).1];exact c.ne _,fun k hk=>c.pos k (f5 k hk)⟩;have hroom:0<=F.room:=by have:=f2.room;omega
 obtain ⟨S',W,E,l,w2,w3,w4,w5,w6,w7,w8,hQ,hG,hL,hok,hfrS⟩:=hw F cF hroom
 have hnil:dO none (S'.map Sg.v)=none->S'=[]:=by
  intro h;cases S' with
  | nil=>rfl
  | cons s q=>exact absurd h (tE (q.map Sg.v) (some (dK none s.v)) (fun e=>by cases e))
 have hrd:=Ge w3.vw (fun h=>w4 (hnil h)) hL hG;have hdead:¬D'.dead=true:=by rw[c.dead];decide
 have hopen:fA D' vot0=(some ⟨W,gF D' 0,gF D' 4,kh.1,kh.2,sn,place,fr,l,0⟩,E,0):=by
  unfold fA;rw[aaa (by rw[hv];decide),aaa hdead];rw[show iy (gF D' 0)=some kh from hh];dsimp only;rw[Gc (S:=gF D' 4) hE hdat]
  simp_all [rN,rM]
 have e0:E.sec 0=D'.sec 0:=by simp_all
 have e4:E.sec 4=D'.sec 4:=by simp_all
 have ep:E.sec (bu place)=D'.sec (bu place):=by rw[w7 _ (by simp[bu]),(f4 _ (.inr rfl)).1]
 refine ⟨_,E,S',hopen,I,I,hQ,?_,w5,w6,I,I,I⟩
 exact {
  code:=rfl
  wcode:=w3.code
  old:=by rw[show bz none=[] from rfl,aar];exact w3.old
  seg:=w3.seg
  opn:=fun _=>w3.op
  ops:=fun o h=>by cases h
  lt:=by rw[show bz none=[] from rfl,aar];exact w3.lt
  frS:=by rw[show bz none=[] from rfl,aar];exact hfrS
  frn:=w3.frn
  next:=w3.next
  ok:=by rw[show bz none=[] from rfl,aar];exact hok
  val:=by
   rw[show bz none=[] from rfl,aar];rcases w3.vw with ⟨h1,h2⟩|⟨h1,h2⟩
   ·have hS:=hnil h1;obtain ⟨g1,g2⟩:=w4 hS;rw[h1] at hL;exact .inl ⟨hS,g2,g1,hL⟩
   rw[h2] at hL;obtain ⟨g1,g2,g3⟩:=hL
   grind
  hardF:=by rw[e0];exact (c.pk 0).fx
  hardS:=by rw[e0];rfl
  hardV:=hh
  headF:=by rw[e4];exact (c.pk 4).fx
  headS:=by rw[e4];rfl
  headV:=hE
  dat:=fun h=>by rw[ep];exact hdat h
  good:=hG }
end
section
def fK.frame{D E:Dk}{S:List Sg}{op:Option Og}(d:fK D S op)(hs:∀ n,E.sec (aK n)=D.sec (aK n))(hk:∀ a∈E.areas.map (·.1),a % 4=1->a∈D.areas.map (·.1)):fK E S op:=
 ⟨fun a ha h1=>d.keys a (hk a ha h1) h1,d.asc,d.bd,fun s h=>by rw[hs];exact d.cl s h,fun o h=>by
  obtain ⟨h1,h2,h3,h4,h5⟩:=d.op o h
  simp_all⟩
structure WI (W:Wl) (D:Dk) (S:List Sg) (op:Option Og):Prop where
 code:W.code=0
 seg:fK D S op
 opn:op=none->W.op=none
 ops:∀ o,op=some o->∃ q,W.op=some q/\q.num=o.num/\o.T=dM o.idx o.recs/\eq o.T=63*q.full+eq q.rest/\q.rest=o.T.drop (63*q.full)/\eq q.rest<=62/\q.full<=24
 lt:∀ s∈S++bz op,s.num<W.next
def Og.lasts(o:Og):Og:={ o with t0:=eq o.T }
def mQ(D E:Dk):Prop:=E.dead=true/\(∀ a,E.sec a=D.sec a)/\∀ a∈E.areas.map (·.1),a∈D.areas.map (·.1)
def FY(D:Dk)(a:Int):∀ k∈(D.sync a).1.areas.map (·.1),k∈D.areas.map (·.1):=fun k hk=>by
 rcases (Rw.sync a (Rw.refl [] D)).keys k hk with h|h
 ·exact h
 simp at h
def yA{W:Wl}{D:Dk}{S:List Sg}{op:Option Og}{n:Nat}(w:WI W D S op)(h:bO n D):
  ((W.sync D).1=W/\bO n (W.sync D).2/\WI W (W.sync D).2 S (op.map Og.lasts)/\fK (W.sync D).2 (S++bz op) none/\(∀ a,a % 4≠1->(W.sync D).2.sec a=D.sec a)/\∀ a∈(W.sync D).2.areas.map (·.1),a∈D.areas.map (·.1)) \/
   ((W.sync D).1.code=30/\mQ D (W.sync D).2):=by
 unfold Wl.sync;rw[aaa (by rw[w.code];simp)];cases hop:op with
 | none=>
  rw[w.opn hop];dsimp only;subst hop;exact .inl ⟨I,h,w,by rw[show bz none=[] from rfl,aar];exact w.seg,fun _ _=>I,fun _ h=>h⟩
 | some o=>
  subst hop;obtain ⟨q,q1,q2,q3,q4,q5,q6,q7⟩:=w.ops o rfl;obtain ⟨d1,d2,d3,d4,d5,d6⟩:=w.seg.op o rfl;rw[q1];dsimp only;have hk:=FY D (aK q.num);have hkd:∀ a∈(D.sync (aK q.num)).1.areas.map (·.1),a % 4=1->(∃ s∈S,a=aK s.num)\/∃ o',some o=some o'/\a=aK o'.num:=fun a ha h1=>w.seg.keys a (hk a ha) h1;rcases h.sync (aK q.num) with ⟨s1,s2,s3,s4⟩|⟨s1,s2,s3⟩
  ·left
   have hcl:∀ s∈S,(D.sync (aK q.num)).1.sec (aK s.num)=D.sec (aK s.num):=fun s hs=>s4 _ (pO (by have:=d1 s hs;omega));have hsy:(D.sync (aK q.num)).1.sec (aK o.num)=fN (D.sec (aK o.num)):=by rw[<-q2,s3]
   refine ⟨by rw[s1,<-w.code,<-q1],s2,⟨w.code,⟨?_,w.seg.asc,w.seg.bd,fun s hs=>(by rw[hcl s hs];exact w.seg.cl s hs),?_⟩,fun h=>(by cases h),?_,?_⟩,⟨?_,?_,?_,?_,fun o h=>(by cases h)⟩,fun a ha=>s4 a (fun e=>ha (by rw[e];simp[aK])),hk⟩
   ·intro a ha h1;rcases hkd a ha h1 with h2|⟨o',h2,h3⟩
    ·exact .inl h2
    cases h2;exact .inr ⟨_,I,h3⟩
   ·intro o' ho';cases ho';exact ⟨d1,d2,d3,by show fO _ o.T (eq o.T);rw[show o.lasts.num=o.num from rfl,hsy];exact d4.syn,d5,d6⟩
   ·intro o' ho';cases ho';exact ⟨q,q1,q2,q3,q4,q5,q6,q7⟩
   ·exact w.lt
   ·intro a ha h1;rcases hkd a ha h1 with ⟨s,hs,e⟩|⟨o',h2,h3⟩
    ·grind
    cases h2;exact .inl ⟨⟨o.num,o.idx,o.recs⟩,aaj.2 (.inr (by simp[bz])),h3⟩
   ·rw[ab3];exact ⟨w.seg.asc,by simp[bz],fun a ha b hb=>by grind [bz]⟩
   ·intro s hs;rcases aaj.1 hs with hs|hs
    ·exact w.seg.bd s hs
    grind [bz]
   intro s hs;rcases aaj.1 hs with hs|hs
   ·rw[hcl s hs];exact w.seg.cl s hs
   simp only[bz,aaz] at hs;rw[hs];dsimp only;rw[hsy];have:=d4.closed d6;rw[q3] at this;exact this.segC d2 d3
  exact .inr ⟨s1,s2,s3,hk⟩
def AK{q:fq}{D:Dk}{S:List Sg}{o:Og}{n:Nat}(d:fK D S (some o))(hq:q.num=o.num)(hTt:eq o.T=63*q.full+eq q.rest)(hr:q.rest=o.T.drop (63*q.full))(hr62:eq q.rest<=62)(hf:q.full<=15){b:List UInt8}(hb:0<eq b/\eq b<=522){recs':List bX}
  (hrec:∀ r∈recs',eq r<=512) (hTb:o.T++b=dM o.idx recs') (h:bO (n+10) D):
  (∀ a,a % 4≠1->(wrO q b D).2.1.sec a=D.sec a)/\(((wrO q b D).2.2=0/\bO n (wrO q b D).2.1/\fK (wrO q b D).2.1 S (some { o with recs:=recs',T:=dM o.idx recs' })/\(wrO q b D).1.num=q.num /\
    eq (dM o.idx recs')=63*(wrO q b D).1.full+eq (wrO q b D).1.rest/\(wrO q b D).1.rest=(dM o.idx recs').drop (63*(wrO q b D).1.full)/\eq (wrO q b D).1.rest<=62/\(wrO q b D).1.full<=24) \/
   ((wrO q b D).2.2=30/\(wrO q b D).2.1.dead=true/\∃ T1,o.T <+: T1/\T1 <+: dM o.idx recs'/\fK (wrO q b D).2.1 S (some { o with recs:=recs',T:=T1 }))):=by
 obtain ⟨d1,d2,d3,d4,d5,d6⟩:=d.op o rfl;have hl:eq (q.rest++b)=eq q.rest+eq b:=aah;have hwr:=AL (eq q.rest+eq b+1) { q with rest:=q.rest++b } D n o.T o.t0 (by dsimp only;rw[hl];exact h.mono qo) (by dsimp only;rw[hl];omega) (by dsimp only;rw[hl];omega) aH (by dsimp only;rw[hq];exact d4) aH aH (by dsimp only;rw[<-hr];exact List.prefix_append _ _);have hnum:=pN q b D;have hkeys:=(vp q b D).keys;obtain ⟨T1,r1,r2,r3,r4,r5,r6⟩:=hwr;have e:wrL (eq q.rest+eq b+1) { q with rest:=q.rest++b } D=wrO q b D:=rfl;rw[e] at r1 r2 r5 r6;dsimp only at r1 r2 r4 r5 r6;have hU:o.T.take (63*q.full)++(q.rest++b)=dM o.idx recs':=by grind [List.take_append_drop]
 rw[hU] at r4 r6;rw[hq] at r1
 have hds:∀ T2,T2=T1->fK (wrO q b D).2.1 S (some { o with recs:=recs',T:=T2 }):=by
  intro T2 e2;subst e2;refine ⟨fun a ha h1=>?_,d.asc,d.bd,fun s hs=>?_,fun o' ho'=>?_⟩
  ·rcases hkeys a ha with h2|h2
   ·rcases d.keys a h2 h1 with h3|⟨o',h3,h4⟩
    all_goals grind
   grind
  ·rw[r2 _ (pO (by have:=d1 s hs;omega))];exact d.cl s hs
  grind
 refine ⟨fun a ha=>r2 a (fun e=>ha (by rw[e];simp[aK])),?_⟩;rcases r5 with ⟨g1,g2⟩|⟨g1,g2⟩
 all_goals grind
def GU{W:Wl}{D:Dk}{S:List Sg}{op:Option Og}{n:Nat}(w:WI W D S op)(h:bO (n+10) D){i:Nat}(hi:i<=bn):
  (∀ a,a % 4≠1->(W.begin i D).2.sec a=D.sec a) /\
  ((∃ q,q.full<=1/\(W.begin i D).1={ W with op:=some q,next:=W.next+1,old:=W.old++[(W.next,i)] }/\bO n (W.begin i D).2/\WI (W.begin i D).1 (W.begin i D).2 (S++bz op) (some ⟨W.next,i,[],dM i [],0⟩)) \/
   ((W.begin i D).1.code=30/\mQ D (W.begin i D).2) \/
   ((W.begin i D).1.code=30/\(W.begin i D).2.dead=true/\∃ T1,T1 <+: dM i []/\fK (W.begin i D).2 (S++bz op) (some ⟨W.next,i,[],T1,0⟩))):=by
 have hi2:i<18446744073709551616:=by unfold bn at hi;omega
 unfold Wl.begin;rcases yA w h with ⟨s1,s2,s3,s4,s5,s6⟩|⟨s1,s2⟩
 ·rw[s1,aaa (by rw[w.code];simp)];generalize hE:(W.sync D).2=E at s2 s3 s4 s5 s6
  have hnk:aK W.next∉E.areas.map (·.1):=by
   intro hin;rcases s4.keys _ hin (by simp[aK]) with ⟨s,hs,e⟩|⟨o,ho,_⟩
   ·have:=w.lt s hs;have:=kE e;omega
   cases ho
  have hns:∀ k,E.sec (aK W.next) k=none:=by
   grind [fQ,Dk.sec,Dk.ar]
  have d0:fK E (S++bz op) (some ⟨W.next,i,[],[],0⟩):=⟨fun a ha h1=>(by
    rcases s4.keys a ha h1 with h2|⟨o,ho,_⟩
    ·exact .inl h2
    ·cases ho),s4.asc,s4.bd,s4.cl,fun o ho=>(by
    cases ho;exact ⟨fun s hs=>w.lt s hs,hi,Nm,⟨aac _,fun n hn=>by simp at hn,fun n _=>hns _,fun n _=>hns _⟩,List.nil_prefix,Nm⟩)⟩
  have hu:=pG i;have hu2:=dH hi2;obtain ⟨r1,r2⟩:=AK (q:=⟨W.next,i,0,[]⟩) (n:=n) d0 rfl rfl rfl Nm Nm (b:=aI i) ⟨hu,qo⟩ (recs':=[]) Nm (by simp[dM,iQ]) s2;refine ⟨fun a ha=>by dsimp only;rw[r1 a ha,s5 a ha],?_⟩;rcases r2 with ⟨g1,g2,g3,g4,g5,g6,g7,g8⟩|⟨g1,g2,T1,g3,g4,g5⟩
  ·left
   have hf1:=(pN ⟨W.next,i,0,[]⟩ (aI i) E).2.2;dsimp only[List.length_nil] at hf1;refine ⟨(wrO ⟨W.next,i,0,[]⟩ (aI i) E).1,qo,?_,g2,?_⟩
   ·dsimp only;rw[g1,<-w.code]
   refine ⟨g1,g3,fun h=>(by cases h),fun o ho=>?_,fun s hs=>?_⟩
   ·grind
   dsimp only;rcases aaj.1 hs with hs|hs
   ·have:=w.lt s hs;omega
   grind [bz]
  grind
 rw[aab (by rw[s1];simp)];exact ⟨fun a _=>s2.2.1 a,.inr (.inl ⟨s1,s2⟩)⟩
def GZ{W:Wl}{D:Dk}{S:List Sg}{o:Og}{n:Nat}(w:WI W D S (some o)){q:fq}(hq:W.op=some q)(hf:q.full<=15)(h:bO (n+10) D){b:List UInt8}(hb:eq b<=512):
  (∀ a,a % 4≠1->(dl W b D).2.1.sec a=D.sec a) /\
  (((dl W b D).2.2=0/\(∃ q',(dl W b D).1={ W with op:=some q',recs:=W.recs++[b] })/\bO n (dl W b D).2.1/\WI (dl W b D).1 (dl W b D).2.1 S (some { o with recs:=o.recs++[b],T:=dM o.idx (o.recs++[b]) })) \/
   ((dl W b D).2.2=30/\(dl W b D).1.code=30/\(dl W b D).2.1.dead=true/\∃ T1,o.T <+: T1/\fK (dl W b D).2.1 S (some { o with recs:=o.recs++[b],T:=T1 }))):=by
 obtain ⟨q',q1,q2,q3,q4,q5,q6,q7⟩:=w.ops o rfl;obtain rfl:q'=q:=by grind
 have hp:=ph hb
 have hTb:o.T++cm b=dM o.idx (o.recs++[b]):=by
  grind [dM,iQ]
 obtain ⟨d1,d2,d3,d4⟩:=w.seg.op o rfl
 obtain ⟨r1,r2⟩:=AK (q:=q') (n:=n) w.seg q2 q4 q5 q6 hf (b:=cm b) hp (recs':=o.recs++[b]) (fun r hr=>by
  grind) hTb h
 unfold dl;rw[hq];dsimp only;refine ⟨r1,?_⟩;rcases r2 with ⟨g1,g2,g3,g4,g5,g6,g7,g8⟩|⟨g1,g2,T1,g3,g4,g5⟩
 ·refine .inl ⟨g1,⟨_,by rw[aab g1,g1,<-w.code]⟩,g2,⟨g1,g3,fun h=>(by cases h),fun o' ho'=>?_,fun s hs=>?_⟩⟩
  ·grind
  rcases aaj.1 hs with hs|hs
  ·exact w.lt s<|aaj.2 (.inl hs)
  simp only[bz,aaz] at hs;rw[hs];exact w.lt ⟨o.num,o.idx,o.recs⟩ (by simp[bz])
 exact .inr ⟨g1,g1,g2,T1,g3,g5⟩
end
section
def Vk(first:Nat)(recs:List bX)(sn:aX)(l:List af):Vl->Prop
 | none=>recs=[]/\first=sn.idx+1/\l=[]
 | some (f,r)=>f<=first/\first<=sn.idx+1/\sn.idx+1<=f+eq r/\recs=r.drop (first-f)/\r.drop (sn.idx+1-f)=l.map af.bytes
def Vk.fin{first:Nat}{recs:List bX}{sn:aX}{l:List af}{v:Vl}(h:Vk first recs sn l v):first+eq recs=sn.idx+1+eq l/\first<=sn.idx+1:=by
 cases v with
 | none=>obtain ⟨h1,h2,h3⟩:=h;simp_all
 | some x=>
  obtain ⟨f,r⟩:=x;obtain ⟨h1,h2,h3,h4,h5⟩:=h;have h6:=congrArg List.length h5
  grind
def Vk.endV{first:Nat}{recs:List bX}{sn:aX}{l:List af}{x:Nat×List bX}(h:Vk first recs sn l (some x)):x.1+eq x.2=sn.idx+1+eq l:=by
 obtain ⟨f,r⟩:=x;obtain ⟨h1,h2,h3,h4,h5⟩:=h;have h6:=congrArg List.length h5
 grind
def Vk.lv{first:Nat}{recs:List bX}{sn:aX}{l:List af}{v:Vl}(h:Vk first recs sn l v):LV sn v l:=by
 cases v with
 | none=>exact h.2.2
 | some x=>
  obtain ⟨f,r⟩:=x;obtain ⟨h1,h2,h3,h4,h5⟩:=h;exact ⟨qo,h3,h5⟩
def Vk.cut{first:Nat}{recs:List bX}{sn:aX}{l:List af}{v:Vl}(h:Vk first recs sn l v){i:Nat}(h1:sn.idx+1<=i)(h2:i<=first+eq recs):
  gB v i/\Vk first (recs.take (i-first)) sn (l.take (i-(sn.idx+1))) (some (dK v (i,[]))):=by
 have hf:=h.fin;cases v with
 | none=>
  obtain ⟨g1,g2,g3⟩:=h;subst g1 g2 g3;simp only[aaT] at h2;obtain rfl:i=sn.idx+1:=qo
  exact ⟨trivial,aac _,aac _,Nm,by simp[dK],by simp[dK]⟩
 | some x=>
  obtain ⟨f,r⟩:=x;obtain ⟨g1,g2,g3,g4,g5⟩:=h;have h6:=congrArg List.length g5;rw[aak,aaO] at h6;unfold dK gB;dsimp only;rw[aaa qo,aar];refine ⟨qo,g1,g2,by rw[aam];omega,?_,?_⟩
  all_goals grind [List.drop_take,List.map_take]
def Fg(v:Vl)(i:Nat)(rs:List bX)(b:bX):dK v (i,rs++[b])=((dK v (i,rs)).1,(dK v (i,rs)).2++[b]):=by
 cases v with
 | none=>rfl
 | some x=>
  grind [dK]
def Vk.snoc{first:Nat}{recs:List bX}{sn:aX}{l:List af}{v:Vl}{i:Nat}{rs:List bX}(h:Vk first recs sn l (some (dK v (i,rs))))(e:af):
  Vk first (recs++[e.bytes]) sn (l++[e]) (some (dK v (i,rs++[e.bytes]))):=by
 rw[Fg];generalize dK v (i,rs)=x at h;obtain ⟨f,r⟩:=x;obtain ⟨g1,g2,g3,g4,g5⟩:=h;dsimp only;refine ⟨g1,g2,by rw[aah];omega,?_,?_⟩
 all_goals grind
theorem Av:∀ (a b:List af) (i t:Nat),cH i t (a++b)=0->cH i t a=0
 | [],_,_,_,_=>rfl
 | e::a,b,i,t,h=>by
  obtain ⟨h1,h2,h3⟩:=nI h;unfold cH;rw[aaa qo];exact Av a b _ _ h3
theorem gf.take{sn:aX}{l:List af}(h:gf sn l)(k:Nat):gf sn (l.take k):=
 ⟨Av (l.take k) (l.drop k) _ _ (by rw[aaA];exact h.1),fun e he=>h.2 e (aaW he)⟩
def dw.mono{S:List Sg}{op:Option Og}{sn:aX}{Q':List af->Prop}(h:dw S op sn Q)(hq:∀ l,Q l->Q' l):dw S op sn Q':=fun t ht=>by
 obtain ⟨h1,l,h2,h3⟩:=h t ht;exact ⟨h1,l,hq l h2,h3⟩
def Gl{S:List Sg}{sn:aX}{l:List af}{first:Nat}{recs:List bX}(ok:eU none (S.map Sg.v))(vk:Vk first recs sn l (dO none (S.map Sg.v)))(g:gf sn l)(hq:Q l){i:Nat}(h1:sn.idx+1<=i)(h2:i<=first+eq recs)(h3:i<=bn)
  (hq2:Q (l.take (i-(sn.idx+1)))) (num:Nat) (T:List UInt8):dw S (some ⟨num,i,[],T,0⟩) sn Q/\eU none (S.map Sg.v++[(i,[])])/\Vk first (recs.take (i-first)) sn (l.take (i-(sn.idx+1))) (dO none (S.map Sg.v++[(i,[])])):=by
 obtain ⟨k1,k2⟩:=vk.cut h1 h2
 have ok2:eU none (S.map Sg.v++[(i,[])]):=by
  rw[uN];exact ⟨ok,k1,qo,trivial⟩
 have vk2:Vk first (recs.take (i-first)) sn (l.take (i-(sn.idx+1))) (dO none (S.map Sg.v++[(i,[])])):=by
  rw[qH];exact k2
 refine ⟨fun t ht=>?_,ok2,vk2⟩;cases t with
 | none=>
  rw[Option.toList_none,aar];exact ⟨ok,l,hq,g,vk.lv⟩
 | some t=>
  obtain ⟨i',rs⟩:=t;obtain ⟨e1,j,e2,e3,e4⟩:=ht;dsimp only at e1 e2 e3;rw[List.take_nil] at e3;subst e1 e3;exact ⟨ok2,_,hq2,g.take _,vk2.lv⟩
def IQ{S:List Sg}{o:Og}{sn:aX}(h:dw S (some o) sn Q){b:bX}{l:List af}(ok:eU none (S.map Sg.v++[(o.idx,o.recs++[b])]))(hq:Q l)(g:gf sn l)(lv:LV sn (dO none (S.map Sg.v++[(o.idx,o.recs++[b])])) l)(T:List UInt8):
  dw S (some { o with recs:=o.recs++[b],T:=T }) sn Q:=by
 intro t ht;cases t with
 | none=>exact h none ht
 | some t=>
  obtain ⟨i',rs⟩:=t;obtain ⟨e1,j,e2,e3,e4⟩:=ht;dsimp only at e1 e2 e3 e4;subst e1 e3;rw[aah,abv] at e2;rcases aaL (eq o.recs) j with hj|hj
  ·grind
  rw[abu hj];refine h (some (o.idx,o.recs.take j)) ⟨I,j,hj,I,fun k hk1 hk2=>(e4 k (by rw[aah];omega) ?_)⟩
  grind
def ct.wi{vot0:List Int}{M:Nat}{L:Lg}{D:Dk}{S:List Sg}{op:Option Og}(o:ct vot0 M L D S op):WI L.w D S op:=⟨o.wcode,o.seg,o.opn,o.ops,o.lt⟩
def ct.vk{vot0:List Int}{M:Nat}{L:Lg}{D:Dk}{S:List Sg}{op:Option Og}(o:ct vot0 M L D S op):Vk L.w.first L.w.recs L.sn L.l (dO none ((S++bz op).map Sg.v)):=by
 rcases o.val with ⟨h1,h2,h3,h4⟩|⟨f,r,h1,h2⟩
 ·rw[h1];exact ⟨h2,h3,h4⟩
 rw[h1];exact h2
def ct.chg{vot0:List Int}{M M':Nat}{L:Lg}{D E:Dk}{S S':List Sg}{op op':Option Og}(o:ct vot0 M L D S op){W:Wl}{l:List af}(w:WI W E S' op')(hold:W.old=(S'++bz op').map fun s=>(s.num,s.idx))(hs:∀ a,a % 4≠1->E.sec a=D.sec a)
  (hfr:∀ s∈S'++bz op',L.fr<=s.num) (hn1:L.fr<=W.next) (hn2:W.next<=M') (ok:eU none ((S'++bz op').map Sg.v)) (vk:Vk W.first W.recs L.sn l (dO none ((S'++bz op').map Sg.v))) (g:gf L.sn l):ct vot0 M' { L with w:=W,l:=l } E S' op' where
 code:=o.code
 wcode:=w.code
 old:=hold
 seg:=w.seg
 opn:=w.opn
 ops:=w.ops
 lt:=w.lt
 frS:=hfr
 frn:=hn1
 next:=hn2
 ok:=ok
 val:=by
  cases hv:dO none ((S'++bz op').map Sg.v) with
  | none=>
   rw[hv] at vk;refine .inl ⟨?_,vk.1,vk.2.1,vk.2.2⟩;cases hx:S'++bz op' with
   | nil=>rfl
   | cons a q=>rw[hx,aaq] at hv;exact absurd hv (tE (q.map Sg.v) (some (dK none a.v)) (fun e=>by cases e))
  | some x=>
   rw[hv] at vk;exact .inr ⟨x.1,x.2,I,vk⟩
 hardF:=by rw[hs 0 Nn];exact o.hardF
 hardS:=by rw[hs 0 Nn];exact o.hardS
 hardV:=o.hardV
 headF:=by rw[hs 4 Nn];exact o.headF
 headS:=by rw[hs 4 Nn];exact o.headS
 headV:=o.headV
 dat:=by rw[hs _ (by simp[bu])];exact o.dat
 good:=g
def ct.found{vot0:List Int}{M M':Nat}{L:Lg}{D E:Dk}{S S':List Sg}{op op':Option Og}(o:ct vot0 M L D S op)(hM:M<=M')(hM':M'<=cG)(hidx:L.sn.idx<=dI)(d:fK E S' op')(hS:∀ s∈S',L.fr<=s.num/\s.num<M')(ho:∀ q,op'=some q->L.fr<=q.num/\q.num<M')(p:dw S' op' L.sn Q):d7 E L.fr M' L.sn Q:=
 yg d hidx hM' (by have:=o.frn;have:=o.next;omega) hS ho p
def ct.foundS{vot0:List Int}{M M':Nat}{L:Lg}{D E:Dk}{S:List Sg}{op:Option Og}(o:ct vot0 M L D S op)(hM:M<=M')(hM':M'<=cG)(hidx:L.sn.idx<=dI)(p:dw S op L.sn Q)(d:fK E S op):d7 E L.fr M' L.sn Q:=by
 refine o.found hM hM' hidx d (fun s hs=>?_) (fun q hq=>?_) p
 ·have h1:=o.frS s (aaj.2 (.inl hs));have h2:=o.lt s (aaj.2 (.inl hs));have:=o.next;omega
 subst hq;have h1:=o.frS ⟨q.num,q.idx,q.recs⟩ (by simp[bz]);have h2:=o.lt ⟨q.num,q.idx,q.recs⟩ (by simp[bz]);have:=o.next;dsimp only at h1 h2;omega
def mQ.seg{D E:Dk}(h:mQ D E){S:List Sg}{op:Option Og}(d:fK D S op):fK E S op:=d.frame (fun n=>h.2.1 _) fun a ha _=>h.2.2 a ha
theorem ct.up{vot0:List Int}{M M':Nat}{L:Lg}{D:Dk}{S:List Sg}{op:Option Og}(o:ct vot0 M L D S op)(h:M<=M'):ct vot0 M' L D S op:={ o with next:=aas o.next h }
end
section
def Bt{vot0:List Int}{M M' n:Nat}{L:Lg}{D E:Dk}{S S':List Sg}{q:Og}{op:Option Og}{W:Wl}(o:ct vot0 M L D S op)(hM:M<=M')(hM':M'<=cG)(hidx:L.sn.idx+eq L.l+1<dI)
  (w:WI W E S' (some q)) (hold:W.old=(S'++bz (some q)).map fun s=>(s.num,s.idx)) (hs:∀ a,a % 4≠1->E.sec a=D.sec a) (hfr:∀ s∈S'++bz (some q),L.fr<=s.num) (hn1:L.fr<=W.next) (hn2:W.next<=M')
  (ok:eU none ((S'++bz (some q)).map Sg.v)) (vk:Vk W.first W.recs L.sn L.l (dO none ((S'++bz (some q)).map Sg.v))) {Q:List af->Prop} (p:dw S' (some q) L.sn Q) {e:af} (hq:Q (L.l++[e])) (g:gf L.sn (L.l++[e]))
  {k:fq} (hop:W.op=some k) (hf:k.full<=15) (h:bO (n+10) E) (hb:eq e.bytes<=512):
  ((dl W e.bytes E).2.2=0/\bO n (dl W e.bytes E).2.1/\(∀ a,a % 4≠1->(dl W e.bytes E).2.1.sec a=D.sec a)/\∃ S1 op1,ct vot0 M' { L with w:=(dl W e.bytes E).1,l:=L.l++[e] } (dl W e.bytes E).2.1 S1 op1/\dw S1 op1 L.sn Q) \/
   ((dl W e.bytes E).2.2=30/\(dl W e.bytes E).2.1.dead=true/\(∀ a,a % 4≠1->(dl W e.bytes E).2.1.sec a=D.sec a)/\d7 (dl W e.bytes E).2.1 L.fr M' L.sn Q):=by
 obtain ⟨r1,r2⟩:=GZ w hop hf h hb;have hv:(S'++bz (some q)).map Sg.v=S'.map Sg.v++[(q.idx,q.recs)]:=by simp[bz,Sg.v]
 rw[hv] at ok vk
 have vk2:Vk W.first (W.recs++[e.bytes]) L.sn (L.l++[e]) (dO none (S'.map Sg.v++[(q.idx,q.recs++[e.bytes])])):=by
  rw[qH] at vk ⊢;exact Vk.snoc vk e
 have ok2:eU none (S'.map Sg.v++[(q.idx,q.recs++[e.bytes])]):=by
  have hfin:=vk.fin;rw[uN] at ok ⊢;obtain ⟨k1,k2,k3,_⟩:=ok;refine ⟨k1,k2,?_,trivial⟩
  grind [lp,qH,Vk,dO,dI,bn]
 have hS:∀ s∈S',L.fr<=s.num/\s.num<M':=fun s hs=>⟨hfr s (aaj.2 (.inl hs)),by have:=w.lt s (aaj.2 (.inl hs));omega⟩
 have hqn:L.fr<=q.num/\q.num<M':=by
  have h1:=hfr ⟨q.num,q.idx,q.recs⟩ (by simp[bz]);have h2:=w.lt ⟨q.num,q.idx,q.recs⟩ (by simp[bz]);dsimp only at h1 h2;omega
 have pos:∀ T,dw S' (some { q with recs:=q.recs++[e.bytes],T:=T }) L.sn Q:=fun T=>IQ p ok2 hq g vk2.lv T;have hsec:∀ a,a % 4≠1->(dl W e.bytes E).2.1.sec a=D.sec a:=fun a ha=>by rw[r1 a ha,hs a ha]
 rcases r2 with ⟨g1,⟨k',g2⟩,g3,g4⟩|⟨g1,g2,g3,T1,g4,g5⟩
 ·refine .inl ⟨g1,g3,hsec,S',_,?_,pos (dM q.idx (q.recs++[e.bytes]))⟩;have e1:(S'++bz (some { q with recs:=q.recs++[e.bytes],T:=dM q.idx (q.recs++[e.bytes]) })).map Sg.v=S'.map Sg.v++[(q.idx,q.recs++[e.bytes])]:=by simp[bz,Sg.v]
  refine o.chg g4 ?_ hsec ?_ ?_ ?_ ?_ ?_ g
  all_goals grind [bz]
 refine .inr ⟨g1,g3,hsec,(o.found hM hM' qo g5 hS (fun q' hq'=>?_) (pos T1))⟩;cases hq';exact hqn
def ui{vot0:List Int}{M n:Nat}{L:Lg}{D:Dk}{S:List Sg}{op:Option Og}(o:ct vot0 M L D S op)(hM':M+1<=cG)(hidx:L.sn.idx+eq L.l<dI)(p:dw S op L.sn Q)(hq:Q L.l){i:Nat}(h1:L.sn.idx+1<=i)(h2:i<=L.w.first+eq L.w.recs)
  (hq2:Q (L.l.take (i-(L.sn.idx+1)))) (h:bO (n+10) D):
  (∀ a,a % 4≠1->(L.w.begin i D).2.sec a=D.sec a)/\((∃ k,k.full<=1/\(L.w.begin i D).1={ L.w with op:=some k,next:=L.w.next+1,old:=L.w.old++[(L.w.next,i)] }/\bO n (L.w.begin i D).2/\WI (L.w.begin i D).1 (L.w.begin i D).2 (S++bz op) (some ⟨L.w.next,i,[],dM i [],0⟩) /\
   dw (S++bz op) (some ⟨L.w.next,i,[],dM i [],0⟩) L.sn Q/\eU none ((S++bz op).map Sg.v++[(i,[])])/\Vk L.w.first (L.w.recs.take (i-L.w.first)) L.sn (L.l.take (i-(L.sn.idx+1))) (dO none ((S++bz op).map Sg.v++[(i,[])]))) \/
   ((L.w.begin i D).1.code=30/\(L.w.begin i D).2.dead=true/\d7 (L.w.begin i D).2 L.fr (M+1) L.sn Q)):=by
 have hfin:=o.vk.fin;have hi:i<=bn:=by unfold bn;unfold dI at hidx;omega
 obtain ⟨r1,r2⟩:=GU o.wi h hi;have hpb:=fun T=>Gl o.ok o.vk o.good hq h1 h2 hi hq2 L.w.next T;refine ⟨r1,?_⟩;rcases r2 with ⟨k,g1,g2,g3,g4⟩|⟨g1,g2⟩|⟨g1,g2,T1,g3,g4⟩
 ·obtain ⟨b1,b2,b3⟩:=hpb (dM i [])
  simp_all
 ·exact .inr ⟨g1,g2.1,o.foundS qo hM' qo p (g2.seg o.seg)⟩
 have hn:=o.next;have hfn:=o.frn;refine .inr ⟨g1,g2,o.found qo hM' qo g4 (fun s hs=>?_) (fun q hq=>?_) (hpb T1).1⟩
 ·have h3:=o.frS s hs;have h4:=o.lt s hs;omega
 cases hq;dsimp only;omega
def JW{vot0:List Int}{M n:Nat}{L:Lg}{D:Dk}{S:List Sg}{op:Option Og}(o:ct vot0 M L D S op)(hM':M+1<=cG)(hidx:L.sn.idx+eq L.l+1<dI)(p:dw S op L.sn Q)(hq:Q L.l){e:af}(hq2:Q (L.l++[e]))(g:gf L.sn (L.l++[e]))(h:bO (n+20) D):
  ((L.w.append e.bytes D).2.2=0/\bO n (L.w.append e.bytes D).2.1/\(∀ a,a % 4≠1->(L.w.append e.bytes D).2.1.sec a=D.sec a)/\∃ S1 op1,ct vot0 (M+1) { L with w:=(L.w.append e.bytes D).1,l:=L.l++[e] } (L.w.append e.bytes D).2.1 S1 op1/\dw S1 op1 L.sn Q) \/
   ((L.w.append e.bytes D).2.2=30/\(L.w.append e.bytes D).2.1.dead=true/\(∀ a,a % 4≠1->(L.w.append e.bytes D).2.1.sec a=D.sec a)/\d7 (L.w.append e.bytes D).2.1 L.fr (M+1) L.sn Q):=by
 have hfin:=o.vk.fin;have hb:=xB (g.2 e Nm);have hnx:=o.next;have hfn:=o.frn;have htop:L.w.first+eq L.w.recs<bn:=by unfold bn;unfold dI at hidx;omega
 unfold Wl.append;rw[aaa (by rw[o.wcode];simp),aaa qo,aaa qo]
 by_cases hn:j5 L.w.op=true
 ·rw[aab hn];have ht0:L.l.take (L.w.first+eq L.w.recs-(L.sn.idx+1))=L.l:=aav qo;obtain ⟨b0,b1⟩:=ui (n:=n+10) (i:=L.w.first+eq L.w.recs) o hM' qo p hq qo (aac _) (by rw[ht0];exact hq) h;rcases b1 with ⟨k,g1,g2,g3,g4,g5,g6,g7⟩|⟨g1,g2,g3⟩
  ·rw[aaa (by rw[g4.code];simp)];rw[ht0,abR,aaE] at g7;have hv:((S++bz op)++bz (some ⟨L.w.next,L.w.first+eq L.w.recs,[],dM (L.w.first+eq L.w.recs) [],0⟩)).map Sg.v=(S++bz op).map Sg.v++[(L.w.first+eq L.w.recs,[])]:=by simp[bz,Sg.v]
   refine Bt (n:=n) o qo hM' hidx g4 ?_ b0 ?_ ?_ ?_ (by rw[hv];exact g6) (by rw[hv,g2];exact g7) g5 hq2 g (k:=k) (by rw[g2]) qo g3 hb
   ·rw[g2];dsimp only;rw[aaX,<-o.old];simp[bz]
   ·intro s hs;rcases aaj.1 hs with hs|hs
    ·exact o.frS s hs
    simp_all [bz]
   all_goals grind
  simp_all
 rw[aaa hn];cases hop:op with
 | none=>exact absurd (by rw[o.opn hop];rfl) hn
 | some q=>
  subst hop;obtain ⟨k,k1,_⟩:=o.ops q rfl
  have hf:k.full<=15:=by
   grind [j5]
  exact Bt (n:=n) o qo hM' hidx o.wi o.old (fun _ _=>I) o.frS hfn qo o.ok o.vk p hq2 g k1 hf (h.mono qo) hb
def FT{vot0:List Int}{M n:Nat}{L:Lg}{D:Dk}{S:List Sg}{op:Option Og}(o:ct vot0 M L D S op)(hM':M+1<=cG)(hidx:L.sn.idx+eq L.l<dI)(p:dw S op L.sn Q)(hq:Q L.l){i:Nat}(h1:L.sn.idx+1<=i)(h2:i<=L.sn.idx+eq L.l)(hq2:Q (L.l.take (i-(L.sn.idx+1))))(h:bO (n+10) D):
  ((L.w.truncate i D).2.2=0/\bO n (L.w.truncate i D).2.1/\(∀ a,a % 4≠1->(L.w.truncate i D).2.1.sec a=D.sec a)/\∃ S1 op1,ct vot0 (M+1) { L with w:=(L.w.truncate i D).1,l:=L.l.take (i-(L.sn.idx+1)) } (L.w.truncate i D).2.1 S1 op1/\dw S1 op1 L.sn Q) \/
   ((L.w.truncate i D).2.2=30/\(L.w.truncate i D).2.1.dead=true/\(∀ a,a % 4≠1->(L.w.truncate i D).2.1.sec a=D.sec a)/\d7 (L.w.truncate i D).2.1 L.fr (M+1) L.sn Q):=by
 have hfin:=o.vk.fin;have hnx:=o.next;have hfn:=o.frn;unfold Wl.truncate;rw[aaa (by rw[o.wcode];simp),aaa qo,aaa qo];obtain ⟨b0,b1⟩:=ui (n:=n) (i:=i) o hM' qo p hq h1 qo hq2 h;dsimp only;rcases b1 with ⟨k,g1,g2,g3,g4,g5,g6,g7⟩|⟨g1,g2,g3⟩
 ·rw[aab g4.code];have hv:((S++bz op)++bz (some ⟨L.w.next,i,[],dM i [],0⟩)).map Sg.v=(S++bz op).map Sg.v++[(i,[])]:=by simp[bz,Sg.v]
  refine .inl ⟨g4.code,g3,b0,_,_,o.chg (W:={ (L.w.begin i D).1 with recs:=L.w.recs.take (i-L.w.first) }) ⟨g4.code,g4.seg,g4.opn,g4.ops,g4.lt⟩ ?_ b0 ?_ ?_ ?_ (by rw[hv];exact g6) (by rw[hv,g2];exact g7) (o.good.take _),g5⟩
  ·rw[g2];dsimp only;rw[aaX,<-o.old];simp[bz]
  ·intro s hs;rcases aaj.1 hs with hs|hs
   ·exact o.frS s hs
   simp_all [bz]
  all_goals grind
 exact .inr ⟨g1,g2,b0,g3⟩
end
section
def Cn(M:Nat)(L:Lg):Prop:=L.hard.num<=M/\L.head.num<=M/\L.place<=M
def lj(vot0:List Int)(M:Nat)(E:Dk)(A:List (Nat×Int))(P:aX->List af->Prop):Prop:=∀ D',Cr E D'->0<=D'.room->∃ L E' S',fA D' vot0=(some L,E',0)/\(L.kt,L.kv)∈A/\P L.sn L.l/\ct vot0 M L E' S' none/\Cn M L/\bD 0 E'/\(E'.areas.map (·.1)).Nodup
def lI{vot0:List Int}{M:Nat}{E:Dk}{A:List (Nat×Int)}(hv:(bU vot0).isSome=true)(hh:∀ f',Pk (E.sec 0) f'->(cK f').num<=M/\∃ kh∈A,iy (cK f')=some kh)
  (he:∀ f',Pk (E.sec 4) f'->(cK f').num<=M/\∃ sn place fr,place<=M/\jH (cK f') vot0 sn place fr/\((cK f').num≠0->∀ g,Pk (E.sec (bu place)) g->iB g sn.data)/\d7 E fr M sn (P sn)):lj vot0 M E A P:=by
 intro D' c hr;obtain ⟨h1,kh,h2,h3⟩:=hh _ (c.pk 0);obtain ⟨e1,sn,place,fr,e2,e3,e4,e5⟩:=he _ (c.pk 4);obtain ⟨L,E',S',k1,k2,k3,k4,k5,k6,k7,k8,k9,k10⟩:=ER c hr hv h3 e3 (fun h=>e4 h _ (c.pk _)) e5;refine ⟨L,E',S',k1,by rw[k3];exact h2,by rw[k2];exact k4,k5,⟨by rw[k8];exact h1,by rw[k9];exact e1,qo⟩,k6,k7⟩
theorem iB.pk{f g:SF}{d:List UInt8}(h:iB f d)(p:Pk f g):iB g d:=by rw[h.fx.pk p];exact h
def ct.hardP{vot0:List Int}{M M':Nat}{L:Lg}{D E:Dk}{S:List Sg}{op:Option Og}(o:ct vot0 M L D S op)(cn:Cn M' L)(hs:E.sec 0=D.sec 0){A:List (Nat×Int)}(hA:(L.kt,L.kv)∈A):∀ f',Pk (E.sec 0) f'->(cK f').num<=M'/\∃ kh∈A,iy (cK f')=some kh:=by
 intro f' p;rw[hs] at p;rw[o.hardF.pk p,o.hardS];exact ⟨cn.1,_,hA,o.hardV⟩
def ct.headP{vot0:List Int}{M M':Nat}{L:Lg}{D E:Dk}{S:List Sg}{op:Option Og}(o:ct vot0 M L D S op)(cn:Cn M' L)(hs:E.sec 4=D.sec 4)(hs2:E.sec (bu L.place)=D.sec (bu L.place))(w:d7 E L.fr M' L.sn (P L.sn)):
  ∀ f',Pk (E.sec 4) f'->(cK f').num<=M'/\∃ sn place fr,place<=M'/\jH (cK f') vot0 sn place fr/\((cK f').num≠0->∀ g,Pk (E.sec (bu place)) g->iB g sn.data)/\d7 E fr M' sn (P sn):=by
 intro f' p;rw[hs] at p;rw[o.headF.pk p,o.headS];exact ⟨cn.2.1,_,_,_,cn.2.2,o.headV,fun h g pg=>(o.dat h).pk (by rw[<-hs2];exact pg),w⟩
def ct.fnd{vot0:List Int}{M M':Nat}{L:Lg}{D E:Dk}{S:List Sg}{op:Option Og}(o:ct vot0 M L D S op)(hv:(bU vot0).isSome=true)(cn:Cn M' L)(hs:∀ a,a % 4≠1->E.sec a=D.sec a)(w:d7 E L.fr M' L.sn (P L.sn)){A:List (Nat×Int)}(hA:(L.kt,L.kv)∈A):lj vot0 M' E A P:=
 lI hv (o.hardP cn (hs 0 Nn) hA) (o.headP cn (hs 4 Nn) (hs _ (by simp[bu])) w)
def Rs(vot0:List Int)(M n:Nat)(L:Lg)(E:Dk)(r:Rl)(A:List (Nat×Int))(P:aX->List af->Prop)(ok:Prop):Prop:=
 (ok/\bO n E/\L.rl=r/\Cn M L/\∃ S op,ct vot0 M L E S op/\dw S op L.sn (P L.sn))\/(E.dead=true/\lj vot0 M E A P)
def EK{vot0:List Int}{M n:Nat}{L:Lg}{D:Dk}{S:List Sg}{op:Option Og}(o:ct vot0 M L D S op)(hv:(bU vot0).isSome=true)(cn:Cn M L)(hM:M+1<=cG)(hidx:L.sn.idx<=dI)(p:dw S op L.sn (P L.sn))(t:Nat)(v:Int)(ht:t<=ac)(h:bO (n+1) D):
  Rs vot0 (M+1) n (L.setHard D t v).1 (L.setHard D t v).2.1 (L.rl.setHard t v).1 [(L.kt,L.kv),((L.rl.setHard t v).1.kt,(L.rl.setHard t v).1.kv)] P ((L.setHard D t v).2.2=(L.rl.setHard t v).2):=by
 have cn1:Cn (M+1) L:=⟨by have:=cn.1;omega,by have:=cn.2.1;omega,by have:=cn.2.2;omega⟩;have ht':=ht;unfold ac at ht';have hMw:=hM;unfold cG at hMw;unfold Lg.setHard Rl.setHard;rw[aaa (by rw[o.code];simp)]
 by_cases h1:v < -1\/7<=v
 ·rw[aab h1,aab (show v < -1\/6<v by omega)];exact .inl ⟨I,h.mono qo,I,cn1,S,op,o.up qo,p⟩
 rw[aaa h1,aaa (show ¬(v < -1\/6<v) by omega)]
 by_cases h2:t<L.kt
 ·rw[aab h2,aab (show t<L.rl.kt from h2)];exact .inl ⟨I,h.mono qo,I,cn1,S,op,o.up qo,p⟩
 rw[aaa h2,aaa (show ¬t<L.rl.kt from h2)]
 have hu:eq (aI t++aI (v+1).toNat)<=48:=by
  grind [nM]
 obtain ⟨s1,s2⟩:=yM (n:=n) h 0 (S:=L.hard) o.hardF o.hardS hu (by have:=cn.1;omega);have hk:=(rk L.hard 0 D (aI t++aI (v+1).toNat)).keys;have hput:iy ⟨L.hard.num+1,aI t++aI (v+1).toNat⟩=some (t,v):=Fq qo ht ⟨qo,qo⟩;generalize L.hard.save 0 D (aI t++aI (v+1).toNat)=R at s1 s2 hk;obtain ⟨H,E,c⟩:=R;dsimp only at s1 s2 hk ⊢
 have hseg:fK E S op:=o.seg.frame (fun k=>s1 _ (by unfold aK;omega)) fun a ha h1=>by
  grind
 have e4:E.sec 4=D.sec 4:=s1 4 Nn;have ep:E.sec (bu L.place)=D.sec (bu L.place):=s1 _ (by unfold bu;omega);rcases s2 with ⟨g1,g2,g3,g4,g5⟩|⟨g1,g2,g3⟩
 ·rw[aab g1];refine .inl ⟨I,g3,I,⟨by dsimp only;rw[g2];dsimp only;have:=cn.1;omega,cn1.2⟩,S,op,?_,p⟩
  exact {
   code:=o.code
   wcode:=o.wcode
   old:=o.old
   seg:=hseg
   opn:=o.opn
   ops:=o.ops
   lt:=o.lt
   frS:=o.frS
   frn:=o.frn
   next:=by have:=o.next;dsimp only;omega
   ok:=o.ok
   val:=o.val
   hardF:=g4
   hardS:=g5.trans g2.symm
   hardV:=by dsimp only;rw[g2];exact hput
   headF:=by rw[e4];exact o.headF
   headS:=by rw[e4];exact o.headS
   headV:=o.headV
   dat:=by rw[ep];exact o.dat
   good:=o.good }
 rw[aaa qo];refine .inr ⟨g2,lI hv (fun f' pf=>?_) (o.headP cn1 e4 ep (o.foundS qo hM hidx p hseg))⟩;rcases g3 f' pf with g|g
 ·rw[g];exact ⟨cn1.1,_,Nm,o.hardV⟩
 rw[g];exact ⟨by have:=cn.1;dsimp only;omega,_,Nm,hput⟩
theorem AD{vot0:List Int}{Q:List af->Prop}:∀ (x:List af) (M n:Nat) (L:Lg) (D:Dk) (S:List Sg) (op:Option Og),ct vot0 M L D S op->M+eq x<=cG->L.sn.idx+eq L.l+eq x<dI->dw S op L.sn Q->(∀ k,k<=eq x->Q (L.l++x.take k))->gf L.sn (L.l++x)->bO (n+20*eq x) D ->
  ((Lg.app1 x L D).2.2=0/\bO n (Lg.app1 x L D).2.1/\(∃ W,(Lg.app1 x L D).1={ L with w:=W,l:=L.l++x })/\∃ S1 op1,ct vot0 (M+eq x) (Lg.app1 x L D).1 (Lg.app1 x L D).2.1 S1 op1/\dw S1 op1 L.sn Q) \/
   ((Lg.app1 x L D).2.2=30/\(Lg.app1 x L D).2.1.dead=true/\(∀ a,a % 4≠1->(Lg.app1 x L D).2.1.sec a=D.sec a)/\d7 (Lg.app1 x L D).2.1 L.fr (M+eq x) L.sn Q)
 | [],M,n,L,D,S,op,o,_,_,p,_,_,h=>.inl ⟨rfl,h.mono qo,⟨L.w,by rw[aar];rfl⟩,S,op,o,p⟩
 | e::r,M,n,L,D,S,op,o,hM,hl,p,hq,g,h=>by
  simp only[aan] at hM hl h hq;have hq0:Q L.l:=by have:=hq 0 qo;simpa using this
  have hq1:Q (L.l++[e]):=by have:=hq 1 qo;simpa using this
  have hg1:gf L.sn (L.l++[e]):=by
   have:=g.take (eq L.l+1)
   grind
  rw[qO];rcases JW (n:=n+20*eq r) o qo qo p hq0 hq1 hg1 (h.mono qo) with ⟨g1,g2,g3,S1,op1,g4,g5⟩|⟨g1,g2,g3,g4⟩
  ·rw[aaa (by rw[g1];simp)];have hap:L.l++e::r=(L.l++[e])++r:=by simp
   rcases AD r (M+1) n { L with w:=(L.w.append e.bytes D).1,l:=L.l++[e] } _ S1 op1 g4 qo (by grind) g5 (fun k hk=>by
    have:=hq (k+1) qo
    grind) (by dsimp only;rw[<-hap];exact g) g2 with ⟨k1,k2,⟨W,k3⟩,S2,op2,k4,k5⟩|⟨k1,k2,k3,k4⟩
   all_goals grind
  rw[aab qo];refine .inr ⟨g1,g2,g3,fun F c hr=>?_⟩;obtain ⟨S',W,E,l,w1,w2,w3⟩:=g4 F c hr;exact ⟨S',W,E,l,w1,⟨w2.op,w2.code,w2.old,w2.lt,w2.frn,by have:=w2.next;simp only[aan];omega,w2.seg,w2.vw⟩,w3⟩
end
section
def lf:List af->List af->Nat
 | a::l,b::s=>if a=b then lf l s+1 else 0
 | _,_=>0
theorem CB:∀ (l s:List af),lf l s<=eq l/\lf l s<=eq s
 | [],_=>⟨aac _,aad _⟩
 | a::l,[]=>⟨aad _,aac _⟩
 | a::l,b::s=>by
  unfold lf;have:=CB l s
  split
  ·simp only[aan];omega
  simp
theorem CA:∀ (l s:List af) (c:Nat),l[c]?≠s[c]?->lf l s<=c
 | [],_,c,_=>aad c
 | a::l,[],c,_=>aad c
 | a::l,b::s,0,h=>by
  simp_all [lf]
 | a::l,b::s,c+1,h=>by
  unfold lf;have:=CA l s c (by simpa using h)
  grind
def m6(r s:Rl)(sn:aX)(l:List af):Prop:=(r.sn=s.sn/\sn=s.sn/\∃ k,lf r.l s.l<=k/\k<=eq s.l/\l=s.l.take k)\/(r.sn≠s.sn/\sn=s.sn/\l=s.l)
def uG{r:Rl}{c:Nat}{y:List af}(hc:c<=eq r.l)(hy:c=eq r.l\/∃ e,y.head?=some e/\r.l[c]?≠some e)(k:Nat)(hk:k<=eq y):m6 r { r with l:=r.l.take c++y } r.sn (r.l.take c++y.take k):=by
 have hl:eq (r.l.take c)=c:=by rw[aam];omega
 refine .inl ⟨I,I,c+k,?_,?_,?_⟩
 ·have:lf r.l (r.l.take c++y)<=c:=by
   rcases hy with rfl|⟨e,h1,h2⟩
   ·simp[CB]
   refine CA _ _ _ ?_
   simp_all [abn,List.head?_eq_getElem?]
  dsimp only;omega
 all_goals grind
theorem yO{s:aX}{l:List af}:∀ {x:List af} {b:Bool} {e:af} {r:List af} {B:Bool},skp s l x b=(e::r,B)->(trm s l e.idx).2=false\/(trm s l e.idx).1≠e.term
 | [],_,_,_,_,h=>by cases h
 | a::x,b,e,r,B,h=>by
  rw[pH] at h
  split at h
  ·rename_i h1;cases h;exact h1
  exact yO h
theorem Rs.up{vot0:List Int}{M M' n m:Nat}{L:Lg}{E:Dk}{r:Rl}{A:List (Nat×Int)}{P:aX->List af->Prop}{ok:Prop}(h:Rs vot0 M n L E r A P ok)(hM:M<=M')(hm:m<=n):Rs vot0 M' m L E r A P ok:=by
 rcases h with ⟨h1,h2,h3,h4,S,op,h5,h6⟩|⟨h1,h2⟩
 ·exact .inl ⟨h1,h2.mono hm,h3,⟨by have:=h4.1;omega,by have:=h4.2.1;omega,by have:=h4.2.2;omega⟩,S,op,h5.up hM,h6⟩
 refine .inr ⟨h1,fun D' c hr=>?_⟩;obtain ⟨L',E',S',k1,k2,k3,k4,k5,k6⟩:=h2 D' c hr;exact ⟨L',E',S',k1,k2,k3,k4.up hM,⟨by have:=k5.1;omega,by have:=k5.2.1;omega,by have:=k5.2.2;omega⟩,k6⟩
def HE{sn:aX}{l x:List af}(g:gf sn l)(hf:cH (sn.idx+eq l) (trm sn l (sn.idx+eq l)).1 x=0)(hx:∀ e∈x,ic e):gf sn (l++x):=by
 refine ⟨(nC _ _ _ _).2 ⟨g.1,?_⟩,fun e he=>?_⟩
 ·simp_all [pA]
 rcases aaj.1 he with he|he
 ·exact g.2 e he
 exact hx e he
def zX{vot0:List Int}{M n:Nat}{L:Lg}{D:Dk}{S:List Sg}{op:Option Og}(o:ct vot0 M L D S op)(hv:(bU vot0).isSome=true)(cn:Cn M L){A:List (Nat×Int)}(hA:(L.kt,L.kv)∈A)(p:dw S op L.sn (P L.sn))(x:List af)(hM:M+eq x<=cG)(hl:L.sn.idx+eq L.l+eq x<dI)
  (hf:cH L.last (trm L.sn L.l L.last).1 x=0) (hx:∀ e∈x,ic e) (hq:∀ k,k<=eq x->P L.sn (L.l++x.take k)) (h:bO (n+20*eq x) D):
  Rs vot0 (M+eq x) n (L.app1 x D).1 (L.app1 x D).2.1 { L.rl with l:=L.l++x } A P ((L.app1 x D).2.2=0):=by
 have cn1:Cn (M+eq x) L:=⟨by have:=cn.1;omega,by have:=cn.2.1;omega,by have:=cn.2.2;omega⟩;rcases AD x M n L D S op o hM hl p hq (HE o.good hf hx) h with ⟨g1,g2,⟨W,g3⟩,S1,op1,g4,g5⟩|⟨g1,g2,g3,g4⟩
 ·refine .inl ⟨g1,g2,by rw[g3];rfl,by rw[g3];exact cn1,S1,op1,g4,?_⟩
  simp_all
 exact .inr ⟨g2,o.fnd hv cn1 g3 g4 hA⟩
def FN{vot0:List Int}{M n:Nat}{L:Lg}{D:Dk}{S:List Sg}{op:Option Og}(o:ct vot0 M L D S op)(hv:(bU vot0).isSome=true)(cn:Cn M L){A:List (Nat×Int)}(hA:(L.kt,L.kv)∈A)(p:dw S op L.sn (P L.sn))(x:List af)(hM:M+eq x<=cG)(hl:L.sn.idx+eq L.l+eq x<dI)
  (hx:∀ e∈x,e.idx<=ac/\e.term<=ac) (hq:∀ sn l,m6 L.rl (L.rl.append x).1 sn l->P sn l) (h:bO (n+20*eq x) D):
  Rs vot0 (M+eq x) n (L.append x D).1 (L.append x D).2.1 (L.rl.append x).1 A P ((L.append x D).2.2=(L.rl.append x).2):=by
 have cn1:Cn (M+eq x) L:=⟨by have:=cn.1;omega,by have:=cn.2.1;omega,by have:=cn.2.2;omega⟩;unfold Rl.append at hq ⊢;unfold Lg.append;rw[aaa (by rw[o.code];simp)]
 by_cases hf:eA L.last (trm L.sn L.l L.last).1 x=0
 ·have hnf:¬eA (L.rl.sn.idx+eq L.rl.l) (trm L.rl.sn L.rl.l (L.rl.sn.idx+eq L.rl.l)).1 x≠0:=by intro h2;exact h2 hf
  rw[aaa hnf] at hq ⊢;rw[aaa (by rw[hf];simp)];have hok:=mq hf;have hfr:=lw hf;refine zX o hv cn hA p x hM hl hfr (fun e he=>⟨hok e he,hx e he⟩) (fun k hk=>?_) h;have:=hq _ _ (uG (r:=L.rl) (c:=eq L.l) (y:=x) (aac _) (.inl rfl) k hk |> fun h=>by rw[show L.rl.l.take (eq L.l)=L.l from aaE] at h;exact h);exact this
 rw[aab hf,aab (show eA (L.rl.sn.idx+eq L.rl.l) (trm L.rl.sn L.rl.l (L.rl.sn.idx+eq L.rl.l)).1 x≠0 from hf)];exact .inl ⟨I,h.mono qo,I,cn1,S,op,o.up qo,p⟩
def tP{vot0:List Int}{M n:Nat}{L:Lg}{D:Dk}{S:List Sg}{op:Option Og}(o:ct vot0 M L D S op)(hv:(bU vot0).isSome=true)(cn:Cn M L){A:List (Nat×Int)}(hA:(L.kt,L.kv)∈A)(p:dw S op L.sn (P L.sn))(x:List af)(last:Nat)(hM:M+eq x<=cG)(hl:L.sn.idx+eq L.l+eq x<dI)
  (hf:cH L.last (trm L.sn L.l L.last).1 x=0) (hx:∀ e∈x,ic e) (hq:∀ k,k<=eq x->P L.sn (L.l++x.take k)) (h:bO (n+20*eq x) D):
  Rs vot0 (M+eq x) n (L.merge3 x last D).1 (L.merge3 x last D).2.1 { L.rl with l:=L.l++x } A P ((L.merge3 x last D).2.2=(last,true,0)):=by
 have h1:=zX (n:=n) o hv cn hA p x hM hl hf hx hq h
 have e1:L.append x D=L.app1 x D:=by
  unfold Lg.append;rw[aaa (by rw[o.code];simp),aaa (by rw[z9 (fun e he=>(hx e he).1) hf];simp)]
 unfold Lg.merge3;rw[e1]
 by_cases hc:(L.app1 x D).2.2=0
 all_goals simp_all
def Fz{vot0:List Int}{M n:Nat}{L:Lg}{D:Dk}{S:List Sg}{op:Option Og}(o:ct vot0 M L D S op)(hv:(bU vot0).isSome=true)(cn:Cn M L){A:List (Nat×Int)}(hA:(L.kt,L.kv)∈A)(p:dw S op L.sn (P L.sn))(hq0:P L.sn L.l)(i t:Nat)(hi:L.sn.idx<=i)(x:List af)(last:Nat)(hM:M+1+eq x<=cG)(hl:L.sn.idx+eq L.l+eq x<dI)
  (hx:∀ e∈x,ic e) (hf:cH i t x=0) (ht:trm L.sn L.l i=(t,true)) (hq:∀ sn l,m6 L.rl (L.rl.merge2 x last).1 sn l->P sn l) (h:bO (n+10+20*eq x) D):
  Rs vot0 (M+1+eq x) n (L.merge2 x last D).1 (L.merge2 x last D).2.1 (L.rl.merge2 x last).1 A P ((L.merge2 x last D).2.2=(L.rl.merge2 x last).2):=by
 obtain ⟨⟨y,B⟩,hy⟩:∃ p,skp L.sn L.l x true=p:=⟨_,rfl⟩;have hy2:skp L.rl.sn L.rl.l x true=(y,B):=hy;have hsuf:=mh L.sn L.l x true;rw[hy] at hsuf;dsimp only at hsuf;have hlen:=hsuf.length_le;cases y with
 | nil=>
  rw[tQ hy,nf hy2];have h1:=tP (n:=n) o hv cn hA p [] last (by simp;omega) qo rfl Nm (fun k hk=>by simpa using hq0) (h.mono (by simp;omega));rw[aar] at h1;exact h1.up (by simp;omega) (aac _)
 | cons e r=>
  obtain ⟨u,g1,g2,g3,g4⟩:=nN L.sn L.l x i t true hf ht e r B hy;have g5:=kD (s:=L.sn) (l:=L.l) (i:=e.idx-1) (by rw[g2]);rw[tq hy,na hy2];rw[na hy2] at hq;have hyx:∀ a∈e::r,ic a:=fun a ha=>hx a (hsuf.subset ha);have hlt:eq (L.l.take (e.idx-L.sn.idx-1))=e.idx-L.sn.idx-1:=by rw[aam];omega
  cases hB:B with
  | true=>
   subst hB;have g6:=kD (s:=L.sn) (l:=L.l) (i:=e.idx) g4.symm
   have hne:L.l[e.idx-L.sn.idx-1]?≠some e:=by
    have h7:¬(trm L.sn L.l e.idx).1=e.term:=by
     grind [yO]
    grind [trm]
   have hqq:∀ k,k<=eq (e::r)->P L.sn (L.l.take (e.idx-L.sn.idx-1)++(e::r).take k):=fun k hk=>hq _ _ (uG (r:=L.rl) (c:=e.idx-L.sn.idx-1) (y:=e::r) (by show _<=eq L.l;omega) (.inr ⟨e,rfl,hne⟩) k hk);have hTt:=FT (n:=n+20*eq (e::r)) o qo qo p hq0 (i:=e.idx) qo qo (by have:=hqq 0 qo;grind) (h.mono qo)
   have hat:(ei L.sn L.l e.idx).getD 0=e.idx-L.sn.idx-1:=by
    grind [ei]
   have hcut:L.cutAt e.idx (L.w.truncate e.idx D).1={ L with w:=(L.w.truncate e.idx D).1,l:=L.l.take (e.idx-L.sn.idx-1) }:=by unfold Lg.cutAt;rw[hat]
   rw[aab rfl];rcases hTt with ⟨k1,k2,k3,S1,op1,k4,k5⟩|⟨k1,k2,k3,k4⟩
   ·rw[aaa (by rw[k1];simp),hcut];rw[show e.idx-(L.sn.idx+1)=e.idx-L.sn.idx-1 by omega] at k4
    have hla:({ L with w:=(L.w.truncate e.idx D).1,l:=L.l.take (e.idx-L.sn.idx-1) }:Lg).last=e.idx-1:=by
     grind [Lg.last]
    have h3:=tP (n:=n) k4 hv ⟨by have:=cn.1;dsimp only;omega,by have:=cn.2.1;dsimp only;omega,by have:=cn.2.2;dsimp only;omega⟩ hA k5 (e::r) last qo aH (by
     grind [qQ]) hyx hqq k2
    exact h3.up qo<|aac _
   rw[aab qo];refine .inr ⟨k2,?_⟩;have hfd:=o.fnd hv (M':=M+1) ⟨by have:=cn.1;omega,by have:=cn.2.1;omega,by have:=cn.2.2;omega⟩ k3 k4 hA;rcases Rs.up (n:=n) (m:=n) (M':=M+1+eq x) (L:=L) (r:=L.rl) (ok:=True) (.inr ⟨k2,hfd⟩) qo (aac _) with ⟨_,hh,_⟩|⟨_,hh⟩
   ·rw[hh.dead] at k2;cases k2
   exact hh
  | false=>
   subst hB
   have g6:e.idx=L.sn.idx+eq L.l+1:=by
    grind [trm]
   have htk:L.rl.l.take (e.idx-L.rl.sn.idx-1)=L.l:=by
    show L.l.take (e.idx-L.sn.idx-1)=L.l;rw[show e.idx-L.sn.idx-1=eq L.l by omega,aaE]
   rw[htk] at hq ⊢;rw[aaa Nm];have hla:L.last=e.idx-1:=by unfold Lg.last;omega
   have h3:=tP (n:=n) o hv cn hA p (e::r) last qo qo (by rw[hla,g2];exact g3) hyx (fun k hk=>by
    have:=uG (r:=L.rl) (c:=eq L.l) (y:=e::r) (aac _) (.inl rfl) k hk;rw[show L.rl.l.take (eq L.l)=L.l from aaE] at this;exact hq _ _ this) (h.mono qo)
   exact h3.up qo<|aac _
end
section
theorem Cn.up{M M':Nat}{L:Lg}(h:Cn M L)(k:M<=M'):Cn M' L:=⟨aas h.1 k,aas h.2.1 k,aas h.2.2 k⟩
def yt{vot0:List Int}{M n:Nat}{L:Lg}{D:Dk}{S:List Sg}{op:Option Og}(o:ct vot0 M L D S op)(hv:(bU vot0).isSome=true)(cn:Cn M L){A:List (Nat×Int)}(hA:(L.kt,L.kv)∈A)(p:dw S op L.sn (P L.sn))(hq0:P L.sn L.l)(i t:Nat)(hi:L.sn.idx<=i)(x:List af)(last:Nat)(hM:M+1+eq x<=cG)(hl:L.sn.idx+eq L.l+eq x<dI)
  (hx:∀ e∈x,ic e) (hf:cH i t x=0) (hq:∀ sn l,m6 L.rl (L.rl.merge1 i t x last).1 sn l->P sn l) (h:bO (n+10+20*eq x) D):
  Rs vot0 (M+1+eq x) n (L.merge1 i t x last D).1 (L.merge1 i t x last D).2.1 (L.rl.merge1 i t x last).1 A P ((L.merge1 i t x last D).2.2=(L.rl.merge1 i t x last).2):=by
 unfold Rl.merge1 at hq ⊢;unfold Lg.merge1
 by_cases hc:(trm L.sn L.l i).2=false\/(trm L.sn L.l i).1≠t
 ·rw[aab hc,aab (show (trm L.rl.sn L.rl.l i).2=false\/(trm L.rl.sn L.rl.l i).1≠t from hc)];exact .inl ⟨I,h.mono qo,I,cn.up qo,S,op,o.up qo,p⟩
 rw[aaa (show ¬((trm L.rl.sn L.rl.l i).2=false\/(trm L.rl.sn L.rl.l i).1≠t) from hc)] at hq ⊢;rw[aaa hc];have hc:=not_or.1 hc;exact Fz o hv cn hA p hq0 i t hi x last hM hl hx hf (Prod.ext (Decidable.not_not.1 hc.2) (by simpa using hc.1)) hq h
def Gq{vot0:List Int}{M n:Nat}{L:Lg}{D:Dk}{S:List Sg}{op:Option Og}(o:ct vot0 M L D S op)(hv:(bU vot0).isSome=true)(cn:Cn M L){A:List (Nat×Int)}(hA:(L.kt,L.kv)∈A)(p:dw S op L.sn (P L.sn))(hq0:P L.sn L.l)(i t:Nat)(x:List af)(hM:M+1+eq x<=cG)(hl:L.sn.idx+eq L.l+eq x<dI)
  (hx:∀ e∈x,e.idx<=ac/\e.term<=ac) (hq:∀ sn l,m6 L.rl (L.rl.merge i t x).1 sn l->P sn l) (h:bO (n+10+20*eq x) D):
  Rs vot0 (M+1+eq x) n (L.merge i t x D).1 (L.merge i t x D).2.1 (L.rl.merge i t x).1 A P ((L.merge i t x D).2.2=(L.rl.merge i t x).2):=by
 have h0:bO n D/\L.rl=L.rl/\Cn (M+1+eq x) L/\∃ S op,ct vot0 (M+1+eq x) L D S op/\dw S op L.sn (P L.sn):=⟨h.mono qo,rfl,cn.up qo,S,op,o.up qo,p⟩;have hsn:L.rl.sn=L.sn:=rfl;unfold Rl.merge at hq ⊢;unfold Lg.merge;rw[hsn] at hq;rw[aaa (by rw[o.code];simp),hsn]
 by_cases hf:eA i t x≠0
 ·rw[aab hf,aab hf];exact .inl ⟨I,h0⟩
 rw[aaa hf] at hq;rw[aaa hf,aaa hf];have hf:=Decidable.not_not.1 hf;have hok:=mq hf;have hfR:=lw hf
 by_cases hi:i<L.sn.idx
 ·rw[aab hi] at hq;rw[aab hi,aab hi]
  by_cases h1:i+eq x<L.sn.idx
  ·rw[aab h1,aab h1];exact .inl ⟨I,h0⟩
  rw[aaa h1] at hq;rw[aaa h1,aaa h1]
  by_cases h2:((x.drop (L.sn.idx-i)).head?.map fun e=>decide (e.term<L.sn.term))=some true
  ·rw[aab h2,aab h2];exact .inl ⟨I,h0⟩
  rw[aaa h2] at hq;rw[aaa h2,aaa h2];have hdl:eq (x.drop (L.sn.idx-i))<=eq x:=by simp
  have hm:=yt (n:=n) o hv cn hA p hq0 L.sn.idx L.sn.term (aac _) (x.drop (L.sn.idx-i)) (i+eq x) qo qo (fun e he=>⟨hok e (aaM he),hx e (aaM he)⟩) (by
   cases hd:x.drop (L.sn.idx-i) with
   | nil=>rfl
   | cons e r=>
    have h3:=l7 x i t _ e r hfR hd;rw[hd] at h2;simp at h2;rw[kC,aaa qo];exact h3.2) hq (h.mono qo)
  exact hm.up qo<|aac _
 rw[aaa hi] at hq;rw[aaa hi,aaa hi];exact yt o hv cn hA p hq0 i t qo x _ hM hl (fun e he=>⟨hok e he,hx e he⟩) hfR hq h
def m8(op:Option Og):Prop:=∀ o,op=some o->o.t0=eq (dM o.idx o.recs)
def ny{S:List Sg}{op:Option Og}{sn:aX}{l:List af}(hl:m8 op)(ok:eU none ((S++bz op).map Sg.v))(g:gf sn l)(lv:LV sn (dO none ((S++bz op).map Sg.v)) l):dw S op sn (fun l'=>l'=l):=by
 intro t ht;cases op with
 | none=>
  have:t=none:=ht;subst this;rw[show S++bz none=S from aar S] at ok lv
  simp_all
 | some o=>
  have h0:=hl o rfl;have hv:(S++bz (some o)).map Sg.v=S.map Sg.v++[(o.idx,o.recs)]:=by simp[bz,Sg.v]
  rw[hv] at ok lv;cases t with
  | none=>
   have ht:o.t0<eq (aI o.idx):=ht
   grind [dM]
  | some t=>
   obtain ⟨i',rs⟩:=t;obtain ⟨e1,j,e2,e3,e4⟩:=ht;have:=e4 (eq o.recs) (aac _) (by simp_all)
   grind
def ue{vot0:List Int}{M n:Nat}{L:Lg}{D:Dk}{S:List Sg}{op:Option Og}(o:ct vot0 M L D S op)(h:bO n D):
  ((L.w.sync D).1=L.w/\bO n (L.w.sync D).2/\(∀ a,a % 4≠1->(L.w.sync D).2.sec a=D.sec a)/\∃ op',ct vot0 M L (L.w.sync D).2 S op'/\m8 op'/\dw S op' L.sn (fun l=>l=L.l)) \/
   ((L.w.sync D).1.code=30/\mQ D (L.w.sync D).2):=by
 rcases yA o.wi h with ⟨g1,g2,g3,g4,g5,g6⟩|g
 ·have e1:bz (op.map Og.lasts)=bz op:=by cases op <;> rfl
  have hlst:m8 (op.map Og.lasts):=by
   intro q hq;cases op with
   | none=>cases hq
   | some q'=>
    cases hq;obtain ⟨k,_,_,k3,_⟩:=o.ops q' rfl;show eq q'.T=_;rw[k3]
    rfl
  refine .inl ⟨g1,g2,g5,_,?_,hlst,ny hlst (by rw[e1];exact o.ok) o.good (by rw[e1];exact o.vk.lv)⟩;have:=o.chg (W:=L.w) (l:=L.l) (M':=M) g3 (by rw[e1];exact o.old) g5 (by rw[e1];exact o.frS) o.frn o.next (by rw[e1];exact o.ok) (by rw[e1];exact o.vk) o.good;exact this
 exact .inr g
theorem z6{vot0:List Int}{M n:Nat}:∀ (f:Nat) (L:Lg) (D:Dk) (S:List Sg) (op:Option Og),ct vot0 M L D S op->M<=cG->L.sn.idx<=dI->L.w.first=L.sn.idx+1->m8 op->bO n D ->
  (∀ a,a % 4≠1->(wfree (L.sn.idx+1) f L.w.old D).2.1.sec a=D.sec a) /\
  (((wfree (L.sn.idx+1) f L.w.old D).2.2=0/\bO n (wfree (L.sn.idx+1) f L.w.old D).2.1/\∃ S',ct vot0 M { L with w:={ L.w with old:=(wfree (L.sn.idx+1) f L.w.old D).1 } } (wfree (L.sn.idx+1) f L.w.old D).2.1 S' op) \/
   ((wfree (L.sn.idx+1) f L.w.old D).2.2=30/\(wfree (L.sn.idx+1) f L.w.old D).2.1.dead=true/\d7 (wfree (L.sn.idx+1) f L.w.old D).2.1 L.fr M L.sn (fun l=>l=L.l)))
 | 0,L,D,S,op,o,_,_,_,_,h=>⟨fun _ _=>rfl,.inl ⟨rfl,h,S,o⟩⟩
 | f+1,L,D,S,op,o,hM,hidx,hfst,hl,h=>by
  unfold Go.En.wfree
  by_cases hc:1<eq L.w.old/\j1 L.w.old (L.sn.idx+1)=true
  ·rw[aab hc];obtain ⟨hc1,hc2⟩:=hc;have hlen:=congrArg List.length o.old;rw[aaO,aah] at hlen;have hop1:eq (bz op)<=1:=by cases op <;> simp[bz]
   cases S with
   | nil=>simp only[aaT] at hlen;omega
   | cons s0 S=>
    have hold:=o.old;rw[aaJ,aaq] at hold;have hh:(L.w.old.headD (0,0)).1=s0.num:=by rw[hold];rfl
    have hd:L.w.old.drop 1=(S++bz op).map fun s=>(s.num,s.idx):=by rw[hold];rfl
    rw[hh,hd];have hseg:=o.seg;have hasc:=aa1.1 hseg.asc;have hlt0:∀ q,op=some q->s0.num<q.num:=fun q hq=>(hseg.op q hq).1 s0 Nm
    obtain ⟨t,ht1,ht2⟩:∃ s∈(S++bz op).map Sg.v,s.1<=L.sn.idx+1:=by
     unfold j1 at hc2;rw[hd,List.any_map,List.any_eq_true] at hc2;obtain ⟨s,h1,h2⟩:=hc2;exact ⟨s.v,aap.2 ⟨s,h1,I⟩,by simpa[Sg.v] using h2⟩
    have hok:=o.ok;have hvk:=o.vk;rw[aaJ,aaq] at hok hvk;obtain ⟨ok2,a,b,ea,eb,hag⟩:=yQ ((S++bz op).map Sg.v) (dK none s0.v) none (.inl rfl) hok.2.2 ⟨t,ht1,ht2⟩;rw[show dO none (s0.v::(S++bz op).map Sg.v)=dO (some (dK none s0.v)) ((S++bz op).map Sg.v) from rfl,ea] at hvk
    have hvk2:Vk L.w.first L.w.recs L.sn L.l (dO none ((S++bz op).map Sg.v)):=by
     rw[eb];obtain ⟨f1,r1⟩:=a;obtain ⟨f2,r2⟩:=b;obtain ⟨k1,k2,k3,k4⟩:=hag;obtain ⟨q1,q2,q3,q4,q5⟩:=hvk;dsimp only at k1 k2 k3 k4;refine ⟨qo,q2,qo,?_,?_⟩
     all_goals simp_all
    have hkfree:∀ k∈(D.free (aK s0.num)).1.areas.map (·.1),k∈D.areas.map (·.1):=fun k hk=>by
     rcases (Rw.free (aK s0.num) (Rw.refl [] D)).keys k hk with g|g
     ·exact g
     simp at g
    rcases h.free (aK s0.num) with ⟨g1,g2,g3,g4⟩|⟨g1,g2,g3⟩
    ·rw[aaa (by rw[g1];simp)]
     have hgone:aK s0.num∉(D.free (aK s0.num)).1.areas.map (·.1):=by
      unfold Dk.free;rw[aaa (by rw[h.dead];decide)]
      split
      ·grind [Dk.free]
      show aK s0.num∉(dv (aK s0.num) D.areas).map (·.1);have hx:=nk (aK s0.num) (aK s0.num) D.areas h.keys;rw[aab rfl] at hx;exact fQ.1 hx
     have hs1:∀ a,a % 4≠1->(D.free (aK s0.num)).1.sec a=D.sec a:=fun a ha=>g4 a (fun e=>ha (by rw[e];simp[aK]))
     have hw:WI { L.w with old:=(S++bz op).map fun s=>(s.num,s.idx) } (D.free (aK s0.num)).1 S op:=by
      refine ⟨o.wcode,⟨fun a ha h1=>?_,hasc.2,fun s hs=>hseg.bd s (by simp[hs]),fun s hs=>?_,fun q hq=>?_⟩,o.opn,o.ops,fun s hs=>o.lt s (by simp_all)⟩
      ·rcases hseg.keys a (hkfree a ha) h1 with ⟨s,hs,e⟩|h2
       all_goals grind
      ·rw[g4 _ (pO (by have:=hasc.1 s hs;omega))];exact hseg.cl s (by simp[hs])
      obtain ⟨q1,q2,q3,q4,q5⟩:=hseg.op q hq
      grind [pO]
     have ho2:=o.chg (M':=M) hw rfl hs1 (fun s hs=>o.frS s (by simp_all)) o.frn o.next ok2 hvk2 o.good;have hr:=z6 f _ _ S op ho2 hM hidx hfst hl g2
     simp_all
    rw[aab qo];exact ⟨fun a _=>g3 a,.inr ⟨g1,g2,o.foundS (aac _) hM hidx (ny hl o.ok o.good o.vk.lv) (mQ.seg ⟨g2,g3,hkfree⟩ o.seg)⟩⟩
  rw[aaa hc];exact ⟨fun _ _=>I,.inl ⟨I,h,S,o⟩⟩
end
section
def Vk.low{first:Nat}{recs:List bX}{sn:aX}{l:List af}{v:Vl}(h:Vk first recs sn l v)(hlt:first<sn.idx+1):Vk (sn.idx+1) (recs.drop (sn.idx+1-first)) sn l v:=by
 cases v with
 | none=>have:=h.2.1;omega
 | some x=>
  obtain ⟨f,r⟩:=x;obtain ⟨q1,q2,q3,q4,q5⟩:=h;refine ⟨qo,aac _,q3,?_,q5⟩
  grind [List.drop_drop]
def E5{W:Wl}{D:Dk}(h:W.code≠0):W.sync D=(W,D):=by unfold Wl.sync;rw[aab h]
def EH{vot0:List Int}{M n:Nat}{L:Lg}{D:Dk}{S:List Sg}{op:Option Og}(o:ct vot0 M L D S op)(hM':M+1<=cG)(hidx:L.sn.idx+eq L.l<dI)(hl:m8 op)(h:bO (n+10) D):
  (∀ a,a % 4≠1->(L.w.compact1 (L.sn.idx+1) D).2.sec a=D.sec a)/\(((L.w.compact1 (L.sn.idx+1) D).1.first=L.w.first/\(L.w.compact1 (L.sn.idx+1) D).1.recs=L.w.recs/\bO n (L.w.compact1 (L.sn.idx+1) D).2/\∃ S1 op1,ct vot0 (M+1) { L with w:=(L.w.compact1 (L.sn.idx+1) D).1 } (L.w.compact1 (L.sn.idx+1) D).2 S1 op1/\dw S1 op1 L.sn (fun l=>l=L.l)) \/
   ((L.w.compact1 (L.sn.idx+1) D).1.code=30/\(L.w.compact1 (L.sn.idx+1) D).2.dead=true/\d7 (L.w.compact1 (L.sn.idx+1) D).2 L.fr (M+1) L.sn (fun l=>l=L.l))):=by
 have hp:=ny hl o.ok o.good o.vk.lv;have hnx:=o.next;have hfn:=o.frn;unfold Wl.compact1
 by_cases he:L.sn.idx+1=L.w.first+eq L.w.recs
 ·rw[aab he];have hfin:=o.vk.fin;have hnil:eq L.l=0:=qo
  have htk:L.l.take (L.sn.idx+1-(L.sn.idx+1))=L.l:=aav qo;obtain ⟨b0,b1⟩:=ui (n:=n) (i:=L.sn.idx+1) o hM' qo hp rfl (aac _) qo htk h;refine ⟨b0,?_⟩;rcases b1 with ⟨k,g1,g2,g3,g4,g5,g6,g7⟩|⟨g1,g2,g3⟩
  ·rw[htk,aav qo] at g7;have hv:((S++bz op)++bz (some ⟨L.w.next,L.sn.idx+1,[],dM (L.sn.idx+1) [],0⟩)).map Sg.v=(S++bz op).map Sg.v++[(L.sn.idx+1,[])]:=by simp[bz,Sg.v]
   refine .inl ⟨by rw[g2],by rw[g2],g3,_,_,?_,g5⟩
   have:=o.chg (M':=M+1) (l:=L.l) (W:=(L.w.begin (L.sn.idx+1) D).1) g4 (by
    rw[g2];dsimp only;rw[aaX,<-o.old];simp[bz]) b0 (fun s hs=>by
    rcases aaj.1 hs with hs|hs
    ·exact o.frS s hs
    simp_all [bz]) (by rw[g2];dsimp only;omega) (by rw[g2];dsimp only;omega) (by rw[hv];exact g6) (by rw[hv,g2];exact g7) o.good
   exact this
  exact .inr ⟨g1,g2,g3⟩
 rw[aaa he];exact ⟨fun _ _=>I,.inl ⟨I,I,h.mono qo,S,op,o.up qo,hp⟩⟩
def EY{vot0:List Int}{M n:Nat}{L:Lg}{D:Dk}{S:List Sg}{op:Option Og}(o:ct vot0 M L D S op)(hM':M+1<=cG)(hidx:L.sn.idx+eq L.l<dI)(hlt:L.w.first<L.sn.idx+1)(hl:m8 op)(h:bO (n+10) D):
  (∀ a,a % 4≠1->(L.w.compact (L.sn.idx+1) D).2.1.sec a=D.sec a)/\(((L.w.compact (L.sn.idx+1) D).2.2=0/\bO n (L.w.compact (L.sn.idx+1) D).2.1/\∃ S1 op1,ct vot0 (M+1) { L with w:=(L.w.compact (L.sn.idx+1) D).1 } (L.w.compact (L.sn.idx+1) D).2.1 S1 op1/\m8 op1) \/
   ((L.w.compact (L.sn.idx+1) D).2.1.dead=true/\d7 (L.w.compact (L.sn.idx+1) D).2.1 L.fr (M+1) L.sn (fun l=>l=L.l))):=by
 have hfin:=o.vk.fin;obtain ⟨c0,c1⟩:=EH (n:=n) o hM' hidx hl h;unfold Wl.compact;rw[aaa (by rw[o.wcode];simp),aaa qo,aaa qo];rcases c1 with ⟨e1,e2,c2,S1,op1,c3,c4⟩|⟨c2,c3,c4⟩
 ·rcases ue c3 c2 with ⟨s1,s2,s3,op2,s4,s5,s6⟩|⟨s1,s2⟩
  ·have ew:(L.w.compact2 (L.sn.idx+1) D).1=(L.w.compact1 (L.sn.idx+1) D).1:=s1;have s2:bO n (L.w.compact2 (L.sn.idx+1) D).2:=s2;have s3:∀ a,a % 4≠1->(L.w.compact2 (L.sn.idx+1) D).2.sec a=(L.w.compact1 (L.sn.idx+1) D).2.sec a:=s3;have s4:ct vot0 (M+1) { L with w:=(L.w.compact1 (L.sn.idx+1) D).1 } (L.w.compact2 (L.sn.idx+1) D).2 S1 op2:=s4;rw[ew];have hwc:(L.w.compact1 (L.sn.idx+1) D).1.code=0:=s4.wcode;rw[aaa qo];have hvk:=s4.vk;dsimp only at hvk;rw[e1,e2] at hvk;have ho2:=s4.chg (M':=M+1) (l:=L.l) (W:={ (L.w.compact1 (L.sn.idx+1) D).1 with first:=L.sn.idx+1,recs:=L.w.recs.drop (L.sn.idx+1-L.w.first) }) ⟨s4.wcode,s4.seg,s4.opn,s4.ops,s4.lt⟩ s4.old (fun _ _=>rfl) s4.frS s4.frn s4.next s4.ok (hvk.low hlt) s4.good;have hfr:=z6 (eq (L.w.compact1 (L.sn.idx+1) D).1.old+1) _ _ S1 op2 ho2 hM' aH rfl s5 s2
   grind
  have s1:(L.w.compact2 (L.sn.idx+1) D).1.code=30:=s1;have s2:mQ (L.w.compact1 (L.sn.idx+1) D).2 (L.w.compact2 (L.sn.idx+1) D).2:=s2;rw[aab qo];exact ⟨fun a ha=>by dsimp only;rw[s2.2.1 a,c0 a ha],.inr ⟨s2.1,c3.foundS (aac _) hM' aH c4 (s2.seg c3.seg)⟩⟩
 simp_all [E5,Wl.compact2]
theorem Bo(place:Nat)(data:List UInt8):∀ (f n m:Nat) (b:List UInt8) (D:Dk),b=data.drop (64*n)->eq b<f->n+(eq b+63) / 64<=65536->bO (m+(eq b+63) / 64) D ->
  (∀ j:Nat,j<n->64*j<eq data->fC (D.sec (bu place)) j=some (eE ((data.drop (64*j)).take 64))) ->
  (∀ a,a≠((bu place:Nat):Int)->(lgW place f n b D).1.sec a=D.sec a) /\
  (((lgW place f n b D).2=0/\bO m (lgW place f n b D).1/\∀ j:Nat,64*j<eq data->fC ((lgW place f n b D).1.sec (bu place)) j=some (eE ((data.drop (64*j)).take 64)))\/((lgW place f n b D).2=30/\(lgW place f n b D).1.dead=true))
 | 0,_,_,_,_,_,hf,_,_,_=>by omega
 | f+1,n,m,b,D,hb,hf,hn,h,hw=>by
  rw[pL];have hbl:eq b=eq data-64*n:=by rw[hb,aak]
  by_cases hb0:b=[]
  ·rw[aab hb0];rw[hb0,aaT] at hbl;exact ⟨fun _ _=>I,.inl ⟨I,h.mono qo,fun j hj=>hw j qo hj⟩⟩
  rw[aaa hb0];have hb1:0<eq b:=by grind
  obtain ⟨w1,w2,w3⟩:=bO.write (n:=m+(eq b-64+63) / 64) (h.mono qo) (bu place) n (b.take 64) qo qo (by rw[aam];omega);rcases w1 with ⟨g1,g2⟩|⟨g1,g2⟩
  ·rw[aaa (by rw[g1];simp)]
   obtain ⟨r1,r2⟩:=Bo place data f (n+1) m (b.drop 64) _ (by grind [List.drop_drop]) (by rw[aak];omega) (by rw[aak];omega) (by rw[aak];exact g2) (fun j hj hj2=>by
    rw[w2];unfold fC iO
    by_cases e:j=n
    ·subst e;rw[aab rfl,<-hb];simp[fI]
    rw[aaa qo];exact hw j qo hj2)
   simp_all
  simp_all
end
section
def Rw.seg{A:List Int}{D E:Dk}(h:Rw A D E)(hA:∀ a∈A,a % 4≠1):∀ a∈E.areas.map (·.1),a % 4=1->a∈D.areas.map (·.1):=fun a ha h1=>by
 rcases h.keys a ha with h2|h2
 ·exact h2
 exact absurd h1<|hA a h2
def d7.fr2{D E:Dk}{fr M:Nat}{sn:aX}(h:d7 D fr M sn Q)(hs:∀ a,a % 4=1->E.sec a=D.sec a)(hk:∀ a∈E.areas.map (·.1),a % 4=1->a∈D.areas.map (·.1)):d7 E fr M sn Q:=
 h.frame (fun n=>hs _ (by simp[aK])) fun n hn=>hk _ hn (by unfold aK;omega)
def CW{vot0:List Int}{M:Nat}{E:Dk}{H:bZ}{s:aX}{place fr:Nat}(hf:Fx (E.sec 4))(hs:cK (E.sec 4)=H)(hok:jH H vot0 s place fr)(hd:iB (E.sec (bu place)) s.data)(hp:place<=M)(hn:H.num<=M)(w:d7 E fr M s (P s)):
  ∀ f',Pk (E.sec 4) f'->(cK f').num<=M/\∃ sn place fr,place<=M/\jH (cK f') vot0 sn place fr/\((cK f').num≠0->∀ g,Pk (E.sec (bu place)) g->iB g sn.data)/\d7 E fr M sn (P sn):=by
 intro f' p;rw[hf.pk p,hs];exact ⟨hn,s,place,fr,hp,hok,fun _ g pg=>hd.pk pg,w⟩
structure SOk (s:aX):Prop where
 idx:s.idx<bH
 term:s.term<=ac
 data:eq s.data<=2097152
 vot:(bU s.vot).isSome=true
def Bs{vot0:List Int}{M n:Nat}{L:Lg}{D:Dk}{S:List Sg}{op:Option Og}(o:ct vot0 M L D S op)(hv:(bU vot0).isSome=true)(cn:Cn M L){A:List (Nat×Int)}(hA:(L.kt,L.kv)∈A)(s:aX)(hs:SOk s)(fr:Nat)(hM:M+1<=2000000)(hfr:fr<=M)
  (w0:d7 D L.fr (M+1) L.sn (P L.sn)) (w1:d7 D fr (M+1) s (P s)) (h:bO (n+((eq s.data+63) / 64+1)) D):
  (∀ a,a % 4=1->(L.lay s fr D).2.1.sec a=D.sec a)/\(∀ a∈(L.lay s fr D).2.1.areas.map (·.1),a % 4=1->a∈D.areas.map (·.1)) /\
  (((L.lay s fr D).2.2=0/\bO n (L.lay s fr D).2.1/\(L.lay s fr D).1={ L.laid s fr ⟨L.head.num+1,Lg.say s (L.place+1) fr⟩ with code:=0 }/\(L.lay s fr D).2.1.sec 0=D.sec 0/\Fx ((L.lay s fr D).2.1.sec 4)/\cK ((L.lay s fr D).2.1.sec 4)=⟨L.head.num+1,Lg.say s (L.place+1) fr⟩/\iB ((L.lay s fr D).2.1.sec (bu (L.place+1))) s.data) \/
   ((L.lay s fr D).2.2≠0/\(L.lay s fr D).2.1.dead=true/\lj vot0 (M+1) (L.lay s fr D).2.1 A P)):=by
 have cn1:=cn.up (show M<=M+1 by omega);have hp:=cn.2.2;have hh:=cn.2.1;have hpa:((bu (L.place+1):Nat):Int) % 4=2:=by simp[bu]
 have hpb:((bu L.place:Nat):Int) % 4=2:=by simp[bu]
 have hpc:((bu L.place:Nat):Int)≠((bu (L.place+1):Nat):Int):=by unfold bu;omega
 obtain ⟨v1,v2⟩:=Bo (L.place+1) s.data (eq s.data+1) 0 (n+1) s.data D rfl qo (by have:=hs.data;omega) (h.mono qo) (fun j hj=>by omega);have vk:=vq (L.place+1) (eq s.data+1) 0 s.data D;unfold Lg.lay;generalize lgW (L.place+1) (eq s.data+1) 0 s.data D=R1 at v1 v2 vk;obtain ⟨E1,c1⟩:=R1;dsimp only at v1 v2 vk ⊢;have k1:=vk.seg (fun a ha=>by simp_all);have a1:∀ a,a % 4≠2->E1.sec a=D.sec a:=fun a ha=>v1 a (fun e=>by omega);rcases v2 with ⟨x1,x2,x3⟩|⟨x1,x2⟩
 ·rw[aaa (by rw[x1];simp)];unfold Lg.lay1;have yk:=(Rw.sync (bu (L.place+1)) (Rw.refl [] E1)).seg (fun a ha=>by simp at ha);have y:=x2.sync (bu (L.place+1));generalize E1.sync (bu (L.place+1))=R2 at y yk;obtain ⟨E2,c2⟩:=R2;dsimp only at y yk ⊢;rcases y with ⟨y1,y2,y3,y4⟩|⟨y1,y2,y3⟩
  ·rw[aaa (by rw[y1];simp)];have a2:∀ a,a % 4≠2->E2.sec a=D.sec a:=fun a ha=>by grind
   have b2:E2.sec (bu L.place)=D.sec (bu L.place):=by rw[y4 _ hpc,v1 _ hpc]
   have d2:iB (E2.sec (bu (L.place+1))) s.data:=⟨by rw[y3];exact uE _,fun j hj=>by rw[y3,ro];exact x3 j hj⟩;unfold Lg.lay2;have hsay:=A5 (fr:=fr) (place:=L.place+1) (by have:=hs.idx;unfold bH at this;unfold ac;omega) hs.term qo qo hs.data hs.vot;have z:=yM (n:=n) (h:=y2.mono qo) 4 (S:=L.head) (v:=Lg.say s (L.place+1) fr) (by rw[a2 _ Nn];exact o.headF) (by rw[a2 _ Nn];exact o.headS) hsay qo;have zk:=(rk L.head 4 E2 (Lg.say s (L.place+1) fr)).seg (fun a ha=>by simp_all);generalize L.head.save 4 E2 (Lg.say s (L.place+1) fr)=R3 at z zk;obtain ⟨H,E3,c3⟩:=R3;dsimp only at z zk ⊢;obtain ⟨z0,z⟩:=z;have hp4:((bu L.place:Nat):Int)≠((4:Nat):Int):=qo
   have hp5:((bu (L.place+1):Nat):Int)≠((4:Nat):Int):=qo
   have a3:∀ a,a % 4=1->E3.sec a=D.sec a:=fun a ha=>by grind
   have k3:∀ a∈E3.areas.map (·.1),a % 4=1->a∈D.areas.map (·.1):=fun a ha h1=>k1 a (yk a (zk a ha h1) h1) h1;have e30:E3.sec 0=D.sec 0:=by rw[z0 0 Nn,a2 0 Nn]
   have d3:iB (E3.sec (bu (L.place+1))) s.data:=by rw[z0 _ hp5];exact d2
   have hok:jH ⟨L.head.num+1,Lg.say s (L.place+1) fr⟩ vot0 s (L.place+1) fr:=.inr ⟨Nm,rfl,by have:=hs.idx;omega,hs.term,by unfold bH;omega,hs.data,by unfold bH;omega,hs.vot⟩;rcases z with ⟨z1,z2,z3,z4,z5⟩|⟨z1,z2,z3⟩
   ·rw[aaa (by rw[z1];simp)];unfold Lg.lay3;have u:=z3.free (bu L.place);have uk:=(Rw.free (bu L.place) (Rw.refl [] E3)).seg (fun a ha=>by simp at ha);generalize E3.free (bu L.place)=R4 at u uk;obtain ⟨E4,c4⟩:=R4;dsimp only at u uk ⊢;have k4:∀ a∈E4.areas.map (·.1),a % 4=1->a∈D.areas.map (·.1):=fun a ha h1=>k3 a (uk a ha h1) h1;rcases u with ⟨u1,u2,u3,u4⟩|⟨u1,u2,u3⟩
    ·grind
    have a4:∀ a,a % 4=1->E4.sec a=D.sec a:=fun a ha=>by rw[u3 a,a3 a ha]
    refine ⟨a4,k4,.inr ⟨qo,u2,lI hv (o.hardP cn1 (by rw[u3 0,e30]) hA) (CW (by rw[u3 4];exact z4) (by rw[u3 4];exact z5) hok (by rw[u3];exact d3) qo aH (w1.fr2 a4 k4))⟩⟩
   rw[aab qo];refine ⟨a3,k3,.inr ⟨aH,z2,lI hv (o.hardP cn1 e30 hA) fun f' pf=>?_⟩⟩;rcases z3 f' pf with g|g
   ·rw[g];exact ⟨cn1.2.1,_,_,_,cn1.2.2,o.headV,fun hn g' pg=>(o.dat hn).pk (by rw[z0 _ hp4,b2] at pg;exact pg),w0.fr2 a3 k3⟩
   rw[g];exact ⟨aH,_,_,_,qo,hok,fun _ g' pg=>d3.pk pg,w1.fr2 a3 k3⟩
  rw[aab qo];have a2:∀ a,a % 4≠2->E2.sec a=D.sec a:=fun a ha=>by rw[y3 a,a1 a ha]
  have k2:∀ a∈E2.areas.map (·.1),a % 4=1->a∈D.areas.map (·.1):=fun a ha h1=>k1 a (yk a ha h1) h1;exact ⟨fun a ha=>a2 a qo,k2,.inr ⟨aH,y2,lI hv (o.hardP cn1 (a2 0 Nn) hA) (o.headP cn1 (a2 4 Nn) (by rw[y3,v1 _ hpc]) (w0.fr2 (fun a ha=>a2 a qo) k2))⟩⟩
 rw[aab qo];exact ⟨fun a ha=>a1 a qo,k1,.inr ⟨aH,x2,lI hv (o.hardP cn1 (a1 0 Nn) hA) (o.headP cn1 (a1 4 Nn) (v1 _ hpc) (w0.fr2 (fun a ha=>a1 a qo) k1))⟩⟩
end
section
def Rz(vot0:List Int)(M n:Nat)(L:Lg)(E:Dk)(r:Rl)(A:List (Nat×Int))(P:aX->List af->Prop)(ok c:Prop):Prop:=
 (ok/\bO n E/\L.rl=r/\Cn M L/\∃ S op,ct vot0 M L E S op/\dw S op L.sn (P L.sn)/\(c->dw S op L.sn (fun l=>l=L.l)))\/(E.dead=true/\lj vot0 M E A P)
theorem lj.up{vot0:List Int}{M M':Nat}{E:Dk}{A:List (Nat×Int)}{P:aX->List af->Prop}(h:lj vot0 M E A P)(hM:M<=M'):lj vot0 M' E A P:=fun D' c hr=>by
 obtain ⟨L',E',S',k1,k2,k3,k4,k5,k6⟩:=h D' c hr;exact ⟨L',E',S',k1,k2,k3,k4.up hM,k5.up hM,k6⟩
theorem Lg.sync_eq{L:Lg}{D:Dk}(hc:L.code=0):L.sync D=({ L with w:=(L.w.sync D).1,code:=(L.w.sync D).1.code },(L.w.sync D).2,(L.w.sync D).1.code):=by
 simp_all [Lg.sync]
def ct.sync0{vot0:List Int}{M:Nat}{L:Lg}{D:Dk}{S:List Sg}{op:Option Og}(o:ct vot0 M L D S op)(h:(L.w.sync D).1=L.w):L.sync D=(L,(L.w.sync D).2,0):=by
 rw[Lg.sync_eq o.code,h,o.wcode];have hc:=o.code;obtain ⟨w,hard,head,kt,kv,sn,place,fr,l,code⟩:=L;cases hc
 rfl
def G8{vot0:List Int}{M n:Nat}{L:Lg}{D:Dk}{S:List Sg}{op:Option Og}(o:ct vot0 M L D S op)(hv:(bU vot0).isSome=true)(cn:Cn M L){A:List (Nat×Int)}(hA:(L.kt,L.kv)∈A)(p:dw S op L.sn (P L.sn))(hq0:P L.sn L.l)(hM:M<=cG)(hidx:L.sn.idx<=dI)(h:bO n D):
  Rz vot0 M n (L.sync D).1 (L.sync D).2.1 L.rl A P ((L.sync D).2.2=0) True:=by
 rcases ue o h with ⟨s1,s2,s3,op',s4,s5,s6⟩|⟨s1,s2⟩
 ·rw[o.sync0 s1];exact .inl ⟨I,s2,I,cn,S,op',s4,s6.mono (fun l hl=>by subst hl;exact hq0),fun _=>s6⟩
 rw[Lg.sync_eq o.code];exact .inr ⟨s2.1,o.fnd hv cn (fun a _=>s2.2.1 a) (o.foundS (aac _) hM hidx p (s2.seg o.seg)) hA⟩
def Vk.snap{first:Nat}{recs:List bX}{sn s:aX}{l:List af}{v:Vl}(h:Vk first recs sn l v)(h1:sn.idx<s.idx)(h2:s.idx<=sn.idx+eq l):Vk first recs s (l.drop (s.idx-sn.idx)) v:=by
 cases v with
 | none=>
  obtain ⟨_,_,rfl⟩:=h;simp only[aaT] at h2;omega
 | some x=>
  have he:=h.endV;obtain ⟨f,r⟩:=x;obtain ⟨q1,q2,q3,q4,q5⟩:=h;dsimp only at he;refine ⟨q1,qo,qo,q4,?_⟩
  grind [List.map_drop,List.drop_drop]
def zb{sn s:aX}{l:List af}(g:gf sn l)(h1:sn.idx<s.idx)(h2:s.idx<=sn.idx+eq l)(h3:(trm sn l s.idx).1=s.term):gf s (l.drop (s.idx-sn.idx)):=by
 refine ⟨?_,fun e he=>g.2 e (aaM he)⟩;have h4:=tT g.1 (k:=s.idx-sn.idx) qo;have h5:=pA (s:=sn) (l:=l) (k:=s.idx-sn.idx) qo
 grind
def ct.newS{vot0:List Int}{M:Nat}{L:Lg}{D E:Dk}{S:List Sg}{op:Option Og}(o:ct vot0 M L D S op){s:aX}(h1:L.sn.idx<s.idx)(h2:s.idx<=L.sn.idx+eq L.l)(h3:(trm L.sn L.l s.idx).1=s.term){H:bZ}(hs:∀ a,a % 4=1->E.sec a=D.sec a)(hk:∀ a∈E.areas.map (·.1),a % 4=1->a∈D.areas.map (·.1))
  (e0:E.sec 0=D.sec 0) (f4:Fx (E.sec 4)) (s4:cK (E.sec 4)=H) (hok:jH H vot0 s (L.place+1) L.fr) (hd:iB (E.sec (bu (L.place+1))) s.data):ct vot0 M { L with head:=H,l:=L.l.drop (s.idx-L.sn.idx),place:=L.place+1,sn:=s,code:=0 } E S op where
 code:=rfl
 wcode:=o.wcode
 old:=o.old
 seg:=o.seg.frame (fun n=>hs _ (by simp[aK])) hk
 opn:=o.opn
 ops:=o.ops
 lt:=o.lt
 frS:=o.frS
 frn:=o.frn
 next:=o.next
 ok:=o.ok
 val:=by
  have vk:=o.vk.snap h1 h2;cases hv:dO none ((S++bz op).map Sg.v) with
  | none=>
   have h4:=o.vk;rw[hv] at h4;have:=congrArg List.length h4.2.2
   grind
  | some x=>
   rw[hv] at vk;exact .inr ⟨x.1,x.2,I,vk⟩
 hardF:=by rw[e0];exact o.hardF
 hardS:=by rw[e0];exact o.hardS
 hardV:=o.hardV
 headF:=f4
 headS:=s4
 headV:=hok
 dat:=fun _=>hd
 good:=zb o.good h1 h2 h3
theorem zL{vot0:List Int}{M n:Nat}{L:Lg}{D:Dk}{S:List Sg}{op:Option Og}(o:ct vot0 M L D S op)(hv:(bU vot0).isSome=true)(cn:Cn M L){A:List (Nat×Int)}(hA:(L.kt,L.kv)∈A)(p:dw S op L.sn (P L.sn))(hq0:P L.sn L.l)(s:aX)(hst:s.term<=ac)(hM:M+2<=2000000)(hidx:L.sn.idx+eq L.l<dI)
  (hq:∀ sn l,m6 L.rl (L.rl.save s).1 sn l->P sn l) (h:bO (n+((eq s.data+63) / 64+11)) D):
  Rz vot0 (M+2) n (L.save s D).1 (L.save s D).2.1 (L.rl.save s).1 A P ((L.save s D).2.2=(L.rl.save s).2) ((L.rl.save s).2=0):=by
 have hMw:M+2<=cG:=by unfold cG;omega
 have hfits:L.fits s=L.rl.fits s:=by
  unfold Lg.fits Rl.fits;rw[aaa (by rw[o.code];simp)]
  rfl
 unfold Rl.save at hq ⊢;unfold Lg.save;rw[hfits]
 by_cases hf:L.rl.fits s=0
 ·rw[aaa (show ¬L.rl.fits s≠0 by rw[hf];simp)] at hq ⊢;rw[aaa (show ¬L.rl.fits s≠0 by rw[hf];simp)];obtain ⟨hvt,hd,hlt,htop⟩:=ls hf;have hlt':L.sn.idx<s.idx:=hlt
  by_cases hh:dL L.sn L.l s=false
  ·rw[aab hh,aab (show dL L.rl.sn L.rl.l s=false from hh)];exact .inl ⟨I,h.mono qo,I,cn.up qo,S,op,o.up qo,p,fun hc=>absurd hc (show ¬((180:Int)=0) by decide)⟩
  rw[aaa (show ¬dL L.rl.sn L.rl.l s=false from hh)] at hq ⊢;rw[aaa hh];have hh':dL L.sn L.l s=true:=by simpa using hh
  obtain ⟨hin,hat⟩:=zV hh' hlt'
  have htr:(trm L.sn L.l s.idx).1=s.term:=by
   simp_all [dL]
  have hne:L.rl.sn≠s:=fun e=>by rw[<-e] at hlt;omega
  have hqs:P s (L.l.drop (s.idx-L.sn.idx)):=hq _ _ (.inr ⟨hne,rfl,rfl⟩);unfold Lg.save1;rcases ue o h with ⟨s1,s2,s3,op',s4,s5,s6⟩|⟨s1,s2⟩
  ·rw[o.sync0 s1,aaa Nm];dsimp only;generalize (L.w.sync D).2=E at s2 s3 s4;have hnx:=s4.next;have hfn:=s4.frn;have p1:dw S op' L.sn (P L.sn):=s6.mono fun l hl=>by subst hl;exact hq0
   have vks:=s4.vk.snap hlt' hin;have gs:=zb s4.good hlt' hin htr;have w0:=s4.foundS (M':=M+1) qo qo qo p1 s4.seg
   have w1:d7 E L.fr (M+1) s (P s):=by
    refine yg s4.seg qo qo qo (fun x hx=>?_) (fun q hq=>?_) ((ny s5 s4.ok gs vks.lv).mono fun l hl=>by rw[hl];exact hqs)
    ·have h1:=s4.frS x (aaj.2 (.inl hx));have h2:=s4.lt x (aaj.2 (.inl hx));omega
    subst hq;have h1:=s4.frS ⟨q.num,q.idx,q.recs⟩ (by simp[bz]);have h2:=s4.lt ⟨q.num,q.idx,q.recs⟩ (by simp[bz]);dsimp only at h1 h2;omega
   obtain ⟨r1,r2,r3⟩:=Bs (n:=n+10) s4 hv cn hA s ⟨htop,hst,hd,hvt⟩ L.fr qo qo w0 w1 (s2.mono qo);unfold Lg.save2;rcases r3 with ⟨x1,x2,x3,x4,x5,x6,x7⟩|⟨x1,x2,x3⟩
   ·rw[aaa (by rw[x1];simp)];have hok:jH ⟨L.head.num+1,Lg.say s (L.place+1) L.fr⟩ vot0 s (L.place+1) L.fr:=.inr ⟨Nm,rfl,qo,hst,by have:=cn.2.2;unfold bH;omega,hd,by unfold bH;omega,hvt⟩
    have hL2:(L.lay s L.fr E).1={ L with head:=⟨L.head.num+1,Lg.say s (L.place+1) L.fr⟩,l:=L.l.drop (s.idx-L.sn.idx),place:=L.place+1,sn:=s,code:=0 }:=by
     simp_all [Lg.laid]
    have o2:=(s4.newS hlt' hin htr r1 r2 x4 x5 x6 hok x7).up (show M<=M+1 by omega);rw[hL2];generalize (L.lay s L.fr E).2.1=E2 at x2 o2;have c2:Cn (M+1) { L with head:=⟨L.head.num+1,Lg.say s (L.place+1) L.fr⟩,l:=L.l.drop (s.idx-L.sn.idx),place:=L.place+1,sn:=s,code:=0 }:=⟨by have:=cn.1;dsimp only;omega,by have:=cn.2.1;dsimp only;omega,by have:=cn.2.2;dsimp only;omega⟩;have hfin:=s4.vk.fin;have hc:=EY (n:=n) o2 qo (by dsimp only;rw[aak];omega) aH s5 x2;dsimp only at hc ⊢;obtain ⟨h0,hc⟩:=hc;rcases hc with ⟨k1,k2,S3,op3,k3,k4⟩|⟨k1,k2⟩
    ·rw[k1];have pl:=ny k4 k3.ok k3.good k3.vk.lv;exact .inl ⟨I,k2,I,c2.up qo,S3,op3,k3,pl.mono (fun l hl=>by rw[hl];exact hqs),fun _=>pl⟩
    exact .inr ⟨k1,o2.fnd hv (c2.up qo) h0 (d7.imp k2 fun l hl=>by rw[hl];exact hqs) hA⟩
   rw[aab x1];exact .inr ⟨x2,x3.up qo⟩
  rw[aab (by rw[Lg.sync_eq o.code];dsimp only;omega),Lg.sync_eq o.code];exact .inr ⟨s2.1,o.fnd hv (cn.up qo) (fun a _=>s2.2.1 a) (o.foundS qo hMw qo p (s2.seg o.seg)) hA⟩
 rw[aab hf,aab hf];exact .inl ⟨I,h.mono qo,I,cn.up qo,S,op,o.up qo,p,fun hc=>absurd hc hf⟩
end
section
theorem tw:∀ (l:List Int) (D:Dk) (n:Nat),bO n D ->
  (∀ a,a % 4≠1->(wreset l D).1.sec a=D.sec a)/\(∀ a∈(wreset l D).1.areas.map (·.1),a∈D.areas.map (·.1)) /\
  (((wreset l D).2=0/\bO n (wreset l D).1/\∀ a∈l,a % 4=1->a∉(wreset l D).1.areas.map (·.1))\/((wreset l D).2=30/\(wreset l D).1.dead=true))
 | [],D,n,h=>⟨fun _ _=>rfl,fun _ h=>h,.inl ⟨rfl,h,Nm⟩⟩
 | a::r,D,n,h=>by
  unfold wreset
  by_cases ha:a % 4=1
  ·rw[aab ha]
   have hk:∀ k∈(D.free a).1.areas.map (·.1),k∈D.areas.map (·.1):=fun k hk=>by
    rcases (Rw.free a (Rw.refl [] D)).keys k hk with g|g
    ·exact g
    simp at g
   rcases h.free a with ⟨g1,g2,g3,g4⟩|⟨g1,g2,g3⟩
   ·rw[aab g1];obtain ⟨r1,r2,r3⟩:=tw r _ n g2
    have hgone:a∉(D.free a).1.areas.map (·.1):=by
     unfold Dk.free;rw[aaa (by rw[h.dead];decide)]
     split
     ·grind [Dk.free]
     show a∉(dv a D.areas).map (·.1);have hx:=nk a a D.areas h.keys;rw[aab rfl] at hx;exact fQ.1 hx
    grind
   grind
  rw[aaa ha];obtain ⟨r1,r2,r3⟩:=tw r D n h
  grind
def ES{vot0:List Int}{M n:Nat}{L:Lg}{D:Dk}{S:List Sg}{op:Option Og}(o:ct vot0 M L D S op)(hv:(bU vot0).isSome=true)(cn:Cn M L){A:List (Nat×Int)}(hA:(L.kt,L.kv)∈A)(p:dw S op L.sn (P L.sn))(hq0:P L.sn L.l)(s:aX)(hst:s.term<=ac)(hM:M+2<=2000000)(hidx:L.sn.idx+eq L.l<dI)
  (hq:∀ sn l,m6 L.rl (L.rl.install s).1 sn l->P sn l) (h:bO (n+((eq s.data+63) / 64+11)) D):
  Rz vot0 (M+2) n (L.install s D).1 (L.install s D).2.1 (L.rl.install s).1 A P ((L.install s D).2.2=(L.rl.install s).2) ((L.rl.install s).2=0):=by
 have hfits:L.fits s=L.rl.fits s:=by
  unfold Lg.fits Rl.fits;rw[aaa (by rw[o.code];simp)]
  rfl
 unfold Rl.install at hq ⊢;unfold Lg.install;rw[hfits]
 by_cases hf:L.rl.fits s=0
 ·rw[aaa (show ¬L.rl.fits s≠0 by rw[hf];simp)] at hq ⊢;rw[aaa (show ¬L.rl.fits s≠0 by rw[hf];simp)];obtain ⟨hvt,hd,hlt,htop⟩:=ls hf;have hlt':L.sn.idx<s.idx:=hlt
  by_cases hh:dL L.sn L.l s=true
  ·rw[aab (show dL L.rl.sn L.rl.l s=true from hh)] at hq ⊢;rw[aab hh]
   grind [zL]
  rw[aaa (show ¬dL L.rl.sn L.rl.l s=true from hh)] at hq ⊢;rw[aaa hh];have hne:L.rl.sn≠s:=fun e=>by rw[<-e] at hlt;omega
  have hqs:P s []:=hq _ _ (.inr ⟨hne,rfl,rfl⟩);have hMw:M+2<=cG:=by unfold cG;omega
  have hT:=Bp;have hnx:=o.next;have hplace:=cn.2.2
  have hkn:∀ n,aK n∈D.areas.map (·.1)->n<L.w.next:=fun n hn=>by
   rcases o.seg.keys _ hn (by simp[aK]) with ⟨x,hx,e⟩|⟨q,hq,e⟩
   ·have:=o.lt x (aaj.2 (.inl hx));have:=kE e;omega
   subst hq;have h2:=o.lt ⟨q.num,q.idx,q.recs⟩ (by simp[bz])
   grind [kE]
  have w0:=o.foundS (M':=M+1) qo qo qo p o.seg;have wv:∀ (E:Dk) (M':Nat),M<=M'->M'<=cG->(∀ a∈E.areas.map (·.1),a % 4=1->a∈D.areas.map (·.1))->d7 E L.w.next M' s (P s):=fun E M' h1 h2 h3=>xL qo h2 qo (fun n hn=>hkn n (h3 _ hn (by simp[aK]))) hqs;obtain ⟨r1,r2,r3⟩:=Bs (n:=n+10) o hv cn hA s ⟨htop,hst,hd,hvt⟩ L.w.next qo hnx w0 (wv D (M+1) qo qo fun a ha _=>ha) (h.mono qo);unfold Lg.inst1;rcases r3 with ⟨x1,x2,x3,x4,x5,x6,x7⟩|⟨x1,x2,x3⟩
  ·rw[aaa (by rw[x1];simp)];have hok:jH ⟨L.head.num+1,Lg.say s (L.place+1) L.w.next⟩ vot0 s (L.place+1) L.w.next:=.inr ⟨Nm,rfl,qo,hst,by unfold bH;omega,hd,by unfold bH;omega,hvt⟩
   have hL2:(L.lay s L.w.next D).1={ L with head:=⟨L.head.num+1,Lg.say s (L.place+1) L.w.next⟩,l:=[],place:=L.place+1,fr:=L.w.next,sn:=s,code:=0 }:=by
    simp_all [Lg.laid]
   rw[hL2];generalize (L.lay s L.w.next D).2.1=E2 at r1 r2 x2 x4 x5 x6 x7;dsimp only;obtain ⟨v1,v2,v3⟩:=tw (aU E2) E2 (n+10) x2;have ek:=fun a ha h1=>r2 a (v2 a ha) h1;unfold Wl.reset;rw[aaa (by rw[o.wcode];simp),aaa (by unfold bH at htop;unfold bn;omega)];rcases v3 with ⟨y1,y2,y3⟩|⟨y1,y2⟩
   ·rw[aaa (by rw[y1];simp)];have e0:(wreset (aU E2) E2).1.sec 0=D.sec 0:=by rw[v1 0 Nn,x4]
    have e4:(wreset (aU E2) E2).1.sec 4=E2.sec 4:=v1 4 Nn
    have hli:ct vot0 (M+2) { L with w:={ L.w with op:=none,old:=[],recs:=[],first:=s.idx+1 },head:=⟨L.head.num+1,Lg.say s (L.place+1) L.w.next⟩,l:=[],place:=L.place+1,fr:=L.w.next,sn:=s,code:=0 } (wreset (aU E2) E2).1 [] none:={
     code:=rfl
     wcode:=o.wcode
     old:=rfl
     seg:=⟨fun a ha h1=>absurd ha (y3 a ((dJ _).mem_iff.2 (v2 a ha)) h1),List.Pairwise.nil,Nm,Nm,fun q hq=>by cases hq⟩
     opn:=fun _=>rfl
     ops:=fun q hq=>by cases hq
     lt:=by simp[bz]
     frS:=by simp[bz]
     frn:=aac _
     next:=by dsimp only;omega
     ok:=trivial
     val:=.inl ⟨rfl,rfl,rfl,rfl⟩
     hardF:=by rw[e0];exact o.hardF
     hardS:=by rw[e0];exact o.hardS
     hardV:=o.hardV
     headF:=by rw[e4];exact x5
     headS:=by rw[e4];exact x6
     headV:=hok
     dat:=fun _=>by rw[v1 _ (by simp[bu])];exact x7
     good:=⟨rfl,Nm⟩ }
    have pl:dw [] none s (fun l=>l=[]):=fun t ht=>by
     have:t=none:=ht;subst this;exact ⟨trivial,[],I,⟨I,Nm⟩,I⟩
    exact .inl ⟨I,y2.mono qo,I,⟨by have:=cn.1;dsimp only;omega,by have:=cn.2.1;dsimp only;omega,aH⟩,[],none,hli,pl.mono (fun l hl=>by rw[hl];exact hqs),fun _=>pl⟩
   rw[aab qo];refine .inr ⟨y2,lI hv (o.hardP (cn.up qo) (by dsimp only;rw[v1 0 Nn,x4]) hA) (CW (by dsimp only;rw[v1 4 Nn];exact x5) (by dsimp only;rw[v1 4 Nn];exact x6) hok (by grind [bu]) qo (by have:=cn.2.1;dsimp only;omega) (wv _ _ qo hMw ek))⟩
  rw[aab x1];exact .inr ⟨x2,x3.up qo⟩
 rw[aab hf,aab hf];exact .inl ⟨I,h.mono qo,I,cn.up qo,S,op,o.up qo,p,fun hc=>absurd hc hf⟩
end
section
def ki:ef:=⟨[],false⟩
def ib(s:ef)(p:Int):Option (List UInt8):=
 if s.syn=true then s.vs[(max p 0).toNat % eq s.vs]?
 else if (max p 0).toNat % (eq s.vs+1)=0 then none else s.vs[(max p 0).toNat % (eq s.vs+1)-1]?
def nW(s:ef)(ps:List Int):Prop:=0<eq ps/\(s.syn=false\/1<eq s.vs)
instance (s:ef) (ps:List Int):Decidable (nW s ps):=by unfold nW;exact inferInstance
def iR(s:ef)(ps:List Int):Int:=if nW s ps then ps.headD 0 else 0
def gg(s:ef)(ps:List Int):List Int:=if nW s ps then ps.drop 1 else ps
def dW(l:Ar):List Int->List Int->Ar->Int->Ar×List Int×Int
 | [],ps,m,room=>(m,ps,room)
 | n::r,ps,m,room=>
  match ib ((a8 n l).getD ki) (iR ((a8 n l).getD ki) ps) with
  | some v=>dW l r (gg ((a8 n l).getD ki) ps) (cj n ⟨[v],true⟩ m) room
  | none=>dW l r (gg ((a8 n l).getD ki) ps) m (room+1)
def eB(D:Dk):List Int->List Int->List (Int×Ar)->Int->List (Int×Ar)×Int
 | [],_,m,room=>(m,room)
 | a::r,ps,m,room=>
  eB D r (dW (D.ar a) (eI ((D.ar a).map (·.1))) ps [] room).2.1 (if eq (dW (D.ar a) (eI ((D.ar a).map (·.1))) ps [] room).1=0 then m else cj a (dW (D.ar a) (eI ((D.ar a).map (·.1))) ps [] room).1 m) (dW (D.ar a) (eI ((D.ar a).map (·.1))) ps [] room).2.2
def Dk.crash(D:Dk)(ps:List Int):Dk:=⟨(eB D (aU D) ps [] (max D.room 0)).2,0,(eB D (aU D) ps [] (max D.room 0)).1,-1,false⟩
def JA{s:ef}(h:s.vs≠[])(p:Int):js (some s) ((ib s p).map fun v=>⟨[v],true⟩):=by
 have hl:0<eq s.vs:=ace.2 h;unfold js ib;dsimp only
 by_cases hs:s.syn=true
 ·rw[aab hs];have hlt:(max p 0).toNat % eq s.vs<eq s.vs:=abH _ hl
  simp_all
 grind
theorem rx(l:Ar):∀ (ns:List Int) (ps:List Int) (m:Ar) (room:Int),ns.Nodup->(∀ n∈ns,a8 n m=none)->(∀ n∈ns,∃ s,a8 n l=some s/\s.vs≠[])->(m.map (·.1)).Nodup ->
  (∀ n∈ns,js (a8 n l) (a8 n (dW l ns ps m room).1))/\(∀ n,n∉ns->a8 n (dW l ns ps m room).1=a8 n m)/\((dW l ns ps m room).1.map (·.1)).Nodup/\room<=(dW l ns ps m room).2.2/\(dW l ns ps m room).2.2<=room+(eq ns:Int)/\(dW l ns ps m room).2.2+(eq (dW l ns ps m room).1:Int)=room+(eq m:Int)+(eq ns:Int)
 | [],ps,m,room,_,_,_,hm=>⟨Nm,fun _ _=>rfl,hm,aaC _,by simp[dW],by simp[dW]⟩
 | n::r,ps,m,room,hn,hmn,hl,hm=>by
  have hn:=aa7.1 hn;obtain ⟨s,hs,hv⟩:=hl n Nm;have hpk:=JA hv (iR ((a8 n l).getD ki) ps);have e:(a8 n l).getD ki=s:=by rw[hs];rfl
  unfold dW;rw[e] at hpk ⊢;cases hf:ib s (iR s ps) with
  | some v=>
   rw[hf] at hpk;dsimp only;have hset:eq (cj n (⟨[v],true⟩:ef) m)=eq m+1:=by rw[pj,hmn n Nm];rfl
   obtain ⟨r1,r2,r3,r4,r5,r6⟩:=rx l r (gg s ps) (cj n ⟨[v],true⟩ m) room hn.2 (fun j hj=>by rw[kB,aaa (fun e=>hn.1 (by rw[<-e];exact hj))];exact hmn j (by simp[hj])) (fun j hj=>hl j (by simp[hj])) (ng hm);refine ⟨fun j hj=>?_,fun j hj=>?_,r3,r4,by simp only[aan];omega,by grind⟩
   ·rcases aay.1 hj with rfl|hj
    ·rw[r2 _ hn.1,kB,aab rfl,hs];exact hpk
    exact r1 j hj
   simp_all [kB]
  | none=>
   rw[hf] at hpk;dsimp only;obtain ⟨r1,r2,r3,r4,r5,r6⟩:=rx l r (gg s ps) m (room+1) hn.2 (fun j hj=>hmn j (by simp[hj])) (fun j hj=>hl j (by simp[hj])) hm
   grind
theorem uZ{c:Nat}{D:Dk}(o:D.Ok c):∀ (ks:List Int) (ps:List Int) (m:List (Int×Ar)) (room:Int),ks.Nodup->(∀ a∈ks,a8 a m=none)->(m.map (·.1)).Nodup->(∀ x∈m,x.2≠[]) ->
  (∀ a∈ks,∀ n,js (D.sec a n) (a8 n ((a8 a (eB D ks ps m room).1).getD [])))/\(∀ a,a∉ks->a8 a (eB D ks ps m room).1=a8 a m)/\((eB D ks ps m room).1.map (·.1)).Nodup/\(∀ x∈(eB D ks ps m room).1,x.2≠[])/\room<=(eB D ks ps m room).2/\∀ a∈(eB D ks ps m room).1.map (·.1),a∈ks\/a∈m.map (·.1)
 | [],ps,m,room,_,_,hm,hx=>⟨Nm,fun _ _=>rfl,hm,hx,aaC _,fun a ha=>.inr ha⟩
 | a::r,ps,m,room,hn,hma,hm,hx=>by
  have hn:=aa7.1 hn
  have hnd:((D.ar a).map (·.1)).Nodup:=by
   unfold Dk.ar;cases hg:a8 a D.areas with
   | none=>simp
   | some l=>exact (o.ns _ (f8 hg)).1
  have hvs:∀ n∈eI ((D.ar a).map (·.1)),∃ s,a8 n (D.ar a)=some s/\s.vs≠[]:=by
   intro n hn;have hn:=(dJ _).mem_iff.1 hn;cases hg:a8 n (D.ar a) with
   | none=>exact absurd hn (fQ.1 hg)
   | some s=>
    refine ⟨s,I,?_⟩;have h1:=f8 hg;unfold Dk.ar at h1;cases hg2:a8 a D.areas with
    | none=>rw[hg2] at h1;simp at h1
    | some l=>rw[hg2] at h1;exact (o.vs _ (f8 hg2) _ h1).1
  obtain ⟨q1,q2,q3,q4,q5,q6⟩:=rx (D.ar a) (eI ((D.ar a).map (·.1))) ps [] room ((dJ _).symm.nodup hnd) (fun _ _=>rfl) hvs Nm;unfold eB;generalize dW (D.ar a) (eI ((D.ar a).map (·.1))) ps [] room=R at q1 q2 q3 q4 q5 q6;obtain ⟨l,ps',room'⟩:=R;dsimp only at q1 q2 q3 q4 q5 q6 ⊢;obtain ⟨m',hm'⟩:=be (if eq l=0 then m else cj a l m);rw[<-hm']
  have hget:∀ b,a8 b m'=if b=a/\l≠[] then some l else a8 b m:=by
   intro b;rw[hm']
   by_cases h0:eq l=0
   all_goals simp_all [kB]
  have hnd':(m'.map (·.1)).Nodup:=by
   grind [ng]
  have hne':∀ x∈m',x.2≠[]:=by
   intro x hxx;rw[hm'] at hxx
   split at hxx
   ·exact hx x hxx
   rename_i h0;rcases iu hxx with rfl|h1
   all_goals grind
  have hkm:∀ b∈m'.map (·.1),b=a\/b∈m.map (·.1):=by
   intro b hb;rw[hm'] at hb
   split at hb
   ·exact .inr hb
   obtain ⟨x,hxx,rfl⟩:=aap.1 hb;rcases iu hxx with rfl|h1
   all_goals grind
  obtain ⟨r1,r2,r3,r4,r5,r6⟩:=uZ o r ps' m' room' hn.2 (fun b hb=>by grind) hnd' hne';refine ⟨fun b hb n=>?_,fun b hb=>?_,r3,r4,qo,fun b hb=>?_⟩
  ·rcases aay.1 hb with rfl|hb
   ·rw[r2 _ hn.1,hget]
    have hl:a8 n ((if b=b/\l≠[] then some l else a8 b m).getD [])=a8 n l:=by
     grind
    rw[hl]
    by_cases hin:n∈eI ((D.ar b).map (·.1))
    ·exact q1 n hin
    rw[q2 n hin];have:a8 n (D.ar b)=none:=fQ.2 (fun h=>hin ((dJ _).mem_iff.2 h));unfold Dk.sec;rw[this]
    rfl
   exact r1 b hb n
  all_goals grind
def AA{c:Nat}{D:Dk}(o:aP c D)(ps:List Int):Cr D (D.crash ps)/\0<=(D.crash ps).room:=by
 obtain ⟨r1,r2,r3,r4,r5,r6⟩:=uZ o.ok (aU D) ps [] (max D.room 0) ((dJ _).symm.nodup o.ok.keys) (fun _ _=>rfl) Nm Nm
 have hk:∀ k∈(D.crash ps).areas.map (·.1),k∈D.areas.map (·.1):=fun k hk=>by
  rcases r6 k hk with h|h
  ·exact (dJ _).mem_iff.1 h
  simp at h
 refine ⟨⟨I,I,fun a n=>?_,hk,r3,fun a=>?_,fun k h=>(o.ar k (hk k h)).1⟩,by show 0<=(eB D (aU D) ps [] (max D.room 0)).2;omega⟩
 ·by_cases ha:a∈aU D
  ·exact r1 a ha n
  have h1:a8 a D.areas=none:=fQ.2 (fun h=>ha ((dJ _).mem_iff.2 h));have h2:a8 a (D.crash ps).areas=none:=by rw[show (D.crash ps).areas=(eB D (aU D) ps [] (max D.room 0)).1 from rfl,r2 a ha];rfl
  unfold Dk.sec Dk.ar;rw[h1,h2]
  rfl
 constructor
 ·intro ha;cases hg:a8 a (D.crash ps).areas with
  | none=>exact absurd ha (fQ.1 hg)
  | some l=>
   have hne:=r4 _ (f8 hg);cases l with
   | nil=>exact absurd rfl hne
   | cons x l=>
    refine ⟨x.1,x.2,?_⟩
    simp_all [Dk.sec,Dk.ar,a8]
 rintro ⟨n,x,h⟩;unfold Dk.sec Dk.ar at h;cases hg:a8 a (D.crash ps).areas with
 | none=>rw[hg] at h;simp[a8] at h
 | some l=>exact aap.2 ⟨_,f8 hg,rfl⟩
end
section
instance:DecidableEq aX:=fun a b=>decidable_of_iff (a.idx=b.idx/\a.term=b.term/\a.vot=b.vot/\a.data=b.data) (by cases a;cases b;simp)
def Jz{vot0:List Int}(hv:(bU vot0).isSome=true){D:Dk}(h:D.areas=[]):lj vot0 0 D [(0,-1)] (fun sn l=>sn=⟨0,0,vot0,[]⟩/\l=[]):=by
 have hs:∀ a,D.sec a=fun _=>none:=fun a=>by
  funext n
  unfold Dk.sec Dk.ar;rw[h]
  rfl
 have hp:∀ a f',Pk (D.sec a) f'->f'=fun _=>none:=fun a f' p=>by
  rw[hs a] at p
  funext n
  exact p n
 have e0:cK (fun _=>none)=⟨0,[]⟩:=rfl;refine lI hv (fun f' p=>?_) fun f' p=>?_
 ·rw[hp 0 f' p,e0];exact ⟨aac _,_,Nm,I⟩
 rw[hp 4 f' p,e0];exact ⟨aac _,⟨0,0,vot0,[]⟩,0,0,aac _,.inl ⟨I,I,I,I⟩,fun h=>absurd I h,xL (aad _) (aad _) (aac _) (fun n hn=>by rw[h] at hn;simp at hn) ⟨rfl,rfl⟩⟩
end
section
def Dq(p:Int):Value.int .i64 (if p<0 then 0 else p)=.int .i64 (((max p 0).toNat:Nat):Int):=congrArg (Value.int .i64) (by split <;> omega)
def F6{w0:World}{K:PH}{hs:List PH}(s:ef)(v:Value)(hv:i7 K v s)(hne:s.vs≠[])(hlen:eq s.vs<=1099511627776)(p:Int)(hp : -9223372036854775808<=p/\p<=9223372036854775807):
  aj w0 51 [v,.int .i64 p] K hs (fun u K' hs'=>K'=K/\hs'=hs/\u=.tuple #[.string ⟨((ib s p).getD []).toArray⟩,.bool (ib s p).isSome]):=by
 obtain ⟨ao,c,rfl,x⟩:=hv;obtain ⟨k,hk⟩:∃ k,eq s.vs=k+1:=⟨eq s.vs-1,by have:=ace.2 hne;omega⟩
 have hget:∀ i,i<k+1->∃ b,s.vs[i]?=some b/\(iS s.vs)[i]?=some (.string ⟨b.toArray⟩):=fun i hi=>by
  have h1:i<eq s.vs:=qo
  exact ⟨s.vs[i],aai h1,by unfold iS;rw[aby,aai h1];rfl⟩
 rw[hk] at x;rw[hk];refine ent Tryz.func51 ?_;refine acI (bx 0 I fun b2=>fin 2 I (acF (a9 1 0 (v:=.slice ao (k+1) c) I I I (fin 2 I (acE (a9 1 0 (v:=.bool s.syn) I I I ?_))))));cases hsy:s.syn with
 | true=>
  obtain ⟨j,hj⟩:=be ((max p 0).toNat % (k+1));have hjl:j<k+1:=by rw[hj];exact abH _ qo
  have hf:ib s p=s.vs[j]?:=by unfold ib;rw[aab hsy,hk,<-hj]
  obtain ⟨b,g1,g2⟩:=hget j hjl;rw[hf,g1];refine au ?_;refine ar 1 I (Dq p) (ar 1 I (kK .i64 (max p 0).toNat (k+1)) ?_);rw[<-hj];refine fin 1 I (acE (a9 1 0 (v:=.bool true) I I I (au ?_)));refine ai 1 I fun b25 h25=>fin 0 I (th (ax h25 I (fun e2=>?_) (fun e2=>?_)))
  ·exact absurd e2 qo
  exact sk<|acF (a9 1 0 (v:=.slice ao (k+1) c) I I I (dR 1 j I qo I x g2 fun a29 hc29=>ld 0 I (.inl I) hc29<|fin 2 I (acK (WQ.drop<|bM I I I ⟨I,I,I⟩))))
 | false=>
  obtain ⟨j,hj⟩:=be ((max p 0).toNat % (k+1+1));have hjl:j<k+1+1:=by rw[hj];exact abH _ qo
  have hf:ib s p=if j=0 then none else s.vs[j-1]?:=by unfold ib;rw[aaa (by rw[hsy];simp),hk,<-hj]
  rw[hf];refine au ?_;refine ar 1 I (v':=.int .i64 (k+1+1:Nat)) (aC qo) (au ?_);refine ar 1 I (Dq p) (ar 1 I (kK .i64 (max p 0).toNat (k+1+1)) ?_);rw[<-hj];refine fin 1 I (acE (a9 1 0 (v:=.bool false) I I I (au ?_)));refine ar 1 I (v':=.int .i64 ((j:Int)-1)) (aC qo) (au ?_);refine ai 1 I fun b25 h25=>fin 0 I (th (ax h25 I (fun e2=>?_) (fun e2=>?_)))
  ·rw[aab (show j=0 by omega)];exact acI (fin 2 I (acK (rT (WQ.drop (bM I I I ⟨I,I,I⟩)))))
  rw[aaa (show ¬j=0 by omega)];obtain ⟨b,g1,g2⟩:=hget (j-1) qo;rw[g1];exact sk (acF (a9 1 0 (v:=.slice ao (k+1) c) I I I (dR 1 (j-1) I qo I x g2 fun a29 hc29=>ld 0 I (.inl I) hc29 (fin 2 I (acK (WQ.drop (bM I I I ⟨I,I,I⟩)))))))
end
section
structure qu where
 j:Nat
 K:PH
 mm:Ar
 mv:List (Int×Value)
 hl:PH
 room:Int
 ps:List Int
 ap:Option Addr
 cp:Nat
structure qt where
 i:Nat
 K:PH
 m:List (Int×Ar)
 ins:jf
 ho:PH
 room:Int
 ps:List Int
 ap:Option Addr
 cp:Nat
abbrev jv(room:Int)(m:List (Int×Ar)):Dk:=⟨room,0,m,-1,false⟩
def HN{l:Ar}{n:Int}{r ps:List Int}{m:Ar}{room:Int}{s:ef}{v:List UInt8}(h:(a8 n l).getD ki=s)(hf:ib s (iR s ps)=some v):dW l (n::r) ps m room=dW l r (gg s ps) (cj n ⟨[v],true⟩ m) room:=by
 subst h;simp only[dW];rw[hf]
def HO{l:Ar}{n:Int}{r ps:List Int}{m:Ar}{room:Int}{s:ef}(h:(a8 n l).getD ki=s)(hf:ib s (iR s ps)=none):dW l (n::r) ps m room=dW l r (gg s ps) m (room+1):=by
 subst h;simp only[dW];rw[hf]
def JO{D:Dk}{a:Int}{r qs rs:List Int}{m:List (Int×Ar)}{mm:Ar}{room rm:Int}(h:(mm,rs,rm)=dW (D.ar a) (eI ((D.ar a).map (·.1))) qs [] room):eB D (a::r) qs m room=eB D r rs (if eq mm=0 then m else cj a mm m) rm:=by
 simp only[eB];rw[<-h]
def HB(ps:List Int)(n:Nat)(h:eq ps=n+1):((iv ps).drop (1*1)).take (n*1)=iv (ps.drop 1):=by
 simp_all [aav,iv]
def Cz{w0:World}{K:PH}{hs m:List PH}(b:Nat)(D:Dk)(c:Nat)(o:aP c D)(hc:c<=1000000000)(hm:go K b D m)(ps:List Int)(hps:∀ p∈ps,-9223372036854775808<=p/\p<=9223372036854775807)(ap:Option Addr)(cp:Nat)(xp:aw K ap (eq ps) cp 1 (iv ps))(hpl:eq ps<1099511627776):
  aj w0 21 [Nr b,.slice ap (eq ps) cp] K (m++hs)
   (fun v K' hs'=>Le K K'/\∃ b2 m2,hs'=m2++(m++hs)/\go K' b2 (D.crash ps) m2/\v=Nr b2):=by
 obtain ⟨bo,ho,ins,rfl,hO,hI⟩:=hm;have hroom:=o.ok.room;refine cB Tryz.func21 ?_;refine cl 0 I (CQ D.room hroom) ?_;rintro v19 K19 hs19 ⟨rfl,cb,mE,rfl,⟨boE,hoE,insE,rfl,hOE,hIE⟩,rfl⟩
 have hinsE:insE=[]:=by
  cases insE with
  | nil=>rfl
  | cons x r=>exact hIE.elim
 subst hinsE;have hmax:max D.room 0=D.room:=qo
 have hks:∀ k∈aU D,k∈D.areas.map (·.1):=fun k hk=>(dJ _).mem_iff.1 hk;have hknd:(aU D).Nodup:=(dJ _).symm.nodup o.ok.keys;have hkl:eq (aU D)=eq D.areas:=by unfold aU;rw[(dJ _).length_eq,aaO]
 have hlen:=o.len;refine fin 1 I (acE (WL.perm (hs':=(pt b (bW D bo) 126::ho::bC ins)++([pt cb (bW (dT D.room) boE) 126,hoE]++hs)) (aal [_,_] (pt b (bW D bo) 126::ho::bC ins) hs) (cl 1 I (CE b D c o.ok qo (fun k hk=>(o.ar k hk).1) ⟨bo,ho,ins,I,hO,hI⟩) ?_)));rintro v21 K21 hs21 ⟨le1,rfl,ak,ck,rfl,xk⟩;refine WL.perm (hs':=[pt cb (bW (jv D.room []) boE) 126,hoE]++((pt b (bW D bo) 126::ho::bC ins)++(bC ([]:jf)++hs))) (aal (pt b (bW D bo) 126::ho::bC ins) [_,_] hs) (au ?_)
 refine loop (σ:=qt) (fun s=>[(0,Nr b),(1,.slice s.ap (eq s.ps) s.cp),(5,Nr cb),(21,.slice ak (eq (aU D)) ck),(22,.int .i64 ((eq (aU D):Nat):Int)),(23,.int .i64 s.i)]) (fun s=>s.K)
  (fun s=>[pt cb (bW (jv s.room s.m) boE) 126,s.ho]++((pt b (bW D bo) 126::ho::bC ins)++(bC s.ins++hs)))
  (fun s=>s.i<=eq (aU D)/\Le K21 s.K/\eB D ((aU D).drop s.i) s.ps s.m s.room=eB D (aU D) ps [] D.room/\dX sK qe s.ho boE (ez s.ins)/\eQ s.K s.ins s.m/\aw s.K s.ap (eq s.ps) s.cp 1 (iv s.ps)/\(∀ p∈s.ps,p∈ps)/\eq s.ps<=eq ps /\
   (∀ k∈s.m.map (·.1),k∈(aU D).take s.i)/\0<=s.room/\s.room<=1099511627776+((c*s.i:Nat):Int)) (fun s=>eq (aU D)-s.i) ⟨0,K21,[],[],hoE,D.room,ps,ap,cp⟩
  ⟨aad _,Le.refl _,rfl,hOE,trivial,xp.le le1,fun _ h=>h,aac _,Nm,hroom.1,aH⟩ sb rfl rfl ?_
 rintro ⟨i,K1,m,insE,hoE,room,qs,aq,cq⟩ ⟨hi,le,hR,hOE,hIE,xq,hsub,hql,hkm,hr0,hr1⟩;dsimp only at *;refine acI (ai 0 I fun b24 h24=>au ?_);refine ax h24 I (fun e2=>?_) (fun e2=>?_)
 ·have hi1:i<eq (aU D):=qo
  have hcm:c*(i+1)<=1000000000*1000000000:=Nat.mul_le_mul hc qo;have hcm2:c*(i+1)=c*i+c:=Nat.mul_succ c i;obtain ⟨a,ha⟩:∃ a,(aU D)[i]?=some a:=⟨_,aai hi1⟩;have hamem:a∈aU D:=aao ha
  have hdrop:(aU D).drop i=a::(aU D).drop (i+1):=by
   simp_all [aaF]
  obtain ⟨bi,h,tl,hAr,hperm⟩:=qp (hI.le (le1.trans le)) a (bC insE++hs);have hmo:=pD (hI.le (le1.trans le)) hAr;rcases hAr with ⟨g1,_⟩|⟨bi,i1,mv,i2,q1,q2,rfl,g2,g3,g4,g5,g6,hMv,hMR,rfl⟩
  ·exact absurd (hks a hamem)<|fQ.1 g1
  have hp:=(hperm (pt b (bW D bo) 126) ho).2 Nm;have haD:(a,D.ar a)∈D.areas:=by rw[g3];simp
  have hns:=o.ok.ns _ haD;have hat:=o.ok.at_ _ haD;have hvs:=o.ok.vs _ haD;dsimp only at hns hat hvs;have hkeys:=hMR.keys;have hmvl:=hMR.len;obtain ⟨ns,hnsd⟩:=be (eI ((D.ar a).map (·.1)));have hnsl:eq ns=eq (D.ar a):=by rw[hnsd,(dJ _).length_eq,aaO]
  refine au ?_;refine dR 0 i I I I (xk.le le) (show (oU (aU D))[i]?=some (.int .u64 a) by unfold oU;rw[aby,ha];rfl) fun a25 hc25=>?_;refine ld 0 I (.inl I) hc25 (au ?_);refine sU 0 I fun bq=>?_;have hmap0:=dX.empty (enc:=lW) (encv:=(id:Value->Value)) bq 0;refine WL.perm (hs':=pt cb (bW (jv room m) boE) 126::hoE::sg bq (.map #[] 0)::h::pt b (bW D bo) 126::ho::(bC i1++(bC i2++(bC insE++hs)))) ((aal [_] [_,_] _).trans (((hp.cons _).cons _).cons _)) (au ?_);refine il 1 (z:=.map none) a I Tryz.underlying124 qk gk I (.inr ⟨5,I⟩) hO ?_;rw[hmo];refine cl 0 I (CU false bi) ?_;rintro v34 K34 hs34 ⟨rfl,b1,rfl,rfl⟩
  refine cl 0 I (A0 false (m:=mv) _ [Nr b1] (by rw[hkeys];exact hns.1) (by grind) (wl h b1 bi) (CT false id h b1 bi mv (by rw[hkeys];exact hns.1) hMv) qk qo
   (fun x y fr=>⟨⟨_,.inr ⟨2,rfl⟩,cC.pt rfl⟩,.inr ⟨6,rfl⟩⟩)) ?_
  rintro v35 K35 hs35 ⟨le2,rfl,an,cn,rfl,xn⟩;rw[hkeys,<-hnsd] at xn;rw[show eq mv=eq ns from qo] at xn ⊢;refine WL.drop (au ?_)
  refine loop (σ:=qu) (fun s=>[(0,Nr b),(1,.slice s.ap (eq s.ps) s.cp),(5,Nr cb),(7,.int .u64 a),(8,.map (some bq)),(21,.slice ak (eq (aU D)) ck),(22,.int .i64 ((eq (aU D):Nat):Int)),(23,.int .i64 (i:Nat)),(35,.slice an (eq ns) cn),(36,.int .i64 (eq ns)),(37,.int .i64 s.j)]) (fun s=>s.K)
   (fun s=>pt cb (bW (jv s.room m) boE) 126::hoE::s.hl::h::pt b (bW D bo) 126::ho::(bC i1++(bC i2++(bC insE++hs))))
   (fun s=>s.j<=eq ns/\Le K35 s.K/\dW (D.ar a) (ns.drop s.j) s.ps s.mm s.room=dW (D.ar a) ns qs [] room/\dX lW id s.hl bq s.mv/\MR (i7 s.K) s.mv s.mm/\aw s.K s.ap (eq s.ps) s.cp 1 (iv s.ps)/\(∀ p∈s.ps,p∈qs)/\eq s.ps<=eq qs/\room<=s.room/\s.room<=room+((s.j:Nat):Int)) (fun s=>eq ns-s.j)
   ⟨0,K35,[],[],sg bq (.map #[] 0),room,qs,aq,cq⟩ ⟨aad _,Le.refl _,rfl,hmap0,trivial,xq.le le2,fun _ h=>h,aac _,aaC _,Nm⟩ ⟨rfl,rfl,rfl,rfl,rfl,rfl,rfl,rfl,rfl,rfl,rfl,trivial⟩ rfl rfl ?_
  rintro ⟨j,K2,mm,mw,hl,rm,rs,aR,cr⟩ ⟨hj,le3,hQ,hMl,hMRl,xr,hsub2,hrl,hrm0,hrm1⟩;dsimp only at *;refine acI (bh 0 I (fun e4=>?_) (fun e4=>?_))
  ·refine au ?_;have hj1:j<eq ns:=qo
   obtain ⟨n,hn⟩:∃ n,ns[j]?=some n:=⟨_,aai hj1⟩;have hnd:ns.drop j=n::ns.drop (j+1):=by simp_all [aaF]
   have hnmem:n∈(D.ar a).map (·.1):=by
    grind [dJ]
   rcases MR.get n (hMR.imp fun _ _ h=>i7.le (le2.trans le3) h) with ⟨_,h2⟩|⟨v,s,q1',q2',hsec⟩
   ·exact absurd hnmem<|fQ.1 h2
   have hsv:=hvs _ (f8 q2');dsimp only at hsv;have hgd:(a8 n (D.ar a)).getD ki=s:=by rw[q2'];rfl
   obtain ⟨av,cv,rfl,xv⟩:=hsec;refine au ?_;refine dR 0 j I I I (xn.le le3) (show (fm false ns)[j]?=some (.int .i64 n) by unfold fm;rw[aby,hn];rfl) fun a39 hc39=>?_;refine ld 0 I (.inl I) hc39 (au ?_);refine il 1 (z:=.map none) a I Tryz.underlying124 qk gk I (.inr ⟨5,I⟩) hO ?_;rw[hmo];refine il 1 (z:=.agg #[.slice none 0 0,.bool false]) n I Tryz.underlying129 qk kc I (.inr ⟨3,I⟩) hMv ?_;rw[q1'];refine al 0 (.agg #[.slice none 0 0,.bool false]) I qk fun b11=>?_;refine bJ 0 0 I I qk I I ?_;refine WL.hs (pt b11 #[.slice av (eq s.vs) cv,.bool s.syn] 136::pt cb (bW (jv rm m) boE) 126::hoE::hl::h::pt b (bW D bo) 126::ho::(bC i1++(bC i2++(bC insE++hs)))) I (fin 0 I (acF (fin 1 I (th ?_))))
   refine jn (σ:=Option Addr×Nat) (fun z=>[(0,Nr b),(1,.slice z.1 (eq (gg s rs)) z.2),(5,Nr cb),(7,.int .u64 a),(8,.map (some bq)),(10,.int .i64 n),(11,Nr b11),(12,.int .i64 (iR s rs)),(21,.slice ak (eq (aU D)) ck),(22,.int .i64 ((eq (aU D):Nat):Int)),(23,.int .i64 (i:Nat)),(35,.slice an (eq ns) cn),(36,.int .i64 (eq ns)),(37,.int .i64 (j:Nat))])
    (fun _=>pt b11 #[.slice av (eq s.vs) cv,.bool s.syn] 136::pt cb (bW (jv rm m) boE) 126::hoE::hl::h::pt b (bW D bo) 126::ho::(bC i1++(bC i2++(bC insE++hs)))) (fun z=>aw K2 z.1 (eq (gg s rs)) z.2 1 (iv (gg s rs))) ?_ ?_
   ·refine acI (ai 2 I fun b51 h51=>?_)
    refine' dU (q:=s.syn=false\/1<eq s.vs) 1 10 62 [51,52] h51 I I I I I I I (fun _=>?x6) (fun b62 h62=>?_)
    case x6=>
     refine au ?_;refine dE 0 (s.syn=false) I Nm fun b55 h55=>?_
     refine' dx (q:=1<eq s.vs) 1 5 61 [55,56] h55 I I I I I I I (fun _=>?x7) (fun b61 h61=>?_)
     case x7=>
      refine au ?_;exact ai 1 I fun b60 h60=>fin 1 I (bK (h60.trans qo) I I I)
     exact fin 1 I<|bK h61 I I I
    refine fin 0 I<|th (ax h62 I (fun e9=>?_) (fun e9=>?_))
    ·have hu:nW s rs:=⟨qo,e9.2⟩;obtain ⟨k,hk⟩:∃ k,eq rs=k+1:=⟨eq rs-1,qo⟩;have e1:iR s rs=rs.headD 0:=aab hu;have e2':gg s rs=rs.drop 1:=aab hu;have hkl2:eq (rs.drop 1)=k:=by simp;omega
     refine acI (dR 1 0 I I I xr (u:=.int .i64 (rs.headD 0)) (by cases rs with|nil=>simp at hk|cons x r=>rfl) fun a64 hc64=>ld 0 I (.inl I) hc64 (au ?_));refine sl 1 1 k I xr I (by show ((eq rs:Nat):Int)=_;omega) qo (HB rs k hk) fun ao67 c67 x67=>fin 1 rfl ?_;exact jx (ao67,c67) (by rw[e2',hkl2];exact x67) ⟨I,by rw[e2',hkl2];rfl,rfl,rfl,rfl,rfl,rfl,by rw[e1];rfl,rfl,rfl,rfl,rfl,rfl,rfl,trivial⟩ rfl rfl
    have hu:¬nW s rs:=fun h=>e9 ⟨by have:=h.1;omega,h.2⟩;have e1:iR s rs=0:=aaa hu;have e2':gg s rs=rs:=aaa hu;refine sk ?_;exact jx (aR,cr) (by rw[e2'];exact xr) ⟨I,by rw[e2'];rfl,rfl,rfl,rfl,rfl,rfl,by rw[e1];rfl,rfl,rfl,rfl,rfl,rfl,rfl,trivial⟩ rfl rfl
   rintro ⟨ar2,cr2⟩ xr2;dsimp only at *
   have hpick : -9223372036854775808<=iR s rs/\iR s rs<=9223372036854775807:=by
    unfold iR
    split
    ·rename_i hu;cases rs with
     | nil=>simp
     | cons x r=>exact hps x (hsub x (hsub2 x Nm))
    omega
   have hsubR:∀ p∈gg s rs,p∈qs:=fun p hp'=>hsub2 p (by
    grind [gg])
   have hlenR:eq (gg s rs)<=eq qs:=by
    unfold gg
    grind
   refine acI (fh 0 0 I I qk (cl 1 I (F6 s _ ⟨av,cv,I,xv⟩ hsv.1 qo (iR s rs) hpick) ?_));rintro v71 K71 hs71 ⟨rfl,rfl,rfl⟩;refine fin 5 I (acF ?_);cases hf:ib s (iR s rs) with
   | some vb=>
    have hstep:dW (D.ar a) (ns.drop j) rs mm rm=dW (D.ar a) (ns.drop (j+1)) (gg s rs) (cj n ⟨[vb],true⟩ mm) rm:=by
     rw[hnd];exact HN hgd hf
    refine au ?_;refine lit 3 #[str vb] I Nn qk fun b78=>WL.frz fun K3 l1 l2=>?_;have x78:aw K3 (some ⟨b78,0,none⟩) 1 1 1 (iS [vb]):=(aZ.ofPt (b:=b78) (c:=#[str vb]) (e:=9) (n:=1) (size:=1) rfl Nn).isS.le l2;refine bd 0 (.agg #[.slice (some ⟨b78,0,none⟩) 1 1,.bool true]) I (fun w=>by kernel_rfl) (sT 0 3 n (.agg #[.slice (some ⟨b78,0,none⟩) 1 1,.bool true]) I I Tryz.underlying129 kc I I hMl fun hl' hMl'=>WL.hs (pt b11 #[.slice av (eq s.vs) cv,.bool s.syn] 136::pt cb (bW (jv rm m) boE) 126::hoE::hl'::h::pt b (bW D bo) 126::ho::(bC i1++(bC i2++(bC insE++hs)))) I (WL.drop (au ?_)));refine ar 0 I (aC (x:=((j+1:Nat):Int)) qo) (fin 1 I ?_)
    exact bw (x:=(⟨j,K71,mm,mw,hl,rm,rs,aR,cr⟩:qu)) (⟨j+1,K3,cj n ⟨[vb],true⟩ mm,cj n (.agg #[.slice (some ⟨b78,0,none⟩) 1 1,.bool true]) mw,hl',rm,gg s rs,ar2,cr2⟩:qu) sb I I
     ⟨aH,le3.trans l1,hstep.symm.trans hQ,hMl',(hMRl.imp fun _ _ h=>i7.le l1 h).set ⟨_,1,rfl,x78⟩,xr2.le l1,hsubR,hlenR,hrm0,aH⟩ aH
   | none=>
    have hstep:dW (D.ar a) (ns.drop j) rs mm rm=dW (D.ar a) (ns.drop (j+1)) (gg s rs) mm (rm+1):=by
     rw[hnd];exact HO hgd hf
    refine au ?_;refine ar 0 I (aC (x:=rm+1) qo) (stp 2 1 I I I I (WL.hs (pt b11 #[.slice av (eq s.vs) cv,.bool s.syn] 136::pt cb (bW (jv (rm+1) m) boE) 126::hoE::hl::h::pt b (bW D bo) 126::ho::(bC i1++(bC i2++(bC insE++hs)))) I (WL.drop (au ?_))));refine ar 0 I (aC (x:=((j+1:Nat):Int)) qo) (fin 1 I ?_)
    exact bw (x:=(⟨j,K71,mm,mw,hl,rm,rs,aR,cr⟩:qu)) (⟨j+1,K71,mm,mw,hl,rm+1,gg s rs,ar2,cr2⟩:qu) sb I I
     ⟨aH,le3,hstep.symm.trans hQ,hMl,hMRl,xr2,hsubR,hlenR,aH,aH⟩ aH
  refine au ?_;obtain rfl:j=eq ns:=qo
  rw[aaY] at hQ;have hQ':(mm,rs,rm)=dW (D.ar a) (eI ((D.ar a).map (·.1))) qs [] room:=by rw[<-hnsd];exact hQ
  have hstepA:eB D ((aU D).drop i) qs m room=eB D ((aU D).drop (i+1)) rs (if eq mm=0 then m else cj a mm m) rm:=by
   rw[hdrop];exact JO hQ'
  have hnotin:a∉m.map (·.1):=fun hm'=>by
   have h1:=hkm a hm';have h2:=acq.1 (by rw[aaA];exact hknd:((aU D).take i++(aU D).drop i).Nodup)
   grind
  have htk:(aU D).take (i+1)=(aU D).take i++[a]:=by rw[aaK,ha];rfl
  refine au ?_;refine MT 1 I Tryz.underlying129 (.inr ⟨2,I⟩) hMl ?_;have hml:=hMRl.len;refine ai 0 I fun b90 h90=>fin 0 I (th (ax h90 I (fun e13=>?_) (fun e13=>?_)))
  ·have hm0:eq mm≠0:=qo
   rw[aaa hm0] at hstepA;have hnew:cj a mm m=m++[(a,mm)]:=pK (fQ.2 hnotin)
   have hnew2:cj a bq (ez insE)=ez (insE++[(a,bq,hl)]):=by
    grind [pK,fQ,nm,mn,ez]
   have hP:(hl::((pt b (bW D bo) 126::ho::bC ins)++(bC insE++hs))).Perm ((pt b (bW D bo) 126::ho::bC ins)++(bC (insE++[(a,bq,hl)])++hs)):=by
    have h1:=(aaN (a:=hl) (l₁:=(pt b (bW D bo) 126::ho::bC ins)++bC insE) (l₂:=hs)).symm
    simp_all [bC]
   refine au ?_;refine sT 2 1 a bq I I Tryz.underlying124 gk I I hOE fun hoE' hOE'=>?_;rw[hnew2] at hOE';refine WL.perm (hs':=[pt cb (bW (jv rm (cj a mm m)) boE) 126,hoE']++((pt b (bW D bo) 126::ho::bC ins)++(bC (insE++[(a,bq,hl)])++hs))) ((((hp.symm.cons _).trans hP).cons _).cons _) (au ?_);refine ar 0 I (aC (x:=((i+1:Nat):Int)) qo) (fin 1 I ?_)
   refine bw (x:=(⟨i,K21,m,insE,hoE,room,qs,aq,cq⟩:qt)) (⟨i+1,K2,cj a mm m,insE++[(a,bq,hl)],hoE',rm,rs,aR,cr⟩:qt) sb I I
    ⟨aH,(le.trans le2).trans le3,hstepA.symm.trans hR,hOE',?_,xr,fun p hp'=>hsub p (hsub2 p hp'),aH,?_,aH,aH⟩ aH
   ·dsimp only;rw[hnew];exact eQ.app (hIE.le (le2.trans le3)) ⟨I,⟨mw,hMl,hMRl⟩,trivial⟩
   grind
  have hm0:eq mm=0:=qo
  rw[aab hm0] at hstepA;refine sk (WQ.perm (hs':=hl::([pt cb (bW (jv rm m) boE) 126,hoE]++((pt b (bW D bo) 126::ho::bC ins)++(bC insE++hs)))) ((((hp.symm.cons _).cons _).cons _).trans (gU _ 2 _ I)) (WQ.drop (acG (ar 0 I (aC (x:=((i+1:Nat):Int)) qo) (fin 1 I ?_)))))
  refine bw (x:=(⟨i,K21,m,insE,hoE,room,qs,aq,cq⟩:qt)) (⟨i+1,K2,m,insE,hoE,rm,rs,aR,cr⟩:qt) sb I I
   ⟨aH,(le.trans le2).trans le3,hstepA.symm.trans hR,hOE,hIE.le (le2.trans le3),xr,fun p hp'=>hsub p (hsub2 p hp'),aH,fun k hk=>by grind,aH,aH⟩ aH
 obtain rfl:i=eq (aU D):=qo
 rw[aaY] at hR;have hR':(m,room)=eB D (aU D) ps [] D.room:=hR;have hD:D.crash ps=jv room m:=by unfold Dk.crash;rw[hmax,<-hR']
 refine ex (xt (xt (xb (acF (fin 2 I (acK (WQ.perm (hs':=(pt cb (bW (jv room m) boE) 126::hoE::bC insE)++((pt b (bW D bo) 126::ho::bC ins)++hs)) (((aal (pt b (bW D bo) 126::ho::bC ins) (bC insE) hs).cons _).cons _) ?_)))))));exact ah I I ⟨le1.trans le,cb,_,I,by rw[hD];exact ⟨boE,hoE,insE,I,hOE,hIE⟩,I⟩
end
section
def HI{s:ef}{p:Int}{v:List UInt8}(h:ib s p=some v):v∈s.vs:=by
 grind [ib]
def wV(l:Ar)(y:Int×ef):Prop:=∃ s,a8 y.1 l=some s/\∃ v∈s.vs,y.2=⟨[v],true⟩
theorem vZ(l:Ar):∀ (ns:List Int) (ps:List Int) (m:Ar) (room:Int),(∀ y∈m,wV l y)->(∀ n∈ns,∃ s,a8 n l=some s)->∀ y∈(dW l ns ps m room).1,wV l y
 | [],ps,m,room,h,_=>h
 | n::r,ps,m,room,h,hl=>by
  obtain ⟨s,hs⟩:=hl n Nm;have e:(a8 n l).getD ki=s:=by rw[hs];rfl
  unfold dW;rw[e];cases hf:ib s (iR s ps) with
  | some v=>
   refine vZ l r _ _ _ (fun y hy=>?_) (fun j hj=>hl j (by simp[hj]));rcases iu hy with rfl|hy
   ·exact ⟨s,hs,v,HI hf,I⟩
   exact h y hy
  | none=>exact vZ l r _ _ _ h (fun j hj=>hl j (by simp[hj]))
def Ea(D:Dk)(x:Int×Ar):Prop:=(x.2.map (·.1)).Nodup/\eq x.2<=eq (D.ar x.1)/\∀ y∈x.2,wV (D.ar x.1) y
def mI(D:Dk)(ks:List Int):Nat:=(ks.map fun a=>eq (D.ar a)).sum
theorem wa{c:Nat}{D:Dk}(o:D.Ok c):∀ (ks:List Int) (ps:List Int) (m:List (Int×Ar)) (room:Int),ks.Nodup->(∀ a∈ks,a8 a m=none)->(∀ x∈m,Ea D x) ->
  (∀ x∈(eB D ks ps m room).1,Ea D x)/\(eB D ks ps m room).2+(eC (eB D ks ps m room).1:Int)<=room+(eC m:Int)+(mI D ks:Int)
 | [],ps,m,room,_,_,h=>⟨h,by simp[eB,mI]⟩
 | a::r,ps,m,room,hn,hma,h=>by
  have hn:=aa7.1 hn
  have hnd:((D.ar a).map (·.1)).Nodup:=by
   unfold Dk.ar;cases hg:a8 a D.areas with
   | none=>simp
   | some l=>exact (o.ns _ (f8 hg)).1
  have hvs:∀ n∈eI ((D.ar a).map (·.1)),∃ s,a8 n (D.ar a)=some s/\s.vs≠[]:=by
   intro n hn;have hn:=(dJ _).mem_iff.1 hn;cases hg:a8 n (D.ar a) with
   | none=>exact absurd hn (fQ.1 hg)
   | some s=>
    refine ⟨s,I,?_⟩;have h1:=f8 hg;unfold Dk.ar at h1;cases hg2:a8 a D.areas with
    | none=>rw[hg2] at h1;simp at h1
    | some l=>rw[hg2] at h1;exact (o.vs _ (f8 hg2) _ h1).1
  obtain ⟨q1,q2,q3,q4,q5,q6⟩:=rx (D.ar a) (eI ((D.ar a).map (·.1))) ps [] room ((dJ _).symm.nodup hnd) (fun _ _=>rfl) hvs Nm;have q7:=vZ (D.ar a) (eI ((D.ar a).map (·.1))) ps [] room Nm (fun n hn=>let ⟨s,h1,_⟩:=hvs n hn;⟨s,h1⟩);have hsl:eq (eI ((D.ar a).map (·.1)))=eq (D.ar a):=by rw[(dJ _).length_eq,aaO]
  have hsum:mI D (a::r)=eq (D.ar a)+mI D r:=by simp[mI]
  unfold eB;generalize dW (D.ar a) (eI ((D.ar a).map (·.1))) ps [] room=R at q1 q2 q3 q4 q5 q6 q7;obtain ⟨l,ps',room'⟩:=R;dsimp only at q1 q2 q3 q4 q5 q6 q7 ⊢;rw[hsl] at q5 q6;simp only[aaT] at q6
  by_cases h0:eq l=0
  ·rw[aab h0];obtain ⟨r1,r2⟩:=wa o r ps' m room' hn.2 (fun b hb=>hma b (by simp[hb])) h;exact ⟨r1,qo⟩
  rw[aaa h0];have ht:=qG (a:=a) (l:=l) m;rw[hma a Nm] at ht;simp only[abk,aaT] at ht
  obtain ⟨r1,r2⟩:=wa o r ps' (cj a l m) room' hn.2 (fun b hb=>by rw[kB,aaa (fun e=>hn.1 (by rw[<-e];exact hb))];exact hma b (by simp[hb])) (fun x hx=>by
   rcases iu hx with rfl|hx
   ·exact ⟨q3,aH,q7⟩
   exact h x hx)
  exact ⟨r1,qo⟩
theorem tp{κ ν:Type}[DecidableEq κ]:∀ {m:List (κ×ν)},(m.map (·.1)).Nodup->∀ x∈m,a8 x.1 m=some x.2
 | (k,v)::m,h,x,hx=>by
  simp only[aaq,aa7] at h;rcases aay.1 hx with rfl|hx
  ·simp[a8]
  have hne:¬x.1=k:=fun e=>h.1 (by grind);simp only[a8,hne,if_false];exact tp h.2 x hx
def Hb{c:Nat}{D:Dk}(o:D.Ok c):mI D (aU D)=eC D.areas:=by
 unfold mI aU eC;rw[((dJ (D.areas.map (·.1))).map fun a=>eq (D.ar a)).sum_nat,aa3]
 congr 1
 refine abf fun x hx=>?_;simp only[Function.comp_apply];unfold Dk.ar;rw[tp o.keys x hx]
 rfl
def Gt{n:Nat}{l:List Int}(h:l.Nodup)(hb:∀ a∈l,0<=a/\a<(n:Int)):eq l<=n:=by
 have:=acz h (l₂:=(List.range n).map Int.ofNat) (fun a ha=>aap.2 ⟨a.toNat,by have:=hb a ha;rw[List.mem_range];omega,by grind⟩);simpa using this
theorem aP.crash{c q:Nat}{D:Dk}(o:aP c D)(hq:eq D.areas<=q)(ps:List Int):aP (65536+q) (D.crash ps)/\eq (D.crash ps).areas<=q/\D.room<=(D.crash ps).room:=by
 obtain ⟨r1,r2,r3,r4,r5,r6⟩:=uZ o.ok (aU D) ps [] (max D.room 0) ((dJ _).symm.nodup o.ok.keys) (fun _ _=>rfl) Nm Nm;obtain ⟨s1,s2⟩:=wa o.ok (aU D) ps [] (max D.room 0) ((dJ _).symm.nodup o.ok.keys) (fun _ _=>rfl) Nm;rw[Hb o.ok] at s2;have hroom:=o.ok.room;have hcap:=o.cap
 have hk:∀ k∈(D.crash ps).areas.map (·.1),k∈D.areas.map (·.1):=fun k hk=>by
  rcases r6 k hk with h|h
  ·exact (dJ _).mem_iff.1 h
  simp at h
 have hsum:(D.crash ps).room+(eC (D.crash ps).areas:Int)<=D.room+(eC D.areas:Int):=by
  have:(eC ([]:List (Int×Ar)):Int)=0:=rfl;show (eB D (aU D) ps [] (max D.room 0)).2+(eC (eB D (aU D) ps [] (max D.room 0)).1:Int)<=_;omega
 have har:∀ x∈(D.crash ps).areas,∃ l,(x.1,l)∈D.areas/\D.ar x.1=l:=fun x hx=>by
  obtain ⟨y,hy,he⟩:=aap.1 (hk x.1 (aap.2 ⟨x,hx,rfl⟩));refine ⟨y.2,by rw[<-he];exact hy,?_⟩;unfold Dk.ar;rw[<-he,tp o.ok.keys y hy]
  rfl
 have hlen:eq (D.crash ps).areas<=q:=by
  have h1:=acz r3 (l₂:=D.areas.map fun x:Int×Ar=>x.1) (fun k h=>hk k h);simp only[aaO] at h1;exact aas h1 hq
 have hat:∀ x∈(D.crash ps).areas,∀ y∈x.2,0<=y.1/\y.1<65536:=fun x hx y hy=>by
  obtain ⟨_,_,h3⟩:=s1 x hx;obtain ⟨l,hl,e⟩:=har x hx;obtain ⟨s,g1,_⟩:=h3 y hy;rw[e] at g1;have h:=o.ok.at_ _ hl _ (f8 g1);exact h
 refine ⟨⟨⟨r3,fun x hx=>?_,fun x hx y hy=>?_,?_,⟨aaC 0,by show (0:Int)<=_;omega⟩,⟨by show (-1:Int) <= -1;omega,by show (-1:Int)<=_;omega⟩,fun x hx y hy=>?_⟩,fun k h=>o.ar k (hk k h),?_,qo⟩,hlen,?_⟩
 ·have h:=Gt (n:=65536) (s1 x hx).1 (fun a ha=>by
   grind)
  rw[aaO] at h;exact ⟨(s1 x hx).1,qo⟩
 ·obtain ⟨_,_,h3⟩:=s1 x hx;obtain ⟨l,hl,e⟩:=har x hx;obtain ⟨s,g1,v,g2,g3⟩:=h3 y hy;rw[e] at g1;have hv:=o.ok.vs _ hl _ (f8 g1)
  grind
 ·show 0<=(eB D (aU D) ps [] (max D.room 0)).2/\(eB D (aU D) ps [] (max D.room 0)).2<=1099511627776;have:(D.crash ps).room=(eB D (aU D) ps [] (max D.room 0)).2:=rfl;omega
 ·exact hat x hx y hy
 ·omega
 have:(D.crash ps).room=(eB D (aU D) ps [] (max D.room 0)).2:=rfl;omega
def Ld{w0:World}{K dh:PH}{hs:List PH}(b:Nat)(D:Dk)(c:Nat)(o:aP c D)(hc:c<=1000000000)(hD:bN K b D dh)(ps:List Int)(hps:∀ p∈ps,-9223372036854775808<=p/\p<=9223372036854775807)(ap:Option Addr)(cp:Nat)(xp:aw K ap (eq ps) cp 1 (iv ps))(hpl:eq ps<1099511627776):
  aj w0 21 [Nr b,.slice ap (eq ps) cp] K (dh::hs)
   (fun v K' hs'=>∃ b2 d2,hs'=d2::dh::hs/\Le K K'/\bN K' b2 (D.crash ps) d2/\v=Nr b2):=by
 obtain ⟨m,rfl,d,hm⟩:=hD;refine ⟨(Cz (w0:=w0) (hs:=hs) b D c o hc hm ps hps ap cp xp hpl).1,fun w hw=>((Cz (w0:=w0) (hs:=hs) b D c o hc hm ps hps ap cp xp hpl).2 w (hw.split d)).mono ?_⟩;rintro e w' ⟨v,K',hs',rfl,⟨le,b2,m2,rfl,hm2,rfl⟩,hS⟩;obtain ⟨d2,hS2⟩:=a7.join m2 hS;have hS4:a7 w0 w' K' (m++(cZ m2::hs)):=hS2.perm (aal [cZ m2] m hs);obtain ⟨_,hS5⟩:=a7.join m hS4;exact ⟨_,K',_,I,⟨b2,cZ m2,I,le,⟨m2,I,d2,hm2⟩,I⟩,hS5.perm (aat _ _ _)⟩
end
section
def gC.same{L L':Lg}{m:aB}(h:gC L m)(h1:L'.kt=L.kt)(h2:L'.kv=L.kv)(h3:L'.sn=L.sn)(h4:L'.l=L.l):gC L' m:=h.grow h1 h2 h3 ⟨[],by rw[h4];simp⟩
theorem gC.at{L:Lg}{m:aB}(h:gC L m){e:af}(he:e∈m.ents)(hs:L.sn.idx<e.idx):ei L.sn L.l e.idx=some (e.idx-L.sn.idx-1)/\L.l[e.idx-L.sn.idx-1]?=some e:=by
 have h1:=h.ents e he hs;unfold Rl.ent at h1;have h2:(if e.idx<=L.sn.idx then none else L.l[e.idx-L.sn.idx-1]?)=some e:=h1;rw[aaa qo] at h2;have h3:=(aax.1 h2).1;refine ⟨?_,h2⟩;unfold ei;rw[aaa qo]
def JN{w0:World}{K h:PH}{hs:List PH}{lb db:Nat}{L:Lg}{D:Dk}(hL:dG K lb db L D h)(c:Nat)(o:aP c D)(hc:c<=1000000000)(ps:List Int)(hps:∀ p∈ps,-9223372036854775808<=p/\p<=9223372036854775807)(ap:Option Addr)(cp:Nat)(xp:aw K ap (eq ps) cp 1 (iv ps))(hpl:eq ps<1099511627776):
  aj w0 21 [Nr db,.slice ap (eq ps) cp] K (h::hs)
   (fun v K' hs'=>∃ h' new,hs'=new++h'::hs/\h'=h/\∃ b2 d2,new=[d2]/\Le K K'/\bN K' b2 (D.crash ps) d2/\v=Nr b2):=by
 obtain ⟨m,rfl,d,hm⟩:=hL;obtain ⟨wb,hb',eb,aV,cV,aD,cD,aL,cL,wh,hh,eh,gl,dh,hme,hW,hH,hE,hG,hD,xV,xD⟩:=hm;have h5:(m++hs)[5]?=some dh:=by rw[hme];rfl
 have hset:(m++hs).set 5 dh=m++hs:=by rw[hme];rfl
 have c1:aj w0 21 [Nr db,.slice ap (eq ps) cp] K (m++hs) (fun v K' hs'=>∃ h' new,hs'=new++(m++hs).set 5 h'/\(h'=dh/\∃ b2 d2,new=[d2]/\Le K K'/\bN K' b2 (D.crash ps) d2/\v=Nr b2)):=
  Ct.atN (S:=fun v K' h' new=>h'=dh/\∃ b2 d2,new=[d2]/\Le K K'/\bN K' b2 (D.crash ps) d2/\v=Nr b2) 5 h5 (Ct.mono (Ld db D c o hc hD ps hps ap cp xp hpl) fun v K' hs' ⟨b2,d2,e,le,hC,hv⟩=>⟨dh,[d2],e,rfl,b2,d2,rfl,le,hC,hv⟩)
 refine ⟨c1.1,fun w hw=>(c1.2 w (hw.split d)).mono ?_⟩;rintro e w' ⟨v,K',hs',rfl,⟨h',new,rfl,rfl,b2,d2,rfl,le,hC,rfl⟩,hS⟩;rw[hset] at hS;have hS1:a7 w0 w' K' (m++(d2::hs)):=hS.perm (aal [d2] m hs);obtain ⟨_,hS2⟩:=a7.join m hS1;exact ⟨_,K',_,I,⟨_,[d2],I,I,b2,d2,I,le,hC,I⟩,hS2.perm (aat _ _ _)⟩
def I8{w0:World}{K h:PH}{hs:List PH}{lb db c:Nat}{L:Lg}{D:Dk}(hL:dG K lb db L D h)(hb:bp c L)(hc:c<=1000000000)(m:aB)(p:MA)(hS:dr K m p)(hbd:m.bd)(ml:gC L m)(hT:m.term<=L.kt):
  aj w0 24 [Nr lb,.agg (mv m p)] K (h::hs) (fun v K' hs'=>∃ h',hs'=h'::hs/\h'=h/\Le K K'/\v=.bool true):=by
 have hlast:L.sn.idx+eq L.l<18446744073709551616:=by
  have h1:=hb.idx;have h2:=hb.len;unfold bH at h1;omega
 refine ent Tryz.func24 ?_;refine acI ?_;refine bx 0 I fun b3=>?_;refine WL.h 0 (pt b3 (mv m p) 34) ?_;refine au ?_;refine cl 1 I (Ct.keep 1 I (rX lb db L D hL)) ?_;rintro v11 K11 hs11 ⟨rfl,rfl,rfl⟩;refine al 0 (.agg #[.int .u64 0,.int .i64 0]) I qk fun b5=>?_;refine bJ 0 0 I I qk I I ?_;refine WL.hs (pt b5 #[.int .u64 L.kt,.int .i64 L.kv] 112::pt b3 (mv m p) 34::h::hs) I ?_;refine au ?_;refine dE 0 (L.kt<m.term) I Nm fun b16 h16=>?_
 refine' dx (q:=(m.kind=2/\m.good=true)/\L.kt=m.term/\L.kv≠m.to) 1 22 39 [16,17] h16 I I I I I I I (fun _=>?x2) (fun b39 h39=>?_)
 case x2=>
  refine au ?_;refine dE 0 (m.kind=2) I Nm fun b20 h20=>?_
  refine' dU (q:=m.good=true) 1 3 24 [20,21] h20 I I I I I I I (fun _=>?x4) (fun b24 h24=>?_)
  case x4=>
   refine a9 1 1 I I I ?_;refine oO fun b23 h23=>?_;exact fin 1 I (bK h23 I I I)
  refine' dU (q:=L.kt=m.term) 1 6 31 [24,25] h24 I I I I I I I (fun _=>?x5) (fun b31 h31=>?_)
  case x5=>
   refine au ?_;refine dE 0 (L.kt=m.term) I (by simp;omega) fun b30 h30=>?_;exact fin 1 I (bK h30 I I I)
  refine' dU (q:=L.kv≠m.to) 1 6 38 [31,32] h31 I I I I I I I (fun _=>?x7) (fun b38 h38=>?_)
  case x7=>
   refine au ?_;refine dE 0 (L.kv≠m.to) I Nm fun b37 h37=>?_;exact fin 1 I (bK h37 I I I)
  exact fin 1 I<|bK (h38.trans (by simp only[and_assoc])) I I I
 refine fin 0 I<|th (ax h39 I (fun e9=>?_) (fun e9=>?_))
 ·exfalso
  rcases e9 with e9|⟨⟨e1,e2⟩,e3,e4⟩
  ·omega
  exact e4<|ml.vote e1 e2 e3
 refine au ?_;refine dE 0 (m.kind=1) I Nm fun b42 h42=>?_
 refine' dU (q:=L.kt=m.term) 1 6 49 [42,43] h42 I I I I I I I (fun _=>?x11) (fun b49 h49=>?_)
 case x11=>
  refine au ?_;refine dE 0 (L.kt=m.term) I (by simp;omega) fun b48 h48=>?_;exact fin 1 I (bK h48 I I I)
 refine' dU (q:=L.kv≠m.frm) 1 6 56 [49,50] h49 I I I I I I I (fun _=>?x13) (fun b56 h56=>?_)
 case x13=>
  refine au ?_;refine dE 0 (L.kv≠m.frm) I Nm fun b55 h55=>?_;exact fin 1 I (bK h55 I I I)
 refine fin 0 I<|th (ax h56 I (fun e15=>?_) (fun e15=>?_))
 ·exact absurd (ml.asks e15.1.1 e15.1.2) e15.2
 refine sk (th (sq ?_));refine jR (σ:=PH) (fun _=>[(0,Nr lb),(3,Nr b3),(4,.bool false),(70,.bool false)]) (fun u=>u) (fun u=>pt b5 #[.int .u64 L.kt,.int .i64 L.kv] 112::pt b3 (mv m p) 34::h::hs) (fun u=>Le K11 u) ?_ ?_
 ·refine bQ [1] 14 [0,2,4,6,8,10,12,14,16,18,20,23,24,26] ?_;refine au ?_;refine dN qk 0 (m.kind=4) I Nm (fun h1=>?_) (fun h1=>?_)
  ·rcases hg:m.good with _|_
   ·refine bS qk 2 0 (v:=.bool false) I I (by rw[<-hg];rfl) ?_;refine aJ qk 5 I ?_;refine WL.pures 1 I ?_;refine ba Nm I ?_;refine aM qk 2 I ?_;exact fb K11 (Le.refl _) ⟨I,I,I,I,trivial⟩ I I
   refine bS qk 2 0 (v:=.bool true) I I (by rw[<-hg];rfl) ?_;refine au ?_;refine cl 0 I (Ct.keep 2 I (j8 lb db L D _ hb hc hL)) ?_;rintro v68 K68 hs68 ⟨rfl,rfl,rfl⟩;refine ba Nm I ?_;refine dC qk 0 (L.sn.idx+eq L.l<m.idx) I (by simp;omega) fun b69 h69=>?_
   obtain rfl:b69=false:=by
    cases b69 with
    | false=>rfl
    | true=>exact absurd (h69.1 rfl) (by have:=ml.has h1 hg;unfold Lg.last at this;omega)
   refine aM qk 1 I ?_;exact fb K68 (Le.refl _) ⟨I,I,I,I,trivial⟩ I I
  refine aJ qk 8 I ?_;refine WL.pures 1 I ?_;refine ba Nm I ?_;refine aM qk 2 I ?_;exact fb K11 (Le.refl _) ⟨I,I,I,I,trivial⟩ I I
 intro K2 le;refine au ?_;have hel:=hbd.entsL
 refine loop (σ:=Nat×PH) (fun u=>[(0,Nr lb),(3,Nr b3),(72,.slice p.ae (eq m.ents) p.ce),(73,.int .i64 (eq m.ents)),(74,.int .i64 u.1)]) (fun u=>u.2) (fun u=>pt b5 #[.int .u64 L.kt,.int .i64 L.kv] 112::pt b3 (mv m p) 34::h::hs)
  (fun u=>u.1<=eq m.ents/\Le K11 u.2) (fun u=>eq m.ents-u.1) (0,K2) ⟨aad _,le⟩ ⟨rfl,rfl,rfl,rfl,rfl,trivial⟩ rfl rfl ?_
 rintro ⟨i,K3⟩ ⟨hi,le3⟩;dsimp only at hi le3 ⊢;refine acI ?_;refine ai 0 I fun b75 h75=>?_;refine au ?_;refine ax h75 I (fun e19=>?_) (fun e19=>?_)
 ·have hil:i<eq m.ents:=qo
  obtain ⟨e,he⟩:∃ e,m.ents[i]?=some e:=⟨_,aai hil⟩;have hem:=aao he;obtain ⟨q1,q2,q3⟩:=hbd.ents e hem;have xE:=(hS.1.slS.le le3 fun _ _ h=>dB.le le3 h:dn 4 (dB K3) K3 p.ae (eq m.ents) p.ce m.ents);obtain ⟨aa,ae,ce,hae,xe,hce⟩:=HM xE he;obtain ⟨ve,hve⟩:=xE.isS;refine au ?_;rw[hae] at hve ⊢;refine fj 0 i I I hve hil Nn fun a76 h76=>?_;cases h76;refine fW 0 (e.v ae ce).toList I qk (.inl I) hce ?_;refine al 0 (.agg #[.int .u64 0,.int .u64 0,.int .i64 0,.slice none 0 0]) I qk fun b7=>?_;refine bJ 0 0 I I qk I I ?_;refine WL.hs (pt b7 (e.v ae ce) 51::pt b5 #[.int .u64 L.kt,.int .i64 L.kv] 112::pt b3 (mv m p) 34::h::hs) I ?_;refine au ?_;refine cl 0 I (Ct.at 3 I (KY lb db L D _ hb hc (hL.le le3) e.idx (by unfold ac at q1;omega))) ?_;rintro v82 K82 hs82 ⟨h,rfl,rfl,le6,e1,ae1,ce1,t82,rfl,xe1,hm⟩
  refine al 3 (.agg #[.int .u64 0,.int .u64 0,.int .i64 0,.slice none 0 0]) I qk fun b8=>?_;refine bJ 0 0 I I qk I I ?_;refine WL.hs (pt b8 (e1.v ae1 ce1) 51::pt b7 (e.v ae ce) 51::pt b5 #[.int .u64 L.kt,.int .i64 L.kv] 112::pt b3 (mv m p) 34::h::hs) I ?_;refine au ?_;refine bQ [0,1] 16 [0,6,8,3,4,10,12,14,16,18,20,22,25,26,28,30] ?_;refine au ?_;refine cl 0 I (Ct.at 4 I (pX lb db L D _ hb ((hL.le le3).le le6))) ?_;rintro v86 K86 hs86 ⟨h,rfl,rfl,le7,aV3,cV3,aD3,cD3,rfl,xV3,xD3⟩;refine WL.hs (pt b8 (e1.v ae1 ce1) 51::pt b7 (e.v ae ce) 51::pt b5 #[.int .u64 L.kt,.int .i64 L.kv] 112::pt b3 (mv m p) 34::h::hs) I ?_;refine eK Nm le7 ?_;refine qf qk 0 (v:=.int .u64 L.sn.idx) I (fun A w ha _=>nJ (t:=48) (x:=.tmp 86) (i:=0) (v:=.agg (cP L.sn aV3 cV3 aD3 cD3)) I I (fun w=>by kernel_rfl) A w ha) ?_;refine dN qk 0 (L.sn.idx<e.idx) I Nm (fun h17=>?_) (fun h17=>?_)
  ·obtain ⟨g1',g2'⟩:=ml.at hem h17;rw[g1'] at hm;obtain ⟨rfl,hm⟩:=hm;rw[g2'] at hm;obtain rfl:e=e1:=aaU hm;refine au ?_;refine cl 0 I (F7 e e ae1 ae ce1 ce (.inl I) (.inl I) (xe1.le le7) ((xe.le le6).le le7)) ?_;rintro v97 K97 hs97 ⟨rfl,rfl,b97,rfl,h97⟩;obtain rfl:b97=true:=h97.2 rfl;refine ba Nm I ?_;refine aM qk 3 I (th (bY I (sk (acG ?_))));refine ar 0 I (aC (x:=((i+1:Nat):Int)) qo) ?_;refine fin 1 I (WQ.drop (WQ.drop ?_));exact bw (x:=(i,K3)) (i+1,K97) sb I I ⟨aH,(le3.trans le6).trans le7⟩ aH
  refine aJ qk 6 I ?_;refine WL.pures 1 I ?_;refine ba Nm I ?_;refine aM qk 3 I (th (bY I (sk (acG ?_))));refine ar 0 I (aC (x:=((i+1:Nat):Int)) qo) ?_;refine fin 1 I (WQ.drop (WQ.drop ?_));exact bw (x:=(i,K3)) (i+1,K86) sb I I ⟨aH,(le3.trans le6).trans le7⟩ aH
 refine ex (xt (xt (xb (acF ?_))));refine fin 1 I (acK (WQ.drop (WQ.drop ?_)));exact ah I I ⟨_,I,I,le3,I⟩
end
section
def v3:List Int:=[0,1,2]
def lL:(bU v3).isSome=true:=by decide
def Sy(M:Nat)(L:Lg)(D:Dk):Prop:=Cn M L/\∃ S op,ct v3 M L D S op/\dw S op L.sn (fun l=>l=L.l)
def Su(M:Nat)(L:Lg)(D:Dk):Prop:=Cn M L/\∃ S op,ct v3 M L D S op/\dw S op L.sn (fun _=>True)
theorem Sy.up{M M':Nat}{L:Lg}{D:Dk}(y:Sy M L D)(h:M<=M'):Sy M' L D:=let ⟨c,S,op,o,p⟩:=y;⟨c.up h,S,op,o.up h,p⟩
theorem Sy.code{M:Nat}{L:Lg}{D:Dk}(y:Sy M L D):L.code=0:=let ⟨_,_,_,o,_⟩:=y;o.code
section
variable {M n:Nat} {L:Lg} {D:Dk}
theorem Sy.setHard(y:Sy M L D)(ha:bO (n+1) D)(hr:L.sn.idx+eq L.l<dI)(hM:M+1<=2000000)(t:Nat)(v:Int)(ht:t<=ac)(hd:(L.setHard D t v).2.1.dead=false):Sy (M+1) (L.setHard D t v).1 (L.setHard D t v).2.1:=by
 obtain ⟨cn,S,op,o,p⟩:=y;obtain ⟨s1,s2,s3⟩:=pc L D t v;rcases EK (n:=n) o lL cn (by unfold cG;omega) qo (P:=fun _ l=>l=L.l) p t v ht ha with ⟨h1,h2,h3,h4,S',op',h5,h6⟩|⟨h1,_⟩
 ·exact ⟨h4,S',op',h5,h6.mono fun l hl=>by rw[hl,s2]⟩
 rw[hd] at h1;cases h1
theorem Sy.append(y:Sy M L D)(ha:bO (n+20) D)(hr:L.sn.idx+eq L.l+1<dI)(hM:M+1<=2000000)(e:af)(he:e.idx<=ac/\e.term<=ac)(hd:(L.append [e] D).2.1.dead=false):
  Su (M+1) (L.append [e] D).1 (L.append [e] D).2.1/\((L.append [e] D).2.2≠0->Sy (M+1) (L.append [e] D).1 (L.append [e] D).2.1):=by
 have hc:=y.code;have y1:=y.up (show M<=M+1 by omega);obtain ⟨cn,S,op,o,p⟩:=y;rcases FN (n:=n) o lL cn (A:=[(L.kt,L.kv)]) Nm (P:=fun _ _=>True) (p.mono fun _ _=>trivial) [e] (by simp only[abv];unfold cG;omega) qo (by simpa using he) (fun _ _ _=>trivial) (by simpa using ha) with ⟨h1,h2,h3,h4,S',op',h5,h6⟩|⟨h1,_⟩
 ·refine ⟨⟨h4,S',op',h5,h6⟩,fun hne=>?_⟩
  by_cases hf:eA L.last (En.trm L.sn L.l L.last).1 [e]=0
  ·refine absurd ?_ hne;rw[h1];unfold Rl.append;rw[aaa (show ¬eA (L.rl.sn.idx+eq L.rl.l) (En.trm L.rl.sn L.rl.l (L.rl.sn.idx+eq L.rl.l)).1 [e]≠0 from fun h=>h hf)]
  grind [Lg.append]
 rw[hd] at h1;cases h1
theorem Su.sync(y:Su M L D)(ha:bO n D)(hr:L.sn.idx+eq L.l<dI)(hM:M<=2000000)(hd:(L.sync D).2.1.dead=false):Sy M (L.sync D).1 (L.sync D).2.1:=by
 obtain ⟨cn,S,op,o,p⟩:=y;rcases G8 (n:=n) o lL cn (A:=[(L.kt,L.kv)]) Nm (P:=fun _ _=>True) p trivial (by unfold cG;omega) qo ha with ⟨h1,h2,h3,h4,S',op',h5,h6,h7⟩|⟨h1,_⟩
 ·exact ⟨h4,S',op',h5,h7 trivial⟩
 rw[hd] at h1;cases h1
def EM{r:Rl}{i t:Nat}{x:List af}(h:¬((r.merge i t x).2.2.1=true/\(r.merge i t x).2.2.2=0)):(eA i t x≠0)\/(i<r.sn.idx/\¬i+eq x<r.sn.idx/\((x.drop (r.sn.idx-i)).head?.map fun e=>decide (e.term<r.sn.term))=some true) \/
  (i<r.sn.idx/\¬i+eq x<r.sn.idx/\¬((x.drop (r.sn.idx-i)).head?.map fun e=>decide (e.term<r.sn.term))=some true/\((trm r.sn r.l r.sn.idx).2=false\/(trm r.sn r.l r.sn.idx).1≠r.sn.term))\/(¬i<r.sn.idx/\((trm r.sn r.l i).2=false\/(trm r.sn r.l i).1≠t)):=by
 have h2:∀ (y:List af) (m:Nat),(r.merge2 y m).2.2=(true,0):=fun y m=>by
  unfold Rl.merge2
  split <;> rfl
 unfold Rl.merge Rl.merge1 at h
 grind
def EQ(hc:L.code=0){i t:Nat}{x:List af}(h:¬((L.rl.merge i t x).2.2.1=true/\(L.rl.merge i t x).2.2.2=0)):(L.merge i t x D).1=L/\(L.merge i t x D).2.1=D:=by
 unfold Lg.merge Lg.merge1;rw[aaa (by rw[hc];simp)];rcases EM h with h|⟨h1,h2,h3⟩|⟨h1,h2,h3,h4⟩|⟨h1,h2⟩
 ·rw[aab h];simp
 all_goals by_cases hf:eA i t x≠0
 all_goals first
  | (rw[aab hf];simp)
  | rw[aaa hf]
 ·rw[aab (show i<L.sn.idx from h1),aaa (show ¬i+eq x<L.sn.idx from h2),aab (show ((x.drop (L.sn.idx-i)).head?.map fun e=>decide (e.term<L.sn.term))=some true from h3)]
  simp
 ·rw[aab (show i<L.sn.idx from h1),aaa (show ¬i+eq x<L.sn.idx from h2),aaa (show ¬((x.drop (L.sn.idx-i)).head?.map fun e=>decide (e.term<L.sn.term))=some true from h3),aab (show (En.trm L.sn L.l L.sn.idx).2=false\/(En.trm L.sn L.l L.sn.idx).1≠L.sn.term from h4)]
  simp
 rw[aaa (show ¬i<L.sn.idx from h1),aab (show (En.trm L.sn L.l i).2=false\/(En.trm L.sn L.l i).1≠t from h2)]
 simp
theorem Sy.merge(y:Sy M L D)(ha:bO (n+170) D)(hr:L.sn.idx+eq L.l+8<dI)(hM:M+9<=2000000)(i t:Nat)(x:List af)(hx:∀ e∈x,e.idx<=ac/\e.term<=ac)(hl:eq x<=8)(hd:(L.merge i t x D).2.1.dead=false):
  Su (M+9) (L.merge i t x D).1 (L.merge i t x D).2.1/\(¬((L.merge i t x D).2.2.2.1=true/\(L.merge i t x D).2.2.2.2=0)->Sy (M+9) (L.merge i t x D).1 (L.merge i t x D).2.1):=by
 have hc:=y.code;have y1:=y.up (show M<=M+9 by omega);obtain ⟨cn,S,op,o,p⟩:=y;rcases (Gq (n:=n) o lL cn (A:=[(L.kt,L.kv)]) Nm (P:=fun _ _=>True) (p.mono fun _ _=>trivial) trivial i t x (by unfold cG;omega) qo hx (fun _ _ _=>trivial) (ha.mono qo)).up (show M+1+eq x<=M+9 by omega) (aac n) with ⟨h1,h2,h3,h4,S',op',h5,h6⟩|⟨h1,_⟩
 ·refine ⟨⟨h4,S',op',h5,h6⟩,fun hne=>?_⟩
  simp_all [EQ]
 rw[hd] at h1;cases h1
def Ay(hc:L.code=0)(s:aX):L.fits s=L.rl.fits s:=by
 unfold Lg.fits Rl.fits;rw[aaa (by rw[hc];simp)]
 rfl
theorem Sy.save(y:Sy M L D)(s:aX)(hst:s.term<=ac)(ha:bO (n+((eq s.data+63) / 64+11)) D)(hr:L.sn.idx+eq L.l<dI)(hM:M+2<=2000000)(hd:(L.save s D).2.1.dead=false):Sy (M+2) (L.save s D).1 (L.save s D).2.1:=by
 have hc:=y.code;have y1:=y.up (show M<=M+2 by omega);obtain ⟨cn,S,op,o,p⟩:=y;rcases zL (n:=n) o lL cn (A:=[(L.kt,L.kv)]) Nm (P:=fun _ _=>True) (p.mono fun _ _=>trivial) trivial s hst hM hr (fun _ _ _=>trivial) ha with ⟨h1,h2,h3,h4,S',op',h5,h6,h7⟩|⟨h1,_⟩
 ·by_cases h0:(L.rl.save s).2=0
  ·exact ⟨h4,S',op',h5,h7 h0⟩
  have e1:(L.save s D).1=L/\(L.save s D).2.1=D:=by
   unfold Rl.save at h0;unfold Lg.save;rw[Ay hc]
   split at h0
   ·simp_all
   rename_i h;rw[aaa h]
   split at h0
   ·rename_i h';rw[aab (show dL L.sn L.l s=false from h')];simp
   omega
  rw[e1.1,e1.2];exact y1
 rw[hd] at h1;cases h1
theorem Sy.install(y:Sy M L D)(s:aX)(hst:s.term<=ac)(ha:bO (n+((eq s.data+63) / 64+11)) D)(hr:L.sn.idx+eq L.l<dI)(hM:M+2<=2000000)(hd:(L.install s D).2.1.dead=false):Sy (M+2) (L.install s D).1 (L.install s D).2.1:=by
 have hc:=y.code;have y1:=y.up (show M<=M+2 by omega);have ys:=y.save s hst ha hr hM;obtain ⟨cn,S,op,o,p⟩:=y;rcases ES (n:=n) o lL cn (A:=[(L.kt,L.kv)]) Nm (P:=fun _ _=>True) (p.mono fun _ _=>trivial) trivial s hst hM hr (fun _ _ _=>trivial) ha with ⟨h1,h2,h3,h4,S',op',h5,h6,h7⟩|⟨h1,_⟩
 ·by_cases h0:(L.rl.install s).2=0
  ·exact ⟨h4,S',op',h5,h7 h0⟩
  unfold Rl.install at h0;unfold Lg.install at hd ⊢;rw[Ay hc] at hd ⊢
  split at h0
  ·rename_i h;rw[aab h];exact y1
  rename_i h;rw[aaa h] at hd ⊢
  split at h0
  ·rename_i h';rw[aab (show dL L.sn L.l s=true from h')] at hd ⊢;exact ys hd
  omega
 rw[hd] at h1;cases h1
end
section
variable {M c q z k u n:Nat} {R:Nd} {L:Lg} {D:Dk}
def PI.alv(h:PI u n R L D)(o:NI c q z k R L D){m:Nat}(hm:m<=n):bO m D:=⟨by rw[h.liv.left];decide,h.liv.dead,by have:=h.liv.room;omega,o.rn.ok.ok.keys⟩
def NI.t2(o:NI c q z k R L D)(hc:c<=900000000):L.sn.idx+eq L.l+8<dI:=uU o hc (aac 8)
theorem Sy.lay(y:Sy M L D)(h:PI u (n+11) R L D)(o:NI c q z k R L D)(hc:c<=800000000)(hM:M+2<=1000000)(hn:1000<=n)(kind:Int)(data:List UInt8):Sy (M+2) (R.lay L D kind data).2.1 (R.lay L D kind data).2.2.1:=by
 have h1:=o.last qo;have hkt:=o.rn.lb.kt;have hr:=o.t2 qo;have he:(L.last+1)<=ac/\L.kt<=ac:=⟨by unfold cM at h1;unfold ac;omega,hkt⟩;have oa:=o.append ⟨L.last+1,L.kt,kind,data⟩ he qo;have ra:=oa.t2 qo;obtain ⟨a1,a2,a3⟩:=h.append o qo ⟨L.last+1,L.kt,kind,data⟩ he;obtain ⟨b1,b2,b3⟩:=a1.sync;obtain ⟨s1,s2⟩:=y.append (n:=0) (h.alv o qo) qo qo ⟨L.last+1,L.kt,kind,data⟩ he a1.liv.dead;unfold Nd.lay;dsimp only
 split
 ·grind [up]
 have s3:=(s1.sync (n:=0) (a1.alv oa qo) qo qo b1.liv.dead).up (show M+1<=M+2 by omega)
 split <;> exact s3
theorem Sy.elect(y:Sy M L D)(h:PI u (n+11) R L D)(o:NI c q z k R L D)(hc:c<=800000000)(h0:L.kt≠0)(hM:M+2<=1000000)(hn:1000<=n)(l:List Int):Sy (M+2) (R.elect L D l).2.1 (R.elect L D l).2.2.1:=by
 unfold Nd.elect
 split
 ·exact y.up qo
 have ht:TI (R.up L) L:=⟨h.ti.out,fun _=>h0,h.ti.com,h.ti.wf⟩;exact Sy.lay (R:=R.up L) y (h.t ht) (o.upR qo) hc hM hn 0 []
theorem Sy.stand(y:Sy M L D)(h:PI u (n+12) R L D)(o:NI c q z k R L D)(hc:c<=700000000)(hu:u<=1000000)(hkt:L.kt<cM)(hM:M+3<=1000000)(hn:1000<=n)(l:List Int):Sy (M+3) (R.stand L D l).2.1 (R.stand L D l).2.2.1:=by
 have hkm:L.kt+1<=ac:=by unfold cM at hkt;unfold ac;omega
 have hr:=o.t2 qo;have oa:=o.setHard (L.kt+1) R.nd hkm;obtain ⟨a1,a2,a3⟩:=h.setHard (n:=n+11) hu (L.kt+1) R.nd hkm;have ya:=y.setHard (n:=0) (h.alv o qo) qo qo (L.kt+1) R.nd hkm a1.liv.dead;unfold Nd.stand;dsimp only;generalize L.setHard D (L.kt+1) R.nd=A at oa a1 a2 a3 ya ⊢;obtain ⟨L1,D1,c1⟩:=A;dsimp only at oa a1 a2 a3 ya ⊢
 split
 ·exact ya.up qo
 rename_i hc0;have hk1:L1.kt≠0:=qo
 have hcf:fS L1.cfg.1:=iV oa.rn.lb oa.cf L1.last;have ht:TI R.cand L1:=⟨a1.ti.out,fun _=>hk1,a1.ti.com,a1.ti.wf⟩
 obtain ⟨t1,t2,t3⟩:=TI.asks oa.rn.lb qo hk1 (R.cand.oth L1) ht o.rb.nd (fun v hv=>by
  obtain ⟨g1,g2⟩:=abL.1 hv;exact ⟨hcf.mem g1,fun e=>by simp[e] at g2⟩)
 have hol:=mj R.cand oa.rn.lb oa.cf;exact Sy.elect ya (a1.t t1) (oa.r ((Rb.asks L1 (R.cand.oth L1) oa.rb.cand).up (j:=k+8) qo)) qo hk1 qo hn l
theorem Sy.tick(y:Sy M L D)(h:PI u (n+12) R L D)(o:NI c q z k R L D)(hc:c<=700000000)(hu:u<=1000000)(hM:M+3<=1000000)(hn:1000<=n)(d:Nat):Sy (M+3) (R.tick L D d).2.1 (R.tick L D d).2.2.1:=by
 unfold Nd.tick
 split
 ·exact y.up qo
 split
 ·exact y.up qo
 unfold Nd.idle
 split
 ·exact y.up qo
 exact Sy.stand (R:=R.idle0 d) y (h.t<|h.ti.r) (o.r<|o.rb.idle0 d) hc hu qo hM hn L.cfg.1
theorem Sy.asked(y:Sy M L D)(h:PI u (n+1) R L D)(o:NI c q z k R L D)(hc:c<=900000000)(hu:u<=1000000)(m:aB)(hb:m.bd)(hM:M+1<=1000000)(hn:1000<=n):Sy (M+1) (R.asked L D m).2.1 (R.asked L D m).2.2.1:=by
 have hr:=o.t2 hc;unfold Nd.asked;dsimp only;have hgl:(gz L.kt L.kv m.term m.frm (gX m.lt m.idx (L.trm L.last).1 L.last)).1.1<=ac:=qZ o.rn.lb.kt hb.term;generalize gz L.kt L.kv m.term m.frm (gX m.lt m.idx (L.trm L.last).1 L.last)=gr at hgl ⊢
 split
 ·obtain ⟨a1,a2,a3⟩:=h.setHard hu gr.1.1 gr.1.2 hgl;have ya:=y.setHard (n:=0) (h.alv o qo) qo qo gr.1.1 gr.1.2 hgl a1.liv.dead
  split <;> exact ya
 exact y.up qo
theorem Sy.voted(y:Sy M L D)(h:PI u (n+11) R L D)(o:NI c q z k R L D)(hc:c<=800000000)(m:aB)(h0:L.kt≠0)(hM:M+2<=1000000)(hn:1000<=n):Sy (M+2) (R.voted L D m).2.1 (R.voted L D m).2.2.1:=by
 unfold Nd.voted
 split
 ·exact y.up qo
 have ho:Rb z (k+1) { R with yes:=R.yes++[m.frm] }:={ o.rb.up (aau k) with yes:=by have:=o.rb.yes;simp;omega };exact Sy.elect (R:={ R with yes:=R.yes++[m.frm] }) y (h.t (h.ti.r)) (o.r ho) hc h0 hM hn L.cfg.1
def Sy.appc(y:Sy M L D)(h:PI u (n+100) R L D)(o:NI c q z k R L D)(hc:c<=700000000)(m:aB)(hb:m.bd)(ho:m.ok)(hk:m.kind=3)(hM:M+9<=1000000)(hn:1000<=n):Sy (M+9) (R.app L D m).2.1 (R.app L D m).2.2.1:=by
 have hf:=gx ho;have hr:=o.t2 qo;unfold Nd.app;dsimp only
 split
 ·exact y.up qo
 rename_i hcl;have hcl:=(not_or.1 hcl).2;unfold Nd.clashes at hcl
 have hn2:∀ e∈m.ents,iK L R.com e.idx e.term=false:=fun e he=>by
  simp_all
 have of:=o.r (o.rb.foll (x:=m.frm) qo);have hff:TI (R.foll m.frm) L:=h.ti.r rfl rfl rfl (.inr rfl);have hxb:=fun e he=>(⟨(hb.ents e he).1,(hb.ents e he).2.1⟩:e.idx<=ac/\e.term<=ac);obtain ⟨a1,a2,a3,a4,a5⟩:=(h.t hff).merge of qo m.idx m.lt m.ents hxb (lA ho hk).2 hn2;have oa:=of.merge m.idx m.lt m.ents hxb (lA ho hk).2 qo;have ra:=oa.t2 qo;obtain ⟨s1,s2⟩:=y.merge (n:=0) (h.alv o qo) qo qo m.idx m.lt m.ents hxb (lA ho hk).2 a1.liv.dead;generalize L.merge m.idx m.lt m.ents D=A at a1 oa ra s1 s2 ⊢;obtain ⟨L1,D1,i,gd,c1⟩:=A;dsimp only at a1 oa ra s1 s2 ⊢
 split
 ·rename_i h1;exact s2 fun h2=>by omega
 split
 ·rename_i h1;exact s2 fun h2=>h1 h2.2
 split
 ·rename_i h1;exact s2 fun h2=>by rw[h1] at h2;cases h2.1
 obtain ⟨b1,b2,b3⟩:=a1.sync;have sb:=s1.sync (n:=0) (a1.alv oa qo) qo qo b1.liv.dead
 split <;> exact sb
theorem Sy.inst(y:Sy M L D)(h:PI u (n+(4*z+3)) R L D)(o:NI c q z k R L D)(hc:c<=900000000)(hu:u<=1000000)(m:aB)(hM:M+2<=1000000)(hn:1000<=n):Sy (M+2) (R.inst L D m).2.1 (R.inst L D m).2.2.1:=by
 have hp:=o.rb.ps;have hr:=o.t2 hc;obtain ⟨h1,h2,h3,h4⟩:=h.sim.install R.ps (n:=n) (h.liv.mono qo) hp.1 hp.2.1 hu qo;have ya:=y.install (n:=0) R.ps hp.2.1 (h.alv o qo) qo qo h2.dead
 grind [Nd.inst]
theorem Sy.chunk(y:Sy M L D)(h:PI u (n+(4*z+7)) R L D)(o:NI c q z k R L D)(hc:c<=900000000)(hu:u<=1000000)(m:aB)(hb:m.bd)(ho:m.ok)(hk:m.kind=5)(hM:M+2<=1000000)(hn:1000<=n):Sy (M+2) (R.chunk L D m).2.1 (R.chunk L D m).2.2.1:=by
 have hf:=gx ho;unfold Nd.chunk;dsimp only;have of:=o.rb.foll (x:=m.frm) qo;have hff:TI (R.foll m.frm) L:=h.ti.r rfl rfl rfl (.inr rfl)
 split
 ·exact y.up qo
 split
 ·exact y.up qo
 obtain ⟨p1,p2,p3,p4,p5⟩:=tL (R.foll m.frm) m;have hpp:TI ((R.foll m.frm).piece m) L:=hff.r p3 p1 p2 (.inl p4)
 split
 ·exact y.up qo
 exact Sy.inst y ((h.t hpp).up (n':=n+(4*(z+1)+3)) (aac _) qo) (o.r<|of.piece m hb ho hk) hc hu m hM hn
theorem Sy.take3(y:Sy M L D)(h:PI u (n+(4*z+100)) R L D)(o:NI c q z k R L D)(hc:c<=499900000)(hu:u<=1000000)(m:aB)(hb:m.bd)(ho:m.ok)(h0:L.kt≠0)(hM:M+9<=1000000)(hn:1000<=n):Sy (M+9) (R.take3 L D m).2.1 (R.take3 L D m).2.2.1:=by
 unfold Nd.take3
 split
 ·exact (Sy.asked y (h.up (n':=n+1) (aac _) qo) o qo hu m hb qo hn).up qo
 split
 ·exact (Sy.voted y (h.up (n':=n+11) (aac _) qo) o qo m h0 qo hn).up qo
 split
 ·rename_i h3;exact Sy.appc y (h.up (n':=n+100) (aac _) qo) o qo m hb ho h3 hM hn
 split
 ·exact y.up qo
 split
 ·rename_i h5;exact (Sy.chunk y (h.up (n':=n+(4*z+7)) (aac _) qo) o qo hu m hb ho h5 qo hn).up qo
 split
 ·exact y.up qo
 exact y.up qo
theorem Sy.take(y:Sy M L D)(h:PI u (n+(4*z+101)) R L D)(o:NI c q z k R L D)(hc:c<=499800000)(hu:u<=900000)(m:aB)(hb:m.bd)(hM:M+10<=1000000)(hn:1000<=n):Sy (M+10) (R.take L D m).2.1 (R.take L D m).2.2.1:=by
 unfold Nd.take
 split
 ·exact y.up qo
 split
 ·exact y.up qo
 rename_i hq
 split
 ·exact y.up qo
 have ho:m.ok:=by
  simp_all [enc]
 have ht0:m.term≠0:=ho.1.2.2.2.2;have hr:=o.t2 qo;unfold Nd.take1;dsimp only
 split
 ·obtain ⟨a1,a2,a3⟩:=(h.up (n':=n+(4*z+100)+1) (aac _) qo).raise qo m.term hb.term;have oa:=o.raise m.term hb.term;have ya:Sy (M+1) (R.raise L D m.term).2.1 (R.raise L D m.term).2.2.1:=y.setHard (n:=0) (h.alv o qo) qo qo m.term (-1) hb.term a1.liv.dead
  split
  ·exact ya.up qo
  rename_i hz;have hk:=a3 (Decidable.not_not.1 hz)
  grind [Sy.take3,Nd.take2]
 rename_i hlt;unfold Nd.take2
 split
 ·exact y.up qo
 exact (Sy.take3 y (h.up (n':=n+(4*z+100)) (aac _) qo) o qo qo m hb ho qo qo hn).up qo
theorem Sy.call(y:Sy M L D)(h:PI u (n+(4*z+101)) R L D)(o:NI c q z k R L D)(hc:c<=499800000)(hu:u<=900000)(x:Cl)(hb:x.m.bd)(hM:M+10<=1000000)(hn:1000<=n):Sy (M+10) (R.call L D x).2.1 (R.call L D x).2.2.1:=by
 have hr:=o.t2 qo;unfold Nd.call
 split
 ·exact (Sy.tick y (h.up (n':=n+12) (aac _) qo) o qo qo qo hn x.draw).up qo
 split
 ·exact Sy.take y h o hc hu x.m hb hM hn
 split
 ·unfold Nd.propose
  split
  ·exact y.up qo
  split
  ·exact y.up qo
  exact (Sy.lay y (h.up (n':=n+11) (aac _) qo) o qo qo hn 1<|ob (iH lK)).up qo
 split
 ·unfold Nd.change;dsimp only
  split
  ·exact y.up qo
  split
  ·exact y.up qo
  generalize (if x.m.good=true then iz L.cfg.1 x.n else iW L.cfg.1 x.n)=r
  split
  ·exact y.up qo
  have hlt:=o.last qo;obtain ⟨R1,hR1⟩:=be (if x.m.good=true then R.setP x.n (Pr.new (L.last+1)) else R);rw[<-hR1]
  have h1:TI R1 L/\Rb z k R1:=by
   rw[hR1]
   split
   ·exact ⟨h.ti.r,o.rb.setP x.n (p:=Pr.new (L.last+1)) ⟨by unfold cM;exact (by decide:0+1<=4611686018427387904),hlt,by show 0<=ac;omega,aaC 0,by show (0:Int)<=2097152;omega⟩⟩
   exact ⟨h.ti,o.rb⟩
  exact (Sy.lay y ((h.t h1.1).up (n':=n+11) (aac _) qo) (o.r h1.2) qo qo hn 2<|ob (bU r.1)).up qo
 split
 ·unfold Nd.read
  split
  ·exact y.up qo
  split
  ·exact y.up qo
  exact y.up qo
 split
 ·unfold Nd.save
  split
  ·exact y.up qo
  split
  ·exact y.up qo
  dsimp only;obtain ⟨s,hs⟩:∃ s:aX,s=⟨R.com,(L.trm R.com).1,(eg L.sn L.l R.com).1,[120]⟩:=⟨_,rfl⟩;rw[<-hs];have hsi:s.idx=R.com:=by rw[hs]
  have hst:s.term<=ac:=by rw[hs];exact L.trm_le o.rn.lb _
  have hsl:eq s.data=1:=by rw[hs];rfl
  obtain ⟨h1,h2,h3,h4⟩:=h.sim.save s (n:=n) (h.liv.mono qo) (by rw[hsi];exact o.rb.com) hst qo qo;have ya:=(y.save (n:=0) s hst (h.alv o qo) qo qo h2.dead).up (show M+2<=M+10 by omega);exact ya
 exact y.up qo
def Sy.found(y:Sy M L D)(o:aP c D)(hr:L.sn.idx<=dI)(hM:M<=2000000)(ps:List Int):∃ L2 E,fA (D.crash ps) v3=(some L2,E,0)/\L2.kt=L.kt/\L2.kv=L.kv/\L2.sn=L.sn/\L2.l=L.l:=by
 obtain ⟨cn,S,op,i,p⟩:=y;have hf:=i.fnd lL cn (fun _ _=>rfl) (P:=fun sn l=>sn=L.sn/\l=L.l) (i.foundS (aac M) (by unfold cG;omega) hr (p.mono fun l hl=>⟨rfl,hl⟩) i.seg) (A:=[(L.kt,L.kv)]) Nm;obtain ⟨c1,c2⟩:=AA o ps;obtain ⟨L2,E,S2,h1,h2,h3,_⟩:=hf _ c1 c2
 simp_all
end
end
section
def Dw:fR 3=v3:=by decide
def MG:Sy 0 (eR 3) (dT 16777216):=by
 have hc:=AA (uY (r:=16777216) qo) [];rw[show (dT 16777216).crash []=dT 16777216 from by kernel_rfl] at hc;obtain ⟨L,E,S,h1,_,_,h4,h5,_⟩:=Jz lL (D:=dT 16777216) rfl _ hc.1 hc.2;have h:=rV (v:=3) qo;rw[Dw,h1] at h;have e1:L=eR 3:=aaU (congrArg Prod.fst h);have e2:E=dT 16777216:=congrArg (fun p=>p.2.1) h;subst e1 e2;exact ⟨h5,S,none,h4,ny (fun o h=>by cases h) h4.ok h4.good h4.vk.lv⟩
def Hz{w0:World}{K:PH}{hs:List PH}(ao:Option Addr)(cap:Nat)(cs:List Cl)(xs:dn 17 (lk K) K ao (eq cs) cap cs)(hb:∀ x∈cs,x.draw<18446744073709551616/\x.m.bd)(hn:eq cs<1099511627776)
  (ap:Option Addr) (cp:Nat) (ps:List Int) (xp:aw K ap (eq ps) cp 1 (iv ps)) (hps:∀ p∈ps,-9223372036854775808<=p/\p<=9223372036854775807) (hpl:eq ps<1099511627776):
  aj w0 5 [.slice ao (eq cs) cap,.slice ap (eq ps) cp] K hs (fun v K' _=>K'=K/\v=.bool true):=by
 refine Ct.lawT ?_;refine ent Tryz.func5 ?_;refine au ?_;refine cl 0 I JY ?_;rintro v17 K17 hs17 ⟨rb,lb,db,s0,lh0,g0,rfl,le0,I0,rfl⟩;refine au ?_;refine dE 1 False I Nm fun b22 h22=>?_
 refine' dx (q:=100<eq cs) 1 4 27 [22,23] h22 I I I I I I I (fun _=>?x2) (fun b27 h27=>?_)
 case x2=>
  refine dE 2 (100<eq cs) I (by simp;omega) fun b26 h26=>?_;exact fin 1 I (bK h26 I I I)
 refine fin 0 I<|th (ax h27 I (fun e4=>?_) (fun e4=>?_))
 ·refine acI ?_;refine dE 1 True I Nm fun b29 h29=>?_
  refine' dU (q:=True) 1 2 32 [29,30] h29 I I I I I I I (fun _=>?x6) (fun b32 h32=>?_)
  case x6=>
   refine cl 0 I BS ?_;rintro v31 K31 hs31 ⟨rfl,rfl,rfl⟩;exact fin 1 I (bK Nm I I I)
  refine au ?_;exact ah I I ⟨le0,by rw[h32.2 ⟨trivial,trivial⟩]⟩
 have hlen:eq cs<=100:=qo
 refine au ?_
 refine loop (σ:=wS) (fun t=>[(1,.slice ap (eq ps) cp),(5,Nr db),(7,Nr rb),(33,.slice ao (eq cs) cap),(34,.int .i64 (eq cs)),(35,.int .i64 t.j)]) (fun t=>t.K) (fun t=>pt rb (aW lb t.R t.s) RT::t.lh::t.g::hs)
  (fun t=>t.j<=eq cs/\Le K t.K/\di t.K rb lb db t.R t.L t.D t.s t.lh t.g/\LI t.j t.R t.L t.D/\t.R.out=[]/\Sy (10*t.j) t.L t.D) (fun t=>eq cs-t.j) ⟨0,K17,Nd.new 0 (eR 3),eR 3,dT 16777216,s0,lh0,g0⟩ ⟨aad _,le0,I0,MU,rfl,MG⟩ ⟨rfl,rfl,rfl,rfl,rfl,rfl,trivial⟩ rfl rfl ?_
 rintro ⟨j,K1,R,L,D,s,lh,g⟩ ⟨hj,le,iN,li,ho,sy⟩;dsimp only at *;refine acI ?_;refine bh 0 I (fun e8=>?_) (fun e8=>?_)
 ·refine au ?_;have hjl:j<eq cs:=qo
  obtain ⟨x,hx⟩:∃ x,cs[j]?=some x:=⟨_,aai hjl⟩;obtain ⟨hxd,hxb⟩:=hb x (aao hx);have xs1:dn 17 (lk K1) K1 ao (eq cs) cap cs:=xs.le le fun _ _ h=>h.le le;obtain ⟨a,p,rfl,hS,hco⟩:=HT xs1 hx;obtain ⟨vs,hvs⟩:=xs1.isS;refine au ?_;refine fj 0 j I I hvs hjl Nn fun a37 h37=>?_;cases h37;refine fW 0 (ja x p).toList I qk (.inl I) hco ?_;refine al 0 (.agg #[.int .i64 0,.int .i64 0,.int .u64 0,.int .i64 0,.int .i64 0,.int .i64 0,.int .u64 0,.int .u64 0,.int .u64 0,.int .u64 0,.int .u64 0,.bool false,.slice none 0 0,.int .i64 0,.int .i64 0,.slice none 0 0,.slice none 0 0]) I qk fun b9=>?_;refine bJ 0 0 I I qk I I ?_;refine WL.hs (pt b9 (ja x p) 36::pt rb (aW lb R s) RT::lh::g::hs) I ?_;refine au ?_;obtain ⟨li1,st1⟩:=li.call qo x hxb;have pi:=li.pi.up (n':=(16777216-1400*(j+1))+(4*j+101)) (aac _) qo
  have tl1:=TL.call ho pi li.ni qo qo x hxb;have sy1:=sy.call pi li.ni qo qo x hxb qo qo;have hcg:=fun (hs':List PH)=>Lk (w0:=w0) (hs:=hs') iN li.ni qo qo qo x hxd hxb p hS;generalize R.call L D x=A at li1 st1 hcg tl1 sy1;obtain ⟨R1,L1,D1,c1⟩:=A;dsimp only at li1 st1 hcg tl1 sy1;refine au ?_;refine cl 0 I (Ct.at3 [_] (hcg _)) ?_;rintro v41 K41 hs41 ⟨_,lh1,g1,rfl,⟨s1,rfl,le1,I1⟩,rfl⟩;refine au ?_;have hmc:=Fw (w0:=w0) (lb:=lb) (hs:=pt b9 (ja x p) 36::lh1::hs) I1.g;refine WL.perm (hs':=pt rb (aW lb R1 s1) RT::g1::pt b9 (ja x p) 36::lh1::hs) ?_ ?_
  ·refine (aat _ _ _).trans (List.Perm.cons _ ?_);exact aal [_,_] [_] hs
  refine cl 1 I hmc ?_;rintro v43 K43 hs43 ⟨_,g2,rfl,le2,⟨s2,rfl,G2⟩,a2,c2,rfl,xm⟩;refine WL.perm (hs':=pt b9 (ja x p) 36::pt rb (aW lb { R1 with out:=[] } s2) RT::lh1::g2::hs) ?_ ?_
  ·refine ((aal [_] [_,_] hs).cons _).trans<|aat _ _ _
  have I2:di K43 rb lb db { R1 with out:=[] } L1 D1 s2 lh1 g2:=⟨I1.l.le le2,G2⟩;have hout:=li1.pi.ti.out;have hol:=li1.ni.rb.out;have hnd1:=li1.nd;have li2:=li1.cl;unfold TL at tl1;generalize R1.out=ms at hout hol xm tl1 ⊢;rw[hnd1] at hout;have ho2:({ R1 with out:=[] }:Nd).out=[]:=rfl;generalize ({ R1 with out:=[] }:Nd)=R2 at I2 li2 ho2 ⊢;refine au ?_;have oD:=li2.ni.rn.ok;have qD:=li2.ni.rn.ar;have le12:=(le.trans le1).trans le2;refine cl 2 I (Ct.atN 2 I (JN I2.l _ oD qo ps hps ap cp (xp.le le12) hpl)) ?_;rintro v46 K46 hs46 ⟨lh1,_,rfl,rfl,b2,d2,rfl,le3,hC,rfl⟩;obtain ⟨oC,qC,_⟩:=oD.crash qD ps;obtain ⟨L2,E,hf,k1,k2,k3,k4⟩:=sy1.found oD (by have:=li2.ni.rn.lb.idx;have:=Bp;omega) qo ps;refine WL.hs (d2::pt b9 (ja x p) 36::pt rb (aW lb R2 s2) RT::lh1::g2::hs) I ?_;refine au ?_;refine dE 1 False I Nm fun b48 h48=>?_;refine fin 0 I (th (ax h48 I (fun e10=>absurd e10 Nm) (fun e10=>?_)))
  refine sk (acF ?_);refine cl 1 I (BD 3 qo) ?_;rintro v51 K51 hs51 ⟨dg,rfl,a51,c51,rfl,x51⟩;rw[Dw] at x51;refine cl 0 I (CP b2 (D1.crash ps) _ oC qo (hC.le dg) v3 Nn a51 c51 x51) ?_;rintro v52 K52 hs52 ⟨h2,rfl,le5,hX⟩;have hRn:=(Rn.opened oC qC (first:=v3) (L:=L2) (by rw[hf])).1;rw[hf] at hX hRn;rcases hX with ⟨hn',_⟩|⟨L',lb2,hL',rfl,hL⟩
  ·cases hn'
  cases hL';have leF:=(le3.trans dg).trans le5;have I3:=I2.le leF;have hlb:=hRn.lb;refine au ?_;refine dE 1 False I Nm fun b56 h56=>?_;refine fin 0 I (th (ax h56 I (fun e12=>absurd e12 Nm) (fun e12=>?_)));refine au ?_
  refine loop (σ:=Nat×PH) (fun u=>[(1,.slice ap (eq ps) cp),(5,Nr db),(7,Nr rb),(33,.slice (some a) (eq cs) cap),(34,.int .i64 (eq cs)),(35,.int .i64 (j:Nat)),(12,Nr lb2),(57,.slice a2 (eq ms) c2),(58,.int .i64 (eq ms)),(59,.int .i64 u.1)]) (fun u=>u.2) (fun _=>h2::pt b9 (ja x p) 36::pt rb (aW lb R2 s2) RT::lh1::g2::hs)
   (fun u=>u.1<=eq ms/\Le K52 u.2) (fun u=>eq ms-u.1) (0,K52) ⟨aad _,Le.refl _⟩ ⟨rfl,rfl,rfl,rfl,rfl,rfl,rfl,rfl,rfl,rfl,trivial⟩ rfl rfl ?_
  rintro ⟨i,K2⟩ ⟨hi,le6⟩;dsimp only at hi le6 ⊢;refine acI ?_;refine bh 0 I (fun e14=>?_) (fun e14=>?_)
  ·refine au ?_;have hil:i<eq ms:=qo
   obtain ⟨m,hm⟩:∃ m,ms[i]?=some m:=⟨_,aai hil⟩;obtain ⟨m1,m2,m3,m4⟩:=hout m (aao hm);have ml:=(tl1 m (aao hm)).same k1 k2 k3 k4;have xm2:=xm.le (leF.trans le6) fun _ _ h=>h.le (leF.trans le6);obtain ⟨am,pm,rfl,hSm,hcm⟩:=Hu xm2 hm;obtain ⟨vm,hvm⟩:=xm2.isS;refine au ?_;refine fj 0 i I I hvm hil Nn fun a61 h61=>?_;cases h61;refine fW 0 (mv m pm).toList I qk (.inl I) hcm ?_;refine al 0 (.agg #[.int .i64 0,.int .i64 0,.int .i64 0,.int .u64 0,.int .u64 0,.int .u64 0,.int .u64 0,.int .u64 0,.bool false,.slice none 0 0,.int .i64 0,.int .i64 0,.slice none 0 0,.slice none 0 0]) I qk fun b15=>?_;refine bJ 0 0 I I qk I I ?_;refine WL.hs (pt b15 (mv m pm) 34::h2::pt b9 (ja x p) 36::pt rb (aW lb R2 s2) RT::lh1::g2::hs) I ?_;refine au ?_;refine cl 0 I (Ct.at 1 I (I8 (hL.le le6) hlb qo m pm hSm m2 ml (by rw[k1];exact m4))) ?_
   rintro v65 K65 hs65 ⟨h2,rfl,rfl,le7,rfl⟩;refine WL.hs (pt b15 (mv m pm) 34::h2::pt b9 (ja x p) 36::pt rb (aW lb R2 s2) RT::lh1::g2::hs) I ?_;refine au ?_;refine ar 0 I (aC (x:=((i+1:Nat):Int)) qo) ?_;refine fin 1 I (WQ.drop ?_);exact bw (x:=(i,K2)) (i+1,K65) sb I I ⟨aH,le6.trans le7⟩ aH
  refine au ?_;refine ar 0 I (aC (x:=((j+1:Nat):Int)) qo) ?_;refine fin 1 I (WQ.drop (WQ.drop ?_));exact bw (x:=(⟨j,K1,R,L,D,s,lh,g⟩:wS)) (⟨j+1,K2,R2,L1,D1,s2,lh1,g2⟩:wS) sb I I ⟨aH,(le12.trans leF).trans le6,I3.le le6,li2,ho2,sy1.up aH⟩ aH
 refine au ?_;refine cl 0 I BS ?_;rintro v69 K69 hs69 ⟨rfl,rfl,rfl⟩;refine au ?_;exact ah I I ⟨le,I⟩
end
end Go.En
