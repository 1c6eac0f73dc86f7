/-
  Part 5 of what the proof needs (texts Qb Qc Qd Qe Ij Ik Rh Qf Qg Qh Qk Qi Qj Ql Ip Yg Yh Il Im In Io Iq Ir Is It Iu Iv Iw Ix Iy Iz).
-/
import Derived.Test.YtaifbolghjccjaaGreatSk4
set_option linter.unusedSectionVars false
set_option linter.unusedSimpArgs false
set_option linter.unusedVariables false
set_option maxRecDepth 4000
namespace Go.En
open Go.Proofs Go.Proofs.YtaifbolghjccjaaGreat
section
def Lg.rl(L:Lg):Rl:=⟨L.kt,L.kv,L.sn,L.l⟩
structure Sim (k q:Nat) (L:Lg):Prop where
 code:L.code=0
 w:WLv 24 L.w
 hard:L.hard.num<=k
 head:L.head.num<=k
 place:L.place<=k
 next:L.w.next<=q
 fr:L.fr<=q
 first:L.w.first=L.sn.idx+1
 recs:L.w.recs.length=L.l.length
theorem Sim.up{k q k' q':Nat}{L:Lg}(o:Sim k q L)(h:k<=k')(h':q<=q'):Sim k' q' L:=
 ⟨o.code,o.w,by have:=o.hard;omega,by have:=o.head;omega,by have:=o.place;omega,by have:=o.next;omega,by have:=o.fr;omega,o.first,o.recs⟩
theorem Sim.setHard{k q n:Nat}{L:Lg}{D:Dk}(o:Sim k q L)(h:Liv (n+1) D)(t:Nat)(v:Int)(ht:t<=mxU)(hk:k<=1000000):
  (L.setHard D t v).2.2=(L.rl.setHard t v).2/\Liv n (L.setHard D t v).2.1/\Sim (k+1) q (L.setHard D t v).1/\(L.setHard D t v).1.rl=(L.rl.setHard t v).1:=by
 unfold mxU at ht;unfold Lg.setHard Rl.setHard;rw[if_neg (by rw[o.code];simp)]
 by_cases h1:v < -1\/7<=v
 ·rw[if_pos h1,if_pos (show v < -1\/6<v by omega)];exact ⟨I,h.mono qo,o.up qo qo,I⟩
 ·rw[if_neg h1,if_neg (show ¬(v < -1\/6<v) by omega)]
  by_cases h2:t<L.kt
  ·rw[if_pos h2,if_pos (show t<L.rl.kt from h2)];exact ⟨I,h.mono qo,o.up qo qo,I⟩
  ·rw[if_neg h2,if_neg (show ¬t<L.rl.kt from h2)]
   have hu:(uint t++uint (v+1).toNat).length<=48:=by
    grind [uint10]
   have hs:=h.save L.hard 0 (uint t++uint (v+1).toNat) (by have:=o.hard;omega) hu;have hn:(L.hard.save 0 D (uint t++uint (v+1).toNat)).1.num<=k+1:=by rw[hs.2.2];have:=o.hard;dsimp only;omega
   have hs0:(L.hard.save 0 D (uint t++uint (v+1).toNat)).2.2=0:=hs.1;rw[if_pos hs0];exact ⟨I,hs.2.1,⟨o.code,o.w,hn,by have:=o.head;dsimp only;omega,by have:=o.place;dsimp only;omega,o.next,o.fr,o.first,o.recs⟩,rfl⟩
theorem ent_bytes_le{e:Ent}(h:entG e):e.bytes.length<=512:=by
 obtain ⟨⟨_,_,h1⟩,h2,h3⟩:=h
 grind [held_len,uint10,mxU,Ent.bytes,putBytes]
theorem Sim.app1:∀ (x:List Ent) (L:Lg) (D:Dk) (k q n:Nat),Sim k q L->Liv (n+11*x.length) D->(∀ e∈x,entG e)->L.sn.idx+L.l.length+x.length<2*lgTop ->
  (Lg.app1 x L D).2.2=0/\Liv n (Lg.app1 x L D).2.1/\Sim k (q+x.length) (Lg.app1 x L D).1/\(Lg.app1 x L D).1.rl={ L.rl with l:=L.l++x }
 | [],L,D,k,q,n,o,h,_,_=>⟨rfl,h.mono qo,o.up qo qo,by simp[Lg.app1,Lg.rl]⟩
 | e::r,L,D,k,q,n,o,h,hx,hl=>by
  simp only[List.length_cons] at h hl;unfold lgTop at hl;have h1:=o.w.append (n:=n+11*r.length) (b:=e.bytes) (h.mono qo) (ent_bytes_le (hx e (by simp))) (by rw[o.first,o.recs];unfold wTop;omega);unfold Lg.app1;rw[if_neg qo]
  have hS:Sim k (q+1) { L with w:=(L.w.append e.bytes D).1,l:=L.l++[e] }:=
   ⟨o.code,h1.2.1,o.hard,o.head,o.place,by have:=o.next;have:=h1.2.2.2.2.2;dsimp only;omega,by have:=o.fr;dsimp only;omega,by dsimp only;rw[h1.2.2.2.1];exact o.first,by dsimp only;rw[h1.2.2.2.2.1];simp[o.recs]⟩
  have h2:=Sim.app1 r _ _ k (q+1) n hS h1.2.2.1 (fun e he=>hx e (by simp[he])) (by grind [lgTop])
  grind [Lg.rl]
theorem Sim.append{k q n:Nat}{L:Lg}{D:Dk}(o:Sim k q L)(x:List Ent)(h:Liv (n+11*x.length) D)(hx:∀ e∈x,e.idx<=mxU/\e.term<=mxU)(hl:L.sn.idx+L.l.length+x.length<2*lgTop):
  (L.append x D).2.2=(L.rl.append x).2/\Liv n (L.append x D).2.1/\Sim k (q+x.length) (L.append x D).1/\(L.append x D).1.rl=(L.rl.append x).1:=by
 unfold Lg.append Rl.append;rw[if_neg (by rw[o.code];simp)]
 by_cases hf:fol L.last (trm L.sn L.l L.last).1 x=0
 ·rw[if_neg (by rw[hf];simp),if_neg (by intro h2;exact h2 hf)];have hok:=fol_ok hf;exact Sim.app1 x L D k q n o h (fun e he=>⟨hok e he,hx e he⟩) hl
 ·rw[if_pos hf,if_pos (show fol (L.rl.sn.idx+L.rl.l.length) (trm L.rl.sn L.rl.l (L.rl.sn.idx+L.rl.l.length)).1 x≠0 from hf)];exact ⟨I,h.mono qo,o.up qo qo,I⟩
theorem Sim.sync{k q n:Nat}{L:Lg}{D:Dk}(o:Sim k q L)(h:Liv n D):(L.sync D).2.2=0/\Liv n (L.sync D).2.1/\Sim k q (L.sync D).1/\(L.sync D).1.rl=L.rl/\(L.sync D).1.sn=L.sn/\(L.sync D).1.l=L.l:=by
 have h1:=o.w.sync h;unfold Lg.sync;rw[if_neg (by rw[o.code];simp)];exact ⟨h1.1.code,h1.2.1,⟨h1.1.code,h1.1,o.hard,o.head,o.place,by dsimp only;rw[h1.2.2.2.2.1];exact o.next,o.fr,by dsimp only;rw[h1.2.2.1];exact o.first,by dsimp only;rw[h1.2.2.2.1];exact o.recs⟩,I,I,I⟩
theorem lgW_live(place:Nat):∀ (f n:Nat) (b:List UInt8) (D:Dk) (m:Nat),Liv (m+(b.length+63) / 64) D->b.length<f->n+(b.length+63) / 64<=65536->(lgW place f n b D).2=0/\Liv m (lgW place f n b D).1
 | 0,_,_,_,_,_,hf,_=>by omega
 | f+1,n,b,D,m,h,hf,hn=>by
  unfold lgW
  by_cases hb:b=[]
  ·simp_all
  ·rw[if_neg hb];have hbl:0<b.length:=by grind
   have h1:=Liv.write (n:=m+(b.length-64+63) / 64) (h.mono qo) (lgA4 place) n (b.take 64) qo qo (by rw[List.length_take];omega);rw[if_neg qo];exact lgW_live place f (n+1) (b.drop 64) _ m (by rw[List.length_drop];exact h1.2) (by rw[List.length_drop];omega) (by rw[List.length_drop];omega)
theorem say_len{s:Snp}{place fr:Nat}(hi:s.idx<=mxU)(ht:s.term<=mxU)(hp:place<=2097151)(hf:fr<=2097151)(hd:s.data.length<=2097152)(hv:(putConf s.vot).isSome=true):(Lg.say s place fr).length<=48:=by
 unfold mxU at hi ht;have h1:=uint10 (i:=s.idx) qo;have h2:=uint10 (i:=s.term) qo;have h3:=uint_length_le 3 place qo (by decide);have h4:=uint_length_le 3 fr qo (by decide);have h5:=uint_length_le 4 s.data.length qo (by decide)
 grind [ob,putConf,Lg.say]
theorem Sim.lay{k q n:Nat}{L:Lg}{D:Dk}(o:Sim k q L)(s:Snp)(fr:Nat)(h:Liv (n+((s.data.length+63) / 64+1)) D)(hi:s.idx<=mxU)(ht:s.term<=mxU)(hd:s.data.length<=2097152)(hv:(putConf s.vot).isSome=true)(hk:k<=1000000)(hq:q<=2000000)(hfr:fr<=q):
  (L.lay s fr D).2.2=0/\Liv n (L.lay s fr D).2.1/\(L.lay s fr D).1.code=0/\(L.lay s fr D).1.w=L.w/\(L.lay s fr D).1.hard=L.hard/\(L.lay s fr D).1.head.num<=k+1/\(L.lay s fr D).1.place<=k+1/\(L.lay s fr D).1.fr=fr/\(L.lay s fr D).1.sn=s/\(L.lay s fr D).1.kt=L.kt/\(L.lay s fr D).1.kv=L.kv /\
   (L.lay s fr D).1.l=if lgHas L.sn L.l s=true then L.l.drop ((lgAt L.sn L.l s.idx).getD 0+1) else []:=by
 have hp:=o.place;have hh:=o.head;have h1:=lgW_live (L.place+1) (s.data.length+1) 0 s.data D (n+1) (h.mono qo) qo qo;have h2:=h1.2.sync (lgA4 (L.place+1));have h3:=h2.2.save L.head 4 (Lg.say s (L.place+1) fr) qo (say_len hi ht qo qo hd hv);have h4:=h3.2.1.free (lgA4 L.place);unfold Lg.lay;rw[if_neg qo];unfold Lg.lay1;rw[if_neg qo];unfold Lg.lay2;have h30:=h3.1;rw[if_neg qo];unfold Lg.lay3 Lg.laid
 simp_all
theorem lgHas_in{s:Snp}{l:List Ent}{t:Snp}(h:lgHas s l t=true)(hlt:s.idx<t.idx):t.idx<=s.idx+l.length/\(lgAt s l t.idx).getD 0+1=t.idx-s.idx:=by
 grind [lgHas,trm,lgAt]
theorem fits_rl{k q:Nat}{L:Lg}(o:Sim k q L)(s:Snp):L.fits s=L.rl.fits s:=by
 unfold Lg.fits Rl.fits;rw[if_neg (by rw[o.code];simp)]
 rfl
theorem Sim.save{k q n:Nat}{L:Lg}{D:Dk}(o:Sim k q L)(s:Snp)(h:Liv (n+((s.data.length+63) / 64+2)) D)(hi:s.idx<=mxU)(ht:s.term<=mxU)(hk:k<=1000000)(hq:q<=2000000):
  (L.save s D).2.2=(L.rl.save s).2/\Liv n (L.save s D).2.1/\Sim (k+1) (q+1) (L.save s D).1/\(L.save s D).1.rl=(L.rl.save s).1:=by
 unfold Lg.save Rl.save;rw[fits_rl o]
 by_cases hf:L.rl.fits s=0
 ·rw[if_neg (show ¬L.rl.fits s≠0 by rw[hf];simp),if_neg (show ¬L.rl.fits s≠0 by rw[hf];simp)];obtain ⟨hv,hd,hlt,htop⟩:=rfits_ok hf;have hlt':L.sn.idx<s.idx:=hlt
  by_cases hh:lgHas L.sn L.l s=false
  ·rw[if_pos hh,if_pos (show lgHas L.rl.sn L.rl.l s=false from hh)];exact ⟨I,h.mono qo,o.up qo qo,I⟩
  ·rw[if_neg hh,if_neg (show ¬lgHas L.rl.sn L.rl.l s=false from hh)];have hh':lgHas L.sn L.l s=true:=by simpa using hh
   have hin:=lgHas_in hh' hlt';have hs:=o.sync h;unfold Lg.save1;rw[if_neg qo];generalize L.sync D=LD at hs;obtain ⟨L1,D1,c1⟩:=LD;obtain ⟨_,hl1,o1,hr1,hsn1,hL1⟩:=hs;dsimp only at hl1 o1 hr1 hsn1 hL1 ⊢;have hly:=o1.lay (n:=n+1) s L1.fr (hl1.mono qo) hi ht hd hv hk hq o1.fr;unfold Lg.save2;rw[if_neg qo];generalize L1.lay s L1.fr D1=R at hly;obtain ⟨L2,D2,c2⟩:=R;obtain ⟨_,hl2,hc2,hw2,hh2,hhd2,hp2,hfr2,hsn2,hkt2,hkv2,hL2⟩:=hly;dsimp only at hl2 hc2 hw2 hh2 hhd2 hp2 hfr2 hsn2 hkt2 hkv2 hL2 ⊢;have hcm:=(show WLv 24 L2.w from by rw[hw2];exact o1.w).compact hl2 (s.idx+1) (by unfold lgTop at htop;omega) (by rw[hw2,o1.first,hsn1];omega) (by rw[hw2,o1.first,o1.recs,hsn1,hL1];omega);have hl3:L2.l=L.l.drop (s.idx-L.sn.idx):=by rw[hL2,hsn1,hL1,if_pos hh',hin.2]
   have hrr:L1.rl.kt=L.kt/\L1.rl.kv=L.kv:=by rw[hr1];exact ⟨I,I⟩
   refine ⟨hcm.1,hcm.2.2.1,⟨hcm.1,hcm.2.1,by dsimp only;rw[hh2];have:=o1.hard;omega,hhd2,hp2,by dsimp only;have:=hcm.2.2.2.2.2;rw[hw2] at this ⊢;have:=o1.next;omega,by dsimp only;rw[hfr2];have:=o1.fr;omega,by dsimp only;rw[hcm.2.2.2.1,hsn2],?_⟩,?_⟩
   ·dsimp only;rw[hcm.2.2.2.2.1,hl3,hw2,List.length_drop,List.length_drop,o1.first,o1.recs,hsn1,hL1];omega
   simp_all [Lg.rl]
 ·rw[if_pos hf,if_pos hf];exact ⟨I,h.mono qo,o.up qo qo,I⟩
theorem Sim.install{k q n:Nat}{L:Lg}{D:Dk}(o:Sim k q L)(s:Snp)(h:Liv (n+((s.data.length+63) / 64+2)) D)(hi:s.idx<=mxU)(ht:s.term<=mxU)(hk:k<=1000000)(hq:q<=2000000):
  (L.install s D).2.2=(L.rl.install s).2/\Liv n (L.install s D).2.1/\Sim (k+1) (q+1) (L.install s D).1/\(L.install s D).1.rl=(L.rl.install s).1:=by
 unfold Lg.install Rl.install;rw[fits_rl o]
 by_cases hf:L.rl.fits s=0
 ·rw[if_neg (show ¬L.rl.fits s≠0 by rw[hf];simp),if_neg (show ¬L.rl.fits s≠0 by rw[hf];simp)];obtain ⟨hv,hd,hlt,htop⟩:=rfits_ok hf
  by_cases hh:lgHas L.sn L.l s=true
  ·rw[if_pos hh,if_pos (show lgHas L.rl.sn L.rl.l s=true from hh)];exact o.save s h hi ht hk hq
  ·rw[if_neg hh,if_neg (show ¬lgHas L.rl.sn L.rl.l s=true from hh)];have hly:=o.lay (n:=n) s L.w.next (h.mono qo) hi ht hd hv hk hq o.next;unfold Lg.inst1;rw[if_neg qo];generalize L.lay s L.w.next D=R at hly;obtain ⟨L2,D2,c2⟩:=R;obtain ⟨_,hl2,hc2,hw2,hh2,hhd2,hp2,hfr2,hsn2,hkt2,hkv2,hL2⟩:=hly;dsimp only at hl2 hc2 hw2 hh2 hhd2 hp2 hfr2 hsn2 hkt2 hkv2 hL2 ⊢;have hcm:=(show WLv 24 L2.w from by rw[hw2];exact o.w).reset hl2 (s.idx+1) (by unfold lgTop at htop;unfold wTop;omega);rw[if_neg hh] at hL2;refine ⟨hcm.1,hcm.2.2.1,⟨hcm.1,hcm.2.1,by dsimp only;rw[hh2];have:=o.hard;omega,hhd2,hp2,by dsimp only;rw[hcm.2.2.2.2.2,hw2];have:=o.next;omega,by dsimp only;rw[hfr2];have:=o.next;omega,by dsimp only;rw[hcm.2.2.2.1,hsn2],?_⟩,?_⟩
   all_goals simp_all [Lg.rl]
 ·rw[if_pos hf,if_pos hf];exact ⟨I,h.mono qo,o.up qo qo,I⟩
end
section
inductive Rw:List Int->Dk->Dk->Prop
 | refl (A:List Int) (D:Dk):Rw A D D
 | write {A:List Int} {D E:Dk} (a n:Int) (b:List UInt8):a∈A->Rw A D E->Rw A D (E.write a n b).1
 | sync {A:List Int} {D E:Dk} (a:Int):Rw A D E->Rw A D (E.sync a).1
 | free {A:List Int} {D E:Dk} (a:Int):Rw A D E->Rw A D (E.free a).1
theorem Rw.mono{A B:List Int}{D E:Dk}(h:Rw A D E)(hs:∀ a∈A,a∈B):Rw B D E:=by
 induction h with
 | refl=>exact Rw.refl _ _
 | write a n b ha _ ih=>exact ih.write a n b (hs a ha)
 | sync a _ ih=>exact ih.sync a
 | free a _ ih=>exact ih.free a
theorem Rw.trans{A:List Int}{D E:Dk}(h:Rw A D E){F:Dk}(g:Rw A E F):Rw A D F:=by
 induction g with
 | refl=>exact h
 | write a n b ha _ ih=>exact ih.write a n b ha
 | sync a _ ih=>exact ih.sync a
 | free a _ ih=>exact ih.free a
theorem Rw.keys{A:List Int}{D E:Dk}(h:Rw A D E):∀ k∈E.areas.map (·.1),k∈D.areas.map (·.1)\/k∈A:=by
 induction h with
 | refl=>exact fun k hk=>.inl hk
 | write a n b ha _ ih=>
  rename_i E _;unfold Dk.write
  split
  ·exact ih
  ·split
   ·exact ih
   ·split
    ·exact ih
    ·intro k hk;obtain ⟨x,hx,rfl⟩:=List.mem_map.1 hk;rcases mset_mem hx with rfl|hx
     all_goals grind
 | sync a _ ih=>
  rename_i E _;unfold Dk.sync
  split
  ·exact ih
  ·split
   ·exact ih
   grind [synA_keys]
 | free a _ ih=>
  rename_i E _;unfold Dk.free
  split
  ·exact ih
  ·split
   ·exact ih
   ·intro k hk;obtain ⟨x,hx,rfl⟩:=List.mem_map.1 hk;exact ih _ (List.mem_map.2 ⟨x,(mdel_sub (k:=a) E.areas).subset hx,I⟩)
def Rk(k:Nat)(D E:Dk):Prop:=∃ A:List Int,A.length<=k/\Rw A D E
theorem Rk.of{k:Nat}(D:Dk):Rk k D D:=⟨[],Nat.zero_le k,Rw.refl _ D⟩
theorem Rk.up{k j:Nat}{D E:Dk}(h:Rk k D E)(g:k<=j):Rk j D E:=let ⟨A,h1,h2⟩:=h;⟨A,by omega,h2⟩
theorem Rk.trans{k j:Nat}{D E F:Dk}(h:Rk k D E)(g:Rk j E F):Rk (k+j) D F:=by
 obtain ⟨A,h1,h2⟩:=h;obtain ⟨B,g1,g2⟩:=g;exact ⟨A++B,by rw[List.length_append];omega,(h2.mono fun a ha=>List.mem_append.2 (.inl ha)).trans (g2.mono fun a ha=>List.mem_append.2 (.inr ha))⟩
theorem Rk.sync{k:Nat}{D E:Dk}(h:Rk k D E)(a:Int):Rk k D (E.sync a).1:=let ⟨A,h1,h2⟩:=h;⟨A,h1,h2.sync a⟩
theorem Rk.free{k:Nat}{D E:Dk}(h:Rk k D E)(a:Int):Rk k D (E.free a).1:=let ⟨A,h1,h2⟩:=h;⟨A,h1,h2.free a⟩
theorem Rk.len{k c:Nat}{D E:Dk}(h:Rk k D E)(o:E.Ok c):E.areas.length<=D.areas.length+k:=by
 obtain ⟨A,h1,h2⟩:=h;have:=List.Nodup.length_le_of_subset o.keys (l₂:=D.areas.map (·.1)++A) (fun a ha=>List.mem_append.2 (h2.keys a ha))
 grind
theorem rw_save(S:Slt)(area:Nat)(D:Dk)(v:List UInt8):Rw [((area:Nat):Int)] D (S.save area D v).2.1:=by
 unfold Slt.save
 split
 ·exact Rw.refl _ D
 ·split
  ·exact ((Rw.refl _ D).write _ _ _ (by simp)).sync _
  ·exact (Rw.refl _ D).write _ _ _ (by simp)
theorem rw_wrL:∀ (f:Nat) (o:WOp) (D:Dk),Rw [segA o.num] D (wrL f o D).2.1
 | 0,o,D=>Rw.refl _ D
 | f+1,o,D=>by
  have hw:=(Rw.refl [segA o.num] D).write (segA o.num) o.full (UInt8.ofNat (min o.rest.length 63)::o.rest.take (min o.rest.length 63)) (by simp);rw[wrL_step]
  split
  ·exact hw
  ·split
   ·exact hw
   ·exact hw.trans<|rw_wrL f { o with full:=o.full+1,rest:=o.rest.drop 63 } _
theorem rw_wrO(o:WOp)(b:List UInt8)(D:Dk):Rw [segA o.num] D (wrO o b D).2.1:=rw_wrL (o.rest.length+b.length+1) { o with rest:=o.rest++b } D
theorem rw_wsync(A:List Int)(W:Wl)(D:Dk):Rw A D (W.sync D).2:=by
 unfold Wl.sync
 split
 ·exact Rw.refl _ D
 ·split
  ·exact Rw.refl _ D
  ·exact (Rw.refl _ D).sync _
theorem rw_begin(W:Wl)(i:Nat)(D:Dk):Rw [segA W.next] D (W.begin i D).2:=by
 unfold Wl.begin
 split
 ·simp[rw_wsync]
 ·exact (rw_wsync _ W D).trans<|rw_wrO ⟨W.next,i,0,[]⟩ (uint i) _
theorem rw_wlay(W:Wl)(A:List Int)(hA:∀ q,W.op=some q->segA q.num∈A)(b:List UInt8)(D:Dk):Rw A D (wLay W b D).2.1:=by
 unfold wLay;cases hop:W.op with
 | none=>exact Rw.refl _ D
 | some q=>exact (rw_wrO q (putBytes b) D).mono fun a ha=>by simp_all
theorem begin_num{W:Wl}{i:Nat}{D:Dk}(h:(W.begin i D).1.code=0):∀ q,(W.begin i D).1.op=some q->q.num=W.next:=by
 intro q hq;unfold Wl.begin at h hq
 split at hq
 ·simp_all
 grind [wrO_num]
theorem rw_wappend(W:Wl)(b:List UInt8)(D:Dk):Rk 1 D (W.append b D).2.1:=by
 unfold Wl.append
 split
 ·exact Rk.of D
 ·split
  ·exact Rk.of D
  ·split
   ·exact Rk.of D
   ·split
    ·have hb:=rw_begin W (W.first+W.recs.length) D
     split
     ·exact ⟨_,Nat.le_refl _,hb⟩
     ·rename_i h2;have hn:=begin_num (Decidable.not_not.1 h2);exact ⟨[segA W.next],Nat.le_refl _,hb.trans (rw_wlay _ _ (fun q hq=>by rw[hn q hq];simp) b _)⟩
    ·cases hop:W.op with
     | none=>exact ⟨[],Nat.zero_le _,rw_wlay W [] (fun q hq=>by rw[hop] at hq;cases hq) b D⟩
     | some o=>exact ⟨[segA o.num],Nat.le_refl _,rw_wlay W _ (fun q hq=>by rw[hop] at hq;cases hq;simp) b D⟩
theorem rw_wtrunc(W:Wl)(i:Nat)(D:Dk):Rk 1 D (W.truncate i D).2.1:=by
 unfold Wl.truncate
 split
 ·exact Rk.of D
 ·split
  ·exact Rk.of D
  ·split
   ·exact Rk.of D
   ·exact ⟨_,Nat.le_refl _,rw_begin W i D⟩
theorem rw_wfree(A:List Int)(i:Nat):∀ (f:Nat) (old:List (Nat×Nat)) (D:Dk),Rw A D (wfree i f old D).2.1
 | 0,old,D=>Rw.refl _ D
 | f+1,old,D=>by
  unfold Go.En.wfree
  split
  ·split
   ·exact (Rw.refl _ D).free _
   ·exact ((Rw.refl _ D).free _).trans<|rw_wfree A i f _ _
  ·exact Rw.refl _ D
theorem rw_compact2(W:Wl)(i:Nat)(D:Dk):Rw [segA W.next] D (W.compact2 i D).2:=by
 unfold Wl.compact2 Wl.compact1
 split
 ·exact (rw_begin W i D).trans<|rw_wsync _ _ _
 simp[rw_wsync]
theorem rw_compact(W:Wl)(i:Nat)(D:Dk):Rw [segA W.next] D (W.compact i D).2.1:=by
 have h2:=rw_compact2 W i D;have h3:=h2.trans (rw_wfree _ i ((W.compact2 i D).1.old.length+1) (W.compact2 i D).1.old (W.compact2 i D).2);unfold Wl.compact
 split
 ·exact Rw.refl _ D
 ·split
  ·exact Rw.refl _ D
  ·split
   ·exact Rw.refl _ D
   grind
theorem rw_wreset(A:List Int):∀ (l:List Int) (D:Dk),Rw A D (wreset l D).1
 | [],D=>Rw.refl _ D
 | a::r,D=>by
  unfold Go.En.wreset
  split
  ·split
   ·exact ((Rw.refl _ D).free a).trans<|rw_wreset A r _
   ·exact (Rw.refl _ D).free a
  ·exact rw_wreset A r D
theorem rw_reset(A:List Int)(W:Wl)(first:Nat)(D:Dk):Rw A D (W.reset first D).2.1:=by
 have h1:=rw_wreset A (areasL D) D;unfold Wl.reset
 split
 ·exact Rw.refl _ D
 ·split
  ·exact Rw.refl _ D
  ·split
   all_goals omega
theorem begin_old(W:Wl)(i:Nat)(D:Dk):(W.begin i D).1.old.length<=W.old.length+1:=by
 unfold Wl.begin
 split
 ·rw[Wl.sync_eq];simp
 simp
theorem wlay_old(W:Wl)(b:List UInt8)(D:Dk):(wLay W b D).1.old=W.old:=by
 unfold wLay
 split <;> rfl
theorem append_old(W:Wl)(b:List UInt8)(D:Dk):(W.append b D).1.old.length<=W.old.length+1:=by
 unfold Wl.append
 split
 ·simp
 ·split
  ·simp
  ·split
   ·simp
   ·split
    ·grind [begin_old,wlay_old]
    simp[wlay_old]
theorem trunc_old(W:Wl)(i:Nat)(D:Dk):(W.truncate i D).1.old.length<=W.old.length+1:=by
 unfold Wl.truncate
 split
 ·simp
 ·split
  ·simp
  ·split
   ·simp
   grind [begin_old]
theorem compact2_old(W:Wl)(i:Nat)(D:Dk):(W.compact2 i D).1.old.length<=W.old.length+1:=by
 unfold Wl.compact2;rw[Wl.sync_eq];unfold Wl.compact1
 split
 all_goals simp[begin_old]
theorem wfree_suf(i:Nat):∀ (f:Nat) (old:List (Nat×Nat)) (D:Dk),(wfree i f old D).1 <:+ old
 | 0,old,D=>List.suffix_refl _
 | f+1,old,D=>by
  unfold Go.En.wfree
  split
  ·split
   ·exact List.suffix_refl _
   ·exact (wfree_suf i f _ _).trans<|List.drop_suffix 1 old
  ·exact List.suffix_refl _
theorem compact_old(W:Wl)(i:Nat)(D:Dk):(W.compact i D).1.old.length<=W.old.length+1:=by
 have h2:=compact2_old W i D;have h3:=(wfree_suf i ((W.compact2 i D).1.old.length+1) (W.compact2 i D).1.old (W.compact2 i D).2).length_le
 grind [Wl.compact]
theorem reset_old(W:Wl)(i:Nat)(D:Dk):(W.reset i D).1.old.length<=W.old.length:=by
 grind [Wl.reset]
structure Rn (c q:Nat) (L:Lg) (D:Dk):Prop where
 lb:LBd c L
 ok:DOk c D
 old:L.w.old.length<=q
 ar:D.areas.length<=q
theorem Rn.up{c q c' q':Nat}{L:Lg}{D:Dk}(o:Rn c q L D)(h:c<=c')(h':q<=q'):Rn c' q' L D:=⟨o.lb.up h,o.ok.up h,by have:=o.old;omega,by have:=o.ar;omega⟩
theorem areasL_length(D:Dk):(areasL D).length=D.areas.length:=by unfold areasL;rw[(srtI_perm _).length_eq,List.length_map]
theorem rw_setHard(L:Lg)(D:Dk)(t:Nat)(v:Int):Rk 1 D (L.setHard D t v).2.1:=by
 have h:Rk 1 D (L.hard.save 0 D (uint t++uint (v+1).toNat)).2.1:=⟨_,Nat.le_refl _,rw_save L.hard 0 D (uint t++uint (v+1).toNat)⟩
 grind [Rk.of,Lg.setHard]
theorem Rn.setHard{c q:Nat}{L:Lg}{D:Dk}(o:Rn c q L D)(t:Nat)(v:Int)(ht:t<=mxU):Rn (c+2) (q+1) (L.setHard D t v).1 (L.setHard D t v).2.1:=by
 have hok:DOk (c+2) (L.setHard D t v).2.1:=by
  have h:=o.ok.save L.hard 0 qo (uint t++uint (v+1).toNat);unfold Lg.setHard
  split
  ·exact o.ok.up qo
  ·split
   ·exact o.ok.up qo
   ·split
    ·exact o.ok.up qo
    ·split <;> exact h.up qo
 refine ⟨(o.lb.setHard D t v ht).up qo,hok,?_,?_⟩
 ·have:(L.setHard D t v).1.w=L.w:=by
   grind [Lg.setHard]
  rw[this];have:=o.old;omega
 ·have:=(rw_setHard L D t v).len hok.ok;have:=o.ar;omega
theorem app1_rw:∀ (x:List Ent) (L:Lg) (D:Dk) (c:Nat),LBd c L->DOk c D->(∀ e∈x,entG e)->c+12*x.length<=999999990->Rk x.length D (Lg.app1 x L D).2.1/\(Lg.app1 x L D).1.w.old.length<=L.w.old.length+x.length
 | [],L,D,c,_,_,_,_=>⟨Rk.of D,Nat.le_refl _⟩
 | e::r,L,D,c,o,d,hx,hc=>by
  simp only[List.length_cons] at hc;have h1:=rw_wappend L.w e.bytes D;have h2:=append_old L.w e.bytes D;rw[app1_step]
  split
  ·exact ⟨h1.up (by simp only[List.length_cons];omega),by dsimp only;simp only[List.length_cons];omega⟩
  ·have h3:=app1_rw r _ _ (c+12) (o.w2 e.bytes D e (hx e (by simp))) (d.append o.w qo e.bytes) (fun y hy=>hx y (by simp[hy])) qo;exact ⟨(h1.trans h3.1).up (by simp only[List.length_cons];omega),by have:=h3.2;dsimp only at this;simp only[List.length_cons];omega⟩
theorem append_rw{c:Nat}{L:Lg}(o:LBd c L){D:Dk}(d:DOk c D)(x:List Ent)(hx:∀ e∈x,e.idx<=mxU/\e.term<=mxU)(hc:c+12*x.length<=999999990):Rk x.length D (L.append x D).2.1/\(L.append x D).1.w.old.length<=L.w.old.length+x.length:=by
 unfold Lg.append
 split
 ·simp[Rk.of]
 ·split
  ·simp[Rk.of]
  ·rename_i h;have hok:=fol_ok (Decidable.not_not.1 h);exact app1_rw x L D c o d (fun e he=>⟨hok e he,hx e he⟩) hc
theorem Rn.append{c q:Nat}{L:Lg}{D:Dk}(o:Rn c q L D)(x:List Ent)(hx:∀ e∈x,e.idx<=mxU/\e.term<=mxU)(hc:c+12*x.length<=999999990):Rn (c+12*x.length) (q+x.length) (L.append x D).1 (L.append x D).2.1:=by
 have h:=append_rw o.lb o.ok x hx hc;have h2:=o.lb.append o.ok x hx hc;have hl:=h.1.len h2.2.ok;exact ⟨h2.1,h2.2,by have:=o.old;omega,by have:=o.ar;omega⟩
theorem Rn.merge{c q:Nat}{L:Lg}{D:Dk}(o:Rn c q L D)(i t:Nat)(x:List Ent)(hx:∀ e∈x,e.idx<=mxU/\e.term<=mxU)(hc:c+2+12*x.length<=999999990):Rn (c+2+12*x.length) (q+1+x.length) (L.merge i t x D).1 (L.merge i t x D).2.1:=by
 have hb:=o.lb.merge o.ok i t x hx hc
 have h3:∀ (M:Lg) (E:Dk) (y:List Ent) (last b:Nat),LBd b M->DOk b E->(∀ e∈y,e.idx<=mxU/\e.term<=mxU)->b+12*y.length<=999999990->Rk y.length E (M.merge3 y last E).2.1/\(M.merge3 y last E).1.w.old.length<=M.w.old.length+y.length:=by
  grind [append_rw,Lg.merge3]
 have h2:∀ (y:List Ent) (last:Nat),(∀ e∈y,e.idx<=mxU/\e.term<=mxU)->y.length<=x.length->Rk (1+x.length) D (L.merge2 y last D).2.1/\(L.merge2 y last D).1.w.old.length<=L.w.old.length+1+x.length:=by
  intro y last hy hyl;have hsuf:=skp_suf L.sn L.l y true;have hmem:∀ e∈(skp L.sn L.l y true).1,e.idx<=mxU/\e.term<=mxU:=fun e he=>hy e (hsuf.subset he);have hlen:=hsuf.length_le;unfold Lg.merge2
  split
  ·have:=h3 L D [] last c o.lb o.ok (by simp) (by simp;omega);exact ⟨this.1.up (by simp),by grind⟩
  ·rename_i e r h;rw[h] at hmem hlen;have hie:e.idx<18446744073709551616:=by grind [mxU]
   have hr:=rw_wtrunc L.w e.idx D;have ho:=trunc_old L.w e.idx D
   split
   ·split
    ·exact ⟨hr.up qo,by dsimp only;omega⟩
    ·have:=h3 _ _ (e::r) last (c+2) ((o.lb.cutAt e.idx D).up (show c+1<=c+2 by omega)) (o.ok.truncate o.lb.w qo e.idx hie) hmem qo;exact ⟨(hr.trans this.1).up qo,by grind [Lg.cutAt]⟩
   ·have:=h3 L D (e::r) last c o.lb o.ok hmem qo;exact ⟨this.1.up qo,by omega⟩
 have h1:∀ (i t:Nat) (y:List Ent) (last:Nat),(∀ e∈y,e.idx<=mxU/\e.term<=mxU)->y.length<=x.length->Rk (1+x.length) D (L.merge1 i t y last D).2.1/\(L.merge1 i t y last D).1.w.old.length<=L.w.old.length+1+x.length:=by
  grind [Rk.of,Lg.merge1]
 have h0:Rk (1+x.length) D D/\L.w.old.length<=L.w.old.length+1+x.length:=⟨Rk.of D,by omega⟩
 have hm:Rk (1+x.length) D (L.merge i t x D).2.1/\(L.merge i t x D).1.w.old.length<=L.w.old.length+1+x.length:=by
  unfold Lg.merge
  split
  ·exact h0
  ·split
   ·exact h0
   ·split
    ·split
     ·exact h0
     ·split
      ·exact h0
      ·exact h1 _ _ _ _ (fun e he=>hx e<|List.mem_of_mem_drop he) (by simp)
    ·exact h1 i t x _ hx<|Nat.le_refl _
 have hl:=hm.1.len hb.2.ok;exact ⟨hb.1,hb.2,by have:=hm.2;have:=o.old;omega,by have:=o.ar;omega⟩
theorem rw_lsync(L:Lg)(D:Dk):Rk 0 D (L.sync D).2.1:=by
 unfold Lg.sync
 split
 ·exact Rk.of D
 ·exact ⟨[],Nat.le_refl _,rw_wsync [] L.w D⟩
theorem lsync_old(L:Lg)(D:Dk):(L.sync D).1.w.old=L.w.old:=by
 grind [Wl.sync_eq,Lg.sync]
theorem Rn.sync{c q:Nat}{L:Lg}{D:Dk}(o:Rn c q L D):Rn (c+1) q (L.sync D).1 (L.sync D).2.1:=
 ⟨(o.lb.sync D).up qo,o.ok.syncL L,by rw[lsync_old];exact o.old,by have:=(rw_lsync L D).len (o.ok.syncL L).ok;have:=o.ar;omega⟩
theorem rw_lgW(place:Nat):∀ (f n:Nat) (b:List UInt8) (D:Dk),Rw [((lgA4 place:Nat):Int)] D (lgW place f n b D).1
 | 0,_,_,D=>Rw.refl _ D
 | f+1,n,b,D=>by
  rw[lgW_step]
  split
  ·exact Rw.refl _ D
  ·have h1:=(Rw.refl [((lgA4 place:Nat):Int)] D).write (lgA4 place) n (b.take 64) (by simp)
   split
   ·exact h1
   ·exact h1.trans<|rw_lgW place f (n+1) (b.drop 64) _
theorem rw_lay(L:Lg)(s:Snp)(fr:Nat)(D:Dk):Rk 2 D (L.lay s fr D).2.1:=by
 have h1:Rk 1 D (lgW (L.place+1) (s.data.length+1) 0 s.data D).1:=⟨_,Nat.le_refl _,rw_lgW (L.place+1) (s.data.length+1) 0 s.data D⟩;unfold Lg.lay
 split
 ·exact h1.up qo
 ·unfold Lg.lay1;have h2:=h1.sync (lgA4 (L.place+1))
  split
  ·exact h2.up qo
  ·unfold Lg.lay2;have h3:=h2.trans (⟨_,Nat.le_refl _,rw_save L.head 4 _ (Lg.say s (L.place+1) fr)⟩:Rk 1 _ _)
   split
   ·exact h3
   ·unfold Lg.lay3;exact h3.free (lgA4 L.place)
theorem lay_w(L:Lg)(s:Snp)(fr:Nat)(D:Dk):(L.lay s fr D).1.w=L.w:=by
 unfold Lg.lay
 split
 ·rfl
 ·unfold Lg.lay1
  split
  ·rfl
  ·unfold Lg.lay2
   split
   all_goals rfl
theorem fits_ok{L:Lg}{s:Snp}(h:L.fits s=0):(putConf s.vot).isSome=true/\s.data.length<=2097152/\L.sn.idx<s.idx/\s.idx<lgTop:=by
 grind [Lg.fits]
theorem fits_bd{L:Lg}{s:Snp}(h:L.fits s=0)(ht:s.term<=mxU):SBd s:=by
 obtain ⟨h1,h2,h3,h4⟩:=fits_ok h;exact ⟨by omega,ht,putConf_len h1,h2⟩
theorem Rn.compact{c q:Nat}{L:Lg}{D:Dk}(o:Rn c q L D)(i:Nat)(hi:i<18446744073709551616)(hc:c<=1000000000):
  Rn (c+4+q) (q+1) { L with w:=(L.w.compact i D).1,code:=(L.w.compact i D).2.2 } (L.w.compact i D).2.1:=
 have hok:DOk (c+4+q) (L.w.compact i D).2.1:=(o.ok.compact o.lb.w hc i hi).up (by have:=compact2_old L.w i D;have:=o.old;omega)
 ⟨o.lb.wc ((o.lb.w.compact i D).up qo) qo _,hok,
  by have:=compact_old L.w i D;have:=o.old;dsimp only;omega,by have:=Rk.len ⟨_,Nat.le_refl _,rw_compact L.w i D⟩ hok.ok;have:=o.ar;grind⟩
theorem Rn.resetL{c q:Nat}{L:Lg}{D:Dk}(o:Rn c q L D)(i:Nat):
  Rn (c+q) q { L with w:=(L.w.reset i D).1,code:=(L.w.reset i D).2.2 } (L.w.reset i D).2.1:=
 have hok:DOk (c+q) (L.w.reset i D).2.1:=(o.ok.reset L.w i).up (by rw[areasL_length];have:=o.ar;omega)
 ⟨o.lb.wc ((o.lb.w.reset i D).up qo) qo _,hok,
  by have:=reset_old L.w i D;have:=o.old;dsimp only;omega,by have:=Rk.len ⟨_,Nat.le_refl _,rw_reset [] L.w i D⟩ hok.ok;have:=o.ar;simp only[List.length_nil] at *;omega⟩
theorem Rn.lay{c q k:Nat}{L:Lg}{D:Dk}(o:Rn c q L D)(s:Snp)(hs:SBd s)(fr:Nat)(hfr:fr<=wMany+(c+1))(hc:c<=999000000)(hk:(s.data.length+63) / 64<=k):Rn (c+(k+4)) (q+2) (L.lay s fr D).1 (L.lay s fr D).2.1:=
 have hok:DOk (c+(k+4)) (L.lay s fr D).2.1:=(o.ok.layL o.lb hc s hs fr).up qo
 ⟨(o.lb.lay s hs fr hfr D).up qo,hok,by rw[lay_w];have:=o.old;omega,by have:=(rw_lay L s fr D).len hok.ok;have:=o.ar;omega⟩
theorem Rn.save{c q k:Nat}{L:Lg}{D:Dk}(o:Rn c q L D)(s:Snp)(hst:s.term<=mxU)(hc:c<=499900000)(hk:(s.data.length+63) / 64<=k):Rn (c+(2*k+q+20)) (q+3) (L.save s D).1 (L.save s D).2.1:=by
 unfold Lg.save
 split
 ·exact o.up qo qo
 ·rename_i hf;have hf:=Decidable.not_not.1 hf;have hs:=fits_bd hf hst
  split
  ·exact o.up qo qo
  ·unfold Lg.save1;have h1:=o.sync
   split
   ·exact h1.up qo qo
   ·unfold Lg.save2;have hkk:(s.data.length+63) / 64<=32769:=by have:=hs.data;omega
    have h2:=h1.lay (k:=(s.data.length+63) / 64) s hs (L.sync D).1.fr (by have:=h1.lb.fr;omega) qo (Nat.le_refl _)
    split
    ·exact h2.up qo qo
    ·exact (h2.compact (s.idx+1) (by have:=hs.idx;unfold lgTop at this;omega) qo).up qo qo
theorem Rn.install{c q k:Nat}{L:Lg}{D:Dk}(o:Rn c q L D)(s:Snp)(hst:s.term<=mxU)(hc:c<=499900000)(hk:(s.data.length+63) / 64<=k):Rn (c+(2*k+q+20)) (q+3) (L.install s D).1 (L.install s D).2.1:=by
 unfold Lg.install
 split
 ·exact o.up qo qo
 ·rename_i hf;have hf:=Decidable.not_not.1 hf;have hs:=fits_bd hf hst
  split
  ·exact o.save s hst hc hk
  ·unfold Lg.inst1;have h2:=o.lay (k:=(s.data.length+63) / 64) s hs L.w.next (by have:=o.lb.w.next;omega) qo (Nat.le_refl _)
   split
   ·exact h2.up qo qo
   ·exact (h2.resetL (s.idx+1)).up qo qo
end
section
theorem trm_true{s:Snp}{l:List Ent}{i:Nat}(h:(trm s l i).2=true):s.idx<=i/\i<=s.idx+l.length:=by
 grind [trm]
theorem trm_take{s:Snp}{l:List Ent}{i n:Nat}(h:i<=s.idx+n)(hn:n<=l.length):trm s (l.take n) i=trm s l i:=by
 grind [trm]
theorem folR_cons(i t:Nat)(e:Ent)(r:List Ent):folR i t (e::r)=if e.idx≠i+1\/e.term<t then 180 else folR e.idx e.term r:=rfl
theorem folR_ok{i t:Nat}{e:Ent}{r:List Ent}(h:folR i t (e::r)=0):e.idx=i+1/\t<=e.term/\folR e.idx e.term r=0:=by
 grind [folR_cons]
theorem folR_drop:∀ (x:List Ent) (i t k:Nat) (e:Ent) (r:List Ent),folR i t x=0->x.drop k=e::r->e.idx=i+k+1/\folR e.idx e.term r=0
 | [],i,t,k,e,r,_,h=>by simp at h
 | a::x,i,t,0,e,r,hf,h=>by
  cases h;have:=folR_ok hf;omega
 | a::x,i,t,k+1,e,r,hf,h=>by
  have h1:=folR_ok hf;have:=folR_drop x a.idx a.term k e r h1.2.2 (by simpa using h);exact ⟨by omega,this.2⟩
theorem fol_zero{i t:Nat}{x:List Ent}(hok:∀ e∈x,e.ok)(hf:folR i t x=0):fol i t x=0:=by
 simp_all [putEnt_ok,fol]
theorem skp_at(s:Snp)(l:List Ent):∀ (x:List Ent) (i t:Nat) (b:Bool),folR i t x=0->trm s l i=(t,true)->∀ e r B,skp s l x b=(e::r,B) ->
  ∃ u,i<e.idx/\trm s l (e.idx-1)=(u,true)/\folR (e.idx-1) u (e::r)=0/\B=(trm s l e.idx).2
 | [],i,t,b,_,_,e,r,B,h=>by cases h
 | a::x,i,t,b,hf,ht,e,r,B,h=>by
  have h1:=folR_ok hf;rw[skp_cons] at h
  by_cases hc:(trm s l a.idx).2=false\/(trm s l a.idx).1≠a.term
  ·simp_all
  ·rw[if_neg hc] at h;have hc:=not_or.1 hc;have h2:trm s l a.idx=(a.term,true):=Prod.ext (Decidable.not_not.1 hc.2) (by simpa using hc.1);obtain ⟨u,g1,g2⟩:=skp_at s l x a.idx a.term true h1.2.2 h2 e r B h;exact ⟨u,by omega,g2⟩
theorem Sim.merge3{k q n:Nat}{L:Lg}{D:Dk}(o:Sim k q L)(x:List Ent)(last:Nat)(h:Liv (n+11*x.length) D)(hx:∀ e∈x,e.idx<=mxU/\e.term<=mxU)(hl:L.sn.idx+L.l.length+x.length<2*lgTop)
  (hf:folR L.last (trm L.sn L.l L.last).1 x=0) (hok:∀ e∈x,e.ok):
  (L.merge3 x last D).2.2=(last,true,0)/\Liv n (L.merge3 x last D).2.1/\Sim k (q+x.length) (L.merge3 x last D).1/\(L.merge3 x last D).1.rl={ L.rl with l:=L.l++x }:=by
 have h1:=o.append x h hx hl
 have h0:L.rl.append x=({ L.rl with l:=L.l++x },0):=by
  unfold Rl.append;rw[if_neg (by intro hc;exact hc (fol_zero hok hf))]
  rfl
 rw[h0] at h1;unfold Lg.merge3
 simp_all
theorem Sim.merge2{k q n:Nat}{L:Lg}{D:Dk}(o:Sim k q L)(i t:Nat)(hi:L.sn.idx<=i)(x:List Ent)(last:Nat)(h:Liv (n+1+11*x.length) D)(hx:∀ e∈x,e.idx<=mxU/\e.term<=mxU)(hl:L.sn.idx+L.l.length+x.length<2*lgTop)
  (hf:folR i t x=0) (hok:∀ e∈x,e.ok) (ht:trm L.sn L.l i=(t,true)):
  (L.merge2 x last D).2.2=(L.rl.merge2 x last).2/\Liv n (L.merge2 x last D).2.1/\Sim k (q+1+x.length) (L.merge2 x last D).1/\(L.merge2 x last D).1.rl=(L.rl.merge2 x last).1:=by
 obtain ⟨⟨y,B⟩,hy⟩:∃ p,skp L.sn L.l x true=p:=⟨_,rfl⟩;have hy2:skp L.rl.sn L.rl.l x true=(y,B):=hy;have hsuf:=skp_suf L.sn L.l x true;rw[hy] at hsuf;dsimp only at hsuf;have hlen:=hsuf.length_le;cases y with
 | nil=>
  rw[merge2_nil hy,rmerge2_nil hy2];have h1:=o.merge3 (n:=n) [] last (h.mono (by simp;omega)) (by simp) (by simp;omega) rfl (by simp);refine ⟨h1.1,h1.2.1,h1.2.2.1.up (Nat.le_refl _) (by simp;omega),?_⟩;rw[h1.2.2.2,List.append_nil]
  rfl
 | cons e r=>
  obtain ⟨u,g1,g2,g3,g4⟩:=skp_at L.sn L.l x i t true hf ht e r B hy;have hie:=hx e (hsuf.subset (by simp));have hie2:e.idx<18446744073709551616:=by have:=hie.1;unfold mxU at this;omega
  have g5:=trm_true (s:=L.sn) (l:=L.l) (i:=e.idx-1) (by rw[g2]);rw[merge2_cons hy,rmerge2_cons hy2];cases hB:B with
  | true=>
   subst hB;have g6:=trm_true (s:=L.sn) (l:=L.l) (i:=e.idx) g4.symm;have hTt:=o.w.truncate (n:=n+11*(e::r).length) (h.mono qo) e.idx hie2 (by rw[o.first];omega) (by rw[o.first,o.recs];omega);rw[if_pos rfl,if_neg qo]
   have hat:(lgAt L.sn L.l e.idx).getD 0=e.idx-L.sn.idx-1:=by
    grind [lgAt]
   have hMl:(L.cutAt e.idx (L.w.truncate e.idx D).1).l=L.l.take (e.idx-L.sn.idx-1):=by unfold Lg.cutAt;dsimp only;rw[hat]
   have hlt:(L.l.take (e.idx-L.sn.idx-1)).length=e.idx-L.sn.idx-1:=by rw[List.length_take];omega
   have hM:Sim k (q+1) (L.cutAt e.idx (L.w.truncate e.idx D).1):=
    ⟨o.code,hTt.2.1,o.hard,o.head,o.place,by have:=o.next;grind [Lg.cutAt],by have:=o.fr;unfold Lg.cutAt;dsimp only;omega,by unfold Lg.cutAt;dsimp only;rw[hTt.2.2.2.1];exact o.first,by
     rw[hMl,hlt];unfold Lg.cutAt;dsimp only;rw[hTt.2.2.2.2.1,List.length_take,o.first,o.recs];omega⟩
   have hsn:(L.cutAt e.idx (L.w.truncate e.idx D).1).sn=L.sn:=rfl
   have hla:(L.cutAt e.idx (L.w.truncate e.idx D).1).last=e.idx-1:=by
    grind [Lg.last]
   have h3:=hM.merge3 (n:=n) (e::r) last hTt.2.2.1 (fun a ha=>hx a (hsuf.subset ha)) (by rw[hMl,hlt,hsn];omega) (by
    grind [trm_take]) (fun a ha=>hok a (hsuf.subset ha))
   refine ⟨h3.1,h3.2.1,h3.2.2.1.up (Nat.le_refl _) qo,?_⟩;rw[h3.2.2.2,hMl]
   rfl
  | false=>
   subst hB
   have g6:e.idx=L.sn.idx+L.l.length+1:=by
    grind [trm]
   rw[if_neg (by simp)];have hla:L.last=e.idx-1:=by unfold Lg.last;omega
   have h3:=o.merge3 (n:=n) (e::r) last (h.mono qo) (fun a ha=>hx a (hsuf.subset ha)) qo (by rw[hla,g2];exact g3) (fun a ha=>hok a (hsuf.subset ha));refine ⟨h3.1,h3.2.1,h3.2.2.1.up (Nat.le_refl _) qo,?_⟩;rw[h3.2.2.2]
   have:L.rl.l.take (e.idx-L.rl.sn.idx-1)=L.l:=by
    show L.l.take (e.idx-L.sn.idx-1)=L.l;rw[show e.idx-L.sn.idx-1=L.l.length by omega,List.take_length]
   rw[this]
theorem Sim.merge1{k q n:Nat}{L:Lg}{D:Dk}(o:Sim k q L)(i t:Nat)(hi:L.sn.idx<=i)(x:List Ent)(last:Nat)(h:Liv (n+1+11*x.length) D)(hx:∀ e∈x,e.idx<=mxU/\e.term<=mxU)(hl:L.sn.idx+L.l.length+x.length<2*lgTop)
  (hf:folR i t x=0) (hok:∀ e∈x,e.ok):
  (L.merge1 i t x last D).2.2=(L.rl.merge1 i t x last).2/\Liv n (L.merge1 i t x last D).2.1/\Sim k (q+1+x.length) (L.merge1 i t x last D).1/\(L.merge1 i t x last D).1.rl=(L.rl.merge1 i t x last).1:=by
 unfold Lg.merge1 Rl.merge1
 by_cases hc:(trm L.sn L.l i).2=false\/(trm L.sn L.l i).1≠t
 ·rw[if_pos hc,if_pos (show (trm L.rl.sn L.rl.l i).2=false\/(trm L.rl.sn L.rl.l i).1≠t from hc)];exact ⟨I,h.mono qo,o.up (Nat.le_refl _) qo,I⟩
 ·rw[if_neg hc,if_neg (show ¬((trm L.rl.sn L.rl.l i).2=false\/(trm L.rl.sn L.rl.l i).1≠t) from hc)];have hc:=not_or.1 hc;exact o.merge2 i t hi x last h hx hl hf hok (Prod.ext (Decidable.not_not.1 hc.2) (by simpa using hc.1))
theorem Sim.merge{k q n:Nat}{L:Lg}{D:Dk}(o:Sim k q L)(i t:Nat)(x:List Ent)(h:Liv (n+1+11*x.length) D)(hx:∀ e∈x,e.idx<=mxU/\e.term<=mxU)(hl:L.sn.idx+L.l.length+x.length<2*lgTop):
  (L.merge i t x D).2.2=(L.rl.merge i t x).2/\Liv n (L.merge i t x D).2.1/\Sim k (q+1+x.length) (L.merge i t x D).1/\(L.merge i t x D).1.rl=(L.rl.merge i t x).1:=by
 have h0:Liv n D/\Sim k (q+1+x.length) L:=⟨h.mono qo,o.up (Nat.le_refl _) qo⟩;have hsn:L.rl.sn=L.sn:=rfl;unfold Lg.merge Rl.merge;rw[if_neg (by rw[o.code];simp),hsn]
 by_cases hf:fol i t x≠0
 ·simp_all
 ·rw[if_neg hf,if_neg hf];have hf:=Decidable.not_not.1 hf;have hok:=fol_ok hf;have hfR:=fol_folR hf
  by_cases hi:i<L.sn.idx
  ·rw[if_pos hi,if_pos hi]
   by_cases h1:i+x.length<L.sn.idx
   ·simp_all
   ·rw[if_neg h1,if_neg h1]
    by_cases h2:((x.drop (L.sn.idx-i)).head?.map fun e=>decide (e.term<L.sn.term))=some true
    ·simp_all
    ·rw[if_neg h2,if_neg h2];have hdl:(x.drop (L.sn.idx-i)).length<=x.length:=by simp
     have hm:=o.merge1 (n:=n) L.sn.idx L.sn.term (Nat.le_refl _) (x.drop (L.sn.idx-i)) (i+x.length) (h.mono qo) (fun e he=>hx e (List.mem_of_mem_drop he)) qo (by
      cases hd:x.drop (L.sn.idx-i) with
      | nil=>rfl
      | cons e r=>
       have h3:=folR_drop x i t _ e r hfR hd;rw[hd] at h2;simp at h2;rw[folR_cons,if_neg qo];exact h3.2) (fun e he=>hok e (List.mem_of_mem_drop he))
     exact ⟨hm.1,hm.2.1,hm.2.2.1.up (Nat.le_refl _) qo,hm.2.2.2⟩
  ·rw[if_neg hi,if_neg hi];exact o.merge1 i t qo x _ h hx hl hfR hok
end
section
attribute [local irreducible] Code.wp wpList Calls
def LgH(K:PH)(lb db:Nat)(L:Lg)(D:Dk)(h:PH):Prop:=∃ m,h=uns m/\Djs m/\LgM K lb db L D m
theorem LgH.le{K K':PH}(l:Le K K'){lb db:Nat}{L:Lg}{D:Dk}{h:PH}(x:LgH K lb db L D h):LgH K' lb db L D h:=let ⟨m,h1,h2,h3⟩:=x;⟨m,h1,h2,h3.le l⟩
section
variable {w0:World} {K h:PH} {hs:List PH}
theorem lgKeep{f:FuncId}{args:List Value}{lb db:Nat}{L:Lg}{D:Dk}{u:Value}(hL:LgH K lb db L D h)(c:∀ m,LgM K lb db L D m->Ct Tryz.prog w0 f args K (m++hs) (fun v K' hs'=>K'=K/\hs'=m++hs/\v=u)):Ct Tryz.prog w0 f args K (h::hs) (fun v K' hs'=>K'=K/\hs'=h::hs/\v=u):=by
 obtain ⟨m,rfl,d,hm⟩:=hL;refine Ct.bun2 d (c m hm) ?_
 grind
theorem lgRead{f:FuncId}{args:List Value}{lb db:Nat}{L:Lg}{D:Dk}{S:Value->PH->Prop}(hL:LgH K lb db L D h)(c:∀ m,LgM K lb db L D m->Ct Tryz.prog w0 f args K (m++hs) (fun v K' hs'=>Le K K'/\hs'=m++hs/\S v K')):Ct Tryz.prog w0 f args K (h::hs) (fun v K' hs'=>∃ h',hs'=h'::hs/\h'=h/\Le K K'/\S v K'):=by
 obtain ⟨m,rfl,d,hm⟩:=hL;refine Ct.bun2 d (c m hm) ?_
 grind
theorem lgDo{f:FuncId}{args:List Value}{lb db:Nat}{L L':Lg}{D D':Dk}{u:Value}(hL:LgH K lb db L D h)(c:∀ m,LgM K lb db L D m->Ct Tryz.prog w0 f args K (m++hs) (fun v K' hs'=>Le K K'/\∃ m',hs'=m'++hs/\LgM K' lb db L' D' m'/\v=u)):Ct Tryz.prog w0 f args K (h::hs) (fun v K' hs'=>∃ h',hs'=h'::hs/\Le K K'/\LgH K' lb db L' D' h'/\v=u):=by
 obtain ⟨m,rfl,d,hm⟩:=hL;refine Ct.bun2 d (c m hm) ?_;rintro v K' hs' ⟨le,m',rfl,hm',rfl⟩;exact ⟨m',hs,I,fun d'=>⟨_,I,le,⟨m',I,d',hm'⟩,I⟩⟩
variable (lb db:Nat) (L:Lg) (D:Dk) (c:Nat)
theorem hardH(hL:LgH K lb db L D h):Ct Tryz.prog w0 42 [.pointer (some ⟨lb,0,none⟩)] K (h::hs) (fun v K' hs'=>K'=K/\hs'=h::hs/\v=.agg #[.int .u64 L.kt,.int .i64 L.kv]):=
 lgKeep hL fun m hm=>hardLC lb db L D hm
theorem lastH(hb:LBd c L)(hc:c<=1000000000)(hL:LgH K lb db L D h):Ct Tryz.prog w0 18 [.pointer (some ⟨lb,0,none⟩)] K (h::hs) (fun v K' hs'=>K'=K/\hs'=h::hs/\v=.int .u64 (L.sn.idx+L.l.length:Nat)):=
 lgKeep hL fun m hm=>lastLC lb db L D c hb hc hm
theorem termH(hb:LBd c L)(hc:c<=1000000000)(hL:LgH K lb db L D h)(i:Nat)(hi:i<18446744073709551616):Ct Tryz.prog w0 89 [.pointer (some ⟨lb,0,none⟩),.int .u64 (i:Nat)] K (h::hs) (fun v K' hs'=>K'=K/\hs'=h::hs/\v=okT (trm L.sn L.l i)):=
 lgKeep hL fun m hm=>termLC lb db L D c hb hc hm i hi
theorem snapH(hb:LBd c L)(hL:LgH K lb db L D h):Ct Tryz.prog w0 17 [.pointer (some ⟨lb,0,none⟩)] K (h::hs) (fun v K' hs'=>∃ h',hs'=h'::hs/\h'=h/\Le K K'/\SnpS K' L.sn v):=
 lgRead hL fun m hm=>snapLC lb db L D c hb hm
theorem entryH(hb:LBd c L)(hc:c<=1000000000)(hL:LgH K lb db L D h)(i:Nat)(hi:i<18446744073709551616):Ct Tryz.prog w0 19 [.pointer (some ⟨lb,0,none⟩),.int .u64 (i:Nat)] K (h::hs)
  (fun v K' hs'=>∃ h',hs'=h'::hs/\h'=h/\Le K K'/\∃ e ao cap t,v=.tuple #[.agg (Ent.v e ao cap),.bool t]/\IsS K' ao e.data.length cap 1 (bv e.data) /\
   match lgAt L.sn L.l i with
   | none=>t=false/\e=Ent.zero
   | some k=>t=true/\L.l[k]?=some e):=
 lgRead hL fun m hm=>entryLC lb db L D c hb hc hm i hi
theorem entriesH(hb:LBd c L)(hc:c<=1000000000)(hL:LgH K lb db L D h)(i:Nat)(hi:i<18446744073709551616)(most:Int)(hmo : -9223372036854775808<=most/\most<=9223372036854775807):Ct Tryz.prog w0 16 [.pointer (some ⟨lb,0,none⟩),.int .u64 (i:Nat),.int .i64 most] K (h::hs)
  (fun v K' hs'=>∃ h',hs'=h'::hs/\h'=h/\Le K K'/\∃ ao cap,v=.slice ao (partsL L.sn L.l i most).length cap/\SlS 4 (EntC K') K' ao (partsL L.sn L.l i most).length cap (partsL L.sn L.l i most)):=
 lgRead hL fun m hm=>entriesLC lb db L D c hb hc hm i hi most hmo
theorem configH(hb:LBd c L)(hc:c<=1000000000)(hL:LgH K lb db L D h)(up:Nat)(hup:up<=mxU):Ct Tryz.prog w0 90 [.pointer (some ⟨lb,0,none⟩),.int .u64 (up:Nat)] K (h::hs)
  (fun v K' hs'=>∃ h',hs'=h'::hs/\h'=h/\Le K K'/\∃ ao cap,v=.tuple #[.agg #[.slice ao (cfgAt L.sn L.l up).1.length cap],.int .u64 (((cfgAt L.sn L.l up).2:Nat):Int)]/\IsS K' ao (cfgAt L.sn L.l up).1.length cap 1 (iv (cfgAt L.sn L.l up).1)):=
 lgRead hL fun m hm=>configLC lb db L D c hb hc hm up hup
theorem syncH'(hb:LBd c L)(hc:c<=1000000000)(oD:DOk c D)(hL:LgH K lb db L D h):Ct Tryz.prog w0 144 [.pointer (some ⟨lb,0,none⟩)] K (h::hs)
  (fun v K' hs'=>∃ h',hs'=h'::hs/\Le K K'/\LgH K' lb db (L.sync D).1 (L.sync D).2.1 h'/\v=.int .i64 (L.sync D).2.2):=
 lgDo hL fun m hm=>(syncLC lb db L D c hb hc oD hm).mono fun v K' hs' ⟨e,g⟩=>by subst e;exact ⟨Le.refl _,g⟩
theorem setHardH(hb:LBd c L)(hc:c<=1000000000)(oD:DOk c D)(hL:LgH K lb db L D h)(t:Nat)(v:Int)(ht:t<=mxU)(hv : -9223372036854775808<=v/\v<=9223372036854775807):Ct Tryz.prog w0 136 [.pointer (some ⟨lb,0,none⟩),.agg #[.int .u64 (t:Nat),.int .i64 v]] K (h::hs)
  (fun u K' hs'=>∃ h',hs'=h'::hs/\Le K K'/\LgH K' lb db (L.setHard D t v).1 (L.setHard D t v).2.1 h'/\u=.int .i64 (L.setHard D t v).2.2):=
 lgDo hL fun m hm=>setHardLC lb db L D c hb hc oD hm t v ht hv
theorem appendH(hb:LBd c L)(oD:DOk c D)(hL:LgH K lb db L D h)(ao:Option Addr)(cap:Nat)(x:List Ent)(xs:SlS 4 (EntC K) K ao x.length cap x)(hx:∀ e∈x,entB e)(hc:c+12*x.length<=999999000):Ct Tryz.prog w0 153 [.pointer (some ⟨lb,0,none⟩),.slice ao x.length cap] K (h::hs)
  (fun u K' hs'=>∃ h',hs'=h'::hs/\Le K K'/\LgH K' lb db (L.append x D).1 (L.append x D).2.1 h'/\u=.int .i64 (L.append x D).2.2):=
 lgDo hL fun m hm=>appendLC lb db L D c hb oD hm ao cap x xs hx hc
theorem mergeH(hb:LBd c L)(oD:DOk c D)(hL:LgH K lb db L D h)(i t:Nat)(hi:i<=mxU)(ht:t<=mxU)(ao:Option Addr)(cap:Nat)(x:List Ent)(xs:SlS 4 (EntC K) K ao x.length cap x)(hx:∀ e∈x,entB e)(hc:c+2+12*x.length<=999999000):
  Ct Tryz.prog w0 143 [.pointer (some ⟨lb,0,none⟩),.int .u64 (i:Nat),.int .u64 (t:Nat),.slice ao x.length cap] K (h::hs)
  (fun u K' hs'=>∃ h',hs'=h'::hs/\Le K K'/\LgH K' lb db (L.merge i t x D).1 (L.merge i t x D).2.1 h'/\u=okM (L.merge i t x D).2.2):=
 lgDo hL fun m hm=>mergeLC lb db L D c hb oD hm i t hi ht ao cap x xs hx hc
theorem saveH(hb:LBd c L)(hc:c<=499900000)(oD:DOk c D)(hL:LgH K lb db L D h)(s:Snp)(hsi:s.idx<18446744073709551616)(hst:s.term<=mxU)(hvl:s.vot.length<1099511627776)(hdl:s.data.length<1099511627776)
  (aS:Option Addr) (cS:Nat) (aT:Option Addr) (cT:Nat) (xS:IsS K aS s.vot.length cS 1 (iv s.vot)) (xT:IsS K aT s.data.length cT 1 (bv s.data)):
  Ct Tryz.prog w0 91 [.pointer (some ⟨lb,0,none⟩),.agg (snV s aS cS aT cT)] K (h::hs)
  (fun u K' hs'=>∃ h',hs'=h'::hs/\Le K K'/\LgH K' lb db (L.save s D).1 (L.save s D).2.1 h'/\u=.int .i64 (L.save s D).2.2):=
 lgDo hL fun m hm=>saveLC lb db L D c hb hc oD hm s hsi hst hvl hdl aS cS aT cT xS xT
theorem installH(hb:LBd c L)(hc:c<=499900000)(oD:DOk c D)(hL:LgH K lb db L D h)(s:Snp)(hsi:s.idx<18446744073709551616)(hst:s.term<=mxU)(hvl:s.vot.length<1099511627776)(hdl:s.data.length<1099511627776)
  (aS:Option Addr) (cS:Nat) (aT:Option Addr) (cT:Nat) (xS:IsS K aS s.vot.length cS 1 (iv s.vot)) (xT:IsS K aT s.data.length cT 1 (bv s.data)):
  Ct Tryz.prog w0 149 [.pointer (some ⟨lb,0,none⟩),.agg (snV s aS cS aT cT)] K (h::hs)
  (fun u K' hs'=>∃ h',hs'=h'::hs/\Le K K'/\LgH K' lb db (L.install s D).1 (L.install s D).2.1 h'/\u=.int .i64 (L.install s D).2.2):=
 lgDo hL fun m hm=>installLC lb db L D c hb hc oD hm s hsi hst hvl hdl aS cS aT cT xS xT
end
theorem openH{w0:World}{K dh:PH}{hs:List PH}(db:Nat)(D:Dk)(c:Nat)(oD:DOk c D)(hc:c<=199000000)(hd:DskH K db D dh)(first:List Int)(hfl:first.length<=1000000)(aF:Option Addr)(cF:Nat)(xF:IsS K aF first.length cF 1 (iv first)):
  Ct Tryz.prog w0 22 [.pointer (some ⟨db,0,none⟩),.agg #[.slice aF first.length cF]] K (dh::hs)
   (fun v K' hs'=>∃ h',hs'=h'::hs/\Le K K'/\(((lOpen D first).1=none/\v=.tuple #[.pointer none,.int .i64 (lOpen D first).2.2]/\DskH K' db (lOpen D first).2.1 h') \/
    (∃ L lb,(lOpen D first).1=some L/\v=.tuple #[.pointer (some ⟨lb,0,none⟩),.int .i64 (lOpen D first).2.2]/\LgH K' lb db L (lOpen D first).2.1 h'))):=by
 refine Ct.fix2 (openLC db D c oD hc hd first hfl aF cF xF) ?_;rintro w v K' hs' hS ⟨le,⟨h1,rfl,dh',rfl,hD⟩|⟨L,lb,m,h1,rfl,rfl,hm⟩⟩
 ·grind
 ·obtain ⟨d,hS'⟩:=Sat.join m hS;exact ⟨K',_,⟨_,I,le,.inr ⟨L,lb,h1,I,m,I,d,hm⟩⟩,hS'⟩
end
section
structure Pr where
 mt:Nat
 nx:Nat
 rd:Nat
 ws:Bool
 of:Int
structure Nd where
 nd:Int
 hl:Bool
 role:Int
 lead:Int
 com:Nat
 el:Int
 wt:Int
 yes:List Int
 rnd:Nat
 pr:Nat->Pr
 pf:Int
 ps:Snp
 out:List Msg
def rTop:Nat:=4611686018427387904
def Pr.new(n:Nat):Pr:=⟨0,n,0,false,0⟩
def Nd.setP(R:Nd)(v:Int)(p:Pr):Nd:={ R with pr:=fun i=>if i=v.toNat then p else R.pr i }
def Nd.p(R:Nd)(v:Int):Pr:=R.pr v.toNat
def Snp.zero:Snp:=⟨0,0,[],[]⟩
def Nd.new(nd:Int)(L:Lg):Nd:=⟨nd,false,0,-1,L.sn.idx,0,0,[],0,fun _=>⟨0,0,0,false,0⟩,0,Snp.zero,[]⟩
def Nd.did(R:Nd)(e:Int):Nd:=if e=0 then R else { R with hl:=true,out:=[],role:=0,lead:=-1 }
def Nd.say(R:Nd)(L:Lg)(m:Msg):Nd:={ R with out:=R.out++[{ m with frm:=R.nd,term:=L.kt }] }
def Lg.cfg(L:Lg):List Int×Nat:=cfgAt L.sn L.l L.last
def Lg.trm(L:Lg)(i:Nat):Nat×Bool:=En.trm L.sn L.l i
def Nd.oth(R:Nd)(L:Lg):List Int:=L.cfg.1.filter fun v=>decide (v≠R.nd)
def Nd.foll(R:Nd)(x:Int):Nd:={ R with role:=0,lead:=x,el:=0,wt:=0 }
def quor(c yes:List Int):Bool:=decide (c.length / 2<(c.filter fun v=>decide (v∈yes)).length)
def agreedV(c:List Int)(f:Int->Nat):Nat:=((srtI (c.map fun v=>((f v:Nat):Int))).getD ((c.length-1) / 2) 0).toNat
def Nd.send(R:Nd)(L:Lg)(v:Int):Nd:=
 if (R.p v).ws=true then R
 else if (R.p v).nx<=L.sn.idx then
  (R.setP v { R.p v with ws:=true }).say L { Msg.zero with kind:=5,to:=v,idx:=L.sn.idx,lt:=L.sn.term,off:=min (R.p v).of L.sn.data.length,whole:=L.sn.data.length,vot:=L.sn.vot,data:=(L.sn.data.drop (R.p v).of.toNat).take 256 }
 else (R.setP v { R.p v with ws:=true }).say L { Msg.zero with kind:=3,to:=v,idx:=(R.p v).nx-1,lt:=(L.trm ((R.p v).nx-1)).1,com:=R.com,rnd:=R.rnd,ents:=partsL L.sn L.l (R.p v).nx 8 }
def Nd.tellL(anew:Bool)(L:Lg):List Int->Nd->Nd
 | [],R=>R
 | v::r,R=>tellL anew L r ((if anew=true then R.setP v { R.p v with ws:=false } else R).send L v)
def Nd.tell(R:Nd)(L:Lg)(anew:Bool):Nd:=Nd.tellL anew L (R.oth L) (if anew=true then { R with rnd:=R.rnd+1 } else R)
def Nd.agr1(R:Nd)(L:Lg):Nd:=
 let n:=agreedV L.cfg.1 fun v=>if v=R.nd then L.last else (R.p v).mt
 if R.com<n/\(L.trm n).1=L.kt then { R with com:=n } else R
def Nd.agr2(R:Nd)(L:Lg):Nd:=if L.cfg.2<=R.com/\R.nd∉L.cfg.1 then (R.tell L true).foll (-1) else R
def Nd.agree(R:Nd)(L:Lg):Nd:=(R.agr1 L).agr2 L
def Nd.lay2(R:Nd)(L:Lg):Nd:=if (R.agree L).role=2 then (R.agree L).tell L false else R.agree L
abbrev Ans3:Type:=Nat×Nat×Int
def Nd.lay(R:Nd)(L:Lg)(D:Dk)(kind:Int)(data:List UInt8):Nd×Lg×Dk×Ans3:=
 let A:=L.append [⟨L.last+1,L.kt,kind,data⟩] D
 if A.2.2≠0 then (R.did A.2.2,A.1,A.2.1,0,0,A.2.2)
 else
  let B:=A.1.sync A.2.1
  if B.2.2≠0 then (R.did B.2.2,B.1,B.2.1,0,0,B.2.2) else (R.lay2 B.1,B.1,B.2.1,L.last+1,L.kt,0)
def Nd.up(R:Nd)(L:Lg):Nd:={ R with role:=2,lead:=R.nd,el:=0,pr:=fun _=>Pr.new (L.last+1) }
abbrev Res:Type:=Nd×Lg×Dk×Int
def Nd.elect(R:Nd)(L:Lg)(D:Dk)(c:List Int):Res:=
 if quor c R.yes=false then (R,L,D,0) else let A:=(R.up L).lay L D 0 [];(A.1,A.2.1,A.2.2.1,A.2.2.2.2.2)
def Nd.asks(L:Lg):List Int->Nd->Nd
 | [],R=>R
 | v::r,R=>asks L r (R.say L { Msg.zero with kind:=1,to:=v,idx:=L.last,lt:=(L.trm L.last).1 })
def Nd.cand(R:Nd):Nd:={ R with role:=1,lead:=-1,yes:=[R.nd],el:=0,wt:=0 }
def Nd.stand(R:Nd)(L:Lg)(D:Dk)(c:List Int):Res:=
 let A:=L.setHard D (L.kt+1) R.nd
 if A.2.2≠0 then (R.did A.2.2,A.1,A.2.1,A.2.2) else (Nd.asks A.1 (R.cand.oth A.1) R.cand).elect A.1 A.2.1 c
def Nd.idle0(R:Nd)(d:Nat):Nd:={ R with wt:=if R.wt=0 then ((10+d % 22:Nat):Int) else R.wt,el:=R.el+1 }
def Nd.idle(R:Nd)(L:Lg)(D:Dk)(d:Nat):Res:=
 if (R.idle0 d).el<(R.idle0 d).wt\/R.nd∉L.cfg.1\/rTop<=L.kt then (R.idle0 d,L,D,0) else (R.idle0 d).stand L D L.cfg.1
def Nd.beat(R:Nd)(L:Lg):Nd:=if 3<=R.el+1 then { R with el:=0 }.tell L true else { R with el:=R.el+1 }
def Nd.tick(R:Nd)(L:Lg)(D:Dk)(d:Nat):Res:=
 if R.hl=true then (R,L,D,202) else if R.role=2 then (R.beat L,L,D,0) else R.idle L D d
def Nd.raise(R:Nd)(L:Lg)(D:Dk)(t:Nat):Res:=
 let A:=L.setHard D t (-1)
 (if A.2.2=0 then { R with role:=0,lead:=-1 } else R.did A.2.2,A.1,A.2.1,A.2.2)
def Nd.content(R:Nd):Bool:=decide (R.role=2\/0<=R.lead/\R.el<10)
def Nd.stale(R:Nd)(L:Lg)(m:Msg):Nd:=
 if m.kind=1 then R.say L { Msg.zero with kind:=2,to:=m.frm } else if m.kind=3\/m.kind=5 then R.say L { Msg.zero with kind:=4,to:=m.frm } else R
def newerP(t i lt last:Nat):Bool:=decide (lt<t\/t=lt/\last<=i)
def grant(ht:Nat)(hv:Int)(t:Nat)(c:Int)(nw:Bool):(Nat×Int)×Bool:=
 if t<ht then ((ht,hv),false)
 else
  let h:=if ht<t then (t,-1) else (ht,hv)
  if nw=false\/h.2 ≠ -1/\h.2≠c then (h,false) else ((h.1,c),true)
def Nd.asked(R:Nd)(L:Lg)(D:Dk)(m:Msg):Res:=
 let g:=grant L.kt L.kv m.term m.frm (newerP m.lt m.idx (L.trm L.last).1 L.last)
 if g.2=true then
  let A:=L.setHard D g.1.1 g.1.2
  if A.2.2≠0 then (R.did A.2.2,A.1,A.2.1,A.2.2)
  else ({ R with el:=0,wt:=0 }.say A.1 { Msg.zero with kind:=2,to:=m.frm,good:=true },A.1,A.2.1,0)
 else (R.say L { Msg.zero with kind:=2,to:=m.frm },L,D,0)
def Nd.voted(R:Nd)(L:Lg)(D:Dk)(m:Msg):Res:=
 if R.role≠1\/m.good=false then (R,L,D,0) else { R with yes:=R.yes++[m.frm] }.elect L D L.cfg.1
def clash1(L:Lg)(com i t:Nat):Bool:=decide (i<=com) && ((L.trm i).2 && decide ((L.trm i).1≠t))
def Nd.clashes(R:Nd)(L:Lg)(m:Msg):Bool:=clash1 L R.com m.idx m.lt || m.ents.any fun e=>clash1 L R.com e.idx e.term
def Nd.appE(R:Nd)(L:Lg)(D:Dk)(m:Msg)(n:Nat)(good:Bool):Nd×Lg×Dk×Int:=
 ({ R with com:=if good=true then max R.com (min m.com n) else R.com }.say L { Msg.zero with kind:=4,to:=m.frm,good:=good,idx:=n,rnd:=m.rnd },L,D,0)
def Nd.app(R:Nd)(L:Lg)(D:Dk)(m:Msg):Res:=
 if R.role=2\/R.clashes L m=true then (R,L,D,0)
 else
  let A:=L.merge m.idx m.lt m.ents D
  if A.2.2.2.2=180\/A.2.2.2.2=181 then (R.foll m.frm,A.1,A.2.1,0)
  else if A.2.2.2.2≠0 then ((R.foll m.frm).did A.2.2.2.2,A.1,A.2.1,A.2.2.2.2)
  else if A.2.2.2.1=false then (R.foll m.frm).appE A.1 A.2.1 m A.2.2.1 false
  else
   let B:=A.1.sync A.2.1
   if B.2.2≠0 then ((R.foll m.frm).did B.2.2,B.1,B.2.1,B.2.2) else (R.foll m.frm).appE B.1 B.2.1 m A.2.2.1 true
def backV(nx mt hint:Nat):Nat:=max (min ((hint+1) % 18446744073709551616) (max nx 1-1)) (mt+1)
def Nd.appd1(R:Nd)(L:Lg)(m:Msg):Nd:=
 let p:=R.p m.frm
 let q:Pr:={ p with ws:=false,rd:=max p.rd (min m.rnd R.rnd) }
 if m.good=true then (R.setP m.frm { q with mt:=max p.mt (min m.idx L.last),nx:=max p.nx (max p.mt (min m.idx L.last)+1) }).agree L
 else R.setP m.frm { q with nx:=backV p.nx p.mt m.idx,of:=0 }
def Nd.appd2(R:Nd)(L:Lg)(m:Msg):Nd:=
 if R.role=2/\(m.good=false\/(R.p m.frm).nx<=L.last)/\m.frm∈L.cfg.1 then R.send L m.frm else R
def Nd.appended(R:Nd)(L:Lg)(m:Msg):Nd:=if R.role≠2 then R else (R.appd1 L m).appd2 L m
def Nd.piece(R:Nd)(m:Msg):Nd:=
 let fresh:=m.off=0\/R.pf≠m.frm\/R.ps.idx≠m.idx\/R.ps.term≠m.lt
 let R1:=if fresh then { R with pf:=m.frm,ps:=⟨m.idx,m.lt,m.vot,[]⟩ } else R
 if m.off=R1.ps.data.length then { R1 with ps:={ R1.ps with data:=R1.ps.data++m.data } } else R1
def Nd.inst(R:Nd)(L:Lg)(D:Dk)(m:Msg):Res:=
 let A:=L.install R.ps D
 let R2:Nd:={ R with pf:=0,ps:=Snp.zero }
 if A.2.2=180\/A.2.2=181 then (R2,A.1,A.2.1,0)
 else if A.2.2≠0 then (R2.did A.2.2,A.1,A.2.1,A.2.2)
 else ({ R2 with com:=max R.com m.idx }.say A.1 { Msg.zero with kind:=4,to:=m.frm,good:=true,idx:=m.idx },A.1,A.2.1,0)
def Nd.chunk(R:Nd)(L:Lg)(D:Dk)(m:Msg):Res:=
 if R.role=2 then (R,L,D,0)
 else if m.idx<=R.com then ((R.foll m.frm).say L { Msg.zero with kind:=4,to:=m.frm,good:=true,idx:=m.idx },L,D,0)
 else
  let R1:=(R.foll m.frm).piece m
  if R1.ps.data.length<m.whole then (R1.say L { Msg.zero with kind:=6,to:=m.frm,idx:=m.idx,off:=R1.ps.data.length },L,D,0)
  else R1.inst L D m
def Nd.chunked(R:Nd)(L:Lg)(m:Msg):Nd:=
 if R.role≠2\/m.idx≠L.sn.idx\/m.idx<(R.p m.frm).nx then R else (R.setP m.frm { R.p m.frm with ws:=false,of:=m.off }).send L m.frm
def Nd.take3(R:Nd)(L:Lg)(D:Dk)(m:Msg):Res:=
 if m.kind=1 then R.asked L D m else if m.kind=2 then R.voted L D m else if m.kind=3 then R.app L D m
 else if m.kind=4 then (R.appended L m,L,D,0) else if m.kind=5 then R.chunk L D m else if m.kind=6 then (R.chunked L m,L,D,0) else (R,L,D,0)
def Nd.take2(R:Nd)(L:Lg)(D:Dk)(m:Msg):Res:=if m.term<L.kt then (R.stale L m,L,D,0) else R.take3 L D m
def Nd.take1(R:Nd)(L:Lg)(D:Dk)(m:Msg):Res:=
 if L.kt<m.term then let A:=R.raise L D m.term;if A.2.2.2≠0 then A else A.1.take2 A.2.1 A.2.2.1 m else R.take2 L D m
def Nd.take(R:Nd)(L:Lg)(D:Dk)(m:Msg):Res:=
 if R.hl=true then (R,L,D,202)
 else if (enc m).isSome=false\/m.to≠R.nd\/rTop<m.term then (R,L,D,0)
 else if m.kind=1/\R.content=true then (R,L,D,0)
 else R.take1 L D m
def Nd.leads(R:Nd):Int:=if R.hl=true then 202 else if R.role≠2 then 200 else 0
def Nd.settled(R:Nd)(L:Lg):Bool:=decide ((L.trm R.com).1=L.kt)
def Nd.propose(R:Nd)(L:Lg)(D:Dk)(b:List UInt8):Nd×Lg×Dk×Ans3:=
 if R.leads≠0 then (R,L,D,0,0,R.leads) else if (getCmd b).isSome=false then (R,L,D,0,0,1) else R.lay L D 1 b
def cfgAdd(c:List Int)(n:Int):List Int×Int:=
 if ¬(confOK (-1) c/\c≠[]/\0<=n/\n<7) then ([],190) else if n∈c then ([],191) else (srtI (c++[n]),0)
def cfgRem(c:List Int)(n:Int):List Int×Int:=
 if ¬(confOK (-1) c/\c≠[]/\0<=n/\n<7) then ([],190) else if n∉c\/c.length=1 then ([],191) else (c.filter fun v=>decide (v≠n),0)
def Nd.change(R:Nd)(L:Lg)(D:Dk)(add:Bool)(n:Int):Nd×Lg×Dk×Ans3:=
 if R.leads≠0 then (R,L,D,0,0,R.leads)
 else if R.settled L=false\/R.com<L.cfg.2 then (R,L,D,0,0,201)
 else
  let c:=if add=true then cfgAdd L.cfg.1 n else cfgRem L.cfg.1 n
  if c.2≠0 then (R,L,D,0,0,c.2) else (if add=true then R.setP n (Pr.new (L.last+1)) else R).lay L D 2 (ob (putConf c.1))
def Nd.read(R:Nd)(L:Lg):Nd×Ans3:=
 if R.leads≠0 then (R,0,0,R.leads) else if R.settled L=false then (R,0,0,201) else let A:=R.tell L true;(A,A.rnd,A.com,0)
def Nd.save(R:Nd)(L:Lg)(D:Dk)(i:Nat)(data:List UInt8):Res:=
 if R.hl=true then (R,L,D,202)
 else if R.com<i\/i<=L.sn.idx then (R,L,D,1)
 else
  let A:=L.save ⟨i,(L.trm i).1,(cfgAt L.sn L.l i).1,data⟩ D
  (if A.2.2=181 then R else R.did A.2.2,A.1,A.2.1,A.2.2)
end
section
def Lg.sam(L M:Lg):Prop:=M.kt=L.kt/\M.kv=L.kv/\M.sn=L.sn
theorem app1_sam:∀ (x:List Ent) (L:Lg) (D:Dk),L.sam (L.app1 x D).1
 | [],L,D=>⟨rfl,rfl,rfl⟩
 | e::r,L,D=>by
  unfold Lg.app1
  split
  ·exact ⟨I,I,I⟩
  ·exact app1_sam r { L with w:=(L.w.append e.bytes D).1,l:=L.l++[e] } _
theorem append_sam(L:Lg)(x:List Ent)(D:Dk):L.sam (L.append x D).1:=by
 unfold Lg.append
 split
 ·exact ⟨I,I,I⟩
 ·split
  ·exact ⟨I,I,I⟩
  ·exact app1_sam x L D
theorem sync_sam(L:Lg)(D:Dk):L.sam (L.sync D).1:=by
 unfold Lg.sync
 split <;> exact ⟨rfl,rfl,rfl⟩
theorem merge3_sam(L:Lg)(x:List Ent)(last:Nat)(D:Dk):L.sam (L.merge3 x last D).1:=by
 unfold Lg.merge3
 split <;> exact append_sam L x D
theorem merge2_sam(L:Lg)(x:List Ent)(last:Nat)(D:Dk):L.sam (L.merge2 x last D).1:=by
 unfold Lg.merge2
 split
 ·exact merge3_sam L [] last D
 ·split
  ·split
   ·exact ⟨I,I,I⟩
   ·exact merge3_sam (L.cutAt _ _) _ last _
  ·exact merge3_sam L _ last D
theorem merge_sam(L:Lg)(i t:Nat)(x:List Ent)(D:Dk):L.sam (L.merge i t x D).1:=by
 unfold Lg.merge Lg.merge1
 repeat' split
 all_goals first|exact ⟨rfl,rfl,rfl⟩|exact merge2_sam _ _ _ _
theorem setHard_cases(L:Lg)(D:Dk)(t:Nat)(v:Int):(L.setHard D t v).1.sn=L.sn/\(L.setHard D t v).1.l=L.l/\(((L.setHard D t v).2.2=0/\(L.setHard D t v).1.kt=t/\(L.setHard D t v).1.kv=v/\L.kt<=t)\/((L.setHard D t v).2.2≠0/\(L.setHard D t v).1.kt=L.kt/\(L.setHard D t v).1.kv=L.kv)):=by
 unfold Lg.setHard
 grind
theorem lay_cases(L:Lg)(s:Snp)(fr:Nat)(D:Dk):(L.lay s fr D).1.kt=L.kt/\(L.lay s fr D).1.kv=L.kv/\((L.lay s fr D).1.sn=L.sn\/(L.lay s fr D).1.sn=s):=by
 unfold Lg.lay Lg.lay1 Lg.lay2 Lg.lay3 Lg.laid
 repeat' split
 all_goals simp
theorem save_cases(L:Lg)(s:Snp)(D:Dk):(L.save s D).1.kt=L.kt/\(L.save s D).1.kv=L.kv/\((L.save s D).1.sn=L.sn\/(L.save s D).1.sn=s/\L.fits s=0):=by
 unfold Lg.save Lg.save1 Lg.save2;have h1:=sync_sam L D;have h2:=lay_cases (L.sync D).1 s (L.sync D).1.fr (L.sync D).2.1;unfold Lg.sam at h1
 grind
theorem install_cases(L:Lg)(s:Snp)(D:Dk):(L.install s D).1.kt=L.kt/\(L.install s D).1.kv=L.kv/\((L.install s D).1.sn=L.sn\/(L.install s D).1.sn=s/\L.fits s=0):=by
 unfold Lg.install Lg.inst1;have h1:=save_cases L s D;have h2:=lay_cases L s L.w.next D
 grind
def Lg.cf(L:Lg):Prop:=(putConf L.sn.vot).isSome=true
theorem Lg.cf.sam{L M:Lg}(h:L.cf)(g:L.sam M):M.cf:=by
 unfold Lg.cf;rw[g.2.2];exact h
theorem Lg.cf.setHard{L:Lg}(h:L.cf)(D:Dk)(t:Nat)(v:Int):(L.setHard D t v).1.cf:=by
 unfold Lg.cf;rw[(setHard_cases L D t v).1];exact h
theorem Lg.cf.of{L M:Lg}{s:Snp}(h:L.cf)(g:M.sn=L.sn\/M.sn=s/\L.fits s=0):M.cf:=by
 unfold Lg.cf;rcases g with g|⟨g,f⟩
 ·rw[g];exact h
 ·rw[g];exact (fits_ok f).1
theorem putConf_ok{c:List Int}(h:(putConf c).isSome=true):c≠[]/\confOK (-1) c:=by
 unfold putConf at h
 grind
def Cfg(c:List Int):Prop:=c≠[]/\confOK (-1) c
theorem Cfg.mem{c:List Int}(h:Cfg c){v:Int}(hv:v∈c):0<=v/\v<7:=by
 exact confOK_mem c _ h.2 qo v hv
theorem voters_cfg:∀ n<128,n≠0->Cfg (voters n 7):=by unfold Cfg;decide
theorem getConf_cfg{b:List UInt8}{c:List Int}(h:getConf b=some c):Cfg c:=by
 unfold getConf at h
 split at h
 ·split at h
  ·simp at h
  ·rename_i x hx;obtain rfl:=Option.some.inj h;exact voters_cfg _ qo qo
 ·simp at h
theorem cfgAt_cfg{c:Nat}{L:Lg}(o:LBd c L)(h:L.cf)(up:Nat):Cfg (cfgAt L.sn L.l up).1:=by
 unfold cfgAt
 split
 ·rename_i e he;have h1:=List.find?_some he;have h2:=o.ents e (List.mem_reverse.1 (List.mem_of_find?_eq_some he));obtain ⟨⟨-,-,h3⟩,-⟩:=h2
  have h4:(getConf e.data).isSome=true:=by
   unfold heldP at h3
   grind
  obtain ⟨c,hc⟩:=Option.isSome_iff_exists.1 h4;rw[hc];exact getConf_cfg hc
 ·exact putConf_ok h
theorem Cfg.len{c:List Int}(h:Cfg c):c.length<=7:=by
 have:=confOK_len c _ h.2 qo qo;omega
theorem Lg.last_le{c:Nat}{L:Lg}(o:LBd c L)(hc:c<=1000000000):L.last+1<=rTop:=by
 have h1:=o.idx;have h2:=o.len;unfold lgTop at h1;unfold Lg.last rTop;omega
def Pr.ok(p:Pr):Prop:=p.mt+1<=rTop/\p.nx<=rTop/\p.rd<=mxU/\0<=p.of/\p.of<=2097152
structure Rb (z k:Nat) (R:Nd):Prop where
 nd:0<=R.nd/\R.nd<7
 role:R.role=0\/R.role=1\/R.role=2
 lead : -1<=R.lead/\R.lead<7
 com:R.com<=mxU
 el:0<=R.el/\R.el<=k
 wt:0<=R.wt/\R.wt<=31
 yes:R.yes.length<=k
 rnd:R.rnd<=k
 pr:∀ v,(R.pr v).ok
 ps:R.ps.idx<=mxU/\R.ps.term<=mxU/\R.ps.vot.length<=7/\R.ps.data.length<=256*z
 out:R.out.length<=k
theorem Rb.up{z k j:Nat}{R:Nd}(o:Rb z k R)(h:k<=j):Rb z j R:=by
 obtain ⟨h1,h2,h3,h4,h5,h6,h7,h8,h9,h10,h11⟩:=o;exact ⟨h1,h2,h3,h4,by omega,h6,by omega,by omega,h9,by omega,by omega⟩
theorem Rb.upz{z z' k j:Nat}{R:Nd}(o:Rb z k R)(h':z<=z')(h:k<=j):Rb z' j R:={ o.up h with ps:=by have:=o.ps;omega }
section
variable {z k c:Nat} {R:Nd} {L:Lg}
theorem Rb.say(o:Rb z k R)(L:Lg)(m:Msg):Rb z (k+1) (R.say L m):={ o.up (Nat.le_succ k) with out:=by have:=o.out;simp[Nd.say];omega }
theorem Rb.setP(o:Rb z k R)(v:Int){p:Pr}(h:p.ok):Rb z k (R.setP v p):={ o with pr:=fun i=>by unfold Nd.setP;dsimp only;split;exact h;exact o.pr i }
theorem Rb.send(o:Rb z k R)(L:Lg)(v:Int):Rb z (k+1) (R.send L v):=by
 have h:=o.setP v (p:={ R.p v with ws:=true }) (o.pr v.toNat);unfold Nd.send
 repeat' split
 ·exact o.up<|Nat.le_succ k
 all_goals exact h.say L _
theorem Rb.tellL(a:Bool)(L:Lg):∀ (l:List Int) {k:Nat} {R:Nd},Rb z k R->Rb z (k+l.length) (Nd.tellL a L l R)
 | [],k,R,o=>o
 | v::r,k,R,o=>by
  unfold Nd.tellL;refine (Rb.tellL a L r (k:=k+1) ?_).up (by simp;omega)
  split
  ·exact (o.setP v (p:={ R.p v with ws:=false })<|o.pr v.toNat).send L v
  ·exact o.send L v
theorem oth_len(R:Nd){c:Nat}{L:Lg}(b:LBd c L)(f:L.cf):(R.oth L).length<=7:=Nat.le_trans (List.length_filter_le _ _) (cfgAt_cfg b f L.last).len
theorem Rb.tell(o:Rb z k R)(b:LBd c L)(f:L.cf)(a:Bool):Rb z (k+8) (R.tell L a):=by
 unfold Nd.tell;have:=oth_len R b f;refine (Rb.tellL a L _ (k:=k+1) ?_).up qo
 split
 ·exact { o.up (Nat.le_succ k) with rnd:=by have:=o.rnd;dsimp only;omega }
 ·exact o.up<|Nat.le_succ k
theorem agreedV_le{c:List Int}{f:Int->Nat}{B:Nat}(h:∀ v∈c,f v<=B):agreedV c f<=B:=by
 unfold agreedV;rw[List.getD_eq_getElem?_getD];cases hg:(srtI (c.map fun v=>((f v:Nat):Int)))[(c.length-1) / 2]? with
 | none=>simp
 | some x=>
  have h1:=(srtI_perm _).mem_iff.1 (List.mem_of_getElem? hg);obtain ⟨v,hv,rfl⟩:=List.mem_map.1 h1;exact h v hv
theorem Rb.agr1(o:Rb z k R)(b:LBd c L)(hc:c<=1000000000):Rb z k (R.agr1 L):=by
 unfold Nd.agr1;dsimp only
 split
 ·refine { o with com:=Nat.le_trans (agreedV_le (B:=rTop) fun v hv=>?_) (show rTop<=mxU by decide) };have h1:=Lg.last_le b hc;have h2:=(o.pr v.toNat).1;unfold Nd.p
  split <;> omega
 ·exact o
theorem Rb.foll(o:Rb z k R){x:Int}(h : -1<=x/\x<7):Rb z k (R.foll x):={ o with role:=.inl rfl,lead:=h,el:=⟨Int.le_refl 0,by have:=o.el;show (0:Int)<=_;omega⟩,wt:=⟨Int.le_refl 0,by show (0:Int)<=31;decide⟩ }
theorem Rb.agr2(o:Rb z k R)(b:LBd c L)(f:L.cf):Rb z (k+8) (R.agr2 L):=by
 unfold Nd.agr2
 split
 ·exact (o.tell b f true).foll (by decide)
 ·exact o.up qo
theorem Rb.agree(o:Rb z k R)(b:LBd c L)(f:L.cf)(hc:c<=1000000000):Rb z (k+8) (R.agree L):=(o.agr1 b hc).agr2 b f
theorem Rb.lay2(o:Rb z k R)(b:LBd c L)(f:L.cf)(hc:c<=1000000000):Rb z (k+16) (R.lay2 L):=by
 unfold Nd.lay2
 split
 ·exact (o.agree b f hc).tell b f false
 ·exact (o.agree b f hc).up qo
theorem Rb.did(o:Rb z k R)(e:Int):Rb z k (R.did e):=by
 unfold Nd.did
 split
 ·exact o
 ·exact { o with role:=.inl I,lead:=by dsimp only;omega,out:=Nat.zero_le _ }
end
structure NI (c q z k:Nat) (R:Nd) (L:Lg) (D:Dk):Prop where
 rb:Rb z k R
 rn:Rn c q L D
 cf:L.cf
theorem NI.up{c q z k c' q' k':Nat}{R:Nd}{L:Lg}{D:Dk}(o:NI c q z k R L D)(h1:c<=c')(h2:q<=q')(h3:k<=k'):NI c' q' z k' R L D:=⟨o.rb.up h3,o.rn.up h1 h2,o.cf⟩
theorem NI.upz{c q z k c' q' z' k':Nat}{R:Nd}{L:Lg}{D:Dk}(o:NI c q z k R L D)(h1:c<=c')(h2:q<=q')(h3:k<=k')(h4:z<=z'):NI c' q' z' k' R L D:=⟨o.rb.upz h4 h3,o.rn.up h1 h2,o.cf⟩
theorem NI.r{c q z z' k k':Nat}{R R':Nd}{L:Lg}{D:Dk}(o:NI c q z k R L D)(h:Rb z' k' R'):NI c q z' k' R' L D:=⟨h,o.rn,o.cf⟩
section
variable {c q z k:Nat} {R:Nd} {L:Lg} {D:Dk}
theorem NI.last(o:NI c q z k R L D)(hc:c<=1000000000):L.last+1<=rTop:=L.last_le o.rn.lb hc
theorem NI.setHard(o:NI c q z k R L D)(t:Nat)(v:Int)(ht:t<=mxU):NI (c+2) (q+1) z k R (L.setHard D t v).1 (L.setHard D t v).2.1:=⟨o.rb,o.rn.setHard t v ht,o.cf.setHard D t v⟩
theorem NI.sync(o:NI c q z k R L D):NI (c+1) q z k R (L.sync D).1 (L.sync D).2.1:=⟨o.rb,o.rn.sync,o.cf.sam (sync_sam L D)⟩
theorem NI.append(o:NI c q z k R L D)(e:Ent)(h:e.idx<=mxU/\e.term<=mxU)(hc:c<=900000000):NI (c+12) (q+1) z k R (L.append [e] D).1 (L.append [e] D).2.1:=
 ⟨o.rb,(o.rn.append [e] (by simpa using h) (by simp only[List.length_singleton];omega)).up (by simp) (by simp),o.cf.sam (append_sam L [e] D)⟩
theorem NI.merge(o:NI c q z k R L D)(i t:Nat)(x:List Ent)(hx:∀ e∈x,e.idx<=mxU/\e.term<=mxU)(hl:x.length<=8)(hc:c<=900000000):NI (c+98) (q+9) z k R (L.merge i t x D).1 (L.merge i t x D).2.1:=
 ⟨o.rb,(o.rn.merge i t x hx qo).up qo qo,o.cf.sam (merge_sam L i t x D)⟩
theorem NI.lay(o:NI c q z k R L D)(hc:c<=900000000)(kind:Int)(data:List UInt8):NI (c+13) (q+1) z (k+16) (R.lay L D kind data).1 (R.lay L D kind data).2.1 (R.lay L D kind data).2.2.1:=by
 have h1:=o.last qo;have hk:=o.rn.lb.kt;have a:=o.append ⟨L.last+1,L.kt,kind,data⟩ ⟨by unfold rTop at h1;show L.last+1<=mxU;unfold mxU;omega,hk⟩ hc;have b:=a.sync;unfold Nd.lay;dsimp only
 split
 ·exact (a.r<|a.rb.did _).up qo qo qo
 ·split
  ·exact (b.r<|b.rb.did _).up qo qo qo
  ·exact b.r<|b.rb.lay2 b.rn.lb b.cf qo
theorem NI.upR(o:NI c q z k R L D)(hc:c<=1000000000):NI c q z k (R.up L) L D:=by
 have h:=o.last hc;have h0:=o.rb;refine o.r { h0 with role:=.inr (.inr I),lead:=?_,el:=⟨Int.le_refl 0,?_⟩,pr:=fun v=>?_ }
 ·have:=h0.nd;show -1<=R.nd/\R.nd<7;omega
 ·have:=h0.el;show (0:Int)<=_;omega
 ·exact ⟨by unfold rTop;exact (by decide:0+1<=4611686018427387904),h,by show 0<=mxU;omega,Int.le_refl 0,by show (0:Int)<=2097152;omega⟩
theorem NI.elect(o:NI c q z k R L D)(hc:c<=900000000)(l:List Int):NI (c+13) (q+1) z (k+16) (R.elect L D l).1 (R.elect L D l).2.1 (R.elect L D l).2.2.1:=by
 unfold Nd.elect
 split
 ·exact o.up qo qo qo
 ·exact (o.upR qo).lay hc 0 []
theorem Rb.asks(L:Lg):∀ (l:List Int) {k:Nat} {R:Nd},Rb z k R->Rb z (k+l.length) (Nd.asks L l R)
 | [],k,R,o=>o
 | v::r,k,R,o=>by
  unfold Nd.asks;exact (Rb.asks L r (o.say L _)).up (by simp;omega)
theorem Rb.cand(o:Rb z k R):Rb z (k+1) R.cand:=
 { o.up (Nat.le_succ k) with role:=.inr (.inl rfl),lead:=by show -1<=(-1:Int)/\(-1:Int)<7;decide,el:=⟨Int.le_refl 0,by show (0:Int)<=_;omega⟩,wt:=⟨Int.le_refl 0,by show (0:Int)<=31;decide⟩,yes:=by show 1<=k+1;omega }
theorem NI.stand(o:NI c q z k R L D)(hc:c<=800000000)(hk:L.kt<rTop)(l:List Int):NI (c+15) (q+2) z (k+24) (R.stand L D l).1 (R.stand L D l).2.1 (R.stand L D l).2.2.1:=by
 have a:=o.setHard (L.kt+1) R.nd (by unfold rTop at hk;unfold mxU;omega);unfold Nd.stand;dsimp only
 split
 ·exact (a.r<|a.rb.did _).up qo qo qo
 ·have h1:=oth_len R.cand a.rn.lb a.cf;exact ((a.r ((Rb.asks _ _ a.rb.cand).up (j:=k+8) qo)).elect qo l).up qo qo qo
theorem Rb.idle0(o:Rb z k R)(d:Nat):Rb z (k+1) (R.idle0 d):=by
 have h1:=o.el;have h2:=o.wt;refine { o.up (Nat.le_succ k) with el:=?_,wt:=?_ }
 ·show 0<=R.el+1/\R.el+1<=_;omega
 ·show 0<=(if R.wt=0 then _ else R.wt)/\(if R.wt=0 then _ else R.wt)<=31;split <;> omega
theorem NI.idle(o:NI c q z k R L D)(hc:c<=800000000)(d:Nat):NI (c+15) (q+2) z (k+25) (R.idle L D d).1 (R.idle L D d).2.1 (R.idle L D d).2.2.1:=by
 have h:=o.r (o.rb.idle0 d);unfold Nd.idle
 split
 ·exact h.up qo qo qo
 ·exact (h.stand hc qo _).up qo qo qo
theorem Rb.el0{z k:Nat}{R:Nd}(o:Rb z k R):Rb z k { R with el:=0 }:={ o with el:=⟨Int.le_refl 0,by show (0:Int)<=_;omega⟩ }
theorem NI.beat(o:NI c q z k R L D):NI c q z (k+9) (R.beat L) L D:=by
 unfold Nd.beat
 split
 ·exact o.r<|(o.rb.el0.tell o.rn.lb o.cf true).up qo
 ·have h1:=o.rb.el;exact o.r { o.rb.up (show k<=k+9 by omega) with el:=by show 0<=R.el+1/\R.el+1<=_;omega }
theorem NI.tick(o:NI c q z k R L D)(hc:c<=800000000)(d:Nat):NI (c+15) (q+2) z (k+25) (R.tick L D d).1 (R.tick L D d).2.1 (R.tick L D d).2.2.1:=by
 unfold Nd.tick
 repeat' split
 ·exact o.up qo qo qo
 ·exact o.beat.up qo qo qo
 ·exact o.idle hc d
theorem Rb.fl(o:Rb z k R):Rb z k { R with role:=0,lead:=-1 }:={ o with role:=.inl rfl,lead:=by show -1<=(-1:Int)/\(-1:Int)<7;decide }
theorem NI.raise(o:NI c q z k R L D)(t:Nat)(ht:t<=mxU):NI (c+2) (q+1) z k (R.raise L D t).1 (R.raise L D t).2.1 (R.raise L D t).2.2.1:=by
 have a:=o.setHard t (-1) ht;unfold Nd.raise;dsimp only
 split
 ·exact a.r a.rb.fl
 ·exact a.r<|a.rb.did _
theorem Rb.stale(o:Rb z k R)(L:Lg)(m:Msg):Rb z (k+1) (R.stale L m):=by
 unfold Nd.stale
 repeat' split
 all_goals first|exact o.say L _|exact o.up (Nat.le_succ k)
theorem grant_le{ht t:Nat}{hv c:Int}{nw:Bool}(h1:ht<=mxU)(h2:t<=mxU):(grant ht hv t c nw).1.1<=mxU:=by
 unfold grant
 grind
theorem NI.asked(o:NI c q z k R L D)(m:Msg)(hb:m.bd):NI (c+2) (q+1) z (k+1) (R.asked L D m).1 (R.asked L D m).2.1 (R.asked L D m).2.2.1:=by
 unfold Nd.asked;dsimp only
 split
 ·have a:=o.setHard (grant L.kt L.kv m.term m.frm (newerP m.lt m.idx (L.trm L.last).1 L.last)).1.1 (grant L.kt L.kv m.term m.frm (newerP m.lt m.idx (L.trm L.last).1 L.last)).1.2 (grant_le o.rn.lb.kt hb.term)
  split
  ·exact (a.r<|a.rb.did _).up qo qo qo
  ·have h:Rb z k { R with el:=0,wt:=0 }:={ o.rb.el0 with wt:=⟨Int.le_refl 0,by show (0:Int)<=31;decide⟩ };exact a.r (h.say _ _)
 ·exact (o.r<|o.rb.say L _).up qo qo qo
theorem NI.voted(o:NI c q z k R L D)(hc:c<=900000000)(m:Msg):NI (c+13) (q+1) z (k+17) (R.voted L D m).1 (R.voted L D m).2.1 (R.voted L D m).2.2.1:=by
 unfold Nd.voted
 split
 ·exact o.up qo qo qo
 ·have h:Rb z (k+1) { R with yes:=R.yes++[m.frm] }:={ o.rb.up (Nat.le_succ k) with yes:=by have:=o.rb.yes;simp;omega };exact (o.r h).elect hc _
theorem NI.appE(o:NI c q z k R L D)(m:Msg)(hb:m.bd)(n:Nat)(g:Bool):NI c q z (k+1) (R.appE L D m n g).1 (R.appE L D m n g).2.1 (R.appE L D m n g).2.2.1:=by
 unfold Nd.appE;have h1:=o.rb.com;have h2:=hb.com;have h:Rb z k { R with com:=if g=true then max R.com (min m.com n) else R.com }:={ o.rb with com:=by dsimp only;split <;> omega };exact o.r (h.say _ _)
theorem ok_frm{m:Msg}(h:m.ok):0<=m.frm/\m.frm<7:=h.1.2.1
theorem ok_ents{m:Msg}(h:m.ok)(hk:m.kind=3):entsOK m.idx 0 m.ents/\m.ents.length<=8:=by
 have:=h.2.1 .ents (by rw[hk];simp[fieldsOf]);exact this
theorem ok_off{m:Msg}(h:m.ok)(hk:m.kind=5\/m.kind=6):0<=m.off/\m.off<=2097152:=by
 have:=h.2.1 .off (by rcases hk with hk|hk <;> rw[hk] <;> simp[fieldsOf]);exact this
theorem ok_vot{m:Msg}(h:m.ok)(hk:m.kind=5):Cfg m.vot:=by
 have:=h.2.1 .vot (by rw[hk];simp[fieldsOf]);exact putConf_ok this
theorem ok_data{m:Msg}(h:m.ok)(hk:m.kind=5):m.data.length<=256:=by
 have:=h.2.1 .data (by rw[hk];simp[fieldsOf]);exact this.1
theorem NI.app(o:NI c q z k R L D)(hc:c<=900000000)(m:Msg)(hb:m.bd)(ho:m.ok)(hk:m.kind=3):NI (c+99) (q+9) z (k+1) (R.app L D m).1 (R.app L D m).2.1 (R.app L D m).2.2.1:=by
 unfold Nd.app;dsimp only;have hf:=ok_frm ho
 split
 ·exact o.up qo qo qo
 ·have a:=(o.r (o.rb.foll (x:=m.frm) qo)).merge m.idx m.lt m.ents (fun e he=>⟨(hb.ents e he).1,(hb.ents e he).2.1⟩) (ok_ents ho hk).2 hc;have b:=a.sync
  repeat' split
  ·exact a.up qo qo qo
  ·exact (a.r<|a.rb.did _).up qo qo qo
  ·exact (a.appE m hb _ _).up qo qo qo
  ·exact (b.r<|b.rb.did _).up qo qo qo
  ·exact (b.appE m hb _ _).up qo qo qo
theorem NI.appd1(o:NI c q z k R L D)(hc:c<=900000000)(m:Msg)(hb:m.bd):NI c q z (k+8) (R.appd1 L m) L D:=by
 have hl:=o.last qo;have hp:=o.rb.pr m.frm.toNat;have hr:=hb.rnd;unfold Pr.ok at hp;refine o.r ?_;unfold Nd.appd1;dsimp only;unfold Nd.p
 split
 ·refine Rb.agree (o.rb.setP m.frm ?_) o.rn.lb o.cf qo;unfold Pr.ok;dsimp only;omega
 ·refine (o.rb.setP m.frm ?_).up qo;unfold Pr.ok backV;dsimp only;omega
theorem NI.appended(o:NI c q z k R L D)(hc:c<=900000000)(m:Msg)(hb:m.bd):NI c q z (k+9) (R.appended L m) L D:=by
 unfold Nd.appended
 split
 ·exact o.up qo qo qo
 ·have h:=o.appd1 hc m hb;unfold Nd.appd2
  split
  ·exact h.r<|h.rb.send L _
  ·exact h.up qo qo qo
theorem Rb.piece(o:Rb z k R)(m:Msg)(hb:m.bd)(ho:m.ok)(hk:m.kind=5):Rb (z+1) (k+1) (R.piece m):=by
 have h1:=o.ps;have h2:=ok_data ho hk;have h3:=(ok_vot ho hk).len;have h4:=hb.idx;have h5:=hb.lt;unfold Nd.piece;dsimp only
 repeat' split
 all_goals refine { o.upz (Nat.le_succ z) (Nat.le_succ k) with ps:=?_ }
 all_goals try simp only[List.length_append,List.length_nil,List.nil_append]
 all_goals omega
theorem Rb.ps0(o:Rb z k R):Rb z k { R with pf:=0,ps:=Snp.zero }:={ o with ps:=⟨Nat.zero_le _,Nat.zero_le _,Nat.zero_le _,Nat.zero_le _⟩ }
theorem NI.inst(o:NI c q z k R L D)(hc:c<=499900000)(m:Msg)(hb:m.bd):NI (c+(8*z+q+22)) (q+3) z (k+1) (R.inst L D m).1 (R.inst L D m).2.1 (R.inst L D m).2.2.1:=by
 have hp:=o.rb.ps
 have a:NI (c+(8*z+q+22)) (q+3) z k R (L.install R.ps D).1 (L.install R.ps D).2.1:=
  ⟨o.rb,(o.rn.install (k:=4*z+1) R.ps hp.2.1 hc qo).up qo qo,o.cf.of (install_cases L R.ps D).2.2⟩
 have h1:=o.rb.com;have h2:=hb.idx;unfold Nd.inst;dsimp only
 repeat' split
 ·exact (a.r a.rb.ps0).up qo qo qo
 ·exact (a.r<|a.rb.ps0.did _).up qo qo qo
 ·have h:Rb z k { R with pf:=0,ps:=Snp.zero,com:=max R.com m.idx }:={ a.rb.ps0 with com:=by dsimp only;omega };exact a.r (h.say _ _)
theorem NI.chunk(o:NI c q z k R L D)(hc:c<=499900000)(m:Msg)(hb:m.bd)(ho:m.ok)(hk:m.kind=5):NI (c+(8*z+q+30)) (q+3) (z+1) (k+2) (R.chunk L D m).1 (R.chunk L D m).2.1 (R.chunk L D m).2.2.1:=by
 have hf:=ok_frm ho;have h1:=o.rb.foll (x:=m.frm) qo;have h2:=h1.piece m hb ho hk;unfold Nd.chunk;dsimp only
 repeat' split
 ·exact o.upz qo qo qo qo
 ·exact (o.r<|h1.say L _).upz qo qo qo qo
 ·exact (o.r<|h2.say L _).up qo qo qo
 ·exact ((o.r h2).inst hc m hb).up qo qo qo
theorem NI.chunked(o:NI c q z k R L D)(m:Msg)(ho:m.ok)(hk:m.kind=6):NI c q z (k+1) (R.chunked L m) L D:=by
 have h1:=ok_off ho (.inr hk);have hp:=o.rb.pr m.frm.toNat;unfold Nd.chunked
 split
 ·exact o.up qo qo qo
 ·exact o.r<|(o.rb.setP m.frm (p:={ R.p m.frm with ws:=false,of:=m.off }) ⟨hp.1,hp.2.1,hp.2.2.1,h1⟩).send L _
theorem NI.take3(o:NI c q z k R L D)(hc:c<=499900000)(m:Msg)(hb:m.bd)(ho:m.ok):NI (c+(8*z+q+110)) (q+9) (z+1) (k+17) (R.take3 L D m).1 (R.take3 L D m).2.1 (R.take3 L D m).2.2.1:=by
 unfold Nd.take3
 by_cases h1:m.kind=1
 ·rw[if_pos h1];exact (o.asked m hb).upz qo qo qo qo
 by_cases h2:m.kind=2
 ·rw[if_neg h1,if_pos h2];exact (o.voted qo m).upz qo qo qo qo
 by_cases h3:m.kind=3
 ·rw[if_neg h1,if_neg h2,if_pos h3];exact (o.app qo m hb ho h3).upz qo qo qo qo
 by_cases h4:m.kind=4
 ·rw[if_neg h1,if_neg h2,if_neg h3,if_pos h4];exact (o.appended qo m hb).upz qo qo qo qo
 by_cases h5:m.kind=5
 ·rw[if_neg h1,if_neg h2,if_neg h3,if_neg h4,if_pos h5];exact (o.chunk hc m hb ho h5).upz qo qo qo qo
 rw[if_neg h1,if_neg h2,if_neg h3,if_neg h4,if_neg h5]
 split
 ·rename_i h6;exact (o.chunked m ho h6).upz qo qo qo qo
 ·exact o.upz qo qo qo qo
theorem NI.take2(o:NI c q z k R L D)(hc:c<=499900000)(m:Msg)(hb:m.bd)(ho:m.ok):NI (c+(8*z+q+110)) (q+9) (z+1) (k+17) (R.take2 L D m).1 (R.take2 L D m).2.1 (R.take2 L D m).2.2.1:=by
 unfold Nd.take2
 split
 ·exact (o.r<|o.rb.stale L m).upz qo qo qo qo
 ·exact o.take3 hc m hb ho
theorem NI.take(o:NI c q z k R L D)(hc:c<=499800000)(m:Msg)(hb:m.bd):NI (c+(8*z+q+120)) (q+10) (z+1) (k+17) (R.take L D m).1 (R.take L D m).2.1 (R.take L D m).2.2.1:=by
 unfold Nd.take
 split
 ·exact o.upz qo qo qo qo
 split
 ·exact o.upz qo qo qo qo
 split
 ·exact o.upz qo qo qo qo
 rename_i h _
 have ho:m.ok:=by
  unfold enc at h
  by_cases hh:m.ok
  ·exact hh
  ·simp[hh] at h
 unfold Nd.take1;dsimp only
 split
 ·have a:=o.raise m.term hb.term
  split
  ·exact a.upz qo qo qo qo
  ·exact (a.take2 qo m hb ho).upz qo qo qo qo
 ·exact (o.take2 qo m hb ho).upz qo qo qo qo
theorem NI.propose(o:NI c q z k R L D)(hc:c<=900000000)(b:List UInt8):NI (c+13) (q+1) z (k+16) (R.propose L D b).1 (R.propose L D b).2.1 (R.propose L D b).2.2.1:=by
 unfold Nd.propose
 repeat' split
 ·exact o.up qo qo qo
 ·exact o.up qo qo qo
 ·exact o.lay hc 1 b
theorem NI.change(o:NI c q z k R L D)(hc:c<=900000000)(a:Bool)(n:Int):NI (c+13) (q+1) z (k+16) (R.change L D a n).1 (R.change L D a n).2.1 (R.change L D a n).2.2.1:=by
 have hl:=o.last qo;unfold Nd.change;dsimp only
 split
 ·exact o.up qo qo qo
 split
 ·exact o.up qo qo qo
 generalize (if a=true then cfgAdd L.cfg.1 n else cfgRem L.cfg.1 n)=x
 split
 ·exact o.up qo qo qo
 split
 ·exact (o.r (o.rb.setP n (p:=Pr.new (L.last+1)) ⟨by unfold rTop;exact (by decide:0+1<=4611686018427387904),hl,by show 0<=mxU;omega,Int.le_refl 0,by show (0:Int)<=2097152;omega⟩)).lay hc 2 _
 ·exact o.lay hc 2 _
theorem NI.read(o:NI c q z k R L D):NI c q z (k+8) (R.read L).1 L D:=by
 unfold Nd.read
 repeat' split
 ·exact o.up qo qo qo
 ·exact o.up qo qo qo
 ·exact o.r<|o.rb.tell o.rn.lb o.cf true
theorem Lg.trm_le{c:Nat}{L:Lg}(o:LBd c L)(i:Nat):(L.trm i).1<=mxU:=by
 unfold Lg.trm En.trm;have h1:=o.st
 repeat' split
 ·exact h1
 ·exact Nat.zero_le _
 ·cases h:L.l[i-L.sn.idx-1]? with
  | none=>exact Nat.zero_le _
  | some e=>exact (o.ents e (List.mem_of_getElem? h)).2.2
theorem NI.save(o:NI c q z k R L D)(hc:c<=499900000)(i:Nat)(data:List UInt8)(d:Nat)(hd:(data.length+63) / 64<=d):NI (c+(2*d+q+20)) (q+3) z k (R.save L D i data).1 (R.save L D i data).2.1 (R.save L D i data).2.2.1:=by
 unfold Nd.save;dsimp only
 split
 ·exact o.up qo qo qo
 split
 ·exact o.up qo qo qo
 have a:NI (c+(2*d+q+20)) (q+3) z k R (L.save ⟨i,(L.trm i).1,(cfgAt L.sn L.l i).1,data⟩ D).1 (L.save ⟨i,(L.trm i).1,(cfgAt L.sn L.l i).1,data⟩ D).2.1:=
  ⟨o.rb,o.rn.save _ (Lg.trm_le o.rn.lb i) hc hd,o.cf.of (save_cases L _ D).2.2⟩
 split
 ·exact a
 ·exact a.r<|a.rb.did _
end
end
section
theorem pick_bd{s:Slt}{r:Nat×List UInt8}(hs:s.bd)(hr:r.1<18446744073709551616/\r.2.length<=48):(s.pick r).bd:=by
 unfold Slt.pick
 split
 ·exact hr
 ·exact hs
theorem sltOpen_bd{c:Nat}{D:Dk}(o:D.Ok c)(area:Nat):(sltOpen D area).bd:=
 pick_bd (pick_bd ⟨Nat.zero_lt_succ _,Nat.zero_le _⟩ (sltRd_bd o area 0)) (sltRd_bd o area 1)
theorem rdE_ok:∀ (r:List (List UInt8)) (i:Nat) (l:List Ent),rdE i r=some l->l.length=r.length/\∀ e∈l,entG e
 | [],i,l,h=>by
  cases h
  simp
 | b::r,i,l,h=>by
  rw[rdE_cons] at h;cases hg:getEnt b with
  | none=>rw[hg] at h;cases h
  | some e=>
   rw[hg] at h;dsimp only at h
   split at h
   ·cases hr:rdE (i+1) r with
    | none=>rw[hr] at h;cases h
    | some q=>
     rw[hr] at h;cases h;obtain ⟨g1,g2⟩:=rdE_ok r (i+1) q hr;have h3:=putEnt_get hg;refine ⟨by simp[g1],fun y hy=>?_⟩;rcases List.mem_cons.1 hy with rfl|hy
     ·exact ⟨putEnt_ok.1 (by rw[h3.1];rfl),h3.2⟩
     ·exact g2 y hy
   ·cases h
theorem wOpen_old{c:Nat}{D:Dk}(o:DOk c D){fr first:Nat}{W:Wl}{E:Dk}(h:wOpen D fr first=(some W,E,0)):W.old.length<=D.areas.length:=by
 unfold wOpen at h
 split at h
 ·cases h
 ·split at h
  ·cases h
  ·rename_i h1
   split at h
   ·cases h
   ·rename_i h2
    split at h
    ·cases h
    ·rename_i h3
     split at h
     ·cases h
     ·simp only[Prod.mk.injEq,Option.some.injEq] at h;obtain ⟨rfl,_⟩:=h
      have h3:(wscan D fr (wnums (areasL D)) (wl0 fr first (areasL D)) []).2.2=true:=by
       simp_all
      have h0:SInv D (wl0 fr first (areasL D)).next [] (wl0 fr first (areasL D)):=⟨rfl,rfl,rfl,by simp[wl0],by simp[wl0];omega,by simp[wl0],by simp[wl0],by simp[wl0]⟩;have hS:=(SInv.scan o.ok _ _ _ _ h0 h3).old;rw[List.nil_append] at hS
      grind [wnums_len,areasL_length]
theorem rk_wset1(g:List Nat)(n:Nat)(D:Dk):Rk 0 D (wset1 D g n).1:=by
 unfold wset1
 split
 ·exact (Rk.of D).free _
 ·exact (Rk.of D).sync _
theorem rk_settle(g:List Nat):∀ (l:List Nat) (D:Dk),Rk 0 D (wsettle g l D).1
 | [],D=>Rk.of D
 | n::r,D=>by
  unfold Go.En.wsettle
  split
  ·exact (rk_wset1 g n D).trans<|rk_settle g r _
  ·exact rk_wset1 g n D
theorem rk_wOpen(D:Dk)(fr first:Nat):Rk 0 D (wOpen D fr first).2.1:=by
 grind [Rk.of,rk_settle,wOpen]
theorem rk_lgFree(pl:Nat):∀ (l:List Int) (D:Dk),Rk 0 D (lgFree pl l D).1
 | [],D=>Rk.of D
 | a::r,D=>by
  rw[lgFree_cons]
  split
  ·split
   ·exact (Rk.of D).free _
   ·exact ((Rk.of D).free _).trans<|rk_lgFree pl r _
  ·exact rk_lgFree pl r D
theorem rdHead_SBd{D:Dk}{S:Slt}{v:List Int}(hv:v.length<=7){p:Snp×Nat×Nat}(h:rdHead D S v=some p):SBd p.1/\p.2.1<=lgTop/\p.2.2<=lgTop:=by
 unfold rdHead at h
 split at h
 ·cases h;exact ⟨⟨Nat.zero_le _,Nat.zero_le _,hv,Nat.zero_le _⟩,Nat.zero_le _,Nat.zero_le _⟩
 ·split at h
  ·cases h
  ·split at h
   ·cases h
   ·cases h;refine ⟨⟨rUint_le _ _,rUint_le _ _,(getConf_mem _).1,?_⟩,rUint_le _ _,rUint_le _ _⟩
    grind [rUint_le,hd4]
theorem Rn.opened{c q:Nat}{D:Dk}(o:DOk c D)(hq:D.areas.length<=q){first:List Int}{L:Lg}(h:(lOpen D first).1=some L):Rn (c+2*q) q L (lOpen D first).2.1/\(lOpen D first).2.2=0:=by
 unfold lOpen at h ⊢
 split at h
 ·cases h
 ·rename_i hv;have hv:(putConf first).isSome=true:=by grind
  rw[if_neg (by rw[hv];simp)]
  split at h
  ·cases h
  ·rename_i hd;rw[if_neg hd];cases hkh:rdHard (sltOpen D 0) with
   | none=>rw[hkh] at h;cases h
   | some kh=>
    rw[hkh] at h;dsimp only at h ⊢;cases hhd:rdHead D (sltOpen D 4) first with
    | none=>rw[hhd] at h;cases h
    | some p=>
     rw[hhd] at h;dsimp only at h ⊢;unfold lOpen2 at h ⊢
     split at h
     ·cases h
     ·rename_i hf;rw[if_neg hf];have oF:DOk (c+q) (lgFree p.2.1 (areasL D) D).1:=(DOk.lgFree p.2.1 (areasL D) D c o).up (by rw[areasL_length];omega);have hFq:(lgFree p.2.1 (areasL D) D).1.areas.length<=q:=by have:=(rk_lgFree p.2.1 (areasL D) D).len oF.ok;omega
      generalize (lgFree p.2.1 (areasL D) D).1=F at h oF hFq ⊢;unfold lOpen3 at h ⊢;have hco:=wOpen_code (D:=F) (fr:=p.2.2) (first:=p.1.idx+1);have hdo:=oF.opened p.2.2 (p.1.idx+1);have hrk:=(rk_wOpen F p.2.2 (p.1.idx+1)).len hdo.ok;cases hw:(wOpen F p.2.2 (p.1.idx+1)).1 with
      | none=>rw[hw] at h;cases h
      | some W=>
       rw[hw] at h;dsimp only at h ⊢
       have he:wOpen F p.2.2 (p.1.idx+1)=(some W,(wOpen F p.2.2 (p.1.idx+1)).2.1,0):=by
        rw[<-hw,<-hco.2 W hw]
       have hb:=WBd.opened oF he;have hold:=wOpen_old oF he;cases hre:rdEnts p.1 W with
       | none=>rw[hre] at h;cases h
       | some l=>
        rw[hre] at h;dsimp only at h ⊢;cases h;have hS:=rdHead_SBd (putConf_len hv) hhd;have hw70:=hb.1.recs
        have hrd:l.length<=70000000000+(c+q)/\∀ e∈l,entG e:=by
         grind [rdE_ok,List.length_drop,rdEnts]
        have hkb:kh.1<=mxU /\ -1<=kh.2/\kh.2<=6:=by
         grind [rdHard,rUint]
        refine ⟨⟨⟨hb.1.up qo,sltOpen_bd o.ok 0,sltOpen_bd o.ok 4,hkb.1,hkb.2,hS.1.idx,hS.1.term,hS.1.vot,hS.1.data,by have:=hS.2.1;dsimp only;omega,by grind [lgTop,wMany],by dsimp only;omega,hrd.2⟩,hdo.up qo,by dsimp only;omega,by omega⟩,rfl⟩
end
section
section deqs
variable {P:Program} {T:Tab} {w0:World} {ops:Array Oper} {Q:Exit->Act->World->Prop} {plan plan':List Nat} {z:Nat} {listed listed':Array Bool} {n:Nat} {l l':Sl} {K K0:PH} {hs A:List PH}
end deqs
attribute [local irreducible] Code.wp wpList Calls
theorem dk0_DOk{r:Int}(h:0<=r/\r<=1073741824):DOk 0 (dk0 r):=⟨dk0_ok ⟨h.1,by omega⟩,by simp[dk0],by simp[dk0],by simp[dk0,totA];omega⟩
end
section
def lastT(t:Nat)(a:List Ent):Nat:=((a.getLast?).map Ent.term).getD t
theorem lastT_cons(t:Nat)(e:Ent)(a:List Ent):lastT t (e::a)=lastT e.term a:=by
 grind [lastT]
theorem folR_app:∀ (a b:List Ent) (i t:Nat),folR i t (a++b)=0↔folR i t a=0/\folR (i+a.length) (lastT t a) b=0
 | [],b,i,t=>by simp[lastT,folR]
 | e::a,b,i,t=>by
  rw[List.cons_append,folR_cons,folR_cons]
  by_cases h:e.idx≠i+1\/e.term<t
  ·omega
  ·rw[if_neg h,if_neg h,folR_app a b e.idx e.term,lastT_cons,List.length_cons,show e.idx+a.length=i+(a.length+1) by omega]
theorem trm_lastT{s:Snp}{l:List Ent}{k:Nat}(h:k<=l.length):trm s l (s.idx+k)=(lastT s.term (l.take k),true):=by
 grind [trm,lastT]
theorem folR_take{i t:Nat}{l:List Ent}(h:folR i t l=0)(k:Nat):folR i t (l.take k)=0:=by
 grind [List.take_append_drop,folR_app]
theorem folR_drop2{i t:Nat}{l:List Ent}(h:folR i t l=0){k:Nat}(hk:k<=l.length):folR (i+k) (lastT t (l.take k)) (l.drop k)=0:=by
 grind [List.take_append_drop,folR_app]
def Rl.wf(r:Rl):Prop:=folR r.sn.idx r.sn.term r.l=0
theorem Rl.wf.idx{r:Rl}(h:r.wf){j:Nat}{e:Ent}(he:r.l[j]?=some e):e.idx=r.sn.idx+j+1:=folR_idx r.l _ _ h j e he
theorem Rl.wf.setHard{r:Rl}(h:r.wf)(t:Nat)(v:Int):(r.setHard t v).1.wf:=by
 unfold Rl.setHard
 split
 ·exact h
 ·split
  ·exact h
  ·exact h
theorem Rl.wf.append{r:Rl}(h:r.wf)(x:List Ent):(r.append x).1.wf:=by
 unfold Rl.append
 split
 ·exact h
 ·rename_i hf;have hf:=fol_folR (Decidable.not_not.1 hf);show folR r.sn.idx r.sn.term (r.l++x)=0;rw[folR_app];rw[trm_lastT (Nat.le_refl _),List.take_length] at hf;exact ⟨h,hf⟩
theorem Rl.wf.merge1{r:Rl}(h:r.wf){i t:Nat}(hi:r.sn.idx<=i){x:List Ent}(hf:folR i t x=0)(last:Nat):(r.merge1 i t x last).1.wf:=by
 unfold Rl.merge1
 split
 ·exact h
 ·rename_i hc;have hc:=not_or.1 hc;have ht:trm r.sn r.l i=(t,true):=Prod.ext (Decidable.not_not.1 hc.2) (by simpa using hc.1);obtain ⟨⟨y,B⟩,hy⟩:∃ p,skp r.sn r.l x true=p:=⟨_,rfl⟩;cases y with
  | nil=>rw[rmerge2_nil hy];exact h
  | cons e q=>
   rw[rmerge2_cons hy];obtain ⟨u,g1,g2,g3,_⟩:=skp_at r.sn r.l x i t true hf ht e q B hy;have g5:=trm_true (s:=r.sn) (l:=r.l) (i:=e.idx-1) (by rw[g2]);show folR r.sn.idx r.sn.term (r.l.take (e.idx-r.sn.idx-1)++(e::q))=0;rw[folR_app];refine ⟨folR_take h _,?_⟩;have hl:=trm_lastT (s:=r.sn) (l:=r.l) (k:=e.idx-r.sn.idx-1) qo
   grind
theorem Rl.wf.merge{r:Rl}(h:r.wf)(i t:Nat)(x:List Ent):(r.merge i t x).1.wf:=by
 unfold Rl.merge
 split
 ·exact h
 ·rename_i hf;have hf:=fol_folR (Decidable.not_not.1 hf)
  split
  ·split
   ·exact h
   ·split
    ·exact h
    ·rename_i h2;refine h.merge1 (Nat.le_refl _) ?_ _;cases hd:x.drop (r.sn.idx-i) with
     | nil=>rfl
     | cons e q=>
      have h3:=folR_drop x i t _ e q hf hd;rw[hd] at h2;simp at h2;rw[folR_cons,if_neg qo];exact h3.2
  ·exact h.merge1 qo hf _
theorem Rl.wf.save{r:Rl}(h:r.wf)(s:Snp):(r.save s).1.wf:=by
 unfold Rl.save
 split
 ·exact h
 ·rename_i hf;obtain ⟨_,_,hlt,_⟩:=rfits_ok (Decidable.not_not.1 hf)
  split
  ·exact h
  ·rename_i hh;have hh:lgHas r.sn r.l s=true:=by simpa using hh
   have hle:=lgHas_true hh hlt;show folR s.idx s.term (r.l.drop (s.idx-r.sn.idx))=0;have:=folR_drop2 h (k:=s.idx-r.sn.idx) qo;have hl:=trm_lastT (s:=r.sn) (l:=r.l) (k:=s.idx-r.sn.idx) qo
   grind [lgHas]
theorem Rl.wf.install{r:Rl}(h:r.wf)(s:Snp):(r.install s).1.wf:=by
 unfold Rl.install
 split
 ·exact h
 ·split
  ·exact h.save s
  ·exact I
end
section
theorem Ct.lawT{P:Program}{w0:World}{f:FuncId}{args:List Value}{K:PH}{hs:List PH}(c:Ct P w0 f args K hs (fun v K' _=>Le K K'/\v=.bool true)):Ct P w0 f args K hs (fun v K' _=>K'=K/\v=.bool true):=
 Ct.fix2 c (fun w v K' hs' hS ⟨le,hv⟩=>⟨K,hs',⟨rfl,hv⟩,hS.weak le⟩)
attribute [local irreducible] Code.wp wpList Calls
end
section
theorem skp_split(s:Snp)(l:List Ent):∀ (x:List Ent) (b:Bool) (y:List Ent) (B:Bool),skp s l x b=(y,B)->∃ p,x=p++y/\∀ e∈p,trm s l e.idx=(e.term,true)
 | [],b,y,B,h=>by cases h;exact ⟨[],I,by simp⟩
 | a::x,b,y,B,h=>by
  rw[skp_cons] at h
  by_cases hc:(trm s l a.idx).2=false\/(trm s l a.idx).1≠a.term
  ·rw[if_pos hc] at h;cases h;exact ⟨[],I,by simp⟩
  ·rw[if_neg hc] at h;have hc:=not_or.1 hc;obtain ⟨p,h1,h2⟩:=skp_split s l x true y B h;refine ⟨a::p,by rw[h1];rfl,fun e he=>?_⟩;rcases List.mem_cons.1 he with rfl|he
   ·exact Prod.ext (Decidable.not_not.1 hc.2) (by simpa using hc.1)
   ·exact h2 e he
def MrgOk(r r':Rl)(i:Nat)(x:List Ent):Prop:=
 r'.sn=r.sn/\(∀ e∈x,r.sn.idx<e.idx->trm r'.sn r'.l e.idx=(e.term,true))/\(∀ (j:Nat) y,r.l[j]?=some y->r.sn.idx+j+1<=i->r'.l[j]?=some y)
theorem merge1_ok{r:Rl}{i t:Nat}(hi:r.sn.idx<=i){x:List Ent}(hf:folR i t x=0)(last:Nat)(hg:(r.merge1 i t x last).2.2.1=true):MrgOk r (r.merge1 i t x last).1 i x/\(r.merge1 i t x last).2.1=last:=by
 unfold Rl.merge1 at hg ⊢
 split
 ·rename_i hc;rw[if_pos hc] at hg;cases hg
 ·rename_i hc;have hc:=not_or.1 hc;have ht:trm r.sn r.l i=(t,true):=Prod.ext (Decidable.not_not.1 hc.2) (by simpa using hc.1);obtain ⟨⟨y,B⟩,hy⟩:∃ p,skp r.sn r.l x true=p:=⟨_,rfl⟩;obtain ⟨p,hp,hpt⟩:=skp_split r.sn r.l x true y B hy;cases y with
  | nil=>
   rw[rmerge2_nil hy];rw[List.append_nil] at hp;subst hp;exact ⟨⟨I,fun e he _=>hpt e he,fun j y hj _=>hj⟩,I⟩
  | cons e q=>
   rw[rmerge2_cons hy];obtain ⟨u,g1,g2,g3,_⟩:=skp_at r.sn r.l x i t true hf ht e q B hy;have g5:=trm_true (s:=r.sn) (l:=r.l) (i:=e.idx-1) (by rw[g2]);have hlen:(r.l.take (e.idx-r.sn.idx-1)).length=e.idx-r.sn.idx-1:=by rw[List.length_take];omega
   refine ⟨⟨I,fun z hz _=>?_,fun j y hj hji=>?_⟩,I⟩
   ·show trm r.sn (r.l.take (e.idx-r.sn.idx-1)++(e::q)) z.idx=_;rw[hp] at hz;rcases List.mem_append.1 hz with hz|hz
    ·have hzt:=hpt z hz;obtain ⟨k,hk⟩:=List.getElem?_of_mem hz;have hkl:=(List.getElem?_eq_some_iff.1 hk).1;have hix:z.idx=i+k+1:=folR_idx x i t hf k z (by rw[hp,List.getElem?_append_left hkl];exact hk);have hie:e.idx=i+p.length+1:=folR_idx x i t hf p.length e (by rw[hp,List.getElem?_append_right (Nat.le_refl _)];simp);have h2:=trm_take (s:=r.sn) (l:=r.l.take (e.idx-r.sn.idx-1)++(e::q)) (i:=z.idx) (n:=e.idx-r.sn.idx-1) qo (by rw[List.length_append,hlen];omega);rw[List.take_append_of_le_length qo,List.take_of_length_le qo] at h2;rw[<-h2,trm_take qo qo];exact hzt
    ·obtain ⟨k,hk⟩:=List.getElem?_of_mem hz;have hkl:=(List.getElem?_eq_some_iff.1 hk).1;have hix:z.idx=(e.idx-1)+k+1:=folR_idx (e::q) (e.idx-1) u g3 k z hk;unfold trm;rw[if_neg qo,if_neg (by rw[List.length_append,hlen];omega),List.getElem?_append_right qo,hlen,show z.idx-r.sn.idx-1-(e.idx-r.sn.idx-1)=k by omega,hk]
     rfl
   ·have hie:i<e.idx:=g1;show (r.l.take (e.idx-r.sn.idx-1)++(e::q))[j]?=some y;have hjl:=(List.getElem?_eq_some_iff.1 hj).1;rw[List.getElem?_append_left qo,List.getElem?_take_of_lt qo];exact hj
theorem merge_ok{r:Rl}(i t:Nat)(x:List Ent)(hg:(r.merge i t x).2.2.1=true):MrgOk r (r.merge i t x).1 i x/\(r.merge i t x).2.1=i+x.length/\folR i t x=0:=by
 unfold Rl.merge at hg ⊢
 by_cases hf:fol i t x≠0
 ·rw[if_pos hf] at hg;cases hg
 ·rw[if_neg hf] at hg ⊢;have hf:=fol_folR (Decidable.not_not.1 hf)
  by_cases hi:i<r.sn.idx
  ·rw[if_pos hi] at hg ⊢
   by_cases h1:i+x.length<r.sn.idx
   ·rw[if_pos h1] at hg ⊢;refine ⟨⟨I,fun e he h2=>?_,fun j y hj _=>hj⟩,I,hf⟩;obtain ⟨k,hk⟩:=List.getElem?_of_mem he;have hkl:=(List.getElem?_eq_some_iff.1 hk).1;have:=folR_idx x i t hf k e hk;omega
   ·rw[if_neg h1] at hg ⊢
    by_cases h2:((x.drop (r.sn.idx-i)).head?.map fun e=>decide (e.term<r.sn.term))=some true
    ·rw[if_pos h2] at hg;cases hg
    ·rw[if_neg h2] at hg ⊢
     have hf2:folR r.sn.idx r.sn.term (x.drop (r.sn.idx-i))=0:=by
      cases hd:x.drop (r.sn.idx-i) with
      | nil=>rfl
      | cons e q=>
       have h3:=folR_drop x i t _ e q hf hd;rw[hd] at h2;simp at h2;rw[folR_cons,if_neg qo];exact h3.2
     obtain ⟨⟨h3,h4,h5⟩,h6⟩:=merge1_ok (Nat.le_refl _) hf2 _ hg;refine ⟨⟨h3,fun e he hie=>(h4 e ?_ hie),fun j y hj hji=>by omega⟩,h6,hf⟩;obtain ⟨k,hk⟩:=List.getElem?_of_mem he;have:=folR_idx x i t hf k e hk;refine List.mem_of_getElem? (i:=k-(r.sn.idx-i)) ?_;rw[List.getElem?_drop,show r.sn.idx-i+(k-(r.sn.idx-i))=k by omega];exact hk
  ·rw[if_neg hi] at hg ⊢;have:=merge1_ok qo hf _ hg;exact ⟨this.1,this.2,hf⟩
attribute [local irreducible] Code.wp wpList Calls
end
section
def Rl.last(r:Rl):Nat:=r.sn.idx+r.l.length
def Rl.ent(r:Rl)(i:Nat):Option Ent:=if i<=r.sn.idx then none else r.l[i-r.sn.idx-1]?
def Kp(r r':Rl)(c:Nat):Prop:=r.sn.idx<=r'.sn.idx/\∀ i,r'.sn.idx<i->i<=c->r'.ent i=r.ent i
theorem Kp.refl(r:Rl)(c:Nat):Kp r r c:=⟨Nat.le_refl _,fun _ _ _=>rfl⟩
theorem Kp.trans{r s t:Rl}{c d:Nat}(h:Kp r s c)(g:Kp s t d)(hd:c<=d):Kp r t c:=
 ⟨Nat.le_trans h.1 g.1,fun i h1 h2=>(g.2 i h1 qo).trans (h.2 i (by have:=g.1;omega) h2)⟩
theorem Kp.same{r r':Rl}{c:Nat}(h1:r'.sn=r.sn)(h2:r'.l=r.l):Kp r r' c:=by
 refine ⟨by rw[h1];exact Nat.le_refl _,fun i _ _=>?_⟩;unfold Rl.ent;rw[h1,h2]
theorem kp_append(r:Rl)(x:List Ent):Kp r (r.append x).1 r.last/\r.last<=(r.append x).1.last/\(r.append x).1.sn=r.sn:=by
 unfold Rl.append
 split
 ·exact ⟨Kp.refl _ _,Nat.le_refl _,I⟩
 ·refine ⟨⟨Nat.le_refl _,fun i h1 h2=>?_⟩,?_,I⟩
  ·unfold Rl.last at h2;show (if i<=r.sn.idx then none else (r.l++x)[i-r.sn.idx-1]?)=if i<=r.sn.idx then none else r.l[i-r.sn.idx-1]?;rw[List.getElem?_append_left (by have:r.sn.idx<i:=h1;omega)]
  ·unfold Rl.last
   simp
theorem skp_stop{s:Snp}{l:List Ent}:∀ {x:List Ent} {b:Bool} {e:Ent} {r:List Ent} {B:Bool},skp s l x b=(e::r,B)->(trm s l e.idx).2=false\/(trm s l e.idx).1≠e.term
 | [],b,e,r,B,h=>by cases h
 | a::x,b,e,r,B,h=>by
  rw[skp_cons] at h
  split at h
  ·rename_i hc;cases h;exact hc
  ·exact skp_stop h
def Rl.clash(r:Rl)(com i t:Nat):Bool:=decide (i<=com) && ((trm r.sn r.l i).2 && decide ((trm r.sn r.l i).1≠t))
theorem kp_merge1{r:Rl}{com:Nat}(hcl:com<=r.last){i t:Nat}(hi:r.sn.idx<=i){x:List Ent}(hf:folR i t x=0)(hn:∀ e∈x,r.clash com e.idx e.term=false)(last:Nat):
  Kp r (r.merge1 i t x last).1 com/\com<=(r.merge1 i t x last).1.last/\(r.merge1 i t x last).1.sn=r.sn:=by
 unfold Rl.merge1
 split
 ·exact ⟨Kp.refl _ _,hcl,I⟩
 ·rename_i hc;have hc:=not_or.1 hc;have ht:trm r.sn r.l i=(t,true):=Prod.ext (Decidable.not_not.1 hc.2) (by simpa using hc.1);obtain ⟨⟨y,B⟩,hy⟩:∃ p,skp r.sn r.l x true=p:=⟨_,rfl⟩;have hsuf:=skp_suf r.sn r.l x true;rw[hy] at hsuf;cases y with
  | nil=>rw[rmerge2_nil hy];exact ⟨Kp.refl _ _,hcl,I⟩
  | cons e q=>
   rw[rmerge2_cons hy];obtain ⟨u,g1,g2,g3,g4⟩:=skp_at r.sn r.l x i t true hf ht e q B hy;have g5:=trm_true (s:=r.sn) (l:=r.l) (i:=e.idx-1) (by rw[g2]);have hne:=hn e (hsuf.subset (by simp));have hst:(trm r.sn r.l e.idx).2=false\/(trm r.sn r.l e.idx).1≠e.term:=skp_stop hy
   have hce:com<e.idx:=by
    rcases Nat.lt_or_ge com e.idx with h|h
    ·exact h
    ·exfalso
     unfold Rl.last at hcl
     have h2:(trm r.sn r.l e.idx).2=true:=by
      unfold trm;rw[if_neg qo,if_neg qo]
     unfold Rl.clash at hne
     simp_all
   unfold Rl.last at hcl;have hlen:(r.l.take (e.idx-r.sn.idx-1)).length=e.idx-r.sn.idx-1:=by rw[List.length_take];omega
   refine ⟨⟨Nat.le_refl _,fun k h1 h2=>?_⟩,?_,I⟩
   ·have h1:r.sn.idx<k:=h1;show (if k<=r.sn.idx then none else (r.l.take (e.idx-r.sn.idx-1)++(e::q))[k-r.sn.idx-1]?)=if k<=r.sn.idx then none else r.l[k-r.sn.idx-1]?;rw[List.getElem?_append_left qo,List.getElem?_take_of_lt qo]
   ·show com<=r.sn.idx+(r.l.take (e.idx-r.sn.idx-1)++(e::q)).length;rw[List.length_append,hlen];omega
theorem kp_merge{r:Rl}{com:Nat}(hcl:com<=r.last)(i t:Nat){x:List Ent}(hn:∀ e∈x,r.clash com e.idx e.term=false):
  Kp r (r.merge i t x).1 com/\com<=(r.merge i t x).1.last/\(r.merge i t x).1.sn=r.sn:=by
 unfold Rl.merge
 split
 ·exact ⟨Kp.refl _ _,hcl,I⟩
 ·rename_i hf;have hf:=fol_folR (Decidable.not_not.1 hf)
  split
  ·split
   ·exact ⟨Kp.refl _ _,hcl,I⟩
   ·split
    ·exact ⟨Kp.refl _ _,hcl,I⟩
    ·rename_i h2;refine kp_merge1 hcl (Nat.le_refl _) ?_ (fun e he=>hn e (List.mem_of_mem_drop he)) _;cases hd:x.drop (r.sn.idx-i) with
     | nil=>rfl
     | cons e q=>
      have h3:=folR_drop x i t _ e q hf hd;rw[hd] at h2;simp at h2;rw[folR_cons,if_neg qo];exact h3.2
  ·exact kp_merge1 hcl qo hf hn _
theorem merge1_n{r:Rl}{i t:Nat}{x:List Ent}(hi:r.sn.idx<=i)(hf:folR i t x=0){last:Nat}(hl:last=i+x.length)(hg:(r.merge1 i t x last).2.2.1=true):last<=(r.merge1 i t x last).1.last:=by
 obtain ⟨⟨h1,h2,h3⟩,h4⟩:=merge1_ok hi hf last hg;unfold Rl.last;rw[h1];cases x with
 | nil=>
  unfold Rl.merge1 at hg ⊢
  split
  ·rename_i hc;rw[if_pos hc] at hg;cases hg
  ·rename_i hc;have hc:=not_or.1 hc;have:=trm_true (s:=r.sn) (l:=r.l) (i:=i) (by simpa using hc.1);rw[rmerge2_nil (B:=true) (by unfold skp;rfl)];simp at hl;show last<=r.sn.idx+r.l.length;omega
 | cons e q=>
  obtain ⟨z,hz⟩:∃ z,(e::q)[q.length]?=some z:=⟨_,List.getElem?_eq_getElem (by simp)⟩;have h5:=folR_idx _ _ _ hf _ z hz;have h6:=h2 z (List.mem_of_getElem? hz) qo;have h7:=trm_true (s:=(r.merge1 i t (e::q) last).1.sn) (l:=(r.merge1 i t (e::q) last).1.l) (i:=z.idx) (by rw[h6]);rw[h1] at h7;simp at hl;omega
theorem merge_n{r:Rl}{i t:Nat}{x:List Ent}(hg:(r.merge i t x).2.2.1=true):(r.merge i t x).2.1<=(r.merge i t x).1.last:=by
 obtain ⟨-,h0,hf⟩:=merge_ok i t x hg;rw[h0];unfold Rl.merge at hg ⊢
 by_cases hf0:fol i t x≠0
 ·rw[if_pos hf0] at hg;cases hg
 rw[if_neg hf0] at hg ⊢
 by_cases hi:i<r.sn.idx
 ·rw[if_pos hi] at hg ⊢
  by_cases h1:i+x.length<r.sn.idx
  ·rw[if_pos h1] at hg ⊢;unfold Rl.last;dsimp only;omega
  ·rw[if_neg h1] at hg ⊢
   by_cases h2:((x.drop (r.sn.idx-i)).head?.map fun e=>decide (e.term<r.sn.term))=some true
   ·rw[if_pos h2] at hg;cases hg
   ·rw[if_neg h2] at hg ⊢;refine merge1_n (Nat.le_refl _) ?_ (by rw[List.length_drop];omega) hg;cases hd:x.drop (r.sn.idx-i) with
    | nil=>rfl
    | cons e q=>
     have h3:=folR_drop x i t _ e q hf hd;rw[hd] at h2;simp at h2;rw[folR_cons,if_neg qo];exact h3.2
 ·rw[if_neg hi] at hg ⊢;exact merge1_n qo hf I hg
theorem kp_save(r:Rl)(s:Snp)(c:Nat):Kp r (r.save s).1 c/\(r.save s).1.last=r.last/\((r.save s).1=r\/(r.save s).1.sn=s/\r.sn.idx<s.idx/\s.idx<=r.last/\(r.save s).2=0):=by
 unfold Rl.save
 split
 ·exact ⟨Kp.refl _ _,I,.inl I⟩
 ·rename_i hf;obtain ⟨_,_,hlt,_⟩:=rfits_ok (Decidable.not_not.1 hf)
  split
  ·exact ⟨Kp.refl _ _,I,.inl I⟩
  ·rename_i hh;have hle:=lgHas_true (by simpa using hh) hlt;refine ⟨⟨by show r.sn.idx<=s.idx;omega,fun i h1 h2=>?_⟩,?_,.inr ⟨rfl,hlt,hle,rfl⟩⟩
   ·have h1:s.idx<i:=h1;show (if i<=s.idx then none else (r.l.drop (s.idx-r.sn.idx))[i-s.idx-1]?)=if i<=r.sn.idx then none else r.l[i-r.sn.idx-1]?;rw[if_neg qo,if_neg qo,List.getElem?_drop]
    congr 1
    omega
   ·unfold Rl.last;dsimp only;rw[List.length_drop];omega
theorem kp_install(r:Rl)(s:Snp)(c:Nat)(hc:c<=s.idx):Kp r (r.install s).1 c/\((r.install s).1=r\/(r.install s).1.sn=s/\r.sn.idx<s.idx/\s.idx<=(r.install s).1.last/\(r.install s).2=0):=by
 unfold Rl.install
 split
 ·exact ⟨Kp.refl _ _,.inl I⟩
 ·rename_i hf;obtain ⟨_,_,hlt,_⟩:=rfits_ok (Decidable.not_not.1 hf)
  split
  ·obtain ⟨h1,h2,h3⟩:=kp_save r s c;exact ⟨h1,h3.imp id fun ⟨a,b,d,e⟩=>⟨a,b,by omega,e⟩⟩
  ·refine ⟨⟨by show r.sn.idx<=s.idx;omega,fun i h1 h2=>?_⟩,.inr ⟨rfl,hlt,by unfold Rl.last;simp,rfl⟩⟩;have h1:s.idx<i:=h1;omega
end
section
structure MsgT (n:Int) (t:Nat) (m:Msg):Prop where
 ok:m.ok
 bd:m.bd
 frm:m.frm=n
 term:m.term<=t
theorem MsgT.up{n:Int}{t u:Nat}{m:Msg}(h:MsgT n t m)(hu:t<=u):MsgT n u m:=⟨h.ok,h.bd,h.frm,Nat.le_trans h.term hu⟩
theorem zrng:(-9223372036854775808:Int)<=0/\(0:Int)<=9223372036854775807:=by decide
section
variable {n to:Int} {T:Nat} (hn:0<=n/\n<7) (ht:0<=to/\to<7) (hne:n≠to) (h0:T≠0) (hT:T<=mxU)
include hn ht hne h0 hT
theorem mt1{i l:Nat}(hi:i<=mxU)(hl:l<=mxU):MsgT n T { Msg.zero with kind:=1,frm:=n,to:=to,term:=T,idx:=i,lt:=l }:=by
 refine ⟨⟨⟨by simp[fieldsOf],hn,ht,hne,h0⟩,fun f hf=>?_,?_⟩,⟨hT,hi,hl,Nat.zero_le _,Nat.zero_le _,zrng,zrng,fun e he=>(by cases he),Nat.zero_le _,fun v hv=>(by cases hv),Nat.zero_le _,Nat.zero_le _⟩,I,Nat.le_refl _⟩
 ·simp[fieldsOf] at hf;rcases hf with rfl|rfl <;> trivial
 ·unfold bareP;simp[fieldsOf,clrAll,Fld.clr,Msg.zero]
theorem mt2{g:Bool}:MsgT n T { Msg.zero with kind:=2,frm:=n,to:=to,term:=T,good:=g }:=by
 refine ⟨⟨⟨by simp[fieldsOf],hn,ht,hne,h0⟩,fun f hf=>?_,?_⟩,⟨hT,Nat.zero_le _,Nat.zero_le _,Nat.zero_le _,Nat.zero_le _,zrng,zrng,fun e he=>(by cases he),Nat.zero_le _,fun v hv=>(by cases hv),Nat.zero_le _,Nat.zero_le _⟩,I,Nat.le_refl _⟩
 ·simp[fieldsOf] at hf;subst hf
  trivial
 ·unfold bareP;simp[fieldsOf,clrAll,Fld.clr,Msg.zero]
theorem mt3{i l c r:Nat}{es:List Ent}(hi:i<=mxU)(hl:l<=mxU)(hc:c<=mxU)(hr:r<=mxU)(he:entsOK i 0 es)(he8:es.length<=8)(heb:∀ e∈es,e.idx<=mxU/\e.term<=mxU/\e.data.length<=4194304):
  MsgT n T { Msg.zero with kind:=3,frm:=n,to:=to,term:=T,idx:=i,lt:=l,com:=c,rnd:=r,ents:=es }:=by
 refine ⟨⟨⟨by simp[fieldsOf],hn,ht,hne,h0⟩,fun f hf=>?_,?_⟩,⟨hT,hi,hl,hc,hr,zrng,zrng,heb,by show es.length<=_;omega,fun v hv=>(by cases hv),Nat.zero_le _,Nat.zero_le _⟩,rfl,Nat.le_refl _⟩
 ·simp[fieldsOf] at hf;rcases hf with rfl|rfl|rfl|rfl|rfl
  all_goals first|trivial|exact ⟨he,he8⟩
 ·unfold bareP;simp[fieldsOf,clrAll,Fld.clr,Msg.zero]
theorem mt4{g:Bool}{i r:Nat}(hi:i<=mxU)(hr:r<=mxU):MsgT n T { Msg.zero with kind:=4,frm:=n,to:=to,term:=T,good:=g,idx:=i,rnd:=r }:=by
 refine ⟨⟨⟨by simp[fieldsOf],hn,ht,hne,h0⟩,fun f hf=>?_,?_⟩,⟨hT,hi,Nat.zero_le _,Nat.zero_le _,hr,zrng,zrng,fun e he=>(by cases he),Nat.zero_le _,fun v hv=>(by cases hv),Nat.zero_le _,Nat.zero_le _⟩,I,Nat.le_refl _⟩
 ·simp[fieldsOf] at hf;rcases hf with rfl|rfl|rfl <;> trivial
 ·unfold bareP;simp[fieldsOf,clrAll,Fld.clr,Msg.zero]
theorem mt5{i l:Nat}{o w:Int}{vs:List Int}{d:List UInt8}(hi:i<=mxU)(hl:l<=mxU)(ho:0<=o)(how:o+d.length<=w)(hw:w<=2097152)(hv:(putConf vs).isSome=true)(hd:d.length<=256):
  MsgT n T { Msg.zero with kind:=5,frm:=n,to:=to,term:=T,idx:=i,lt:=l,off:=o,whole:=w,vot:=vs,data:=d }:=by
 have hcf:=putConf_ok hv;have hvl:=confOK_len vs _ hcf.2 qo qo;refine ⟨⟨⟨by simp[fieldsOf],hn,ht,hne,h0⟩,fun f hf=>?_,?_⟩,⟨hT,hi,hl,Nat.zero_le _,Nat.zero_le _,by dsimp only;omega,by dsimp only;omega,fun e he=>(by cases he),Nat.zero_le _,fun v hv=>?_,by dsimp only;omega,by dsimp only;omega⟩,rfl,Nat.le_refl _⟩
 ·simp[fieldsOf] at hf;rcases hf with rfl|rfl|rfl|rfl|rfl|rfl
  ·trivial
  ·trivial
  ·show 0<=o/\o<=2097152;omega
  ·show 0<=w/\w<=2097152;omega
  ·exact hv
  ·refine ⟨hd,?_⟩;show o<=IntKind.i64.wrap (w-d.length);have:IntKind.i64.wrap (w-d.length)=w-d.length:=(Value.int.inj (i64w (x:=w-d.length) qo)).2;omega
 ·unfold bareP;simp[fieldsOf,clrAll,Fld.clr,Msg.zero]
 ·have:=confOK_mem vs _ hcf.2 qo v hv;omega
theorem mt6{i:Nat}{o:Int}(hi:i<=mxU)(ho:0<=o/\o<=2097152):MsgT n T { Msg.zero with kind:=6,frm:=n,to:=to,term:=T,idx:=i,off:=o }:=by
 refine ⟨⟨⟨by simp[fieldsOf],hn,ht,hne,h0⟩,fun f hf=>?_,?_⟩,⟨hT,hi,Nat.zero_le _,Nat.zero_le _,Nat.zero_le _,by dsimp only;omega,zrng,fun e he=>(by cases he),Nat.zero_le _,fun v hv=>(by cases hv),Nat.zero_le _,Nat.zero_le _⟩,rfl,Nat.le_refl _⟩
 ·simp[fieldsOf] at hf;rcases hf with rfl|rfl
  ·trivial
  ·exact ho
 ·unfold bareP;simp[fieldsOf,clrAll,Fld.clr,Msg.zero]
end
structure TI (R:Nd) (L:Lg):Prop where
 out:∀ m∈R.out,MsgT R.nd L.kt m
 role:R.role≠0->L.kt≠0
 com:L.sn.idx<=R.com/\R.com<=L.last
 wf:L.rl.wf
theorem TI.r{R R':Nd}{L:Lg}(h:TI R L)(h1:R'.out=R.out:=by rfl)(h2:R'.nd=R.nd:=by rfl)(h3:R'.com=R.com:=by rfl)(h4:R'.role=R.role\/R'.role=0:=by exact .inl rfl):TI R' L:=
 ⟨by rw[h1,h2];exact h.out,fun hr=>h.role (by rcases h4 with h4|h4 <;> rw[h4] at hr;exact hr;exact absurd I hr),by rw[h3];exact h.com,h.wf⟩
theorem TI.say{R:Nd}{L:Lg}(h:TI R L){m:Msg}(hm:MsgT R.nd L.kt { m with frm:=R.nd,term:=L.kt }):TI (R.say L m) L:=
 ⟨fun x hx=>by rcases List.mem_append.1 hx with hx|hx;exact h.out x hx;rw[List.mem_singleton.1 hx];exact hm,h.role,h.com,h.wf⟩
structure Nz (R:Nd):Prop where
 pr:∀ v,(R.pr v).ok
 com:R.com<=mxU
 rnd:R.rnd<=mxU
 nd:0<=R.nd/\R.nd<7
theorem Rb.nz{z k:Nat}{R:Nd}(o:Rb z k R)(hk:k<=mxU):Nz R:=⟨o.pr,o.com,by have:=o.rnd;omega,o.nd⟩
theorem Nz.setP{R:Nd}(o:Nz R)(v:Int){p:Pr}(h:p.ok):Nz (R.setP v p):={ o with pr:=fun i=>by unfold Nd.setP;dsimp only;split;exact h;exact o.pr i }
theorem Nz.say{R:Nd}(o:Nz R)(L:Lg)(m:Msg):Nz (R.say L m):=⟨o.pr,o.com,o.rnd,o.nd⟩
theorem Nz.send{R:Nd}(o:Nz R)(L:Lg)(v:Int):Nz (R.send L v):=by
 have h:=o.setP v (p:={ R.p v with ws:=true }) (o.pr v.toNat);unfold Nd.send
 repeat' split
 ·exact o
 all_goals exact h.say L _
theorem entsOK_of{i t:Nat}:∀ {x:List Ent} {j:Nat},folR (i+j) t x=0->(∀ e∈x,e.ok)->i+j+x.length<=mxU->entsOK i j x
 | [],_,_,_,_=>trivial
 | e::r,j,h,hk,hl=>by
  obtain ⟨h1,h2,h3⟩:=folR_ok h;simp only[List.length_cons] at hl;refine ⟨hk e (by simp),?_,by omega,?_⟩
  ·rw[h1,Nat.mod_eq_of_lt (by unfold mxU at hl;omega)]
  ·rw[h1,Nat.add_assoc] at h3;exact entsOK_of h3 (fun x hx=>hk x (by simp[hx])) qo
theorem parts_ok{c:Nat}{L:Lg}(b:LBd c L)(hc:c<=900000000)(hw:L.rl.wf)(i:Nat):entsOK (i-1) 0 (partsL L.sn L.l i 8)/\(partsL L.sn L.l i 8).length<=8/\∀ e∈partsL L.sn L.l i 8,e.idx<=mxU/\e.term<=mxU/\e.data.length<=4194304:=by
 unfold partsL
 split
 ·exact ⟨trivial,Nat.zero_le _,fun e he=>by cases he⟩
 ·rename_i k hk;obtain ⟨h1,h2,h3,h4⟩:=lgAt_some hk;have hm:∀ e∈(L.l.drop k).take (8:Int).toNat,e∈L.l:=fun e he=>List.mem_of_mem_drop (List.mem_of_mem_take he);refine ⟨?_,by rw[List.length_take];exact Nat.min_le_left _ _,fun e he=>?_⟩
  ·have hf:folR (L.sn.idx+k) (lastT L.sn.term (L.l.take k)) (L.l.drop k)=0:=folR_drop2 hw (Nat.le_of_lt h4);refine entsOK_of (t:=lastT L.sn.term (L.l.take k)) (j:=0) ?_ (fun e he=>(b.ents e (hm e he)).1) ?_
   ·rw[show i-1+0=L.sn.idx+k by omega];exact folR_take hf _
   ·have h5:=b.idx;have h6:=b.len;unfold lgTop at h5;unfold mxU;rw[List.length_take,List.length_drop];show i-1+0+min 8 (L.l.length-k)<=_;omega
  ·have h5:=b.ents e (hm e he);have h6:=held_len h5.1.2.2;exact ⟨h5.2.1,h5.2.2,by omega⟩
section
variable {c q z k:Nat} {R:Nd} {L:Lg} {D:Dk}
theorem TI.send(h:TI R L)(nz:Nz R)(b:LBd c L)(hc:c<=900000000)(f:L.cf){v:Int}(hv:0<=v/\v<7)(hne:R.nd≠v)(h0:L.kt≠0):TI (R.send L v) L:=by
 have hp:=nz.pr v.toNat;have hsi:=b.idx;have hsd:=b.data;unfold Pr.ok rTop at hp;unfold lgTop at hsi;have hkt:=b.kt;unfold Nd.send
 split
 ·exact h
 split
 ·refine TI.say (R:=R.setP v { R.p v with ws:=true }) (h.r) ?_;have h2:0<=(R.p v).of:=hp.2.2.2.1
  have hm:MsgT R.nd L.kt { Msg.zero with kind:=5,frm:=R.nd,to:=v,term:=L.kt,idx:=L.sn.idx,lt:=L.sn.term,off:=min (R.p v).of L.sn.data.length,whole:=L.sn.data.length,vot:=L.sn.vot,data:=(L.sn.data.drop (R.p v).of.toNat).take 256 }:=by
   refine mt5 nz.nd hv hne h0 hkt (by unfold mxU;omega) b.st qo ?_ qo f ?_
   ·rw[List.length_take,List.length_drop];omega
   ·rw[List.length_take];exact Nat.min_le_left _ _
  exact hm
 ·rename_i hns;refine TI.say (R:=R.setP v { R.p v with ws:=true }) (h.r) ?_;obtain ⟨p1,p2,p3⟩:=parts_ok b hc h.wf (R.p v).nx;have hnx:(R.p v).nx<=4611686018427387904:=hp.2.1
  have hm:MsgT R.nd L.kt { Msg.zero with kind:=3,frm:=R.nd,to:=v,term:=L.kt,idx:=(R.p v).nx-1,lt:=(L.trm ((R.p v).nx-1)).1,com:=R.com,rnd:=R.rnd,ents:=partsL L.sn L.l (R.p v).nx 8 }:=
   mt3 nz.nd hv hne h0 hkt (by unfold mxU;omega) (L.trm_le b _) nz.com nz.rnd p1 p2 p3
  exact hm
theorem send_same(R:Nd)(L:Lg)(v:Int):(R.send L v).nd=R.nd/\(R.send L v).com=R.com/\(R.send L v).role=R.role:=by
 unfold Nd.send
 repeat' split
 all_goals exact ⟨rfl,rfl,rfl⟩
theorem TI.tellL(a:Bool)(b:LBd c L)(hc:c<=900000000)(f:L.cf)(h0:L.kt≠0):∀ (l:List Int) {R:Nd},TI R L->Nz R->(∀ v∈l,(0<=v/\v<7)/\R.nd≠v)->TI (Nd.tellL a L l R) L/\Nz (Nd.tellL a L l R)/\(Nd.tellL a L l R).nd=R.nd/\(Nd.tellL a L l R).com=R.com/\(Nd.tellL a L l R).role=R.role
 | [],R,h,nz,_=>⟨h,nz,rfl,rfl,rfl⟩
 | v::r,R,h,nz,hl=>by
  unfold Nd.tellL;obtain ⟨R0,hR0⟩:∃ R0,R0=if a=true then R.setP v { R.p v with ws:=false } else R:=⟨_,rfl⟩;rw[<-hR0]
  have hs:R0.nd=R.nd/\R0.com=R.com/\R0.role=R.role/\R0.out=R.out/\Nz R0:=by
   rw[hR0]
   split
   ·exact ⟨I,I,I,I,nz.setP v (p:={ R.p v with ws:=false }) (nz.pr v.toNat)⟩
   ·exact ⟨I,I,I,I,nz⟩
  obtain ⟨g1,g2,g3,g4,g5⟩:=hs;have hv:=hl v (by simp);have h1:TI R0 L:=h.r g4 g1 g2 (.inl g3);have h2:=h1.send g5 b hc f hv.1 (by rw[g1];exact hv.2) h0;obtain ⟨s1,s2,s3⟩:=send_same R0 L v;obtain ⟨t1,t2,t3,t4,t5⟩:=TI.tellL a b hc f h0 r h2 (g5.send L v) (fun u hu=>by rw[s1,g1];exact hl u (by simp[hu]));exact ⟨t1,t2,by rw[t3,s1,g1],by rw[t4,s2,g2],by rw[t5,s3,g3]⟩
theorem TI.tell(h:TI R L)(o:NI c q z k R L D)(hc:c<=900000000)(hk:k<=1000000)(h0:L.kt≠0)(a:Bool):TI (R.tell L a) L/\(R.tell L a).nd=R.nd/\(R.tell L a).com=R.com/\(R.tell L a).role=R.role:=by
 have hcf:Cfg L.cfg.1:=cfgAt_cfg o.rn.lb o.cf L.last;have hr:=o.rb.rnd;unfold Nd.tell
 have hl:∀ v∈R.oth L,(0<=v/\v<7)/\R.nd≠v:=fun v hv=>by
  obtain ⟨h1,h2⟩:=List.mem_filter.1 hv;exact ⟨hcf.mem h1,fun e=>by simp[e] at h2⟩
 obtain ⟨R0,hR0⟩:∃ R0,R0=if a=true then { R with rnd:=R.rnd+1 } else R:=⟨_,rfl⟩;rw[<-hR0];have nz:=o.rb.nz (by unfold mxU;omega)
 have hs:R0.nd=R.nd/\R0.com=R.com/\R0.role=R.role/\R0.out=R.out/\Nz R0:=by
  rw[hR0]
  split
  ·exact ⟨I,I,I,I,{ nz with rnd:=by show R.rnd+1<=mxU;unfold mxU;omega }⟩
  ·exact ⟨I,I,I,I,nz⟩
 obtain ⟨g1,g2,g3,g4,g5⟩:=hs;obtain ⟨t1,t2,t3,t4,t5⟩:=TI.tellL a o.rn.lb hc o.cf h0 (R.oth L) (h.r g4 g1 g2 (.inl g3)) g5 (fun v hv=>by rw[g1];exact hl v hv);exact ⟨t1,by rw[t3,g1],by rw[t4,g2],by rw[t5,g3]⟩
end
end
section
theorem Kp.mono{r s:Rl}{c d:Nat}(h:Kp r s d)(hc:c<=d):Kp r s c:=⟨h.1,fun i h1 h2=>h.2 i h1 qo⟩
structure St (R:Nd) (L:Lg) (R':Nd) (L':Lg):Prop where
 kt:L.kt<=L'.kt
 com:R.com<=R'.com
 kp:Kp L.rl L'.rl R.com
 nd:R'.nd=R.nd
theorem St.refl(R:Nd)(L:Lg):St R L R L:=⟨Nat.le_refl _,Nat.le_refl _,Kp.refl _ _,rfl⟩
theorem St.trans{R R' R'':Nd}{L L' L'':Lg}(h:St R L R' L')(g:St R' L' R'' L''):St R L R'' L'':=
 ⟨Nat.le_trans h.kt g.kt,Nat.le_trans h.com g.com,h.kp.trans g.kp h.com,g.nd.trans h.nd⟩
theorem St.r{R R1 R2:Nd}{L L':Lg}(h:St R L R1 L')(h1:R2.nd=R1.nd:=by rfl)(h2:R2.com=R1.com:=by rfl):St R L R2 L':=⟨h.kt,by rw[h2];exact h.com,h.kp,by rw[h1];exact h.nd⟩
structure PI (u n:Nat) (R:Nd) (L:Lg) (D:Dk):Prop where
 sim:Sim u u L
 liv:Liv n D
 ti:TI R L
theorem PI.up{u n u' n':Nat}{R:Nd}{L:Lg}{D:Dk}(h:PI u n R L D)(hu:u<=u')(hn:n'<=n):PI u' n' R L D:=⟨h.sim.up hu hu,h.liv.mono hn,h.ti⟩
theorem PI.t{u n:Nat}{R R':Nd}{L:Lg}{D:Dk}(h:PI u n R L D)(g:TI R' L):PI u n R' L D:=⟨h.sim,h.liv,g⟩
theorem TI.lg{R:Nd}{L L':Lg}(h:TI R L)(hk:L.kt<=L'.kt)(hs:L'.sn.idx<=R.com)(hl:R.com<=L'.last)(hw:L'.rl.wf):TI R L':=
 ⟨fun m hm=>(h.out m hm).up hk,fun hr=>by have:=h.role hr;omega,⟨hs,hl⟩,hw⟩
theorem TI.did{R:Nd}{L:Lg}(h:TI R L)(e:Int):TI (R.did e) L:=by
 unfold Nd.did
 split
 ·exact h
 ·exact ⟨fun m hm=>(by cases hm),fun hr=>absurd I hr,h.com,h.wf⟩
theorem did_same(R:Nd)(e:Int):(R.did e).nd=R.nd/\(R.did e).com=R.com:=by
 unfold Nd.did
 split <;> exact ⟨rfl,rfl⟩
section
variable {c q z k u n:Nat} {R:Nd} {L:Lg} {D:Dk}
theorem Lg.last_rl(L:Lg):L.last=L.rl.last:=rfl
theorem lg_room(o:NI c q z k R L D)(hc:c<=900000000){j:Nat}(hj:j<=8):L.sn.idx+L.l.length+j<2*lgTop:=by
 have h1:=o.rn.lb.idx;have h2:=o.rn.lb.len;unfold lgTop at h1 ⊢;omega
theorem PI.append(h:PI u (n+11) R L D)(o:NI c q z k R L D)(hc:c<=900000000)(e:Ent)(he:e.idx<=mxU/\e.term<=mxU):
  PI (u+1) n R (L.append [e] D).1 (L.append [e] D).2.1/\St R L R (L.append [e] D).1/\(L.append [e] D).1.kt=L.kt:=by
 obtain ⟨h1,h2,h3,h4⟩:=h.sim.append [e] (n:=n) (by simpa using h.liv) (by simpa using he) (lg_room o hc (j:=1) qo);have hs:=append_sam L [e] D;obtain ⟨k1,k2,k3⟩:=kp_append L.rl [e];rw[<-h4] at k1 k2;have hco:=h.ti.com;refine ⟨⟨h3.up qo (by simp),h2,h.ti.lg (Nat.le_of_eq hs.1.symm) (by rw[hs.2.2];exact hco.1) (Nat.le_trans hco.2 k2) (by rw[h4];exact Rl.wf.append h.ti.wf [e])⟩,⟨Nat.le_of_eq hs.1.symm,Nat.le_refl _,k1.mono hco.2,I⟩,hs.1⟩
theorem PI.sync(h:PI u n R L D):PI u n R (L.sync D).1 (L.sync D).2.1/\St R L R (L.sync D).1/\(L.sync D).1.kt=L.kt:=by
 obtain ⟨h1,h2,h3,h4,h5,h6⟩:=h.sim.sync h.liv;have hs:=sync_sam L D;have hl:(L.sync D).1.last=L.last:=by rw[Lg.last_rl,h4];rfl
 refine ⟨⟨h3,h2,h.ti.lg (Nat.le_of_eq hs.1.symm) (by rw[h5];exact h.ti.com.1) (by rw[hl];exact h.ti.com.2) (by rw[h4];exact h.ti.wf)⟩,⟨Nat.le_of_eq hs.1.symm,Nat.le_refl _,by rw[h4];exact Kp.refl _ _,I⟩,hs.1⟩
theorem PI.setHard(h:PI u (n+1) R L D)(hu:u<=1000000)(t:Nat)(v:Int)(ht:t<=mxU):
  PI (u+1) n R (L.setHard D t v).1 (L.setHard D t v).2.1/\St R L R (L.setHard D t v).1/\((L.setHard D t v).2.2=0->(L.setHard D t v).1.kt=t):=by
 obtain ⟨h1,h2,h3,h4⟩:=h.sim.setHard h.liv t v ht hu;obtain ⟨s1,s2,s3⟩:=setHard_cases L D t v
 have hk:L.kt<=(L.setHard D t v).1.kt:=by
  rcases s3 with ⟨_,g,_,g'⟩|⟨_,g,_⟩ <;> omega
 have hl:(L.setHard D t v).1.last=L.last:=by unfold Lg.last;rw[s1,s2]
 refine ⟨⟨h3.up (Nat.le_refl _) qo,h2,h.ti.lg hk (by rw[s1];exact h.ti.com.1) (by rw[hl];exact h.ti.com.2) (by rw[h4];exact Rl.wf.setHard h.ti.wf t v)⟩,⟨hk,Nat.le_refl _,Kp.same s1 s2,I⟩,fun h0=>?_⟩;rcases s3 with ⟨_,g,_⟩|⟨g,_⟩
 ·exact g
 ·exact absurd h0 g
theorem TI.agr1(h:TI R L)(h0:L.kt≠0):TI (R.agr1 L) L/\St R L (R.agr1 L) L/\(R.agr1 L).role=R.role:=by
 unfold Nd.agr1;dsimp only;generalize agreedV L.cfg.1 _=m
 split
 ·rename_i hc
  have hle:m<=L.last:=by
   refine Decidable.byContradiction fun hn=>h0 ?_;rw[<-hc.2];unfold Lg.trm trm;have h1:=h.com;unfold Lg.last at hn h1;rw[if_neg qo,if_pos qo]
  exact ⟨⟨h.out,h.role,⟨Nat.le_trans h.com.1 (Nat.le_of_lt hc.1),hle⟩,h.wf⟩,⟨Nat.le_refl _,Nat.le_of_lt hc.1,Kp.refl _ _,I⟩,I⟩
 ·exact ⟨h,St.refl _ _,I⟩
theorem TI.agr2(h:TI R L)(o:NI c q z k R L D)(hc:c<=900000000)(hk:k<=1000000)(h0:L.kt≠0):TI (R.agr2 L) L/\St R L (R.agr2 L) L:=by
 unfold Nd.agr2
 split
 ·obtain ⟨t1,t2,t3,t4⟩:=h.tell o hc hk h0 true;exact ⟨t1.r I I I (.inr I),⟨Nat.le_refl _,Nat.le_of_eq t3.symm,Kp.refl _ _,t2⟩⟩
 ·exact ⟨h,St.refl _ _⟩
theorem TI.agree(h:TI R L)(o:NI c q z k R L D)(hc:c<=900000000)(hk:k<=1000000)(h0:L.kt≠0):TI (R.agree L) L/\St R L (R.agree L) L:=by
 obtain ⟨a1,a2,a3⟩:=h.agr1 h0;obtain ⟨b1,b2⟩:=a1.agr2 (o.r (o.rb.agr1 o.rn.lb qo)) hc hk h0;exact ⟨b1,a2.trans b2⟩
theorem TI.lay2(h:TI R L)(o:NI c q z k R L D)(hc:c<=900000000)(hk:k<=900000)(h0:L.kt≠0):TI (R.lay2 L) L/\St R L (R.lay2 L) L:=by
 obtain ⟨a1,a2⟩:=h.agree o hc qo h0;unfold Nd.lay2
 split
 ·obtain ⟨t1,t2,t3,t4⟩:=a1.tell (o.r (o.rb.agree o.rn.lb o.cf qo)) hc qo h0 false;exact ⟨t1,a2.trans ⟨Nat.le_refl _,Nat.le_of_eq t3.symm,Kp.refl _ _,t2⟩⟩
 ·exact ⟨a1,a2⟩
theorem PI.lay(h:PI u (n+11) R L D)(o:NI c q z k R L D)(hc:c<=800000000)(hk:k<=900000)(h0:L.kt≠0)(kind:Int)(data:List UInt8):
  PI (u+1) n (R.lay L D kind data).1 (R.lay L D kind data).2.1 (R.lay L D kind data).2.2.1/\St R L (R.lay L D kind data).1 (R.lay L D kind data).2.1:=by
 have h1:=o.last qo;have hkt:=o.rn.lb.kt;have he:(L.last+1)<=mxU/\L.kt<=mxU:=⟨by unfold rTop at h1;unfold mxU;omega,hkt⟩;have oa:=o.append ⟨L.last+1,L.kt,kind,data⟩ he qo;obtain ⟨a1,a2,a3⟩:=h.append o qo ⟨L.last+1,L.kt,kind,data⟩ he;have ob:=oa.sync;obtain ⟨b1,b2,b3⟩:=a1.sync;unfold Nd.lay;dsimp only
 split
 ·obtain ⟨d1,d2⟩:=did_same R (L.append [⟨L.last+1,L.kt,kind,data⟩] D).2.2;exact ⟨a1.t (a1.ti.did _),a2.r d1 d2⟩
 ·split
  ·obtain ⟨d1,d2⟩:=did_same R ((L.append [⟨L.last+1,L.kt,kind,data⟩] D).1.sync (L.append [⟨L.last+1,L.kt,kind,data⟩] D).2.1).2.2;exact ⟨b1.t (b1.ti.did _),(a2.trans b2).r d1 d2⟩
  ·obtain ⟨l1,l2⟩:=b1.ti.lay2 ob qo hk (by rw[b3,a3];exact h0);exact ⟨b1.t l1,(a2.trans b2).trans l2⟩
theorem PI.elect(h:PI u (n+11) R L D)(o:NI c q z k R L D)(hc:c<=800000000)(hk:k<=900000)(h0:L.kt≠0)(l:List Int):
  PI (u+1) n (R.elect L D l).1 (R.elect L D l).2.1 (R.elect L D l).2.2.1/\St R L (R.elect L D l).1 (R.elect L D l).2.1:=by
 unfold Nd.elect
 split
 ·exact ⟨h.up qo qo,St.refl _ _⟩
 ·have ht:TI (R.up L) L:=⟨h.ti.out,fun _=>h0,h.ti.com,h.ti.wf⟩;obtain ⟨l1,l2⟩:=(h.t ht).lay (o.upR qo) hc hk h0 0 [];exact ⟨l1,(St.r (St.refl R L):St R L (R.up L) L).trans l2⟩
theorem TI.asks(b:LBd c L)(hc:c<=900000000)(h0:L.kt≠0):∀ (l:List Int) {R:Nd},TI R L->(0<=R.nd/\R.nd<7)->(∀ v∈l,(0<=v/\v<7)/\R.nd≠v)->TI (Nd.asks L l R) L/\(Nd.asks L l R).nd=R.nd/\(Nd.asks L l R).com=R.com
 | [],R,h,_,_=>⟨h,rfl,rfl⟩
 | v::r,R,h,hn,hl=>by
  unfold Nd.asks;have hv:=hl v (by simp);have h1:=Lg.last_le b qo
  have hm:MsgT R.nd L.kt { Msg.zero with kind:=1,frm:=R.nd,to:=v,term:=L.kt,idx:=L.last,lt:=(L.trm L.last).1 }:=
   mt1 hn hv.1 hv.2 h0 b.kt (by unfold rTop at h1;unfold mxU;omega) (L.trm_le b _)
  obtain ⟨t1,t2,t3⟩:=TI.asks b hc h0 r (h.say (m:={ Msg.zero with kind:=1,to:=v,idx:=L.last,lt:=(L.trm L.last).1 }) hm) hn (fun w hw=>hl w (by simp[hw]));exact ⟨t1,t2,t3⟩
theorem PI.stand(h:PI u (n+12) R L D)(o:NI c q z k R L D)(hc:c<=700000000)(hk:k<=800000)(hu:u<=1000000)(hkt:L.kt<rTop)(l:List Int):
  PI (u+2) n (R.stand L D l).1 (R.stand L D l).2.1 (R.stand L D l).2.2.1/\St R L (R.stand L D l).1 (R.stand L D l).2.1:=by
 have hkm:L.kt+1<=mxU:=by unfold rTop at hkt;unfold mxU;omega
 have oa:=o.setHard (L.kt+1) R.nd hkm;obtain ⟨a1,a2,a3⟩:=h.setHard (n:=n+11) hu (L.kt+1) R.nd hkm;unfold Nd.stand;dsimp only;generalize L.setHard D (L.kt+1) R.nd=A at oa a1 a2 a3 ⊢;obtain ⟨L1,D1,c1⟩:=A;dsimp only at oa a1 a2 a3 ⊢
 split
 ·obtain ⟨d1,d2⟩:=did_same R c1;exact ⟨(a1.t (a1.ti.did _)).up qo qo,a2.r d1 d2⟩
 ·rename_i hc0;have hk1:L1.kt≠0:=by rw[a3 (Decidable.not_not.1 hc0)];omega
  have hcf:Cfg L1.cfg.1:=cfgAt_cfg oa.rn.lb oa.cf L1.last;have ht:TI R.cand L1:=⟨a1.ti.out,fun _=>hk1,a1.ti.com,a1.ti.wf⟩
  obtain ⟨t1,t2,t3⟩:=TI.asks oa.rn.lb qo hk1 (R.cand.oth L1) ht o.rb.nd (fun v hv=>by
   obtain ⟨g1,g2⟩:=List.mem_filter.1 hv;exact ⟨hcf.mem g1,fun e=>by simp[e] at g2⟩)
  have hol:=oth_len R.cand oa.rn.lb oa.cf;obtain ⟨e1,e2⟩:=(a1.t t1).elect (oa.r ((Rb.asks _ _ oa.rb.cand).up (j:=k+8) qo)) qo qo hk1 l;exact ⟨e1,(a2.r t2 t3).trans e2⟩
theorem PI.idle(h:PI u (n+12) R L D)(o:NI c q z k R L D)(hc:c<=700000000)(hk:k<=700000)(hu:u<=1000000)(d:Nat):
  PI (u+2) n (R.idle L D d).1 (R.idle L D d).2.1 (R.idle L D d).2.2.1/\St R L (R.idle L D d).1 (R.idle L D d).2.1:=by
 have ht:TI (R.idle0 d) L:=h.ti.r;have hs:St R L (R.idle0 d) L:=(St.refl R L).r;unfold Nd.idle
 split
 ·exact ⟨(h.t ht).up qo qo,hs⟩
 ·obtain ⟨e1,e2⟩:=(h.t ht).stand (o.r (o.rb.idle0 d)) hc qo hu qo L.cfg.1;exact ⟨e1,hs.trans e2⟩
theorem TI.beat(h:TI R L)(o:NI c q z k R L D)(hc:c<=900000000)(hk:k<=1000000)(h0:L.kt≠0):TI (R.beat L) L/\St R L (R.beat L) L:=by
 unfold Nd.beat
 split
 ·obtain ⟨t1,t2,t3,t4⟩:=(h.r:TI { R with el:=0 } L).tell (o.r o.rb.el0) hc hk h0 true;exact ⟨t1,⟨Nat.le_refl _,Nat.le_of_eq t3.symm,Kp.refl _ _,t2⟩⟩
 ·exact ⟨h.r,(St.refl R L).r⟩
theorem PI.tick(h:PI u (n+12) R L D)(o:NI c q z k R L D)(hc:c<=700000000)(hk:k<=700000)(hu:u<=1000000)(d:Nat):
  PI (u+2) n (R.tick L D d).1 (R.tick L D d).2.1 (R.tick L D d).2.2.1/\St R L (R.tick L D d).1 (R.tick L D d).2.1:=by
 unfold Nd.tick
 split
 ·exact ⟨h.up qo qo,St.refl _ _⟩
 split
 ·rename_i hr;obtain ⟨b1,b2⟩:=h.ti.beat o qo qo (h.ti.role (by rw[hr];decide));exact ⟨(h.t b1).up qo qo,b2⟩
 ·exact h.idle o hc hk hu d
theorem PI.raise(h:PI u (n+1) R L D)(hu:u<=1000000)(t:Nat)(ht:t<=mxU):
  PI (u+1) n (R.raise L D t).1 (R.raise L D t).2.1 (R.raise L D t).2.2.1/\St R L (R.raise L D t).1 (R.raise L D t).2.1/\((R.raise L D t).2.2.2=0->(R.raise L D t).2.1.kt=t):=by
 obtain ⟨a1,a2,a3⟩:=h.setHard hu t (-1) ht;unfold Nd.raise;dsimp only;refine ⟨?_,?_,a3⟩
 ·split
  ·exact a1.t<|a1.ti.r I I I (.inr I)
  ·exact a1.t<|a1.ti.did _
 ·split
  ·exact a2.r
  ·obtain ⟨d1,d2⟩:=did_same R (L.setHard D t (-1)).2.2;exact a2.r d1 d2
end
end
section
theorem mkf_run{P:Program}{n:Nat}{l:Sl}{o:Oper}{f:Fn}{x:Operand}{v:Value}(hop:o.op=.makeFunc f #[x] #[])(hx:ev l x=some v)(hr:∀ w,(Instr.makeFunc f #[v] #[]).run P w=.ok (.func f #[v] #[]) w):∀ A w,Ag n l A->(execOp A.eval o).run P w=.ok (.value (.func f #[v] #[])) w:=by
 intro A w ha;simp only[execOp,hop,Array.map_empty,List.map_toArray,List.map_cons,List.map_nil,ha.ev hx];rw[Sem.run_bind];have h:=hr w;simp[ha.ev hx,h,Result.andThen]
theorem Ct.at3{P:Program}{w0:World}{f:FuncId}{args:List Value}{K:PH}{a b c:PH}{S:Value->PH->PH->PH->PH->Prop}(pre:List PH){post:List PH}
  (h:Ct P w0 f args K (a::b::c::(pre++post)) (fun v K' hs'=>∃ a' b' c',hs'=a'::b'::c'::(pre++post)/\S v K' a' b' c')):
  Ct P w0 f args K (pre++(a::b::c::post)) (fun v K' hs'=>∃ a' b' c',hs'=pre++(a'::b'::c'::post)/\S v K' a' b' c'):=by
 have p:∀ x y z:PH,(pre++(x::y::z::post)).Perm (x::y::z::(pre++post)):=fun x y z=>List.perm_append_comm_assoc pre [x,y,z] post;refine ⟨h.1,fun w hw=>(h.2 w (hw.perm (p a b c))).mono ?_⟩;rintro e w' ⟨v,K',hs',rfl,⟨a',b',c',rfl,hS⟩,hw'⟩;exact ⟨v,K',_,I,⟨a',b',c',I,hS⟩,hw'.perm (p a' b' c').symm⟩
theorem Ct.at2p{P:Program}{w0:World}{f:FuncId}{args:List Value}{K:PH}{a b:PH}{S:Value->PH->PH->PH->Prop}(pre:List PH){post:List PH}
  (h:Ct P w0 f args K (a::b::(pre++post)) (fun v K' hs'=>∃ a' b',hs'=a'::b'::(pre++post)/\S v K' a' b')):
  Ct P w0 f args K (pre++(a::b::post)) (fun v K' hs'=>∃ a' b',hs'=pre++(a'::b'::post)/\S v K' a' b'):=by
 have p:∀ x y:PH,(pre++(x::y::post)).Perm (x::y::(pre++post)):=fun x y=>List.perm_append_comm_assoc pre [x,y] post;refine ⟨h.1,fun w hw=>(h.2 w (hw.perm (p a b))).mono ?_⟩;rintro e w' ⟨v,K',hs',rfl,⟨a',b',rfl,hS⟩,hw'⟩;exact ⟨v,K',_,I,⟨a',b',I,hS⟩,hw'.perm (p a' b').symm⟩
theorem dldSt{P:Program}{T:Tab}{w0:World}{ops:Array Oper}{Q:Exit->Act->World->Prop}{plan plan':List Nat}{z:Nat}{listed listed':Array Bool}{n:Nat}{l l':Sl}{K K0:PH}{hs A:List PH}(ys:List Nat)[hT:TabOK P T](hsel:Region.noSelect ops=true)(k i:Nat){p d t b ty:Nat}{c:Array Value}{fr:Nat×Nat}(h0:dlsAt T ops n z k plan listed l=some (p,d,t,⟨b,0,none⟩,plan',listed',l'))(hwf:waitsP ops z ys (p / 2)=true)
  (hi:A[i]?=some (pt b c ty fr)) (hm:aggOK P t c.size=true) (hk:WA P w0 ops Q K0 A z plan' listed' n ((d,.agg c)::l') K hs):WA P w0 ops Q K0 A z plan listed n l K hs:=by
 unfold dlsAt at h0
 split at h0
 ·rename_i p' o r L' l2 hh
  split at h0
  ·rename_i dd t' x hp hz hg hd hop
   split at h0
   ·rename_i a' hb hx;simp only[Option.some.injEq,Prod.mk.injEq] at h0;obtain ⟨rfl,rfl,rfl,rfl,rfl,rfl,rfl⟩:=h0;obtain ⟨g1,g2⟩:=headAt_spec hh;refine WA.pures hsel k g1 ?_;have hp2:p'=2*(p' / 2):=by have:=Nat.eq_of_beq_eq_true hp;omega
    rw[hp2];refine WA.look g2 hsel hz hd hb (fun A' ha=>.inl ⟨gOK_wanted ha hg,fun w hw=>?_⟩) hk;obtain ⟨L,hcl,hun,hst⟩:=hw;have h2:=run_loadS (P:=P) (w:=w) (t:=t') (a:=⟨b,0,none⟩) (cs:=c.toList) qo rfl (fun j v hv=>(hst (closed_waitsP hcl ys hun hwf)).cell (.inr ⟨i,hi⟩) (cells_pt c.toList (fun j v h=>by simpa using h) j v hv));have e:c.toList.toArray=c:=by simp
    rw[e] at h2;simp only[execOp,hop,ha.ev hx];simp[h2]
   ·simp at h0
  ·simp at h0
 ·simp at h0
def prV(p:Pr)(t:List Value):List Value:=.int .u64 p.mt::.int .u64 p.nx::.int .u64 p.rd::.bool p.ws::.int .i64 p.of::t
structure NS where
 y:Value
 v:Value
 d:Value
 o:Value
 f0:Value
 f1:Value
 f2:Value
def ndA(lb:Nat)(R:Nd)(s:NS):Array Value:=
 (.int .i64 R.nd::.pointer (some ⟨lb,0,none⟩)::.bool R.hl::.int .i64 R.role::.int .i64 R.lead::.int .u64 R.com::.int .i64 R.el::.int .i64 R.wt::s.y::.int .u64 R.rnd ::
  prV (R.pr 0) (prV (R.pr 1) (prV (R.pr 2) (prV (R.pr 3) (prV (R.pr 4) (prV (R.pr 5) (prV (R.pr 6)
   [.int .i64 R.pf,.int .u64 R.ps.idx,.int .u64 R.ps.term,s.v,s.d,s.o,s.f0,s.f1,s.f2]))))))).toArray
theorem nat7{j:Nat}(h:j<7):j=0\/j=1\/j=2\/j=3\/j=4\/j=5\/j=6:=by omega
theorem ndA_pr(lb:Nat)(R:Nd)(s:NS){j:Nat}(hj:j<7){k:Nat}{v:Value}(h:(prV (R.pr j) [])[k]?=some v):(ndA lb R s)[10+j*5+k]?=some v:=by
 have hk:k<5:=by
  have:=(List.getElem?_eq_some_iff.1 h).1;simpa[prV] using this
 obtain rfl|rfl|rfl|rfl|rfl:k=0\/k=1\/k=2\/k=3\/k=4:=by omega
 all_goals
  obtain rfl|rfl|rfl|rfl|rfl|rfl|rfl:=nat7 hj
  all_goals exact h
theorem setP_at(R:Nd)(j:Nat)(p:Pr)(i:Nat):(R.setP (j:Int) p).pr i=if i=j then p else R.pr i:=rfl
theorem ndA_st(lb:Nat)(R:Nd)(s:NS){j:Nat}(hj:j<7)(p:Pr):
  (p.nx=(R.pr j).nx/\p.rd=(R.pr j).rd/\p.ws=(R.pr j).ws/\p.of=(R.pr j).of->(ndA lb R s).setIfInBounds (10+j*5) (.int .u64 p.mt)=ndA lb (R.setP (j:Int) p) s) /\
  (p.mt=(R.pr j).mt/\p.rd=(R.pr j).rd/\p.ws=(R.pr j).ws/\p.of=(R.pr j).of->(ndA lb R s).setIfInBounds (10+j*5+1) (.int .u64 p.nx)=ndA lb (R.setP (j:Int) p) s) /\
  (p.mt=(R.pr j).mt/\p.nx=(R.pr j).nx/\p.ws=(R.pr j).ws/\p.of=(R.pr j).of->(ndA lb R s).setIfInBounds (10+j*5+2) (.int .u64 p.rd)=ndA lb (R.setP (j:Int) p) s) /\
  (p.mt=(R.pr j).mt/\p.nx=(R.pr j).nx/\p.rd=(R.pr j).rd/\p.of=(R.pr j).of->(ndA lb R s).setIfInBounds (10+j*5+3) (.bool p.ws)=ndA lb (R.setP (j:Int) p) s) /\
  (p.mt=(R.pr j).mt/\p.nx=(R.pr j).nx/\p.rd=(R.pr j).rd/\p.ws=(R.pr j).ws->(ndA lb R s).setIfInBounds (10+j*5+4) (.int .i64 p.of)=ndA lb (R.setP (j:Int) p) s):=by
 obtain ⟨a,b,c,d,e⟩:=p;refine ⟨?_,?_,?_,?_,?_⟩
 all_goals
  rintro ⟨h1,h2,h3,h4⟩;dsimp only at h1 h2 h3 h4;subst h1 h2 h3 h4;obtain rfl|rfl|rfl|rfl|rfl|rfl|rfl:=nat7 hj
  all_goals rfl
attribute [local irreducible] Code.wp wpList Calls
def MsgC(K:PH)(c:List Value)(m:Msg):Prop:=∃ p,c=(mv m p).toList/\MsgS K m p
theorem MsgC.le{K K':PH}(l:Le K K'){c:List Value}{m:Msg}(h:MsgC K c m):MsgC K' c m:=let ⟨p,h1,h2⟩:=h;⟨p,h1,h2.le l⟩
theorem al2_all2{α:Type}{R:List Value->α->Prop}:∀ {cs:List (List Value)} {xs:List α},Al2 R cs xs↔All2 R cs xs
 | [],[]=>Iff.rfl
 | _::_,_::_=>and_congr_right fun _=>al2_all2
 | [],_::_=>Iff.rfl
 | _::_,[]=>Iff.rfl
theorem EntsS.of{K:PH}{ao:Option Addr}{n cap:Nat}{es:List Ent}(x:SlS 4 (EntC K) K ao n cap es):EntsS K ao cap es:=by
 obtain ⟨css,rfl,h2,h3,h4⟩:=x;exact ⟨css,h2,al2_all2.1 h3⟩
theorem EntsS.slS{K:PH}{ao:Option Addr}{cap:Nat}{es:List Ent}(x:EntsS K ao cap es):SlS 4 (EntC K) K ao es.length cap es:=by
 obtain ⟨css,h2,h3⟩:=x;refine ⟨css,I,h2,al2_all2.2 h3,fun d hd=>?_⟩;obtain ⟨i,hi⟩:=List.mem_iff_getElem?.1 hd;have h4:=(al2_all2.2 h3).len;have h5:i<es.length:=by have:=(List.getElem?_eq_some_iff.1 hi).1;omega
 obtain ⟨c,g1,ao',cap',g2,_⟩:=(al2_all2.2 h3).get (List.getElem?_eq_getElem h5);rw[hi] at g1;cases g1;rw[g2]
 rfl
abbrev RT:Nat:=106
abbrev tkI(rb:Nat):Value:=.func (.func 121) #[.pointer (some ⟨rb,0,none⟩)] #[]
abbrev tkB(rb:Nat):Value:=.func (.func 122) #[.pointer (some ⟨rb,0,none⟩)] #[]
structure NdG (K:PH) (rb:Nat) (R:Nd) (s:NS) (hy hd ho:PH):Prop where
 y:∃ ao cap,s.y=.slice ao R.yes.length cap/\Own hy ao R.yes.length cap 3 1 (iv R.yes)
 v:∃ ao cap,s.v=.slice ao R.ps.vot.length cap/\IsS K ao R.ps.vot.length cap 1 (iv R.ps.vot)
 d:∃ ao cap,s.d=.slice ao R.ps.data.length cap/\Own hd ao R.ps.data.length cap 5 1 (bv R.ps.data)
 o:∃ ao cap,s.o=.slice ao R.out.length cap/\SlO 14 34 (MsgC K) ho ao R.out.length cap R.out
 f:s.f0=tkI rb/\s.f1=tkI rb/\s.f2=tkB rb
theorem NdG.le{K K':PH}(l:Le K K'){rb:Nat}{R:Nd}{s:NS}{hy hd ho:PH}(G:NdG K rb R s hy hd ho):NdG K' rb R s hy hd ho:=by
 obtain ⟨h1,⟨ao,cap,h2,h2'⟩,h3,⟨ao4,cap4,h4,h4'⟩,h5⟩:=G;exact ⟨h1,⟨ao,cap,h2,h2'.le l⟩,h3,⟨ao4,cap4,h4,h4'.imp fun _ _=>MsgC.le l⟩,h5⟩
def NdH(K:PH)(rb:Nat)(R:Nd)(s:NS)(g:PH):Prop:=∃ hy hd ho,g=uns [hy,hd,ho]/\Djs [hy,hd,ho]/\NdG K rb R s hy hd ho
theorem NdH.le{K K':PH}(l:Le K K'){rb:Nat}{R:Nd}{s:NS}{g:PH}(G:NdH K rb R s g):NdH K' rb R s g:=let ⟨hy,hd,ho,h1,h2,h3⟩:=G;⟨hy,hd,ho,h1,h2,h3.le l⟩
theorem NdH.r{K:PH}{rb:Nat}{R R':Nd}{s:NS}{g:PH}(G:NdH K rb R s g)(h1:R'.yes=R.yes:=by rfl)(h2:R'.ps.vot=R.ps.vot:=by rfl)(h3:R'.ps.data=R.ps.data:=by rfl)(h4:R'.out=R.out:=by rfl):NdH K rb R' s g:=by
 obtain ⟨hy,hd,ho,g1,g2,⟨a,b,c,d,e⟩⟩:=G;exact ⟨hy,hd,ho,g1,g2,⟨by rw[h1];exact a,by rw[h2];exact b,by rw[h3];exact c,by rw[h4];exact d,e⟩⟩
structure Nd3 (K:PH) (rb lb db:Nat) (R:Nd) (L:Lg) (D:Dk) (s:NS) (lh g:PH):Prop where
 l:LgH K lb db L D lh
 g:NdH K rb R s g
theorem Nd3.le{K K':PH}(l:Le K K'){rb lb db:Nat}{R:Nd}{L:Lg}{D:Dk}{s:NS}{lh g:PH}(o:Nd3 K rb lb db R L D s lh g):Nd3 K' rb lb db R L D s lh g:=⟨o.l.le l,o.g.le l⟩
def NdQ(rb lb db:Nat)(K:PH)(R:Nd)(L:Lg)(D:Dk)(K' a b c:PH):Prop:=∃ s,a=pt rb (ndA lb R s) RT/\Le K K'/\Nd3 K' rb lb db R L D s b c
abbrev NdC(w0:World)(K:PH)(hs:List PH)(rb lb db:Nat)(R:Nd)(s:NS)(lh g:PH)(f:FuncId)(args:List Value)(R':Nd)(L':Lg)(D':Dk)(u:Value):Prop:=
 Ct Tryz.prog w0 f args K (pt rb (ndA lb R s) RT::lh::g::hs) (fun v K' hs'=>∃ a b c,hs'=a::b::c::hs/\NdQ rb lb db K R' L' D' K' a b c/\v=u)
end
section
theorem quor_step{c yes:List Int}{j:Nat}(hj:j<c.length):((c.take (j+1)).filter fun v=>decide (v∈yes)).length=((c.take j).filter fun v=>decide (v∈yes)).length+if c[j]∈yes then 1 else 0:=by
 rw[List.take_add_one,List.getElem?_eq_getElem hj,List.filter_append,List.length_append];simp only[Option.toList_some,List.filter_cons,List.filter_nil]
 split <;> simp_all
theorem fill_step{f:Int->Nat}{c:List Int}{j:Nat}(hj:j<c.length):((c.take j).map f++List.replicate (c.length-j) 0).set j (f c[j])=(c.take (j+1)).map f++List.replicate (c.length-(j+1)) 0:=by
 have h1:((c.take j).map f).length=j:=by simp;omega
 rw[List.set_append_right _ _ qo,h1,Nat.sub_self,show c.length-j=c.length-(j+1)+1 by omega,List.replicate_succ,List.set_cons_zero,List.take_add_one,List.getElem?_eq_getElem hj];simp only[Option.toList_some,List.map_append,List.map_cons,List.map_nil,List.append_assoc,List.singleton_append]
theorem agreed_srt{f:Int->Nat}{c:List Int}{ys:List Nat}(hp:ys.Perm (c.map f))(hs:Srt 0 ys.length ys):ys.getD ((c.length-1) / 2) 0=agreedV c f:=by
 have h:=srtI_eq (l:=c.map fun v=>((f v:Nat):Int)) (ys:=ys.map fun x=>((x:Nat):Int)) (by simpa[Function.comp_def] using hp.map fun x=>((x:Nat):Int)) hs.pw;unfold agreedV;rw[<-h,List.getD_eq_getElem?_getD,List.getD_eq_getElem?_getD,List.getElem?_map];cases ys[(c.length-1) / 2]? <;> simp
attribute [local irreducible] Code.wp wpList Calls
section
variable {w0:World} {K hv:PH} {hs:List PH}
theorem indexGC(hm:In K hs hv)(ao:Option Addr)(k:Nat)(l:List Int)(x:IsS hv ao l.length k 1 (iv l))(hl:l.length<=1099511627776)(n:Int):
  Ct Tryz.prog w0 154 [.slice ao l.length k,.int .i64 n] K hs (fun v K' hs'=>K'=K/\hs'=hs/\∃ i:Int,v=.int .i64 i/\(n∈l->∃ j:Nat,i=(j:Int)/\l[j]?=some n/\n∉l.take j)/\(n∉l->i = -1)):=by
 refine ent Tryz.func154 ?_;refine au ?_;refine loop (σ:=Nat) (fun j=>[(0,.slice ao l.length k),(1,.int .i64 n),(7,.int .i64 l.length),(8,.int .i64 (j:Nat))]) (fun _=>K) (fun _=>hs) (fun j=>j<=l.length/\n∉l.take j) (fun j=>l.length-j) 0 ⟨Nat.zero_le _,by simp⟩ ⟨I,I,I,I,trivial⟩ I I ?_;rintro j ⟨hj,hno⟩;refine au ?_;refine cmpS 0 I fun b9 h9=>?_;refine fin 0 I (th (sq (ifP h9 I (fun e2=>?_) (fun e2=>?_))))
 ·have hjl:j<l.length:=by omega
  refine au ?_;refine ix1 3 j I I I x (iv_get hjl) fun a14 hc14=>?_;refine ld 0 I hm hc14 ?_;refine cmpS 0 I fun b16 h16=>?_;refine fin 0 I (th (ifP h16 I (fun e4=>?_) (fun e4=>?_)))
  ·refine au ?_;exact ret1 I I ⟨I,I,((j:Nat):Int),I,fun _=>⟨j,I,by rw[List.getElem?_eq_getElem hjl,e4],hno⟩,fun h=>absurd (by rw[e4];exact List.getElem_mem hjl) h⟩
  ·refine au ?_;refine ar 0 I (i64w (x:=((j+1:Nat):Int)) qo) ?_;refine fin 1 I ?_;refine again (x:=j) (j+1) ⟨I,I,I,I,trivial⟩ I I ⟨by omega,?_⟩ qo;rw[List.take_add_one,List.getElem?_eq_getElem hjl];simp only[Option.toList_some,List.mem_append,List.mem_singleton,not_or];exact ⟨hno,e4⟩
 ·rw[List.take_of_length_le qo] at hno;refine au ?_;exact ret1 I I ⟨I,I,-1,I,fun h=>absurd h hno,fun _=>I⟩
theorem containsGC(hm:In K hs hv)(ao:Option Addr)(k:Nat)(l:List Int)(x:IsS hv ao l.length k 1 (iv l))(hl:l.length<=1099511627776)(n:Int):
  Ct Tryz.prog w0 129 [.slice ao l.length k,.int .i64 n] K hs (fun v K' hs'=>K'=K/\hs'=hs/\v=.bool (decide (n∈l))):=by
 refine ent Tryz.func129 ?_;refine au ?_;refine cl 2 I (indexGC hm ao k l x hl n) ?_;rintro v7 K7 hs7 ⟨rfl,rfl,i,rfl,hi,hn⟩;refine cmpS 0 I fun b8 h8=>?_;refine au ?_;refine ret1 I I ⟨I,I,?_⟩
 rw[show b8=decide (n∈l) from by
  rw[Bool.eq_iff_iff,h8,decide_eq_true_iff]
  by_cases h:n∈l
  ·obtain ⟨j,rfl,_⟩:=hi h;simp[h]
  ·rw[hn h];simp[h]]
theorem timeoutGC(d:Nat)(hd:d<18446744073709551616):
  Ct Tryz.prog w0 135 [.int .u64 (d:Nat)] K hs (fun v K' hs'=>K'=K/\hs'=hs/\v=.int .i64 (10+d % 22:Nat)):=by
 refine ent Tryz.func135 ?_;refine au ?_;refine ar 1 I (u_rem .u64 d 22) ?_;refine ar 0 I (i64w qo) ?_;refine ar 0 I (i64w (x:=((10+d % 22:Nat):Int)) qo) ?_;refine au ?_;exact ret1 I I ⟨I,I,I⟩
theorem votesGC(hm:In K hs hv)(ao:Option Addr)(k:Nat)(l:List Int)(x:IsS hv ao l.length k 1 (iv l))(hl:l.length<=1099511627776)(n:Int):
  Ct Tryz.prog w0 147 [.agg #[.slice ao l.length k],.int .i64 n] K hs (fun v K' hs'=>K'=K/\hs'=hs/\v=.bool (decide (n∈l))):=by
 refine ent Tryz.func147 ?_;refine au ?_;refine bx 0 I fun b2=>?_;refine au ?_;refine cl 1 I (containsGC (In.cons hm) ao k l x hl n) ?_;rintro v8 K8 hs8 ⟨rfl,rfl,rfl⟩;refine au (WQ.drop ?_);exact ret1 I I ⟨I,I,I⟩
theorem quorGC{hy:PH}(hm:In K hs hv)(ao:Option Addr)(k:Nat)(c:List Int)(x:IsS hv ao c.length k 1 (iv c))(hc:c.length<=1099511627776)(hmy:In K hs hy)(ay:Option Addr)(ky:Nat)(yes:List Int)(y:IsS hy ay yes.length ky 1 (iv yes))(hyl:yes.length<=1099511627776):
  Ct Tryz.prog w0 69 [.agg #[.slice ao c.length k],.slice ay yes.length ky] K hs (fun v K' hs'=>K'=K/\hs'=hs/\v=.bool (quor c yes)):=by
 refine ent Tryz.func69 ?_;refine au ?_;refine bx 0 I fun b2=>?_;refine au ?_
 refine loop (σ:=Nat) (fun j=>[(1,.slice ay yes.length ky),(2,.pointer (some ⟨b2,0,none⟩)),(5,.int .i64 ((((c.take j).filter fun v=>decide (v∈yes)).length:Nat):Int)),(9,.slice ao c.length k),(10,.int .i64 c.length),(11,.int .i64 (j:Nat))])
  (fun _=>K) (fun _=>pt b2 #[.slice ao c.length k] 46::hs) (fun j=>j<=c.length) (fun j=>c.length-j) 0 (Nat.zero_le _) ⟨rfl,rfl,rfl,rfl,rfl,rfl,trivial⟩ rfl rfl ?_
 intro j hj;have hn:((c.take j).filter fun v=>decide (v∈yes)).length<=j:=Nat.le_trans (List.length_filter_le _ _) (by simp;omega);refine au ?_;refine cmpS 0 I fun b12 h12=>?_;refine fin 0 I (th (sq (ifP h12 I (fun e2=>?_) (fun e2=>?_))))
 ·have hjl:j<c.length:=by omega
  have hst:=quor_step (yes:=yes) hjl;refine au ?_;refine ix1 0 j I I I x (iv_get hjl) fun a13 hc13=>?_;refine ld 0 I (In.cons hm) hc13 ?_;refine au ?_;refine cl 2 I (containsGC (In.cons hmy) ay ky yes y hyl c[j]) ?_;rintro v17 K17 hs17 ⟨rfl,rfl,rfl⟩;refine fin 0 I (th (ifB I (fun e3=>?_) (fun e3=>?_)))
  ·rw[decide_eq_true_iff] at e3;rw[if_pos e3] at hst;refine au ?_;refine ar 1 I (i64w (x:=((((c.take j).filter fun v=>decide (v∈yes)).length+1:Nat):Int)) qo) ?_;refine au ?_;refine ar 0 I (i64w (x:=((j+1:Nat):Int)) qo) ?_;refine fin 1 I ?_;exact again (x:=j) (j+1) ⟨I,I,by rw[hst];rfl,rfl,rfl,rfl,trivial⟩ rfl rfl qo qo
  ·rw[decide_eq_false_iff_not] at e3;rw[if_neg e3] at hst;refine au ?_;refine ar 0 I (i64w (x:=((j+1:Nat):Int)) qo) ?_;refine fin 1 I ?_;exact again (x:=j) (j+1) ⟨I,I,by rw[hst];rfl,rfl,rfl,rfl,trivial⟩ rfl rfl qo qo
 ·obtain rfl:j=c.length:=by omega
  rw[List.take_length];refine au ?_;refine ar 1 I (quoN c.length 2 qo) ?_;refine cmpS 0 I fun b26 h26=>?_;refine au (WQ.drop ?_);refine ret1 I I ⟨I,I,?_⟩
  rw[show b26=quor c yes from by
   unfold quor;rw[Bool.eq_iff_iff,h26,decide_eq_true_iff];omega]
theorem agreedGC{hM:PH}(hm:In K hs hv)(ao:Option Addr)(k:Nat)(c:List Int)(x:IsS hv ao c.length k 1 (iv c))(hc:Cfg c)(hmM:In K hs hM)(am:Option Addr)(ms:List Nat)(hml:ms.length=7)(xM:IsS hM am 7 7 1 (uvv ms)):
  Ct Tryz.prog w0 199 [.agg #[.slice ao c.length k],.slice am 7 7] K hs (fun v K' hs'=>K'=K/\hs'=hs/\v=.int .u64 ((agreedV c (fun v:Int=>ms.getD v.toNat 0):Nat):Int)):=by
 have hcl:=hc.len;have hc0:c.length≠0:=by have:=hc.1;simpa using this
 refine ent Tryz.func199 ?_;refine au ?_;refine bx 0 I fun b2=>?_;refine au ?_;refine cmpS 1 I fun b11 h11=>?_;refine fin 0 I (th (ifP h11 I (fun e2=>absurd e2 qo) (fun e2=>?_)));refine au ?_;refine mks 1 c.length (.int .u64 0) I I I I (by simp[roomBytes];omega) qo qo (by decide) fun bq ol=>?_;refine au ?_
 refine loop (σ:=Nat) (fun i=>[(1,.slice am 7 7),(2,.pointer (some ⟨b2,0,none⟩)),(5,.slice (some ⟨bq,0,none⟩) c.length c.length),(18,.int .i64 c.length),(19,.int .i64 (i:Nat))]) (fun _=>K)
  (fun i=>pt bq (kA true [] ((c.take i).map (fun v:Int=>ms.getD v.toNat 0)++List.replicate (c.length-i) 0) []) 29::pt b2 #[.slice ao c.length k] 46::hs) (fun i=>i<=c.length) (fun i=>c.length-i) 0 (Nat.zero_le _) ⟨rfl,rfl,rfl,rfl,rfl,trivial⟩ rfl (by
   have:Array.replicate c.length (Value.int .u64 0)=kA true [] (List.replicate c.length 0) []:=by simp[kA,kvv,kI]
   simp[this]
   rfl) ?_
 intro i hi;refine au ?_;refine cmpS 0 I fun b20 h20=>?_;refine fin 0 I (th (sq (ifP h20 I (fun e4=>?_) (fun e4=>?_))))
 ·have hil:i<c.length:=by omega
  have hv:=hc.mem (List.getElem_mem hil);refine au ?_;refine ix1 1 i I I I x (iv_get hil) fun a25 hc25=>?_;refine ld 0 I (In.cons (In.cons hm)) hc25 ?_;refine au ?_;refine cmpS 1 I fun b28 h28=>?_
  refine' bja (q:=c[i]<7) 1 5 34 [28,29] h28 I I I I I I I (fun _=>?x6) (fun b34 h34=>?_)
  case x6=>
   refine au ?_;refine cmpS 3 I fun b33 h33=>?_;exact fin 1 I (bjx h33 I I I)
  refine fin 0 I (th (ifP h34 I (fun e8=>?_) (fun e8=>absurd ⟨hv.1,hv.2⟩ e8)));refine au ?_;have hvn:c[i].toNat<ms.length:=by omega
  refine ix1 4 c[i].toNat I qo I xM (u:=.int .u64 (ms.getD c[i].toNat 0:Nat)) (by simp[uvv,hvn,List.getD_eq_getElem?_getD]) fun a39 hc39=>?_;refine ld 0 I (In.cons (In.cons hmM)) hc39 ?_;have hfs:=fill_step (f:=fun v:Int=>ms.getD v.toNat 0) hil;have hsz:((c.take i).map (fun v:Int=>ms.getD v.toNat 0)++List.replicate (c.length-i) 0).length=c.length:=by simp;omega
  generalize (c.take i).map (fun v:Int=>ms.getD v.toNat 0)++List.replicate (c.length-i) 0=XS at hfs hsz ⊢;have xl:=kA_isS (kd:=true) (g:=bq) (e:=29) (pre:=[]) (xs:=XS) (post:=[]) (cap:=c.length) qo;rw[hsz] at xl;refine ixs 0 i I I xl qo (by decide) fun a41 h41=>?_;cases h41;rw[add_mk,Nat.zero_add,Nat.mul_one];have hg:=kA_get (kd:=true) (pre:=[]) (xs:=XS) (post:=[]) (i:=i) qo;rw[List.length_nil,Nat.zero_add] at hg;refine stp 0 0 I I hg I ?_
  refine WL.h 0 (pt bq (kA true [] ((c.take (i+1)).map (fun v:Int=>ms.getD v.toNat 0)++List.replicate (c.length-(i+1)) 0) []) 29) ?_ (.here (by
   rw[<-hfs,<-kA_set qo];simp[kI]))
  refine au ?_;refine ar 0 I (i64w (x:=((i+1:Nat):Int)) qo) ?_;refine fin 1 I ?_;exact again (x:=i) (i+1) ⟨I,I,I,I,I,trivial⟩ I I qo qo
 ·obtain rfl:i=c.length:=by omega
  refine au ?_;rw[Nat.sub_self,List.replicate_zero,List.append_nil,List.take_length];have hxl:(c.map fun v:Int=>ms.getD v.toNat 0).length=c.length:=by simp
  have hs:=sortC true (w0:=w0) (K:=K) (hs:=pt b2 #[.slice ao c.length k] 46::hs) bq c.length [] [] (c.map fun v:Int=>ms.getD v.toNat 0) qo qo;rw[hxl] at hs;refine cl 1 I hs ?_;rintro v44 K44 hs44 ⟨rfl,ys,rfl,hp,hS⟩;have hyl:ys.length=c.length:=by rw[hp.len,hxl]
  rw[<-hyl] at hS;have hag:=agreed_srt hp.perm hS;refine au ?_;refine ar 3 I (i64w (x:=(c.length:Int)-1) qo) ?_;refine ar 0 (v':=.int .i64 (((c.length-1) / 2:Nat):Int)) I (by rw[show (c.length:Int)-1=((c.length-1:Nat):Int) from by omega];exact quoN (c.length-1) 2 qo) ?_;have xl:=kA_isS (kd:=true) (g:=bq) (e:=29) (pre:=[]) (xs:=ys) (post:=[]) (cap:=c.length) qo;rw[hyl] at xl;have hk:(c.length-1) / 2<ys.length:=by omega
  refine ix1 0 ((c.length-1) / 2) I I I xl (u:=.int .u64 ((ys.getD ((c.length-1) / 2) 0:Nat):Int)) (by simp[kvv,kI,hk,List.getD_eq_getElem?_getD]) fun a50 hc50=>?_;refine ld 0 I (.inr ⟨0,I⟩) hc50 ?_;rw[hag];refine au (WQ.drop (WQ.drop ?_));exact ret1 I I ⟨I,I,I⟩
theorem newerGC(t i lt last:Nat):Ct Tryz.prog w0 139 [.int .u64 (t:Nat),.int .u64 (i:Nat),.int .u64 (lt:Nat),.int .u64 (last:Nat)] K hs (fun v K' hs'=>K'=K/\hs'=hs/\v=.bool (newerP t i lt last)):=by
 refine ent Tryz.func139 ?_;refine au ?_;refine cmpS 2 I fun b11 h11=>?_
 refine' bjo (q:=t=lt/\last<=i) 1 9 21 [11,12] h11 I I I I I I I (fun _=>?x2) (fun b21 h21=>?_)
 case x2=>
  refine au ?_;refine cmpS 2 I fun b15 h15=>?_
  refine' bja (q:=last<=i) 1 4 20 [15,16] h15 I I I I I I I (fun _=>?x4) (fun b20 h20=>?_)
  case x4=>
   refine au ?_;refine cmpS 2 I fun b19 h19=>?_;exact fin 1 I (bjx (h19.trans qo) I I I)
  exact fin 1 I<|bjx (h20.trans qo) I I I
 refine au ?_;refine ret1 I I ⟨I,I,?_⟩
 rw[show b21=newerP t i lt last from by
  unfold newerP;rw[Bool.eq_iff_iff,h21,decide_eq_true_iff];omega]
theorem backGC(nx mt hint:Nat)(h1:nx<18446744073709551616)(h2:mt+1<18446744073709551616):Ct Tryz.prog w0 146 [.int .u64 (nx:Nat),.int .u64 (mt:Nat),.int .u64 (hint:Nat)] K hs (fun v K' hs'=>K'=K/\hs'=hs/\v=.int .u64 (backV nx mt hint:Nat)):=by
 refine ent Tryz.func146 ?_;refine au ?_;refine ar 1 (v':=.int .u64 (((hint+1) % 18446744073709551616:Nat):Int)) I (congrArg (Value.int .u64) (by simp[IntKind.wrap,IntKind.signed,IntKind.bits])) ?_;refine ar 2 (v':=.int .u64 (max nx 1-1:Nat)) I (by rw[show (if (1:Int)>(nx:Int) then (1:Int) else (nx:Int))-1=((max nx 1-1:Nat):Int) from by split <;> omega];exact u64w qo) ?_;refine ar 2 I (u64w (x:=((mt+1:Nat):Int)) qo) ?_;refine au ?_;refine ret1 I I ⟨I,I,?_⟩;unfold backV
 congr 1
 generalize (hint+1) % 18446744073709551616=a;generalize max nx 1-1=b
 split <;> split at * <;> omega
end
end
section
theorem iv_set(l:List Int)(j:Nat)(n:Int):(iv l).set j (.int .i64 n)=iv (l.set j n):=by simp[iv,List.map_set]
theorem iv_take(l:List Int)(j:Nat):(iv l).take j=iv (l.take j):=by simp[iv]
structure DelI (c:List Int) (p:Int->Bool) (i j:Nat) (xs:List Int):Prop where
 len:xs.length=c.length
 lt:i<j/\j<=c.length
 done:xs.take i=(c.take j).filter p
 todo:xs.drop j=c.drop j
theorem DelI.skip{c:List Int}{p:Int->Bool}{i j:Nat}{xs:List Int}(o:DelI c p i j xs)(hj:j<c.length)(h:p c[j]=false):DelI c p i (j+1) xs:=by
 obtain ⟨h1,h2,h3,h4⟩:=o;refine ⟨h1,by omega,?_,?_⟩
 ·rw[h3,List.take_add_one,List.getElem?_eq_getElem hj,List.filter_append];simp[h]
 ·rw[<-List.drop_drop,<-List.drop_drop,h4]
theorem DelI.keep{c:List Int}{p:Int->Bool}{i j:Nat}{xs:List Int}(o:DelI c p i j xs)(hj:j<c.length)(h:p c[j]=true):DelI c p (i+1) (j+1) (xs.set i c[j]):=by
 obtain ⟨h1,h2,h3,h4⟩:=o;refine ⟨by simpa using h1,by omega,?_,?_⟩
 ·have hi:i<xs.length:=by omega
  rw[List.take_add_one,List.take_set_of_le (Nat.le_refl i),h3,List.getElem?_set_self hi,List.take_add_one,List.getElem?_eq_getElem hj,List.filter_append];simp[h]
 ·rw[List.drop_set_of_lt qo,<-List.drop_drop,<-List.drop_drop,h4]
attribute [local irreducible] Code.wp wpList Calls
section
variable {w0:World} {K hv:PH} {hs:List PH}
theorem cloneGI(a:Addr)(cap:Nat)(b:List Int)(hm:In K hs hv)(x:IsS hv (some a) b.length cap 1 (iv b))(hb0:0<b.length)(hl:b.length<1099511627776):
  Ct Tryz.prog w0 45 [.slice (some a) b.length cap] K hs
   (fun v K' hs'=>K'=K/\∃ h ao' c',hs'=h::hs/\v=.slice ao' b.length c'/\Own h ao' b.length c' 3 1 (iv b)):=by
 refine ent Tryz.func45 ?_;refine au ?_;refine cb 1 I (fun h1=>absurd h1 (by simp)) (fun h1=>?_);refine au ?_;refine lit 0 #[] I (by decide) qk fun b5=>?_;refine app 1 0 I I (Own.ofPt (c:=#[]) (n:=0) (by simp) (by simp[maxLen])) (In.cons hm) x I (by decide) (iv_one _) (by show (0+b.length)*8<=_;omega) (by simp[maxLen];omega) fun ao7 c7 g7 o7=>?_;refine au ?_;have e:0+b.length=b.length:=Nat.zero_add _;rw[e] at o7;exact ret1 I (by rw[e];rfl) ⟨rfl,g7,ao7,c7,rfl,rfl,o7⟩
theorem oth1GC(b1 rb ty1 ty2:Nat)(A:Array Value)(nd:Int)(h1:In K hs (pt b1 #[.pointer (some ⟨rb,0,none⟩)] ty1))(h2:In K hs (pt rb A ty2))(hA:A[0]?=some (.int .i64 nd))(n:Int):
  Ct Tryz.prog w0 128 [.int .i64 n,.pointer (some ⟨b1,0,none⟩)] K hs (fun v K' hs'=>K'=K/\hs'=hs/\v=.bool (decide (n=nd))):=by
 refine ent Tryz.func128 ?_;refine au ?_;refine ld 1 I h1 (Cell.pt I) ?_;refine ld 2 I h2 (Cell.pt hA) ?_;refine cmpS 0 I fun b9 h9=>?_;refine au ?_;exact ret1 I I ⟨I,I,by rw[show b9=decide (n=nd) from by rw[Bool.eq_iff_iff,h9,decide_eq_true_iff]]⟩
abbrev othF(b1:Nat):Value:=.func (.func 128) #[] #[.pointer (some ⟨b1,0,none⟩)]
theorem idxFGC(hm:In K hs hv)(ao:Option Addr)(k:Nat)(l:List Int)(x:IsS hv ao l.length k 1 (iv l))(hl:l.length<=1099511627776)(b1 rb ty1 ty2:Nat)(A:Array Value)(nd:Int)(h1:In K hs (pt b1 #[.pointer (some ⟨rb,0,none⟩)] ty1))(h2:In K hs (pt rb A ty2))(hA:A[0]?=some (.int .i64 nd)):
  Ct Tryz.prog w0 179 [.slice ao l.length k,othF b1] K hs (fun v K' hs'=>K'=K/\hs'=hs/\∃ i:Int,v=.int .i64 i/\(nd∈l->∃ j:Nat,i=(j:Int)/\l[j]?=some nd/\nd∉l.take j)/\(nd∉l->i = -1)):=by
 refine ent Tryz.func179 ?_;refine au ?_;refine loop (σ:=Nat) (fun j=>[(0,.slice ao l.length k),(1,othF b1),(7,.int .i64 l.length),(8,.int .i64 (j:Nat))]) (fun _=>K) (fun _=>hs) (fun j=>j<=l.length/\nd∉l.take j) (fun j=>l.length-j) 0 ⟨Nat.zero_le _,by simp⟩ ⟨I,I,I,I,trivial⟩ I I ?_;rintro j ⟨hj,hno⟩;refine au ?_;refine cmpS 0 I fun b9 h9=>?_;refine fin 0 I (th (sq (ifP h9 I (fun e2=>?_) (fun e2=>?_))))
 ·have hjl:j<l.length:=by omega
  refine au ?_;refine ix1 3 j I I I x (iv_get hjl) fun a14 hc14=>?_;refine ld 0 I hm hc14 ?_;refine cl 0 I (oth1GC b1 rb ty1 ty2 A nd h1 h2 hA l[j]) ?_;rintro v16 K16 hs16 ⟨rfl,rfl,rfl⟩;refine fin 0 I (th (ifB I (fun e4=>?_) (fun e4=>?_)))
  ·rw[decide_eq_true_iff] at e4;refine au ?_;exact ret1 I I ⟨I,I,((j:Nat):Int),I,fun _=>⟨j,I,by rw[List.getElem?_eq_getElem hjl,e4],hno⟩,fun h=>absurd (by rw[<-e4];exact List.getElem_mem hjl) h⟩
  ·rw[decide_eq_false_iff_not] at e4;refine au ?_;refine ar 0 I (i64w (x:=((j+1:Nat):Int)) qo) ?_;refine fin 1 I ?_;refine again (x:=j) (j+1) ⟨I,I,I,I,trivial⟩ I I ⟨by omega,?_⟩ qo;rw[List.take_add_one,List.getElem?_eq_getElem hjl];simp only[Option.toList_some,List.mem_append,List.mem_singleton,not_or];exact ⟨hno,fun h=>e4 h.symm⟩
 ·rw[List.take_of_length_le qo] at hno;refine au ?_;exact ret1 I I ⟨I,I,-1,I,fun h=>absurd h hno,fun _=>I⟩
theorem delFGC(g off cap:Nat)(cur:Array Value)(c:List Int)(o:Own (pt g cur 3) (some ⟨g,off,none⟩) c.length cap 3 1 (iv c))(hsz:cur.size=off+cap)(htk:(cur.toList.drop off).take c.length=iv c)(hl:c.length<=1000000)(b1 rb ty1 ty2:Nat)(A:Array Value)(nd:Int)
  (h1:In K hs (pt b1 #[.pointer (some ⟨rb,0,none⟩)] ty1)) (h2:In K hs (pt rb A ty2)) (hA:A[0]?=some (.int .i64 nd)):
  Ct Tryz.prog w0 127 [.slice (some ⟨g,off,none⟩) c.length cap,othF b1] K (pt g cur 3::hs)
   (fun v K' hs'=>K'=K/\∃ cur',hs'=pt g cur' 3::hs/\v=.slice (some ⟨g,off,none⟩) (c.filter fun v=>decide (v≠nd)).length cap/\Own (pt g cur' 3) (some ⟨g,off,none⟩) (c.filter fun v=>decide (v≠nd)).length cap 3 1 (iv (c.filter fun v=>decide (v≠nd)))):=by
 refine ent Tryz.func127 ?_;refine au ?_;refine cl 2 I (idxFGC (.inr ⟨0,I⟩) _ cap c o.isS qo b1 rb ty1 ty2 A nd (In.cons h1) (In.cons h2) hA) ?_;rintro v10 K10 hs10 ⟨rfl,rfl,i,rfl,hi,hn⟩;refine au ?_;refine cmpS 1 I fun b12 h12=>?_;refine fin 0 I (th (ifP h12 I (fun e2=>?_) (fun e2=>?_)))
 ·have hno:nd∉c:=fun h=>by
   obtain ⟨j,rfl,_⟩:=hi h;omega
  have hf:(c.filter fun v=>decide (v≠nd))=c:=List.filter_eq_self.2 fun v hv=>by
   simp only[decide_eq_true_iff];rintro rfl;exact hno hv
  refine au ?_;rw[hf];exact ret1 I I ⟨I,cur,I,I,o⟩
 ·have hin:nd∈c:=Classical.byContradiction fun h=>e2 (hn h);obtain ⟨j0,rfl,hj0,hb⟩:=hi hin;have hj0l:=(List.getElem?_eq_some_iff.1 hj0).1;refine au ?_;refine ar 1 I (i64w (x:=((j0+1:Nat):Int)) qo) ?_;refine au ?_;have hcap:=o.2.1
  refine loop (σ:=Nat×Nat×Array Value×List Int) (fun s=>[(0,.slice (some ⟨g,off,none⟩) c.length cap),(1,othF b1),(5,.int .i64 s.1),(6,.int .i64 s.2.1)]) (fun _=>K10) (fun s=>pt g s.2.2.1 3::hs)
   (fun s=>DelI c (fun v=>decide (v≠nd)) s.1 s.2.1 s.2.2.2/\s.2.2.1.size=off+cap/\(s.2.2.1.toList.drop off).take c.length=iv s.2.2.2) (fun s=>c.length-s.2.1) (j0,j0+1,cur,c) ⟨⟨rfl,by show j0<j0+1/\j0+1<=c.length;omega,?_,rfl⟩,hsz,htk⟩ ⟨rfl,rfl,rfl,rfl,trivial⟩ rfl rfl ?_
  ·rw[List.take_add_one,hj0,List.filter_append];simp only[Option.toList_some,List.filter_cons,List.filter_nil];simp only[ne_eq,not_true_eq_false,decide_false,Bool.false_eq_true,if_false,List.append_nil];exact (List.filter_eq_self.2 fun v hv=>by simp only[decide_eq_true_iff];rintro rfl;exact hb hv).symm
  rintro ⟨i,j,cu,xs⟩ ⟨hI,hcs,hct⟩;dsimp only at hI hcs hct ⊢;have hlt:=hI.lt;have ox:Own (pt g cu 3) (some ⟨g,off,none⟩) c.length cap 3 1 (iv xs):=Own.mkp hcs hcap o.2.2.1 hct;refine au ?_;refine cmpS 3 I fun b19 h19=>?_;refine fin 0 I (th (ifP h19 I (fun e4=>?_) (fun e4=>?_)))
  ·have hjl:j<c.length:=by omega
   have hxj:xs[j]?=some c[j]:=by
    have:=congrArg (·[0]?) hI.todo;simpa[List.getElem?_drop,hjl] using this
   refine au ?_;refine ix1 2 j I I I ox.isS (u:=.int .i64 c[j]) (by simp[iv,hxj]) fun a24 hc24=>?_;refine ld 0 I (.inr ⟨0,I⟩) hc24 ?_;refine au ?_;refine cl 2 I (oth1GC b1 rb ty1 ty2 A nd (In.cons h1) (In.cons h2) hA c[j]) ?_;rintro v28 K28 hs28 ⟨rfl,rfl,rfl⟩;refine au ?_;refine ifB I (fun e5=>?_) (fun e5=>?_)
   ·have e5':decide (c[j]≠nd)=true:=by simpa using e5
    refine au ?_;refine ixs 3 i I I ox.isS qo (by decide) fun a33 h33=>?_;cases h33;rw[add_mk,Nat.mul_one];obtain ⟨w,hw⟩:∃ w,cu[off+i]?=some w:=⟨_,Array.getElem?_eq_getElem qo⟩;refine stp 0 0 I I hw I ?_;refine WL.h 0 (pt g (cu.setIfInBounds (off+i) (.int .i64 c[j])) 3) ?_;refine au ?_;refine ar 1 I (i64w (x:=((i+1:Nat):Int)) qo) ?_;refine au ?_;refine ar 1 I (i64w (x:=((j+1:Nat):Int)) qo) ?_;refine fin 1 I ?_;refine again (x:=(i,j,cu,xs)) (i+1,j+1,cu.setIfInBounds (off+i) (.int .i64 c[j]),xs.set i c[j]) ⟨I,I,I,I,trivial⟩ I I ⟨hI.keep hjl e5',by simpa using hcs,?_⟩ (by dsimp only;omega);dsimp only;rw[<-iv_set,<-hct];simp[List.drop_set,List.take_set,show ¬off+i<off by omega]
   ·have e5':decide (c[j]≠nd)=false:=by simpa using e5
    refine au ?_;refine ar 1 I (i64w (x:=((j+1:Nat):Int)) qo) ?_;refine fin 1 I ?_;exact again (x:=(i,j,cu,xs)) (i,j+1,cu,xs) ⟨I,I,I,I,trivial⟩ I I ⟨hI.skip hjl e5',hcs,hct⟩ (by dsimp only;omega)
  ·obtain rfl:j=c.length:=by omega
   have hd:=hI.done;rw[List.take_length] at hd
   have hle:(c.filter fun v=>decide (v≠nd)).length=i:=by
    have:=congrArg List.length hd;rw[List.length_take,hI.len] at this;omega
   refine au ?_;refine slx 2 i (c.length-i) I I (by dsimp only[Option.getD];omega) qo ?_;rw[cutA_lt qo,Nat.mul_one];refine clr 0 0 I I (z:=.int .i64 0) I I qo qo ?_;refine au ?_;refine slx 2 0 i I I (by dsimp only[Option.getD];omega) qo ?_;rw[cutA_0];refine au ?_;refine ret1 I I ⟨I,_,I,by rw[hle];rfl,?_⟩
   have o1:=Own.mkp (g:=g) (e:=3) hcs (show i<=cap by omega) o.2.2.1 (xs:=iv (c.filter fun v=>decide (v≠nd))) (by
    rw[show i=min i c.length by omega,<-List.take_take,hct,iv_take,hd])
   rw[hle]
   have o2:=o1.behind qo (by
    rw[Nat.mul_one,show i=min i c.length by omega,<-List.take_take,hct,iv_take,hd]) (off+i) (List.replicate (c.length-i) (.int .i64 0)) qo (by rw[List.length_replicate];omega)
   rw[List.length_replicate] at o2;exact o2
end
end
section
attribute [local irreducible] Code.wp wpList Calls
section
variable {w0:World} {K lh g:PH} {hs:List PH} {rb lb db c q z k:Nat} {R:Nd} {L:Lg} {D:Dk} {s:NS}
theorem configGC(o:NI c q z k R L D)(hc:c<=900000000)(hL:LgH K lb db L D lh):
  Ct Tryz.prog w0 67 [.pointer (some ⟨rb,0,none⟩)] K (pt rb (ndA lb R s) RT::lh::hs)
   (fun v K' hs'=>∃ a b,hs'=a::b::hs/\a=pt rb (ndA lb R s) RT/\b=lh/\Le K K'/\∃ ao cap,v=.tuple #[.agg #[.slice ao L.cfg.1.length cap],.int .u64 L.cfg.2]/\IsS K' ao L.cfg.1.length cap 1 (iv L.cfg.1)):=by
 have hl:=o.last qo;refine enter Tryz.func67 qk I I I ?_;refine sq (rg ?_);refine al 0 (.agg #[.slice none 0 0]) I qk fun b2=>?_;refine fin 1 I (th (sq (rgm [1] 12 [0,2,4,6,8,10,12,14,17,19,20,22,25,26] ?_)));refine dldpw qk 3 0 I qk I I ?_;refine dldpw qk 3 0 I qk I I ?_;refine dact qk 0 I ?_;refine cl 0 I (Ct.keep 2 I (lastH lb db L D c o.rn.lb qo hL)) ?_;rintro v12 K12 hs12 ⟨rfl,rfl,rfl⟩;refine dnx (by simp) I ?_;refine dact qk 0 I ?_;refine cl 0 I (Ct.at 2 I (configH lb db L D c o.rn.lb qo hL (L.sn.idx+L.l.length) (by unfold Lg.last rTop at hl;unfold mxU;omega))) ?_;rintro v13 K13 hs13 ⟨h',rfl,hh,le,ao,cap,rfl,x⟩;subst hh;refine WL.hs (pt b2 #[.slice none 0 0] 46::pt rb (ndA lb R s) RT::h'::hs) I ?_;refine dnxL (by simp) le ?_;refine dact qk 2 I ?_;refine stS 0 0 I I qk I I ?_
 refine WL.hs (pt b2 #[.slice ao L.cfg.1.length cap] 46::pt rb (ndA lb R s) RT::h'::hs) I ?_;refine dnx (by simp) I ?_;refine dend qk 1 I (th (rt ?_));exact retcP 0 1 I I I I qk ⟨_,_,I,I,I,le,ao,cap,I,x⟩
theorem termGC(hL:LgH K lb db L D lh):
  Ct Tryz.prog w0 14 [.pointer (some ⟨rb,0,none⟩)] K (pt rb (ndA lb R s) RT::lh::hs)
   (fun v K' hs'=>∃ a b,hs'=a::b::hs/\K'=K/\a=pt rb (ndA lb R s) RT/\b=lh/\v=.int .u64 L.kt):=by
 refine ent Tryz.func14 ?_;refine au ?_;refine cl 0 I (Ct.keep 1 I (hardH lb db L D hL)) ?_;rintro v7 K7 hs7 ⟨rfl,rfl,rfl⟩;refine opr 0 (v:=.int .u64 L.kt) I (fun A w ha _=>fld_run (t:=112) (x:=.tmp 7) (i:=0) (v:=.agg #[.int .u64 L.kt,.int .i64 L.kv]) I I (fun w=>by kernel_rfl) A w ha) ?_;refine au ?_;exact ret1 I I ⟨_,_,I,I,I,I,I⟩
theorem othersGC(o:NI c q z k R L D)(hc:c<=900000000)(hL:LgH K lb db L D lh):
  Ct Tryz.prog w0 68 [.pointer (some ⟨rb,0,none⟩)] K (pt rb (ndA lb R s) RT::lh::hs)
   (fun v K' hs'=>∃ a b,hs'=a::b::hs/\a=pt rb (ndA lb R s) RT/\b=lh/\Le K K'/\∃ ao cap,v=.slice ao (R.oth L).length cap/\IsS K' ao (R.oth L).length cap 1 (iv (R.oth L))):=by
 have hcf:Cfg L.cfg.1:=cfgAt_cfg o.rn.lb o.cf L.last;have hlen:=hcf.len;have hl0:0<L.cfg.1.length:=List.length_pos_iff.2 hcf.1;refine ent Tryz.func68 ?_;refine au ?_;refine bx 0 I fun b1=>?_;refine au ?_;refine cl 0 I (Ct.at2p [_] (configGC o hc hL)) ?_;rintro v7 K7 hs7 ⟨_,_,rfl,rfl,rfl,le,ao,cap,rfl,x⟩;refine al 3 (.agg #[.slice none 0 0]) I qk fun b3=>?_;refine stS 0 0 I I qk I I ?_;refine WL.hs (pt b3 #[.slice ao L.cfg.1.length cap] 46::pt b1 #[.pointer (some ⟨rb,0,none⟩)] 25::pt rb (ndA lb R s) RT::_::hs) I ?_;refine au ?_;obtain ⟨a,rfl⟩:=x.addr (j:=0) hl0 qo;refine cl 0 I (cloneGI a cap L.cfg.1 (.inl I) x hl0 qo) ?_;rintro v12 K12 hs12 ⟨rfl,g,ao',c',rfl,rfl,ow⟩;have hc1:1<=c':=by have:=ow.2.1;omega
 obtain ⟨gb,off,cur,rfl,rfl,hsz,htk⟩:=ow.pts qo;refine cl 1 I (delFGC gb off c' cur L.cfg.1 ow hsz htk qo b1 rb _ _ _ R.nd (.inr ⟨1,I⟩) (.inr ⟨2,I⟩) I) ?_;rintro v14 K14 hs14 ⟨rfl,cur',rfl,rfl,ow'⟩;refine au (WQ.frz fun K2 l1 l2=>WQ.drop (WQ.drop ?_));exact ret1 I I ⟨_,_,I,I,I,le.trans l1,_,c',I,ow'.isS.le l2⟩
theorem leadsGC:Ct Tryz.prog w0 66 [.pointer (some ⟨rb,0,none⟩)] K (pt rb (ndA lb R s) RT::hs) (fun v K' hs'=>K'=K/\hs'=pt rb (ndA lb R s) RT::hs/\v=.int .i64 R.leads):=by
 unfold Nd.leads;refine ent Tryz.func66 ?_;refine au ?_;refine ifB I (fun e1=>?_) (fun e1=>?_)
 ·refine au ?_;exact ret1 I I ⟨I,I,by rw[if_pos e1]⟩
 ·refine au ?_;refine cmpS 0 I fun b13 h13=>?_;refine fin 1 I (th (ifP h13 I (fun e3=>?_) (fun e3=>?_)))
  ·refine au ?_;exact ret1 I I ⟨I,I,by rw[if_neg (by simp[e1]),if_pos e3]⟩
  ·refine au ?_;exact ret1 I I ⟨I,I,by rw[if_neg (by simp[e1]),if_neg e3]⟩
theorem settledGC(o:NI c q z k R L D)(hc:c<=900000000)(hL:LgH K lb db L D lh):
  Ct Tryz.prog w0 84 [.pointer (some ⟨rb,0,none⟩)] K (pt rb (ndA lb R s) RT::lh::hs) (fun v K' hs'=>∃ a b,hs'=a::b::hs/\K'=K/\a=pt rb (ndA lb R s) RT/\b=lh/\v=.bool (R.settled L)):=by
 have hco:=o.rb.com;refine enter Tryz.func84 qk I I I ?_;refine sq (rg ?_);refine fin 1 I (th (sq (rgm [0] 14 [0,2,4,6,8,10,12,14,17,18,20,22,24,26] ?_)));refine dldp qk 3 0 I I I ?_;refine dldp qk 3 0 I I I ?_;refine dact qk 0 I ?_;refine cl 0 I (Ct.keep 1 I (termH lb db L D c o.rn.lb qo hL R.com (by unfold mxU at hco;omega))) ?_;rintro v14 K14 hs14 ⟨rfl,rfl,rfl⟩;refine dnx (by simp) I ?_;refine dend qk 5 I (th (sq (rg ?_)));refine cl 2 I (termGC hL) ?_;rintro v19 K19 hs19 ⟨_,_,rfl,rfl,rfl,rfl,rfl⟩;refine cmpS 0 I fun b20 h20=>?_;refine au ?_;refine ret1 I I ⟨_,_,I,I,I,I,?_⟩
 rw[show b20=R.settled L from by
  unfold Nd.settled;rw[Bool.eq_iff_iff,h20,decide_eq_true_iff];unfold Lg.trm;omega]
theorem followGC(x:Int):Ct Tryz.prog w0 142 [.pointer (some ⟨rb,0,none⟩),.int .i64 x] K (pt rb (ndA lb R s) RT::hs) (fun v K' hs'=>K'=K/\hs'=pt rb (ndA lb (R.foll x) s) RT::hs/\v=.tuple #[]):=by
 refine ent Tryz.func142 ?_;refine au ?_;exact end0 I ⟨I,I,I⟩
theorem didGC(G:NdH K rb R s g)(e:Int):
  Ct Tryz.prog w0 92 [.pointer (some ⟨rb,0,none⟩),.int .i64 e] K (pt rb (ndA lb R s) RT::lh::g::hs) (fun v K' hs'=>∃ a b c,hs'=a::b::c::hs/\K'=K/\(∃ s',a=pt rb (ndA lb (R.did e) s') RT/\NdH K rb (R.did e) s' c)/\b=lh/\v=.int .i64 e):=by
 unfold Nd.did;refine ent Tryz.func92 ?_;refine au ?_;refine cmpS 1 I fun b6 h6=>?_;refine fin 0 I (th (ifP h6 I (fun e2=>?_) (fun e2=>?_)))
 ·rw[if_neg e2];refine au ?_;obtain ⟨hy,hd,ho,rfl,dj,⟨y,v,d,o,f⟩⟩:=G;refine WQ.perm (hs':=uns [hy,hd,ho]::pt rb (ndA lb { R with hl:=true,out:=[],role:=0,lead:=-1 } { s with o:=.slice none 0 0 }) RT::lh::hs) ?_ ?_
  ·exact (List.perm_append_comm_assoc [_,_] [_] hs)
  refine WQ.split dj (WQ.loss 2 En.em I (.inr I) (WQ.join [hy,hd,En.em] fun dj'=>?_));refine WQ.perm (hs':=pt rb (ndA lb { R with hl:=true,out:=[],role:=0,lead:=-1 } { s with o:=.slice none 0 0 }) RT::lh::uns [hy,hd,En.em]::hs) (List.perm_append_comm_assoc [_] [_,_] hs) ?_;exact ret1 I I ⟨_,_,_,I,I,⟨_,I,hy,hd,En.em,I,dj',⟨y,v,d,⟨none,0,I,SlO.nil _ _⟩,f⟩⟩,I,I⟩
 ·rw[if_pos (Decidable.not_not.1 e2)];refine au ?_;exact ret1 I I ⟨_,_,_,I,I,⟨s,I,G⟩,I,I⟩
end
end
section
attribute [local irreducible] Code.wp wpList Calls
theorem mv_one(m:Msg)(p:MA):∀ u∈(mv m p).toList,u.oneCell'=true:=by
 simp only[mv,List.forall_mem_cons]
 repeat' constructor
 simp
section
variable {w0:World} {K lh g:PH} {hs:List PH} {rb lb db c q z k:Nat} {R:Nd} {L:Lg} {D:Dk} {s:NS}
theorem sayGC(iN:Nd3 K rb lb db R L D s lh g)(ho:R.out.length<=1000000)(m:Msg)(p:MA)(hS:MsgS K m p):
  NdC w0 K hs rb lb db R s lh g 137 [.pointer (some ⟨rb,0,none⟩),.agg (mv m p)] (R.say L m) L D (.tuple #[]):=by
 obtain ⟨hL,hy,hd,hq,rfl,dj,⟨y,v,d,⟨aO,cO,eo,so⟩,f⟩⟩:=iN;obtain ⟨sy,sv,sd,sq,f0,f1,f2⟩:=s;dsimp only at eo y v d f;subst eo;refine enter Tryz.func137 qk I I I ?_;refine sq (rg ?_);refine bx 0 I fun b3=>?_;refine WL.perm (hs':=uns [hy,hd,hq]::pt b3 (mv m p) 34::_::lh::hs) (List.perm_append_comm_assoc [_,_,_] [_] hs) (WL.split dj ?_);refine fin 0 I (th (sq (rgm [4] 7 [0,2,4,6,8,12,11,15,16,19] ?_)));refine dldpw qk 3 0 I qk I I ?_;refine dact qk 2 I ?_;refine cl 0 I (Ct.at2p [hy,hd,hq,_] (termGC hL)) ?_;rintro v9 K9 hs9 ⟨_,_,rfl,rfl,rfl,rfl,rfl⟩;refine dnx (by simp) I ?_;refine dact qk 0 I ?_;refine stp 0 3 I I I I ?_;refine dnx (by simp) I ?_;refine dact qk 1 I ?_;refine stp 0 3 I I I I ?_;refine WL.h 3 (pt b3 (mv { m with frm:=R.nd,term:=L.kt } p) 34) ?_;refine dnx (by simp) I ?_;refine dend qk 0 I (th ?_)
 refine rgm [4,3] 10 [0,2,4,6,8,10,13,15,16,18,21] ?_;refine dldpw qk 4 0 I qk I I ?_;refine dldS qk 0 1 I qk I qk ?_;refine dact qk 0 I ?_;refine lit 0 (mv { m with frm:=R.nd,term:=L.kt } p) I (by decide) qk fun b18=>?_;refine dnx (by simp) I ?_;refine dact qk 0 I ?_;refine appS 0 3 _ { m with frm:=R.nd,term:=L.kt } I I I so ⟨p,I,hS⟩ I (mv_one _ _) I (by decide) (by show (R.out.length+1)*160<=_;omega) (by simp[maxLen];omega) fun ao19 c19 g19 o19=>?_;refine dnx (by simp) I ?_;refine dact qk 2 I ?_;refine stp 0 5 I I I I ?_;refine dnext (.inl qk) ?_;have e:(R.say L m).out.length=R.out.length+1:=by simp[Nd.say]
 refine dend qk 0 I (WQ.drop (WQ.join [hy,hd,g19] fun dj'=>WQ.drop1 (WQ.perm (List.perm_append_comm_assoc [_] [_,_] hs) ?_)));exact end0 I ⟨_,_,_,I,⟨⟨sy,sv,sd,.slice ao19 (R.out.length+1) c19,f0,f1,f2⟩,I,Le.refl _,hL,hy,hd,g19,I,dj',y,v,d,⟨ao19,c19,by rw[e],by rw[e];exact o19⟩,f⟩,I⟩
theorem sendGC(iN:Nd3 K rb lb db R L D s lh g)(o:NI c q z k R L D)(hc:c<=900000000)(hk:k<=900000)(j:Nat)(hj:j<7):
  NdC w0 K hs rb lb db R s lh g 148 [.pointer (some ⟨rb,0,none⟩),.int .i64 (j:Nat)] (R.send L (j:Int)) L D (.tuple #[]):=by
 have hp:=o.rb.pr j;have hout:=o.rb.out;unfold Pr.ok at hp;unfold Nd.send;rw[show R.p (j:Int)=R.pr j from rfl];refine enter Tryz.func148 qk I I I ?_;refine sq (rg ?_);refine ixa (sz:=5) (a:=⟨rb,10,none⟩) 4 j I Tryz.underlying101 qk I hj ?_;rw[add_mk];refine fin 1 I (th (sq (sq (rg ?_))));refine ldp 3 0 I I (ndA_pr lb R s hj (k:=3) I) ?_;refine fin 0 I (th (ifB I (fun e1=>?_) (fun e1=>?_)))
 ·rw[if_pos e1];refine rt (rT ?_);exact ret0 I ⟨_,_,_,I,⟨s,I,Le.refl _,iN⟩,I⟩
 ·rw[if_neg (by simp[e1])];refine sk (th (sq (rg ?_)));refine stp 3 0 I I (ndA_pr lb R s hj (k:=3) I) I ?_;obtain ⟨R1,hR1⟩:∃ R1,R1=R.setP (j:Int) { R.pr j with ws:=true }:=⟨_,rfl⟩;have hpj:R1.pr j={ R.pr j with ws:=true }:=by rw[hR1,setP_at,if_pos rfl]
  refine WL.h 0 (pt rb (ndA lb R1 s) RT) ?_ (.here (by rw[hR1,<-(ndA_st lb R s hj { R.pr j with ws:=true }).2.2.2.1 ⟨rfl,rfl,rfl,rfl⟩]));rw[<-hR1];have I1:Nd3 K rb lb db R1 L D s lh g:=⟨iN.l,by rw[hR1];exact iN.g.r⟩;have ho1:R1.out.length<=1000000:=by rw[hR1];show R.out.length<=_;omega
  have hcr:R1.com=R.com/\R1.rnd=R.rnd:=by rw[hR1];exact ⟨I,I⟩
  refine fin 0 I (th (sq (rg ?_)));refine ldp 3 0 I I I ?_;refine cl 0 I (Ct.at 1 I (snapH lb db L D c o.rn.lb iN.l)) ?_;rintro v26 K26 hs26 ⟨h',rfl,hh,le,aV,cV,aD,cD,rfl,xV,xD⟩;subst hh;refine al 0 (.agg #[.int .u64 0,.int .u64 0,.slice none 0 0,.slice none 0 0]) I qk fun b5=>?_;refine stS 0 0 I I qk I I ?_;refine WL.hs (pt b5 (snV L.sn aV cV aD cD) 48::pt rb (ndA lb R1 s) RT::h'::g::hs) I ?_;refine fin 0 I (th (sq (sq (rgm [1,0] 7 [0,2,4,6,8,10,12] ?_))));refine dldp qk 3 0 I I (ndA_pr lb R1 s hj (k:=1) I) ?_;refine dldp qk 1 1 I I I ?_;rw[hpj];refine dcbS qk 0 ((R.pr j).nx<=L.sn.idx) I (by simp) fun b33 h33=>?_;refine dend qk 0 I (th (ifP h33 I (fun e2=>?_) (fun e2=>?_)))
  ·rw[if_pos e2];refine sq (rgm [1,0] 9 [0,2,4,6,8,10,12,14,16] ?_);refine dldp qk 3 0 I I (ndA_pr lb R1 s hj (k:=4) I) ?_;refine dldp qk 1 1 I I I ?_;rw[hpj];refine dend qk 3 I (th (sq (rg ?_)));have hdl:=o.rn.lb.data;obtain ⟨f,hf⟩:∃ f,f=min (R.pr j).of.toNat L.sn.data.length:=⟨_,rfl⟩;rw[show (if (L.sn.data.length:Int)<(R.pr j).of then (L.sn.data.length:Int) else (R.pr j).of)=(f:Int) from by split <;> omega];refine ar 1 I (i64w (x:=((f+256:Nat):Int)) qo) ?_;refine ldp 1 0 I I I ?_;refine fin 3 I (th (sq ?_));obtain ⟨u,hu⟩:∃ u,u=min 256 (L.sn.data.length-f):=⟨_,rfl⟩;rw[show (if (L.sn.data.length:Int)<((f+256:Nat):Int) then (L.sn.data.length:Int) else ((f+256:Nat):Int))=((f+u:Nat):Int) from by split <;> omega]
   have hcut:(L.sn.data.drop (R.pr j).of.toNat).take 256=(L.sn.data.drop f).take u:=by
    rcases Nat.lt_or_ge (R.pr j).of.toNat L.sn.data.length with h|h
    ·rw[show f=(R.pr j).of.toNat by omega,hu,<-List.take_take,show f=(R.pr j).of.toNat by omega];rw[List.take_of_length_le (l:=L.sn.data.drop (R.pr j).of.toNat) (i:=L.sn.data.length-(R.pr j).of.toNat) (by simp)]
    ·rw[List.drop_of_length_le h,show f=L.sn.data.length by omega,List.drop_length]
     simp
   refine rgm [0] 20 [0,2,4,6,8,10,12,14,16,18,20,22,24,26,28,30,32,34,36,39] ?_;refine dldp qk 3 0 I I I ?_;refine dldp qk 1 0 I I I ?_;refine dldp qk 2 0 I I I ?_;refine dldp qk 3 0 I I I ?_;refine dldp qk 1 0 I I I ?_;refine dsl qk 2 f u I I xD I I qo (ys:=bv ((L.sn.data.drop f).take u)) (by simp[bv]) fun ao65 c65 x65=>?_;obtain ⟨M,hM⟩:∃ M:Msg,M={ Msg.zero with kind:=5,to:=(j:Int),idx:=L.sn.idx,lt:=L.sn.term,off:=(f:Int),whole:=L.sn.data.length,vot:=L.sn.vot,data:=(L.sn.data.drop f).take u }:=⟨_,rfl⟩;have hul:((L.sn.data.drop f).take u).length=u:=by simp;omega
   have hmv:mv M ⟨none,0,aV,cV,ao65,c65⟩=#[.int .i64 5,.int .i64 0,.int .i64 (j:Nat),.int .u64 0,.int .u64 L.sn.idx,.int .u64 L.sn.term,.int .u64 0,.int .u64 0,.bool false,.slice none 0 0,.int .i64 (f:Nat),.int .i64 L.sn.data.length,.slice aV L.sn.vot.length cV,.slice ao65 u c65]:=by
    rw[hM];unfold mv;rw[hul]
    rfl
   refine dbd qk 0 (.agg (mv M ⟨none,0,aV,cV,ao65,c65⟩)) I (fun w=>by rw[hmv];kernel_rfl) ?_;refine dact qk 0 I ?_;refine cl 0 I (Ct.at3 [_] (sayGC (I1.le le) ho1 M ⟨none,0,aV,cV,ao65,c65⟩ (by rw[hM];exact ⟨EntsS.nil _ _ _,xV,by rw[hul];exact x65⟩))) ?_;rintro v67 K67 hs67 ⟨_,_,_,rfl,⟨s2,rfl,le2,I2⟩,rfl⟩;refine dnxL (by simp) le2 ?_;refine dend qk 0 I (th (rt (rT (WQ.drop ?_))));have hfM:(min (R.pr j).of (L.sn.data.length:Int))=(f:Int):=by omega
   exact ret0 I ⟨_,_,_,I,⟨s2,by rw[hcut,hfM,<-hM],le.trans le2,by rw[hcut,hfM,<-hM];exact I2⟩,I⟩
  ·rw[if_neg e2];have hnx:0<(R.pr j).nx:=by omega
   have hnm:(R.pr j).nx<18446744073709551616:=by unfold rTop at hp;omega
   refine sk (th (sq (rgm [1] 15 [0,2,4,6,8,10,12,14,16,19,20,22,24,26,28] ?_)));refine dldp qk 3 0 I I I ?_;refine dldp qk 3 0 I I (ndA_pr lb R1 s hj (k:=1) I) ?_;rw[hpj];refine dar qk 0 I (u64w (x:=(((R.pr j).nx:Nat):Int)-1) qo) ?_;refine dact qk 0 I ?_;rw[show (((R.pr j).nx:Nat):Int)-1=(((R.pr j).nx-1:Nat):Int) from by omega];refine cl 0 I (Ct.keep 2 I (termH lb db L D c o.rn.lb qo (iN.l.le le) ((R.pr j).nx-1) qo)) ?_;rintro v78 K78 hs78 ⟨rfl,rfl,rfl⟩;refine dnx (by simp) I ?_;refine dend qk 5 I (th ?_);refine rgm [1] 26 [0,2,4,6,8,10,12,14,16,18,20,22,24,26,28,30,32,34,36,38,40,42,44,46,49,50,53] ?_;refine dldtp [25,6] qk 5 0 I qk I (ndA_pr lb R1 s hj (k:=1) I) ?_;rw[hpj];refine dar qk 0 I (u64w (x:=(((R.pr j).nx:Nat):Int)-1) qo) ?_;rw[show (((R.pr j).nx:Nat):Int)-1=(((R.pr j).nx-1:Nat):Int) from by omega]
   refine dldtp [25] qk 4 0 I qk I I ?_;refine dldtp [25] qk 3 0 I qk I I ?_;refine dldtp [24] qk 3 0 I qk I I ?_;refine dldtp [24] qk 3 0 I qk I (ndA_pr lb R1 s hj (k:=1) I) ?_;rw[hpj];refine dact qk 0 I ?_;refine cl 0 I (Ct.at 2 I (entriesH lb db L D c o.rn.lb qo (iN.l.le le) (R.pr j).nx hnm 8 qo)) ?_;rintro v105 K105 hs105 ⟨h2,rfl,hh2,le2,aE,cE,rfl,xE⟩;subst hh2;refine WL.hs (pt b5 (snV L.sn aV cV aD cD) 48::pt rb (ndA lb R1 s) RT::h2::g::hs) I ?_;refine dnxL (by simp) le2 ?_;obtain ⟨M,hM⟩:∃ M:Msg,M={ Msg.zero with kind:=3,to:=(j:Int),idx:=(R.pr j).nx-1,lt:=(L.trm ((R.pr j).nx-1)).1,com:=R1.com,rnd:=R1.rnd,ents:=partsL L.sn L.l (R.pr j).nx 8 }:=⟨_,rfl⟩;refine dbd qk 0 (.agg (mv M ⟨aE,cE,none,0,none,0⟩)) I (fun w=>by rw[hM];kernel_rfl) ?_;refine dact qk 0 I ?_
   refine cl 0 I (Ct.at3 [_] (sayGC ((I1.le le).le le2) ho1 M ⟨aE,cE,none,0,none,0⟩ (by rw[hM];exact ⟨EntsS.of xE,IsS.nil _ _ _ _,IsS.nil _ _ _ _⟩))) ?_;rintro v107 K107 hs107 ⟨_,_,_,rfl,⟨s2,rfl,le3,I2⟩,rfl⟩;refine dnext (.inl qk) ?_;refine dend qk 0 I (WQ.drop ?_);rw[hcr.1,hcr.2] at hM;exact end0 I ⟨_,_,_,I,⟨s2,by rw[<-hM],(le.trans le2).trans le3,by rw[<-hM];exact I2⟩,I⟩
theorem oth_mem{v:Int}(b:LBd c L)(f:L.cf)(hv:v∈R.oth L):0<=v/\v<7:=(cfgAt_cfg b f L.last).mem (List.mem_filter.1 hv).1
theorem tellGC(iN:Nd3 K rb lb db R L D s lh g)(o:NI c q z k R L D)(hc:c<=900000000)(hk:k<=800000)(a:Bool):
  NdC w0 K hs rb lb db R s lh g 88 [.pointer (some ⟨rb,0,none⟩),.bool a] (R.tell L a) L D (.tuple #[]):=by
 have hrn:=o.rb.rnd;have hol:=oth_len R o.rn.lb o.cf;obtain ⟨R0,hR0⟩:∃ R0,R0=if a=true then { R with rnd:=R.rnd+1 } else R:=⟨_,rfl⟩
 have o0:NI c q z (k+1) R0 L D:=by
  refine o.r (R':=R0) ?_;rw[hR0]
  split
  ·exact { o.rb.up (Nat.le_succ k) with rnd:=by show R.rnd+1<=_;omega }
  ·exact o.rb.up<|Nat.le_succ k
 have I0:Nd3 K rb lb db R0 L D s lh g:=⟨iN.l,by rw[hR0];split;exact iN.g.r;exact iN.g⟩;have hoth:R0.oth L=R.oth L:=by rw[hR0];split <;> rfl
 unfold Nd.tell;rw[<-hR0];generalize hRt:Nd.tellL a L (R.oth L) R0=Rt;refine enter Tryz.func88 qk I I I ?_;refine jn (σ:=Unit) (fun _=>[(0,.pointer (some ⟨rb,0,none⟩)),(1,.bool a)]) (fun _=>pt rb (ndA lb R0 s) RT::lh::g::hs) (fun _=>True) ?_ ?_
 ·refine sq (rg ?_);refine fin 1 I (th (ifB I (fun e1=>?_) (fun e1=>?_)))
  ·refine rg ?_;refine ldp 3 0 I I I ?_;refine ar 0 I (u64w (x:=((R.rnd+1:Nat):Int)) qo) ?_;refine stp 2 0 I I I I ?_;refine WL.h 0 (pt rb (ndA lb { R with rnd:=R.rnd+1 } s) RT) ?_;refine fin 0 I ?_;exact jx () trivial ⟨I,I,trivial⟩ I (by rw[hR0,if_pos e1])
  ·refine sk ?_;exact jx () trivial ⟨I,I,trivial⟩ I (by rw[hR0,if_neg (by simp[e1])])
 rintro _ _;refine sq (rg ?_);refine cl 1 I (Ct.at2p [] (othersGC o0 hc I0.l)) ?_;rintro v15 K15 hs15 ⟨_,_,rfl,rfl,rfl,le,ao,cap,rfl,x⟩;rw[hoth] at x ⊢;refine fin 2 I (th (bk ?_))
 refine loop (σ:=Nat×Nd×PH×NS×PH×PH) (fun u=>[(0,.pointer (some ⟨rb,0,none⟩)),(1,.bool a),(15,.slice ao (R.oth L).length cap),(16,.int .i64 (((R.oth L).length:Nat):Int)),(17,.int .i64 u.1)]) (fun u=>u.2.2.1)
  (fun u=>pt rb (ndA lb u.2.1 u.2.2.2.1) RT::u.2.2.2.2.1::u.2.2.2.2.2::hs)
  (fun u=>u.1<=(R.oth L).length/\Nd.tellL a L ((R.oth L).drop u.1) u.2.1=Rt/\NI c q z (k+1+u.1) u.2.1 L D/\Nd3 u.2.2.1 rb lb db u.2.1 L D u.2.2.2.1 u.2.2.2.2.1 u.2.2.2.2.2/\Le K15 u.2.2.1)
  (fun u=>(R.oth L).length-u.1) (0,R0,K15,s,_,g) ⟨Nat.zero_le _,hRt,o0,I0.le le,Le.refl _⟩ ⟨rfl,rfl,rfl,rfl,rfl,trivial⟩ rfl rfl ?_
 rintro ⟨i,Ri,Ki,si,li,gi⟩ ⟨hi,hT,oi,Ii,lei⟩;dsimp only at hi hT oi Ii lei ⊢;refine sq (rg ?_);refine cmpS 0 I fun b18 h18=>?_;refine fin 0 I (th (sq (ifP h18 I (fun e3=>?_) (fun e3=>?_))))
 ·have hil:i<(R.oth L).length:=by omega
  have hv:=oth_mem o.rn.lb o.cf (List.getElem_mem hil);have hdr:(R.oth L).drop i=(R.oth L)[i]::(R.oth L).drop (i+1):=List.drop_eq_getElem_cons hil;obtain ⟨j,hj⟩:∃ j:Nat,(R.oth L)[i]=(j:Int):=⟨(R.oth L)[i].toNat,by omega⟩;have hgx:=iv_get hil;rw[hj] at hv hdr hgx;refine sk (th (sq (bk (sq (rg ?_)))));refine ix1 0 i I I I x hgx fun a19 hc19=>?_;obtain ⟨y,hy,ley⟩:=In.le (K:=K15) (hs:=[]) (.inl rfl) lei;refine ld 0 I (.inl I) (hc19.le lei) ?_;refine fin 1 I (th (sq (sq (rg ?_))));rw[hdr] at hT;unfold Nd.tellL at hT;refine fin 1 I (th (ifB I (fun e4=>?_) (fun e4=>?_)))
  ·rw[if_pos e4] at hT;have o1:NI c q z (k+1+i) (Ri.setP (j:Int) { Ri.p (j:Int) with ws:=false }) L D:=oi.r (oi.rb.setP _ (p:={ Ri.p (j:Int) with ws:=false }) (oi.rb.pr j));refine rg ?_;refine ixa (sz:=5) (a:=⟨rb,10,none⟩) 4 j I Tryz.underlying101 qk I qo ?_;rw[add_mk];refine stp 1 0 I I (ndA_pr lb Ri si qo (k:=3) I) I ?_;refine WL.h 0 (pt rb (ndA lb (Ri.setP (j:Int) { Ri.p (j:Int) with ws:=false }) si) RT) ?_ (.here (by rw[<-(ndA_st lb Ri si (show j<7 by omega) { Ri.p (j:Int) with ws:=false }).2.2.2.1 ⟨rfl,rfl,rfl,rfl⟩]));refine fin 0 I (th (rg ?_));refine cl 2 I (sendGC ⟨Ii.l,Ii.g.r⟩ o1 hc qo j qo) ?_;rintro v30 K30 hs30 ⟨_,_,_,rfl,⟨s2,rfl,le2,I2⟩,rfl⟩;refine fin 0 I (bl (th (rg ?_)));refine ar 0 I (i64w (x:=((i+1:Nat):Int)) qo) ?_;refine fin 1 I ?_;exact again (x:=(i,Ri,Ki,si,li,gi)) (i+1,_,K30,s2,_,_) ⟨I,I,I,I,I,trivial⟩ I I ⟨by omega,hT,o1.r (o1.rb.send L _),I2,lei.trans le2⟩ (by dsimp only;omega)
  ·rw[if_neg (by simp[e4])] at hT;refine sk (th (rg ?_));refine cl 2 I (sendGC Ii oi hc qo j qo) ?_;rintro v30 K30 hs30 ⟨_,_,_,rfl,⟨s2,rfl,le2,I2⟩,rfl⟩;refine fin 0 I (bl (th (rg ?_)));refine ar 0 I (i64w (x:=((i+1:Nat):Int)) qo) ?_;refine fin 1 I ?_;exact again (x:=(i,Ri,Ki,si,li,gi)) (i+1,_,K30,s2,_,_) ⟨I,I,I,I,I,trivial⟩ I I ⟨by omega,hT,oi.r (oi.rb.send L _),I2,lei.trans le2⟩ (by dsimp only;omega)
 ·obtain rfl:i=(R.oth L).length:=by omega
  rw[List.drop_length] at hT;unfold Nd.tellL at hT;refine ex (xt (xt (xb ?_)));exact end0 I ⟨_,_,_,I,⟨si,by rw[<-hT],le.trans lei,by rw[<-hT];exact Ii⟩,I⟩
end
end
section
def msL(R:Nd)(j:Nat):List Nat:=(List.range 7).map fun i=>if i<j then (R.pr i).mt else 0
theorem msL_set(R:Nd){j:Nat}(hj:j<7):(msL R j).set j (R.pr j).mt=msL R (j+1):=by
 obtain rfl|rfl|rfl|rfl|rfl|rfl|rfl:=nat7 hj
 all_goals rfl
theorem msL_len(R:Nd)(j:Nat):(msL R j).length=7:=by simp[msL]
theorem agreedV_congr{c:List Int}{f g:Int->Nat}(h:∀ v∈c,f v=g v):agreedV c f=agreedV c g:=by
 unfold agreedV;rw[List.map_congr_left (g:=fun v=>((g v:Nat):Int)) fun v hv=>by rw[h v hv]]
theorem ms_get(R:Nd)(n:Nat){nd:Int}(hnd:nd=R.nd)(h:0<=nd/\nd<7){v:Int}(hv:0<=v/\v<7):((msL R 7).set nd.toNat n).getD v.toNat 0=if v=R.nd then n else (R.p v).mt:=by
 subst hnd;have hl:=msL_len R 7;rw[List.getD_eq_getElem?_getD,List.getElem?_set]
 by_cases e:v=R.nd
 ·rw[e,if_pos rfl,if_pos qo,if_pos rfl]
  rfl
 ·rw[if_neg qo,if_neg e];unfold msL Nd.p;rw[List.getElem?_map,List.getElem?_range qo]
  simp
  omega
attribute [local irreducible] Code.wp wpList Calls
section
variable {w0:World} {K lh g:PH} {hs:List PH} {rb lb db c q z k:Nat} {R:Nd} {L:Lg} {D:Dk} {s:NS}
theorem agreeGC(iN:Nd3 K rb lb db R L D s lh g)(o:NI c q z k R L D)(hc:c<=900000000)(hk:k<=700000):
  NdC w0 K hs rb lb db R s lh g 145 [.pointer (some ⟨rb,0,none⟩)] (R.agree L) L D (.tuple #[]):=by
 have hcf:Cfg L.cfg.1:=cfgAt_cfg o.rn.lb o.cf L.last;have hlen:=hcf.len;have hlast:=o.last qo;have hndr:=o.rb.nd;unfold Nd.agree;refine enter Tryz.func145 qk I I I ?_;refine sq (rg ?_);refine cl 1 I (Ct.at2p [] (configGC o hc iN.l)) ?_;rintro v12 K12 hs12 ⟨_,lh,rfl,rfl,rfl,le1,ao,cap,rfl,x⟩;have I1:=iN.le le1;refine al 3 (.agg #[.slice none 0 0]) I qk fun b2=>?_;refine stS 0 0 I I qk I I ?_;refine WL.hs (pt b2 #[.slice ao L.cfg.1.length cap] 46::pt rb (ndA lb R s) RT::lh::g::hs) I ?_;refine fin 1 I (th (sq (rg ?_)));refine mks 0 7 (.int .u64 0) I I I I (by decide) (by decide) (by decide) (by decide) fun bm om=>?_;refine fin 1 I (th (sq (sq (rg ?_))));refine fin 3 I (th (bk ?_))
 refine loop (σ:=Nat) (fun i=>[(0,.pointer (some ⟨rb,0,none⟩)),(2,.pointer (some ⟨b2,0,none⟩)),(4,.slice (some ⟨bm,0,none⟩) 7 7),(17,.int .i64 7),(18,.int .i64 (i:Nat))]) (fun _=>K12)
  (fun i=>pt bm (kA true [] (msL R i) []) 29::pt b2 #[.slice ao L.cfg.1.length cap] 46::pt rb (ndA lb R s) RT::lh::g::hs) (fun i=>i<=7) (fun i=>7-i) 0 qo ⟨rfl,rfl,rfl,rfl,rfl,trivial⟩ rfl rfl ?_
 intro j hj;refine sq (rg ?_);refine cmpS 0 I fun b19 h19=>?_;refine fin 0 I (th (sq (ifP h19 I (fun e2=>?_) (fun e2=>?_))))
 ·have hj7:j<7:=by omega
  have hml:=msL_len R j;refine sk (th (sq (bk (sq (rg ?_)))));refine fin 2 I (th (rg ?_));refine ixa (sz:=5) (a:=⟨rb,10,none⟩) 6 j I Tryz.underlying101 qk I hj7 ?_;rw[add_mk];refine ldp 1 2 I I (ndA_pr lb R s hj7 (k:=0) I) ?_;have xl:=kA_isS (kd:=true) (g:=bm) (e:=29) (pre:=[]) (xs:=msL R j) (post:=[]) (cap:=7) qo;rw[hml] at xl;refine ixs 0 j I I xl hj7 (by decide) fun a30 h30=>?_;cases h30;rw[add_mk,Nat.zero_add,Nat.mul_one];have hg:=kA_get (kd:=true) (pre:=[]) (xs:=msL R j) (post:=[]) (i:=j) qo;rw[List.length_nil,Nat.zero_add] at hg;refine stp 0 0 I I hg I ?_
  refine WL.h 0 (pt bm (kA true [] (msL R (j+1)) []) 29) ?_ (.here (by
   rw[<-msL_set R hj7,<-kA_set qo];simp[kI]))
  refine fin 0 I (bl (th (rg ?_)));refine ar 0 I (i64w (x:=((j+1:Nat):Int)) qo) ?_;refine fin 1 I ?_;exact again (x:=j) (j+1) ⟨I,I,I,I,I,trivial⟩ I I qo qo
 ·obtain rfl:j=7:=by omega
  have hml:=msL_len R 7;obtain ⟨nd,hnd⟩:∃ nd:Nat,R.nd=(nd:Int):=⟨R.nd.toNat,by omega⟩;refine ex (xt (xt (xb (th (sq (rgm [2] 11 [0,2,4,6,8,10,12,14,16,19,20,23] ?_))))));refine dldpw qk 4 0 I qk I I ?_;refine dldpw qk 3 0 I qk I I ?_;refine dact qk 0 I ?_;refine cl 0 I (Ct.keep 3 I (lastH lb db L D c o.rn.lb qo I1.l)) ?_;rintro v41 K41 hs41 ⟨rfl,rfl,rfl⟩;refine dnx (by simp) I ?_;refine dixs qk 0 nd I hnd qo ?_;rw[add_mk,Nat.zero_add,Nat.mul_one];refine dact qk 0 I ?_;have hg:=kA_get (kd:=true) (pre:=[]) (xs:=msL R 7) (post:=[]) (i:=nd) qo;rw[List.length_nil,Nat.zero_add] at hg;refine stp 0 0 I I hg I ?_
  refine WL.h 0 (pt bm (kA true [] ((msL R 7).set nd L.last) []) 29) ?_ (.here (by
   rw[<-kA_set qo];simp[kI,Lg.last]))
  refine dnx (by simp) I ?_;refine dend qk 0 I (th (sq (rg ?_)));refine ldS 0 1 I I qk ?_;have hml2:((msL R 7).set nd L.last).length=7:=by simp[hml]
  have xl:=kA_isS (kd:=true) (g:=bm) (e:=29) (pre:=[]) (xs:=(msL R 7).set nd L.last) (post:=[]) (cap:=7) qo;rw[hml2] at xl;refine cl 1 I (agreedGC (.inl I) ao cap L.cfg.1 x hcf (.inr ⟨0,I⟩) (some ⟨bm,0,none⟩) ((msL R 7).set nd L.last) hml2 xl) ?_;rintro v45 K45 hs45 ⟨rfl,rfl,rfl⟩;obtain ⟨n,hn⟩:∃ n,n=agreedV L.cfg.1 fun v=>if v=R.nd then L.last else (R.p v).mt:=⟨_,rfl⟩
  rw[agreedV_congr (g:=fun v=>if v=R.nd then L.last else (R.p v).mt) (fun v hv=>by
   have:=ms_get R L.last (nd:=R.nd) rfl hndr (hcf.mem hv)
   rwa [hnd] at this ⊢),<-hn]
  have hnb:n<=rTop:=by
   rw[hn];refine agreedV_le fun v hv=>?_;have:=(o.rb.pr v.toNat).1;unfold Nd.p
   split <;> omega
  refine fin 1 I (th (sq (rg ?_)));refine ldp 3 2 I I I ?_;refine cl 1 I (Ct.keep 3 I (termH lb db L D c o.rn.lb qo I1.l n (by unfold rTop at hnb;omega))) ?_;rintro v52 K52 hs52 ⟨rfl,rfl,rfl⟩;refine fin 5 I (th ?_);refine jn (σ:=Unit) (fun _=>[(0,.pointer (some ⟨rb,0,none⟩)),(2,.pointer (some ⟨b2,0,none⟩))]) (fun _=>pt bm (kA true [] ((msL R 7).set nd L.last) []) 29::pt b2 #[.slice ao L.cfg.1.length cap] 46::pt rb (ndA lb (R.agr1 L) s) RT::lh::g::hs) (fun _=>True) ?_ ?_
  ·refine sq (rg ?_);refine ldp 4 2 I I I ?_;refine cmpS 0 I fun b60 h60=>?_
   refine' bja (q:=(L.trm n).1=L.kt) 1 5 66 [60,61] h60 I I I I I I I (fun _=>?x4) (fun b66 h66=>?_)
   case x4=>
    refine cl 2 I (Ct.at2p [_,_] (termGC I1.l)) ?_;rintro v64 K64 hs64 ⟨_,_,rfl,rfl,rfl,rfl,rfl⟩;refine cmpS 0 I fun b65 h65=>?_;exact fin 1 I (bjx (h65.trans (by unfold Lg.trm;omega)) rfl rfl rfl)
   refine fin 0 I<|th (ifP h66 I (fun e6=>?_) (fun e6=>?_))
   ·refine rg ?_;refine stp 4 2 I I I I ?_;refine WL.h 2 (pt rb (ndA lb { R with com:=n } s) RT) ?_;refine fin 0 I ?_;exact jx () trivial ⟨I,I,trivial⟩ I (by unfold Nd.agr1;dsimp only;rw[<-hn,if_pos qo])
   ·refine sk ?_;exact jx () trivial ⟨I,I,trivial⟩ I (by unfold Nd.agr1;dsimp only;rw[<-hn,if_neg qo])
  rintro _ _;obtain ⟨R1,hR1⟩:∃ R1,R1=R.agr1 L:=⟨_,rfl⟩;rw[<-hR1];have o1:NI c q z k R1 L D:=by rw[hR1];exact o.r (o.rb.agr1 o.rn.lb qo)
  have I2:Nd3 _ rb lb db R1 L D s _ g:=⟨I1.l,by
   rw[hR1];unfold Nd.agr1;dsimp only
   split
   ·exact I1.g.r
   ·exact I1.g⟩
  have hoR:R1.oth L=R1.oth L:=rfl;unfold Nd.agr2;refine sq (rg ?_);refine cl 1 I (Ct.at2p [_,_] (configGC o1 hc I2.l)) ?_;rintro v73 K73 hs73 ⟨_,_,rfl,rfl,rfl,le2,ao2,cap2,rfl,x2⟩;refine stS 3 1 I I qk I I ?_;refine WL.h 1 (pt b2 #[.slice ao2 L.cfg.1.length cap2] 46) ?_;refine fin 1 I (th (sq (rgm [2,1] 15 [0,2,4,6,8,10,12,14,16,18,20,22,25,26,28] ?_)));refine dldp qk 4 0 I I I ?_;refine dcmp qk 0 (L.cfg.2<=R1.com) I (by simp) (fun h7=>?_) (fun h7=>?_)
  ·refine dldS qk 1 1 I qk I qk ?_;refine dldp qk 3 0 I I I ?_;refine dact qk 0 I ?_;refine cl 0 I (votesGC (.inl I) ao2 cap2 L.cfg.1 x2 qo R1.nd) ?_;rintro v88 K88 hs88 ⟨rfl,rfl,rfl⟩;refine dnx (by simp) I ?_;refine dend qk 2 I (th (ifB I (fun h8=>?_) (fun h8=>?_)))
   ·have h8':R1.nd∉L.cfg.1:=by simpa using h8
    rw[if_pos ⟨h7,h8'⟩];refine sq (rg ?_);refine cl 1 I (Ct.at3 [_,_] (tellGC (I2.le le2) o1 hc qo true)) ?_;rintro v92 K92 hs92 ⟨_,_,_,rfl,⟨s2,rfl,le3,I3⟩,rfl⟩;refine fin 0 I (th (rg ?_));refine WL.perm (hs':=pt rb (ndA lb (R1.tell L true) s2) RT::_::_::pt bm (kA true [] ((msL R 7).set nd L.last) []) 29::pt b2 #[.slice ao2 L.cfg.1.length cap2] 46::hs) (List.perm_append_comm_assoc [_,_] [_,_,_] hs) ?_;refine cl 1 I (followGC (-1)) ?_;rintro v94 K94 hs94 ⟨rfl,rfl,rfl⟩;refine fin 0 I (WQ.perm (List.perm_append_comm_assoc [_,_,_] [_,_] hs) (WQ.drop (WQ.drop ?_)));exact end0 I ⟨_,_,_,I,⟨s2,I,(le1.trans le2).trans le3,I3.l,I3.g.r⟩,I⟩
   ·have h8':R1.nd∈L.cfg.1:=by simpa using h8
    rw[if_neg (fun h=>h.2 h8')];refine sk (WQ.drop (WQ.drop ?_));exact end0 I ⟨_,_,_,I,⟨s,I,le1.trans le2,I2.le le2⟩,I⟩
  ·rw[if_neg (fun h=>h7 h.1)];refine dact qk 6 I ?_;refine WL.pures 1 I ?_;refine dnx (by simp) I ?_;refine dend qk 2 I (th (ifF I (sk (WQ.drop (WQ.drop ?_)))));exact end0 I ⟨_,_,_,I,⟨s,I,le1.trans le2,I2.le le2⟩,I⟩
end
end
section
theorem ndA_put(lb:Nat)(R:Nd)(s:NS){j:Nat}(hj:j<7)(p:Pr):((ndA lb R s).toList.take (10+j*5)++(#[.int .u64 p.mt,.int .u64 p.nx,.int .u64 p.rd,.bool p.ws,.int .i64 p.of]:Array Value).toList ++
  (ndA lb R s).toList.drop (10+j*5+(#[.int .u64 p.mt,.int .u64 p.nx,.int .u64 p.rd,.bool p.ws,.int .i64 p.of]:Array Value).toList.length)).toArray=ndA lb (R.setP (j:Int) p) s:=by
 obtain rfl|rfl|rfl|rfl|rfl|rfl|rfl:=nat7 hj
 all_goals rfl
def Nd.upj(R:Nd)(L:Lg)(j:Nat):Nd:={ R with role:=2,lead:=R.nd,el:=0,pr:=fun i=>if i<j then Pr.new (L.last+1) else R.pr i }
theorem upj_set(R:Nd)(L:Lg)(j:Nat):(R.upj L j).setP (j:Int) (Pr.new (L.last+1))=R.upj L (j+1):=by
 unfold Nd.setP Nd.upj;simp only[Nd.mk.injEq,true_and,and_true]
 funext i
 simp only[Int.toNat_natCast]
 split
 ·rw[if_pos qo]
 ·split
  ·rw[if_pos qo]
  ·rw[if_neg qo]
attribute [local irreducible] Code.wp wpList Calls
section
variable {w0:World} {K lh g:PH} {hs:List PH} {rb lb db c q z k:Nat} {R:Nd} {L:Lg} {D:Dk} {s:NS}
theorem layGC(iN:Nd3 K rb lb db R L D s lh g)(o:NI c q z k R L D)(hc:c<=800000000)(hk:k<=600000)(kind:Int)(data:List UInt8)(hdl:data.length<1099511627776)(aD:Option Addr)(cD:Nat)(x:IsS K aD data.length cD 1 (bv data)):
  NdC w0 K hs rb lb db R s lh g 83 [.pointer (some ⟨rb,0,none⟩),.int .i64 kind,.slice aD data.length cD] (R.lay L D kind data).1 (R.lay L D kind data).2.1 (R.lay L D kind data).2.2.1
   (.tuple #[.int .u64 (((R.lay L D kind data).2.2.2.1:Nat):Int),.int .u64 (((R.lay L D kind data).2.2.2.2.1:Nat):Int),.int .i64 (R.lay L D kind data).2.2.2.2.2]):=by
 have hlast:=o.last qo;have hkt:=o.rn.lb.kt;obtain ⟨e,he⟩:∃ e:Ent,e=⟨L.last+1,L.kt,kind,data⟩:=⟨_,rfl⟩;have hbe:e.idx<=mxU/\e.term<=mxU:=by rw[he];exact ⟨by show L.last+1<=mxU;unfold rTop at hlast;unfold mxU;omega,hkt⟩
 have hbE:∀ y∈[e],entB y:=fun y hy=>by rw[List.mem_singleton.1 hy];exact ⟨hbe.1,hbe.2,by rw[he];exact hdl⟩
 have a:=o.append e hbe qo;unfold Nd.lay;rw[<-he];have hap:=fun (K2:PH) (hL:LgH K2 lb db L D lh) (ao:Option Addr) (cap:Nat) (xs:SlS 4 (EntC K2) K2 ao [e].length cap [e]) (hs':List PH)=>appendH (w0:=w0) (hs:=hs') lb db L D c o.rn.lb o.rn.ok hL ao cap [e] xs hbE (by simp only[List.length_singleton];omega);generalize L.append [e] D=A at a hap ⊢;obtain ⟨L1,D1,c1⟩:=A;dsimp only at a hap ⊢;refine enter Tryz.func83 qk I I I ?_;refine sq (rg ?_);refine fin 3 I (th (sq (rg ?_)));refine ldp 3 0 I I I ?_;refine cl 0 I (Ct.keep 1 I (lastH lb db L D c o.rn.lb qo iN.l)) ?_;rintro v14 K14 hs14 ⟨rfl,rfl,rfl⟩;refine ar 0 I (u64w (x:=((L.last+1:Nat):Int)) (by unfold rTop at hlast;omega)) ?_;refine cl 1 I (Ct.at2p [] (termGC iN.l)) ?_;rintro v17 K17 hs17 ⟨_,lh,rfl,rfl,rfl,rfl,rfl⟩;refine bd 2 (.agg #[.int .u64 (L.last+1:Nat),.int .u64 L.kt,.int .i64 kind,.slice aD data.length cD]) I (fun w=>by kernel_rfl) ?_
 refine al 0 (.agg #[.int .u64 0,.int .u64 0,.int .i64 0,.slice none 0 0]) I qk fun b9=>?_;refine stS 0 0 I I qk I I ?_;refine WL.hs (pt b9 (e.v aD cD) 51::pt rb (ndA lb R s) RT::lh::g::hs) (by rw[he];rfl) ?_;refine fin 0 I (th (sq (rgm [0,1] 8 [0,2,4,6,8,10,13,15,17,18] ?_)));refine dldtp [7] qk 4 1 I qk I I ?_;refine dldSt [7,6] qk 0 0 I qk I qk ?_;refine dact qk 0 I ?_;refine lit 0 (e.v aD cD) I (by decide) qk fun b27=>?_;refine WL.frz fun K2 l1 l2=>?_
 have xs:SlS 4 (EntC K2) K2 (some ⟨b27,0,none⟩) [e].length 1 [e]:=⟨[(e.v aD cD).toList],rfl,by
  have:=(Own.ofPt (b:=b27) (c:=e.v aD cD) (e:=51) (n:=1) (size:=4) rfl (by decide)).isS.le l2;simpa using this,⟨⟨aD,cD,rfl,by rw[he];exact x.le l1⟩,trivial⟩,by simp[Ent.v]⟩
 refine dnxL (by simp) l1 ?_;refine dact qk 0 I ?_;refine cl 0 I (Ct.at 2 I (hap _ (iN.l.le l1) _ _ xs _)) ?_;rintro v28 K28 hs28 ⟨h2,rfl,le2,hL2,rfl⟩;refine WL.hs (pt b9 (e.v aD cD) 51::pt rb (ndA lb R s) RT::h2::g::hs) I ?_;refine dnxL (by simp) le2 ?_;refine dact qk 0 I ?_;refine cl 0 I (Ct.at3 [_] (didGC (lh:=h2) ((iN.g.le l1).le le2) c1)) ?_;rintro v29 K29 hs29 ⟨_,lh,_,rfl,rfl,⟨s1,rfl,G1⟩,rfl,rfl⟩;refine dnext (.inl qk) ?_;refine dend qk 1 I (th (sq (sq (rg ?_))));refine cmpS 1 I fun b31 h31=>?_;refine fin 0 I (th (ifP h31 I (fun e2=>?_) (fun e2=>?_)))
 ·subst e2;rw[if_neg (by simp)];dsimp only;have b:=a.sync;have hsy:=fun (K2:PH) (h:PH) (hL:LgH K2 lb db L1 D1 h) (hs':List PH)=>syncH' (w0:=w0) (hs:=hs') lb db L1 D1 (c+12) a.rn.lb qo a.rn.ok hL;generalize L1.sync D1=B at b hsy ⊢;obtain ⟨L2,D2,c2⟩:=B;dsimp only at b hsy ⊢;refine rg ?_;refine ldp 4 1 I I I ?_;refine cl 0 I (Ct.at 2 I (hsy _ _ hL2 _)) ?_;rintro v37 K37 hs37 ⟨h3,rfl,le3,hL3,rfl⟩;refine WL.hs (pt b9 (e.v aD cD) 51::pt rb (ndA lb R s1) RT::h3::_::hs) I ?_;refine cl 0 I (Ct.at3 [_] (didGC (lh:=h3) (G1.le le3) c2)) ?_;rintro v38 K38 hs38 ⟨_,lh,_,rfl,rfl,⟨s2,rfl,G2⟩,rfl,rfl⟩;refine fin 1 I (th (sq (sq (rg ?_))));refine cmpS 1 I fun b40 h40=>?_;refine fin 0 I (th (ifP h40 I (fun e4=>?_) (fun e4=>?_)))
  ·rw[if_pos e4];refine sq (rg ?_);refine fin 4 I (th (rt (rT (WQ.drop ?_))));exact ret3 I I I I ⟨_,_,_,I,⟨s2,I,(l1.trans le2).trans le3,hL3,G2⟩,I⟩
  ·obtain rfl:c2=0:=Decidable.not_not.1 e4;rw[show (R.did 0).did 0=R from rfl] at G2 ⊢;rw[if_neg (by simp)];dsimp only;unfold Nd.lay2;have o2:NI (c+13) (q+1) z k R L2 D2:=b;refine sk (th (sq (rg ?_)));refine cl 1 I (Ct.at3 [_] (agreeGC ⟨hL3,G2⟩ o2 qo qo)) ?_;rintro v43 K43 hs43 ⟨_,_,_,rfl,⟨s3,rfl,le4,I4⟩,rfl⟩;have o3:=o2.r (o2.rb.agree o2.rn.lb o2.cf qo);refine fin 0 I (th ?_)
   refine jnK (σ:=PH×NS×PH×PH) (fun _=>[(9,.pointer (some ⟨b9,0,none⟩))]) (fun u=>u.1) (fun u=>pt b9 (e.v aD cD) 51::pt rb (ndA lb (if (R.agree L2).role=2 then (R.agree L2).tell L2 false else R.agree L2) u.2.1) RT::u.2.2.1::u.2.2.2::hs)
    (fun u=>Le K43 u.1/\Nd3 u.1 rb lb db (if (R.agree L2).role=2 then (R.agree L2).tell L2 false else R.agree L2) L2 D2 u.2.1 u.2.2.1 u.2.2.2) ?_ ?_
   ·refine sq (rg ?_);refine ldp 3 1 I I I ?_;refine cmpS 0 I fun b48 h48=>?_;refine fin 0 I (th (ifP h48 I (fun e6=>?_) (fun e6=>?_)))
    ·rw[if_pos e6];refine rg ?_;refine cl 1 I (Ct.at3 [_] (tellGC I4 o3 qo qo false)) ?_;rintro v50 K50 hs50 ⟨_,_,_,rfl,⟨s4,rfl,le5,I5⟩,rfl⟩;refine fin 0 I ?_;exact jxK (K50,s4,_,_) ⟨le5,I5⟩ ⟨I,trivial⟩ I I
    ·rw[if_neg e6];refine sk ?_;exact jxK (K43,s3,_,_) ⟨Le.refl _,I4⟩ ⟨I,trivial⟩ I I
   ·rintro ⟨K5,s5,l5,g5⟩ ⟨le5,I5⟩;dsimp only at le5 I5 ⊢;refine sq (rgm [0] 7 [0,2,4,6,8,10,12] ?_);refine dldp qk 1 0 (v:=.int .u64 (L.last+1:Nat)) I I (by rw[he];rfl) ?_;refine dldp qk 1 0 (v:=.int .u64 L.kt) I I (by rw[he];rfl) ?_;refine dend qk 3 I (th (rt (WQ.drop ?_)));exact ret3 I I I I ⟨_,_,_,I,⟨s5,I,(((l1.trans le2).trans le3).trans le4).trans le5,I5⟩,I⟩
 ·rw[if_pos e2];refine sk (th (sq (sq (rg ?_))));refine cmpS 1 I fun b40 h40=>?_;refine fin 0 I (th (ifP h40 I (fun e8=>?_) (fun e8=>absurd e2 e8)));refine sq (rg ?_);refine fin 4 I (th (rt (rT (WQ.drop ?_))));exact ret3 I I I I ⟨_,_,_,I,⟨s1,I,l1.trans le2,hL2,G1⟩,I⟩
theorem electGC(iN:Nd3 K rb lb db R L D s lh g)(o:NI c q z k R L D)(hc:c<=800000000)(hk:k<=600000)(vs:List Int)(hvs:vs.length<=7)(ao:Option Addr)(cap:Nat)(x:IsS K ao vs.length cap 1 (iv vs)):
  NdC w0 K hs rb lb db R s lh g 140 [.pointer (some ⟨rb,0,none⟩),.agg #[.slice ao vs.length cap]] (R.elect L D vs).1 (R.elect L D vs).2.1 (R.elect L D vs).2.2.1 (.int .i64 (R.elect L D vs).2.2.2):=by
 obtain ⟨hL,hy,hd,hq,rfl,dj,⟨⟨aY,cY,eY,oY⟩,v,d,ou,f⟩⟩:=iN;obtain ⟨sy,sv,sd,so,f0,f1,f2⟩:=s;dsimp only at eY v d ou f;subst eY;have hyl:=o.rb.yes;have hlast:=o.last qo;unfold Nd.elect;refine enter Tryz.func140 qk I I I ?_;refine sq (rg ?_);refine bx 0 I fun b3=>?_;refine WL.perm (hs':=uns [hy,hd,hq]::pt b3 #[.slice ao vs.length cap] 46::pt rb (ndA lb R ⟨.slice aY R.yes.length cY,sv,sd,so,f0,f1,f2⟩) RT::lh::hs) (List.perm_append_comm_assoc [_,_,_] [_] hs) (WL.split dj ?_);refine fin 1 I (th (sq (sq (rgm [4,3] 7 [0,2,4,6,8,11,12] ?_))));refine dldS qk 0 1 I qk I qk ?_;refine dldp qk 3 0 I I I ?_;refine dact qk 0 I ?_;refine cl 0 I (quorGC (.inl I) ao cap vs x qo (.inr ⟨0,I⟩) aY cY R.yes oY.isS qo) ?_;rintro v14 K14 hs14 ⟨rfl,rfl,rfl⟩;refine dnx (by simp) I ?_;refine dend qk 1 I (th (ifB I (fun h1=>?_) (fun h1=>?_)))
 ·have h1':quor vs R.yes=false:=by simpa using h1
  rw[if_pos h1'];refine sq (rg ?_);refine fin 1 I (th (rt (rT (WQ.join [hy,hd,hq] fun dj'=>WQ.drop1 (WQ.perm (List.perm_append_comm_assoc [_] [_,_] hs) ?_)))));exact ret1 I I ⟨_,_,_,I,⟨⟨_,sv,sd,so,f0,f1,f2⟩,I,Le.refl _,hL,hy,hd,hq,I,dj',⟨aY,cY,I,oY⟩,v,d,ou,f⟩,I⟩
 ·have h1':quor vs R.yes=true:=by simpa using h1
  rw[if_neg (by simp[h1'])];refine sk (th (WC.join [hy,hd,hq] fun dj'=>WC.perm (List.perm_append_comm_assoc [_] [_,_,_] hs) ?_));have G:NdH K14 rb R ⟨.slice aY R.yes.length cY,sv,sd,so,f0,f1,f2⟩ (uns [hy,hd,hq]):=⟨hy,hd,hq,rfl,dj',⟨aY,cY,rfl,oY⟩,v,d,ou,f⟩;generalize (⟨.slice aY R.yes.length cY,sv,sd,so,f0,f1,f2⟩:NS)=s at G ⊢;generalize uns [hy,hd,hq]=g at G ⊢;refine sq (rg ?_);refine ldp 6 1 I I I ?_;refine stp 2 1 I I I I ?_;refine stp 2 1 I I I I ?_;refine stp 2 1 I I I I ?_;refine WL.h 1 (pt rb (ndA lb (R.upj L 0) s) RT) ?_;refine fin 0 I (th (sq (sq (rg ?_))));refine fin 1 I (th (bk ?_))
  refine loop (σ:=Nat) (fun j=>[(0,.pointer (some ⟨rb,0,none⟩)),(29,.int .i64 (j:Nat))]) (fun _=>K14)
   (fun j=>pt b3 #[.slice ao vs.length cap] 46::pt rb (ndA lb (R.upj L j) s) RT::lh::g::hs) (fun j=>j<=7) (fun j=>7-j) 0 qo ⟨rfl,rfl,trivial⟩ rfl rfl ?_
  intro j hj;refine sq (rg ?_);refine cmpS 0 I fun b30 h30=>?_;refine fin 0 I (th (sq (ifP h30 I (fun e3=>?_) (fun e3=>?_))))
  ·have hj7:j<7:=by omega
   refine sk (th (sq (bk (sq (rg ?_)))));refine fin 2 I (th (rgm [1] 12 [0,2,4,6,8,10,18,20,13,14,16,22,25] ?_));refine dldpw qk 5 0 I qk I I ?_;refine dact qk 2 I ?_;refine cl 0 I (Ct.keep 2 I (lastH lb db L D c o.rn.lb qo hL)) ?_;rintro v38 K38 hs38 ⟨rfl,rfl,rfl⟩;refine dnx (by simp) I ?_;refine dar qk 0 I (u64w (x:=((L.last+1:Nat):Int)) (by unfold rTop at hlast;omega)) ?_;refine dbd qk 0 (.agg #[.int .u64 0,.int .u64 (L.last+1:Nat),.int .u64 0,.bool false,.int .i64 0]) I (fun w=>by kernel_rfl) ?_;refine dixa (sz:=5) (a:=⟨rb,10,none⟩) qk 0 j I Tryz.underlying101 qk I hj7 ?_;rw[add_mk];refine dact qk 0 I ?_;refine sts 0 1 (off:=10+j*5) (cs:=#[.int .u64 0,.int .u64 (L.last+1:Nat),.int .u64 0,.bool false,.int .i64 0]) I I qk (by show 10+j*5+5<=54;omega) (fun v hv=>by simp at hv;rcases hv with rfl|rfl|rfl|rfl|rfl <;> rfl) ?_
   refine WL.h 1 (pt rb (ndA lb (R.upj L (j+1)) s) RT) ?_ (.there (.here (by rw[<-upj_set,<-ndA_put lb _ s hj7 (Pr.new (L.last+1))];rfl)));refine dnext (.inl qk) ?_;refine dend qk 0 I (bl (th (rg ?_)));refine ar 0 I (i64w (x:=((j+1:Nat):Int)) qo) ?_;refine fin 1 I ?_;exact again (x:=j) (j+1) ⟨I,I,trivial⟩ I I qo qo
  ·obtain rfl:j=7:=by omega
   refine ex (xt (xt (xb (th (sq (rg ?_))))));refine WL.h 1 (pt rb (ndA lb (R.up L) s) RT) ?_;refine cl 1 I (Ct.at3 [_] (layGC (R:=R.up L) ⟨hL,G.r⟩ (o.upR qo) hc hk 0 [] (by simp) none 0 (IsS.nil _ _ _ _))) ?_;rintro v47 K47 hs47 ⟨_,_,_,rfl,⟨s2,rfl,le,I2⟩,rfl⟩;refine fin 7 I (th (sq (rg ?_)));refine fin 2 I (th (rt (WQ.drop ?_)));exact ret1 I I ⟨_,_,_,I,⟨s2,I,le,I2⟩,I⟩
end
end
section
attribute [local irreducible] Code.wp wpList Calls
section
variable {w0:World} {K lh g:PH} {hs:List PH} {rb lb db c q z k:Nat} {R:Nd} {L:Lg} {D:Dk} {s:NS}
theorem standGC(iN:Nd3 K rb lb db R L D s lh g)(o:NI c q z k R L D)(hc:c<=700000000)(hk:k<=500000)(hkt:L.kt<rTop)(vs:List Int)(hvs:vs.length<=7)(ao:Option Addr)(cap:Nat)(x:IsS K ao vs.length cap 1 (iv vs)):
  NdC w0 K hs rb lb db R s lh g 177 [.pointer (some ⟨rb,0,none⟩),.agg #[.slice ao vs.length cap]] (R.stand L D vs).1 (R.stand L D vs).2.1 (R.stand L D vs).2.2.1 (.int .i64 (R.stand L D vs).2.2.2):=by
 have hnd:=o.rb.nd;unfold rTop at hkt;have a:=o.setHard (L.kt+1) R.nd (by unfold mxU;omega);unfold Nd.stand;have hsh:=fun (hs':List PH)=>setHardH (w0:=w0) (hs:=hs') lb db L D c o.rn.lb qo o.rn.ok iN.l (L.kt+1) R.nd (by unfold mxU;omega) qo;generalize L.setHard D (L.kt+1) R.nd=A at a hsh ⊢;obtain ⟨L1,D1,c1⟩:=A;dsimp only at a hsh ⊢;have hlast:=a.last qo;refine enter Tryz.func177 qk I I I ?_;refine sq (rg ?_);refine bx 0 I fun b3=>?_;refine fin 1 I (th (sq (rgm [1] 14 [0,2,4,6,8,10,16,18,20,22,13,14,24,27,29,30] ?_)));refine dldtp [13] qk 4 0 I qk I I ?_;refine dldtp [13,12] qk 4 0 I qk I I ?_;refine dact qk 0 I ?_;refine cl 0 I (Ct.at2p [_] (termGC iN.l)) ?_;rintro v17 K17 hs17 ⟨_,lh,rfl,rfl,rfl,rfl,rfl⟩;refine dnx (by simp) I ?_;refine dar qk 0 I (u64w (x:=((L.kt+1:Nat):Int)) qo) ?_
 refine dbd qk 0 (.agg #[.int .u64 (L.kt+1:Nat),.int .i64 R.nd]) I (fun w=>by kernel_rfl) ?_;refine dact qk 0 I ?_;refine cl 0 I (Ct.at 2 I (hsh _)) ?_;rintro v24 K24 hs24 ⟨h2,rfl,le1,hL2,rfl⟩;refine WL.hs (pt b3 #[.slice ao vs.length cap] 46::pt rb (ndA lb R s) RT::h2::g::hs) I ?_;refine dnxL (by simp) le1 ?_;refine dact qk 0 I ?_;refine cl 0 I (Ct.at3 [_] (didGC (lh:=h2) (iN.g.le le1) c1)) ?_;rintro v25 K25 hs25 ⟨_,lh,g1,rfl,rfl,⟨s1,rfl,G1⟩,rfl,rfl⟩;refine dnext (.inl qk) ?_;refine dend qk 1 I (th (sq (sq (rg ?_))));refine cmpS 1 I fun b27 h27=>?_;refine fin 0 I (th (ifP h27 I (fun e2=>?_) (fun e2=>?_)))
 ·rw[if_pos e2];refine sq (rg ?_);refine fin 2 I (th (rt (rT (WQ.drop ?_))));exact ret1 I I ⟨_,_,_,I,⟨s1,I,le1,hL2,G1⟩,I⟩
 obtain rfl:c1=0:=Decidable.not_not.1 e2;rw[if_neg (by simp)];rw[show R.did 0=R from rfl] at G1 ⊢;obtain ⟨hy,hd,hq,rfl,dj,⟨y,v,d,ou,f⟩⟩:=G1;obtain ⟨sy,sv,sd,so,f0,f1,f2⟩:=s1;dsimp only at y v d ou f;refine sk (th (sq (rg ?_)));refine WL.perm (hs':=uns [hy,hd,hq]::pt b3 #[.slice ao vs.length cap] 46::pt rb (ndA lb R ⟨sy,sv,sd,so,f0,f1,f2⟩) RT::lh::hs) (List.perm_append_comm_assoc [_,_,_] [_] hs) (WL.split dj ?_);refine ldp 6 4 I I I ?_;refine lit 0 #[.int .i64 R.nd] I (by decide) qk fun b36=>?_;have oy:Own (pt b36 #[.int .i64 R.nd] 3) (some ⟨b36,0,none⟩) R.cand.yes.length 1 3 1 (iv R.cand.yes):=Own.ofPt (b:=b36) (c:=#[.int .i64 R.nd]) (e:=3) (n:=1) (size:=1) rfl (by decide);refine stp 2 5 I I I I ?_;refine stp 2 5 I I I I ?_;refine stp 2 5 I I I I ?_;refine WL.h 5 (pt rb (ndA lb { R with role:=1,lead:=-1,yes:=[R.nd] } ⟨.slice (some ⟨b36,0,none⟩) 1 1,sv,sd,so,f0,f1,f2⟩) RT) ?_
 refine WL.perm (List.Perm.swap _ _ _) (WL.drop (WL.join [pt b36 #[.int .i64 R.nd] 3,hd,hq] fun dj'=>WL.perm (List.perm_append_comm_assoc [_] [_,_,_] hs) ?_));have G2:NdH K25 rb R.cand ⟨.slice (some ⟨b36,0,none⟩) 1 1,sv,sd,so,f0,f1,f2⟩ (uns [pt b36 #[.int .i64 R.nd] 3,hd,hq]):=⟨_,hd,hq,rfl,dj',⟨_,_,rfl,oy⟩,v,d,ou,f⟩;generalize (⟨.slice (some ⟨b36,0,none⟩) 1 1,sv,sd,so,f0,f1,f2⟩:NS)=s2 at G2 ⊢;generalize uns [pt b36 #[.int .i64 R.nd] 3,hd,hq]=g2 at G2 ⊢;refine fin 0 I (th (sq (rg ?_)));refine stp 4 1 I I I I ?_;refine stp 2 1 I I I I ?_;refine WL.h 1 (pt rb (ndA lb R.cand s2) RT) ?_;have o2:NI (c+2) (q+1) z (k+1) R.cand L1 D1:=a.r a.rb.cand;refine fin 0 I (th (sq (rg ?_)));refine ldp 3 1 I I I ?_;refine cl 0 I (Ct.keep 2 I (lastH lb db L1 D1 (c+2) a.rn.lb qo hL2)) ?_;rintro v53 K53 hs53 ⟨rfl,rfl,rfl⟩;refine fin 1 I (th (sq (rg ?_)));refine ldp 3 1 I I I ?_;refine cl 1 I (Ct.keep 2 I (termH lb db L1 D1 (c+2) a.rn.lb qo hL2 (L1.sn.idx+L1.l.length) (by unfold Lg.last rTop at hlast;omega))) ?_
 rintro v60 K60 hs60 ⟨rfl,rfl,rfl⟩;refine fin 5 I (th (sq (sq (rg ?_))));refine cl 1 I (Ct.at2p [_] (othersGC o2 qo hL2)) ?_;rintro v64 K64 hs64 ⟨_,lh,rfl,rfl,rfl,le3,aT,cT,rfl,xT⟩;have hol:=oth_len R.cand a.rn.lb a.cf;generalize hRt:Nd.asks L1 (R.cand.oth L1) R.cand=Rt;generalize hLO:R.cand.oth L1=LO at xT hol hRt ⊢;refine fin 2 I (th (bk ?_))
 refine loop (σ:=Nat×Nd×PH×NS×PH×PH) (fun u=>[(0,.pointer (some ⟨rb,0,none⟩)),(3,.pointer (some ⟨b3,0,none⟩)),(6,.int .u64 L1.last),(7,.int .u64 (((L1.trm L1.last).1:Nat):Int)),(64,.slice aT LO.length cT),(65,.int .i64 LO.length),(66,.int .i64 u.1)]) (fun u=>u.2.2.1)
  (fun u=>pt b3 #[.slice ao vs.length cap] 46::pt rb (ndA lb u.2.1 u.2.2.2.1) RT::u.2.2.2.2.1::u.2.2.2.2.2::hs)
  (fun u=>u.1<=LO.length/\Nd.asks L1 (LO.drop u.1) u.2.1=Rt/\NI (c+2) (q+1) z (k+1+u.1) u.2.1 L1 D1/\Nd3 u.2.2.1 rb lb db u.2.1 L1 D1 u.2.2.2.1 u.2.2.2.2.1 u.2.2.2.2.2/\Le K64 u.2.2.1)
  (fun u=>LO.length-u.1) (0,R.cand,K64,s2,lh,g2) ⟨Nat.zero_le _,hRt,o2,⟨hL2.le le3,G2.le le3⟩,Le.refl _⟩ ⟨rfl,rfl,rfl,rfl,rfl,rfl,rfl,trivial⟩ rfl rfl ?_
 rintro ⟨i,Ri,Ki,si,li,gi⟩ ⟨hi,hT,oi,Ii,lei⟩;dsimp only at hi hT oi Ii lei ⊢;refine sq (rg ?_);refine cmpS 0 I fun b67 h67=>?_;refine fin 0 I (th (sq (ifP h67 I (fun e4=>?_) (fun e4=>?_))))
 ·have hil:i<LO.length:=by omega
  have hdr:LO.drop i=LO[i]::LO.drop (i+1):=List.drop_eq_getElem_cons hil;have hgx:=iv_get hil;rw[hdr] at hT;unfold Nd.asks at hT;refine sk (th (sq (bk (sq (rg ?_)))));refine ix1 0 i I I I xT hgx fun a68 hc68=>?_;refine ld 0 I (.inl I) (hc68.le lei) ?_;refine fin 1 I (th (rg ?_));obtain ⟨M,hM⟩:∃ M:Msg,M={ Msg.zero with kind:=1,to:=LO[i],idx:=L1.last,lt:=(L1.trm L1.last).1 }:=⟨_,rfl⟩;refine bd 4 (.agg (mv M ⟨none,0,none,0,none,0⟩)) I (fun w=>by rw[hM];kernel_rfl) ?_;rw[<-hM] at hT;have hout:=oi.rb.out;refine cl 0 I (Ct.at3 [_] (sayGC Ii qo M ⟨none,0,none,0,none,0⟩ (by rw[hM];exact ⟨EntsS.nil _ _ _,IsS.nil _ _ _ _,IsS.nil _ _ _ _⟩))) ?_;rintro v75 K75 hs75 ⟨_,_,_,rfl,⟨s3,rfl,le4,I4⟩,rfl⟩;refine fin 0 I (bl (th (rg ?_)));refine ar 0 I (i64w (x:=((i+1:Nat):Int)) qo) ?_;refine fin 1 I ?_;exact again (x:=(i,Ri,Ki,si,li,gi)) (i+1,_,K75,s3,_,_) ⟨I,I,I,I,I,I,I,trivial⟩ I I ⟨by omega,hT,oi.r (oi.rb.say L1 M),I4,lei.trans le4⟩ (by dsimp only;omega)
 ·obtain rfl:i=LO.length:=by omega
  rw[List.drop_length] at hT;unfold Nd.asks at hT;subst hT;refine ex (xt (xt (xb (th (sq (rg ?_))))));refine ldS 1 0 I I qk ?_;refine cl 0 I (Ct.at3 [_] (electGC Ii oi qo qo vs hvs ao cap (((x.le le1).le le3).le lei))) ?_;rintro v79 K79 hs79 ⟨_,_,_,rfl,⟨s4,rfl,le5,I5⟩,rfl⟩;refine fin 1 I (th (rt (WQ.drop ?_)));exact ret1 I I ⟨_,_,_,I,⟨s4,I,((le1.trans le3).trans lei).trans le5,I5⟩,I⟩
theorem idleGC(iN:Nd3 K rb lb db R L D s lh g)(o:NI c q z k R L D)(hc:c<=700000000)(hk:k<=400000)(d:Nat)(hd:d<18446744073709551616):
  NdC w0 K hs rb lb db R s lh g 121 [.pointer (some ⟨rb,0,none⟩),.int .u64 (d:Nat)] (R.idle L D d).1 (R.idle L D d).2.1 (R.idle L D d).2.2.1 (.int .i64 (R.idle L D d).2.2.2):=by
 have hel:=o.rb.el;have hcf:Cfg L.cfg.1:=cfgAt_cfg o.rn.lb o.cf L.last;have hlen:=hcf.len;unfold Nd.idle;have o1:NI c q z (k+1) (R.idle0 d) L D:=o.r (o.rb.idle0 d);refine enter Tryz.func121 qk I I I ?_;refine sq (rg ?_);refine fin 1 I (th ?_);refine jn (σ:=Unit) (fun _=>[(0,.pointer (some ⟨rb,0,none⟩))]) (fun _=>pt rb (ndA lb { R with wt:=if R.wt=0 then ((10+d % 22:Nat):Int) else R.wt } s) RT::lh::g::hs) (fun _=>True) ?_ ?_
 ·refine sq (rg ?_);refine ldp 3 0 I I I ?_;refine cmpS 0 I fun b11 h11=>?_;refine fin 0 I (th (ifP h11 I (fun e2=>?_) (fun e2=>?_)))
  ·refine rg ?_;refine cl 2 I (timeoutGC d hd) ?_;rintro v14 K14 hs14 ⟨rfl,rfl,rfl⟩;refine stp 2 0 I I I I ?_;refine WL.h 0 (pt rb (ndA lb { R with wt:=((10+d % 22:Nat):Int) } s) RT) ?_;refine fin 0 I ?_;exact jx () trivial ⟨I,trivial⟩ I (by rw[if_pos e2])
  ·refine sk ?_;exact jx () trivial ⟨I,trivial⟩ I (by rw[if_neg e2])
 rintro _ _;refine sq (rg ?_);refine ldp 3 0 I I I ?_;refine ar 0 I (i64w (x:=R.el+1) qo) ?_;refine stp 2 0 I I I I ?_;refine WL.h 0 (pt rb (ndA lb (R.idle0 d) s) RT) ?_;refine fin 0 I (th (sq (rg ?_)));refine cl 1 I (Ct.at2p [] (configGC o1 qo iN.l)) ?_;rintro v26 K26 hs26 ⟨_,lh,rfl,rfl,rfl,le1,ao,cap,rfl,x⟩;have I1:Nd3 K26 rb lb db (R.idle0 d) L D s lh g:=⟨iN.l.le le1,(iN.g.le le1).r⟩;have hnd:(R.idle0 d).nd=R.nd:=rfl;generalize R.idle0 d=R1 at o1 I1 hnd ⊢;rw[<-hnd];refine al 3 (.agg #[.slice none 0 0]) I qk fun b5=>?_;refine stS 0 0 I I qk I I ?_;refine WL.hs (pt b5 #[.slice ao L.cfg.1.length cap] 46::pt rb (ndA lb R1 s) RT::lh::g::hs) I ?_;refine fin 1 I (th (sq (sq (rgm [1,0] 23 [0,2,4,6,8,10,12,14,16,18,20,22,24,26,28,31,32,34,36,38,41,42,44] ?_))));refine dldp qk 3 0 I I I ?_;refine dldp qk 3 0 I I I ?_;refine dcmp qk 0 (R1.el<R1.wt) I (by simp) (fun h3=>?_) (fun h3=>?_)
 ·rw[if_pos (.inl h3)];refine dact qk 6 I ?_;refine WL.pures 1 I ?_;refine dnx (by simp) I ?_;refine dact qk 4 I ?_;refine WL.pures 1 I ?_;refine dnx (by simp) I ?_;refine dend qk 2 I (th (ifT I (sq (rg ?_))));refine fin 1 I (th (rt (rT (WQ.drop ?_))));exact ret1 I I ⟨_,_,_,I,⟨s,I,le1,I1⟩,I⟩
 ·refine dldS qk 1 1 I qk I qk ?_;refine dldp qk 3 0 I I I ?_;refine dact qk 0 I ?_;refine cl 0 I (votesGC (.inl I) ao cap L.cfg.1 x qo R1.nd) ?_;rintro v44 K44 hs44 ⟨rfl,rfl,rfl⟩;refine dnx (by simp) I ?_
  by_cases hv:R1.nd∈L.cfg.1
  ·rw[decide_eq_true hv];refine dact qk 4 I ?_;refine cl 0 I (Ct.at2p [_] (termGC I1.l)) ?_;rintro v49 K49 hs49 ⟨_,lh,rfl,rfl,rfl,rfl,rfl⟩;refine dnx (by simp) I ?_;refine dcbS qk 0 (rTop<=L.kt) I (by unfold rTop;simp;omega) fun b50 h50=>?_;refine dend qk 1 I (th (ifP h50 I (fun h4=>?_) (fun h4=>?_)))
   ·rw[if_pos (.inr (.inr h4))];refine sq (rg ?_);refine fin 1 I (th (rt (rT (WQ.drop ?_))));exact ret1 I I ⟨_,_,_,I,⟨s,I,le1,I1⟩,I⟩
   ·rw[if_neg (by simp[h3,hv,h4])];refine sk (th (sq (rg ?_)));refine ldS 1 0 I I qk ?_;refine cl 0 I (Ct.at3 [_] (standGC I1 o1 hc qo qo L.cfg.1 hlen ao cap x)) ?_;rintro v54 K54 hs54 ⟨_,_,_,rfl,⟨s2,rfl,le2,I2⟩,rfl⟩;refine fin 1 I (th (rt (WQ.drop ?_)));exact ret1 I I ⟨_,_,_,I,⟨s2,I,le1.trans le2,I2⟩,I⟩
  ·rw[decide_eq_false hv,if_pos (.inr (.inl hv))];refine dact qk 4 I ?_;refine WL.pures 1 I ?_;refine dnx (by simp) I ?_;refine dend qk 2 I (th (ifT I (sq (rg ?_))));refine fin 1 I (th (rt (rT (WQ.drop ?_))));exact ret1 I I ⟨_,_,_,I,⟨s,I,le1,I1⟩,I⟩
theorem beatGC(iN:Nd3 K rb lb db R L D s lh g)(o:NI c q z k R L D)(hc:c<=900000000)(hk:k<=700000)(d:Nat):
  NdC w0 K hs rb lb db R s lh g 122 [.pointer (some ⟨rb,0,none⟩),.int .u64 (d:Nat)] (R.beat L) L D (.int .i64 0):=by
 have hel:=o.rb.el;unfold Nd.beat;refine enter Tryz.func122 qk I I I ?_;refine sq (rg ?_);refine fin 1 I (th (sq (rg ?_)));refine ldp 3 0 I I I ?_;refine ar 0 I (i64w (x:=R.el+1) qo) ?_;refine stp 2 0 I I I I ?_;refine WL.h 0 (pt rb (ndA lb { R with el:=R.el+1 } s) RT) ?_;refine fin 0 I (th (sq (sq (rg ?_))));refine ldp 3 0 I I I ?_;refine cmpS 0 I fun b16 h16=>?_;refine fin 0 I (th (ifP h16 I (fun e2=>?_) (fun e2=>?_)))
 ·rw[if_pos e2];refine sq (rg ?_);refine stp 3 0 I I I I ?_;refine WL.h 0 (pt rb (ndA lb { R with el:=0 } s) RT) ?_;refine fin 0 I (th (rg ?_));refine cl 1 I (tellGC (R:={ R with el:=0 }) ⟨iN.l,iN.g.r⟩ (o.r o.rb.el0) hc qo true) ?_;rintro v21 K21 hs21 ⟨_,_,_,rfl,⟨s2,rfl,le1,I2⟩,rfl⟩;refine fin 0 I (th (sq (rg ?_)));refine fin 1 I (th (rt ?_));exact ret1 I I ⟨_,_,_,I,⟨s2,I,le1,I2⟩,I⟩
 ·rw[if_neg e2];refine sk (th (sq (rg ?_)));refine fin 1 I (th (rt ?_));exact ret1 I I ⟨_,_,_,I,⟨s,I,Le.refl _,iN.l,iN.g.r⟩,I⟩
theorem tickGC(iN:Nd3 K rb lb db R L D s lh g)(o:NI c q z k R L D)(hc:c<=700000000)(hk:k<=400000)(d:Nat)(hd:d<18446744073709551616):
  NdC w0 K hs rb lb db R s lh g 29 [.pointer (some ⟨rb,0,none⟩),.int .u64 (d:Nat)] (R.tick L D d).1 (R.tick L D d).2.1 (R.tick L D d).2.2.1 (.int .i64 (R.tick L D d).2.2.2):=by
 have hro:=o.rb.role;have hf:s.f0=tkI rb/\s.f1=tkI rb/\s.f2=tkB rb:=by obtain ⟨_,_,_,_,_,G⟩:=iN.g;exact G.f
 unfold Nd.tick;refine enter Tryz.func29 qk I I I ?_;refine sq (rg ?_);refine fin 1 I (th (sq (sq (rg ?_))));refine ldp 3 0 I I I ?_;refine fin 0 I (th (ifB I (fun e1=>?_) (fun e1=>?_)))
 ·rw[if_pos e1];refine sq (rg ?_);refine fin 1 I (th (rt (rT ?_)));exact ret1 I I ⟨_,_,_,I,⟨s,I,Le.refl _,iN⟩,I⟩
 rw[if_neg (by simp[e1])];refine sk (th (sq (rgm [0] 10 [0,2,4,6,8,10,12,14,16,18,21,22] ?_)));refine dldtp [8,7] qk 4 0 I qk I I ?_
 by_cases hr:R.role=2
 ·rw[if_pos hr];refine dixa (sz:=1) (a:=⟨rb,51,none⟩) qk 2 2 I Tryz.underlying104 qk hr qo ?_;refine dldpw qk 0 0 (v:=tkB rb) I qk I (by rw[<-hf.2.2];rfl) ?_;refine dact qk 1 I ?_;refine cl 0 I (beatGC iN o qo qo d) ?_;rintro v19 K19 hs19 ⟨_,_,_,rfl,⟨s2,rfl,le1,I2⟩,rfl⟩;refine dnext (.inl qk) ?_;refine dend qk 1 I (th (rt ?_));exact ret1 I I ⟨_,_,_,I,⟨s2,I,le1,I2⟩,I⟩
 ·rw[if_neg hr];obtain ⟨j,hj,hj2⟩:∃ j:Nat,R.role=(j:Int)/\j<2:=⟨R.role.toNat,by omega,by omega⟩;refine dixa (sz:=1) (a:=⟨rb,51,none⟩) qk 2 j I Tryz.underlying104 qk hj qo ?_;rw[add_mk,Nat.mul_one]
  refine dldpw qk 0 0 (v:=tkI rb) I qk I (by
   obtain rfl|rfl:j=0\/j=1:=by omega
   ·rw[<-hf.1];rfl
   ·rw[<-hf.2.1];rfl) ?_
  refine dact qk 1 I ?_;refine cl 0 I (idleGC iN o hc hk d hd) ?_;rintro v19 K19 hs19 ⟨_,_,_,rfl,⟨s2,rfl,le1,I2⟩,rfl⟩;refine dnext (.inl qk) ?_;refine dend qk 1 I (th (rt ?_));exact ret1 I I ⟨_,_,_,I,⟨s2,I,le1,I2⟩,I⟩
end
end
section
attribute [local irreducible] Code.wp wpList Calls
section
variable {w0:World} {K lh g:PH} {hs:List PH} {rb lb db c q z k:Nat} {R:Nd} {L:Lg} {D:Dk} {s:NS}
theorem raiseGC(iN:Nd3 K rb lb db R L D s lh g)(o:NI c q z k R L D)(hc:c<=700000000)(t:Nat)(ht:t<=mxU):
  NdC w0 K hs rb lb db R s lh g 72 [.pointer (some ⟨rb,0,none⟩),.int .u64 (t:Nat)] (R.raise L D t).1 (R.raise L D t).2.1 (R.raise L D t).2.2.1 (.int .i64 (R.raise L D t).2.2.2):=by
 unfold Nd.raise;have hsh:=fun (hs':List PH)=>setHardH (w0:=w0) (hs:=hs') lb db L D c o.rn.lb qo o.rn.ok iN.l t (-1) ht qo;generalize L.setHard D t (-1)=A at hsh ⊢;obtain ⟨L1,D1,c1⟩:=A;dsimp only at hsh ⊢;refine enter Tryz.func72 qk I I I ?_;refine sq (rg ?_);refine fin 1 I (th (sq (rg ?_)));refine ldp 4 0 I I I ?_;refine bd 1 (.agg #[.int .u64 (t:Nat),.int .i64 (-1)]) I (fun w=>by kernel_rfl) ?_;refine cl 0 I (Ct.at 1 I (hsh _)) ?_;rintro v13 K13 hs13 ⟨h2,rfl,le1,hL2,rfl⟩;refine WL.hs (pt rb (ndA lb R s) RT::h2::g::hs) I ?_;refine cl 0 I (Ct.at3 [] (didGC (lh:=h2) (iN.g.le le1) c1)) ?_;rintro v14 K14 hs14 ⟨_,lh,g1,rfl,rfl,⟨s1,rfl,G1⟩,rfl,rfl⟩;refine fin 1 I (th (sq (sq (rg ?_))));refine cmpS 1 I fun b16 h16=>?_;refine fin 0 I (th (ifP h16 I (fun e2=>?_) (fun e2=>?_)))
 ·subst e2;rw[if_pos rfl];rw[show R.did 0=R from rfl] at G1 ⊢;refine rg ?_;refine stp 4 0 I I I I ?_;refine stp 2 0 I I I I ?_;refine WL.hs (pt rb (ndA lb { R with role:=0,lead:=-1 } s1) RT::lh::g1::hs) I ?_;refine fin 0 I (th (sq (rg ?_)));refine fin 2 I (th (rt ?_));exact ret1 I I ⟨_,_,_,I,⟨s1,I,le1,hL2,G1.r⟩,I⟩
 ·rw[if_neg e2];refine sk (th (sq (rg ?_)));refine fin 2 I (th (rt ?_));exact ret1 I I ⟨_,_,_,I,⟨s1,I,le1,hL2,G1⟩,I⟩
theorem contentGC:Ct Tryz.prog w0 71 [.pointer (some ⟨rb,0,none⟩)] K (pt rb (ndA lb R s) RT::hs) (fun v K' hs'=>∃ a,hs'=a::hs/\K'=K/\a=pt rb (ndA lb R s) RT/\v=.bool R.content):=by
 unfold Nd.content;refine enter Tryz.func71 qk I I I ?_;refine sq (rg ?_);refine fin 1 I (th (sq (rgm [0] 21 [0,2,4,6,8,10,12,14,16,18,20,22,24,26,28,30,33,34,36,38,40] ?_)));refine dldp qk 3 0 I I I ?_;refine dcmp qk 0 (R.role=2) I (by simp) (fun h1=>?_) (fun h1=>?_)
 ·refine dact qk 11 I ?_;refine WL.pures 1 I ?_;refine dnx (by simp) I ?_;refine dend qk 4 I (th (rt ?_));exact ret1 I I ⟨_,I,I,I,by rw[decide_eq_true (.inl h1)]⟩
 ·refine dldp qk 4 0 I I I ?_;refine dcmp qk 0 (0<=R.lead) I (by simp) (fun h2=>?_) (fun h2=>?_)
  ·refine dldp qk 4 0 I I I ?_;refine dact qk 0 I ?_;refine cl 0 I (timeoutGC 0 qo) ?_;rintro v19 K19 hs19 ⟨rfl,rfl,rfl⟩;refine dnx (by simp) I ?_;refine dcbS qk 0 (R.el<10) I (by simp) fun b20 h20=>?_;refine dend qk 3 I (th (rt ?_));refine ret1 I I ⟨_,I,I,I,?_⟩
   rw[show b20=decide (R.role=2\/0<=R.lead/\R.el<10) from by
    rw[Bool.eq_iff_iff,h20,decide_eq_true_iff];omega]
  ·refine dact qk 5 I ?_;refine WL.pures 1 I ?_;refine dnx (by simp) I ?_;refine dend qk 4 I (th (rt ?_));exact ret1 I I ⟨_,I,I,I,by rw[decide_eq_false qo]⟩
theorem staleGC(iN:Nd3 K rb lb db R L D s lh g)(ho:R.out.length<=900000)(m:Msg)(p:MA):
  NdC w0 K hs rb lb db R s lh g 73 [.pointer (some ⟨rb,0,none⟩),.agg (mv m p)] (R.stale L m) L D (.tuple #[]):=by
 unfold Nd.stale;refine enter Tryz.func73 qk I I I ?_;refine sq (rg ?_);refine bx 0 I fun b3=>?_;refine fin 0 I (th (sq (rg ?_)));refine ldp 1 0 I I I ?_;refine fin 0 I (th (bk (sq (rg ?_))));refine cmpS 0 I fun b7 h7=>?_;refine fin 1 I (th (ifP h7 I (fun e2=>?_) (fun e2=>?_)))
 ·rw[if_pos e2];refine rg ?_;refine ldp 2 0 I I I ?_;refine bd 0 (.agg (mv { Msg.zero with kind:=2,to:=m.frm } ⟨none,0,none,0,none,0⟩)) I (fun w=>by kernel_rfl) ?_;refine cl 0 I (Ct.at3 [_] (sayGC iN qo _ _ ⟨EntsS.nil _ _ _,IsS.nil _ _ _ _,IsS.nil _ _ _ _⟩)) ?_;rintro v12 K12 hs12 ⟨_,_,_,rfl,⟨s2,rfl,le1,I2⟩,rfl⟩;refine fin 0 I (bl (WQ.drop ?_));exact end0 I ⟨_,_,_,I,⟨s2,I,le1,I2⟩,I⟩
 ·rw[if_neg e2];have hsay:∀ (e:m.kind=3\/m.kind=5),True:=fun _=>trivial;refine sq (sq (rg ?_));refine cmpS 0 I fun b14 h14=>?_;refine fin 1 I (th (ifP h14 I (fun e4=>?_) (fun e4=>?_)))
  ·rw[if_pos (.inl e4)];refine sk (th (ifPT h14 e4 I (rg ?_)));refine ldp 2 0 I I I ?_;refine bd 0 (.agg (mv { Msg.zero with kind:=4,to:=m.frm } ⟨none,0,none,0,none,0⟩)) I (fun w=>by kernel_rfl) ?_;refine cl 0 I (Ct.at3 [_] (sayGC iN qo _ _ ⟨EntsS.nil _ _ _,IsS.nil _ _ _ _,IsS.nil _ _ _ _⟩)) ?_;rintro v20 K20 hs20 ⟨_,_,_,rfl,⟨s2,rfl,le1,I2⟩,rfl⟩;refine fin 0 I (bl (WQ.drop ?_));exact end0 I ⟨_,_,_,I,⟨s2,I,le1,I2⟩,I⟩
  ·refine rg ?_;refine cmpS 0 I fun b15 h15=>?_;refine fin 1 I (th (ifP h15 I (fun e6=>?_) (fun e6=>?_)))
   ·rw[if_pos (.inr e6)];refine rg ?_;refine ldp 2 0 I I I ?_;refine bd 0 (.agg (mv { Msg.zero with kind:=4,to:=m.frm } ⟨none,0,none,0,none,0⟩)) I (fun w=>by kernel_rfl) ?_;refine cl 0 I (Ct.at3 [_] (sayGC iN qo _ _ ⟨EntsS.nil _ _ _,IsS.nil _ _ _ _,IsS.nil _ _ _ _⟩)) ?_;rintro v20 K20 hs20 ⟨_,_,_,rfl,⟨s2,rfl,le1,I2⟩,rfl⟩;refine fin 0 I (bl (WQ.drop ?_));exact end0 I ⟨_,_,_,I,⟨s2,I,le1,I2⟩,I⟩
   ·rw[if_neg (by simp[e4,e6])];refine sk (bl (WQ.drop ?_));exact end0 I ⟨_,_,_,I,⟨s,I,Le.refl _,iN⟩,I⟩
theorem grantGC(ht:Nat)(hv:Int)(t:Nat)(cd:Int)(nw:Bool):Ct Tryz.prog w0 138 [.agg #[.int .u64 (ht:Nat),.int .i64 hv],.int .u64 (t:Nat),.int .i64 cd,.bool nw] K hs
  (fun v K' hs'=>K'=K/\hs'=hs/\v=.tuple #[.agg #[.int .u64 (((grant ht hv t cd nw).1.1:Nat):Int),.int .i64 (grant ht hv t cd nw).1.2],.bool (grant ht hv t cd nw).2]):=by
 unfold grant;refine enter Tryz.func138 qk I I I ?_;refine sq (rg ?_);refine bx 0 I fun b4=>?_;refine al 0 (.agg #[.int .u64 0,.int .i64 0]) I qk fun b8=>?_;refine fin 1 I (th (sq (sq (rg ?_))));refine ldp 2 1 I I I ?_;refine cmpS 0 I fun b13 h13=>?_;refine fin 0 I (th (ifP h13 I (fun e2=>?_) (fun e2=>?_)))
 ·rw[if_pos qo];refine sq (rg ?_);refine ldS 0 1 I I qk ?_;refine stS 0 0 I I qk I I ?_;refine fin 1 I (th (rt (rT ?_)));exact retcP 0 2 I I I I qk ⟨I,I,I⟩
 rw[if_neg qo];dsimp only;obtain ⟨⟨h1,h2⟩,hh⟩:∃ x,x=if ht<t then (t,(-1:Int)) else (ht,hv):=⟨_,rfl⟩;rw[<-hh];refine sk (th ?_);refine jn (σ:=Unit) (fun _=>[(2,.int .i64 cd),(3,.bool nw),(4,.pointer (some ⟨b4,0,none⟩)),(8,.pointer (some ⟨b8,0,none⟩))]) (fun _=>pt b8 #[.int .u64 0,.int .i64 0] 112::pt b4 #[.int .u64 (h1:Nat),.int .i64 h2] 112::hs) (fun _=>True) ?_ ?_
 ·refine sq (rg ?_);refine ldp 2 1 I I I ?_;refine cmpS 0 I fun b18 h18=>?_;refine fin 0 I (th (ifP h18 I (fun e4=>?_) (fun e4=>?_)))
  ·rw[if_pos qo] at hh;cases hh;refine rg ?_;refine bd 1 (.agg #[.int .u64 (t:Nat),.int .i64 (-1)]) I (fun w=>by kernel_rfl) ?_;refine stS 0 1 I I qk I I ?_;refine fin 0 I ?_;exact jx () trivial ⟨I,I,I,I,trivial⟩ I I
  ·rw[if_neg qo] at hh;cases hh;refine sk ?_;exact jx () trivial ⟨I,I,I,I,trivial⟩ I I
 rintro _ _;cases nw with
 | false=>
  rw[if_pos (.inl rfl)];refine au ?_;exact retcP 0 2 I I I I qk ⟨I,I,I⟩
 | true=>
  refine sq (sq (rg ?_));refine ldp 4 1 I I I ?_;refine cmpS 0 I fun b26 h26=>?_
  refine' bja (q:=h2≠cd) 1 5 32 [26,27] h26 I I I I I I I (fun _=>?x6) (fun b32 h32=>?_)
  case x6=>
   refine ldp 1 1 I I I ?_;refine cmpS 1 I fun b31 h31=>?_;exact fin 1 I (bjx h31 I I I)
  refine fin 1 I<|th (ifP h32 I (fun h8=>?_) (fun h8=>?_))
  ·rw[if_pos (.inr h8)];refine au ?_;exact retcP 0 2 I I I I qk ⟨I,I,I⟩
  ·rw[if_neg (by simp;simpa using h8)];refine au ?_;exact retcP 0 2 I I I I qk ⟨I,I,I⟩
theorem askedGC(iN:Nd3 K rb lb db R L D s lh g)(o:NI c q z k R L D)(hc:c<=700000000)(hk:k<=500000)(m:Msg)(hb:m.bd)(hf:0<=m.frm/\m.frm<7)(p:MA):
  NdC w0 K hs rb lb db R s lh g 74 [.pointer (some ⟨rb,0,none⟩),.agg (mv m p)] (R.asked L D m).1 (R.asked L D m).2.1 (R.asked L D m).2.2.1 (.int .i64 (R.asked L D m).2.2.2):=by
 have hlast:=o.last qo;have hout:=o.rb.out;have hkt:=o.rn.lb.kt;have hkv:=o.rn.lb.kv;unfold Nd.asked;obtain ⟨gr,hgr⟩:∃ gr,gr=grant L.kt L.kv m.term m.frm (newerP m.lt m.idx (L.trm L.last).1 L.last):=⟨_,rfl⟩;rw[<-hgr];dsimp only;refine enter Tryz.func74 qk I I I ?_;refine sq (rg ?_);refine bx 0 I fun b3=>?_;refine fin 1 I (th (sq (rg ?_)));refine ldp 3 1 I I I ?_;refine cl 0 I (Ct.keep 2 I (lastH lb db L D c o.rn.lb qo iN.l)) ?_;rintro v15 K15 hs15 ⟨rfl,rfl,rfl⟩;refine fin 1 I (th (sq (rg ?_)));refine ldp 3 1 I I I ?_;refine cl 1 I (Ct.keep 2 I (termH lb db L D c o.rn.lb qo iN.l (L.sn.idx+L.l.length) (by unfold Lg.last rTop at hlast;omega))) ?_;rintro v22 K22 hs22 ⟨rfl,rfl,rfl⟩;refine fin 5 I (th ?_);refine jn (σ:=Nat) (fun b8=>[(0,.pointer (some ⟨rb,0,none⟩)),(3,.pointer (some ⟨b3,0,none⟩)),(8,.pointer (some ⟨b8,0,none⟩)),(9,.bool gr.2)]) (fun b8=>pt b8 #[.int .u64 gr.1.1,.int .i64 gr.1.2] 112::pt b3 (mv m p) 34::pt rb (ndA lb R s) RT::lh::g::hs) (fun _=>True) ?_ ?_
 ·refine rgm [1,0] 21 [0,2,4,6,10,12,14,16,18,20,22,24,26,28,9,31,33,34,36,38,41,43,44] ?_;refine dldpw qk 3 0 I qk I I ?_;refine dldpw qk 1 1 I qk I I ?_;refine dldpw qk 1 1 I qk I I ?_;refine dldpw qk 1 1 I qk I I ?_;refine dldpw qk 1 1 I qk I I ?_;refine dfork 20 qk 2 [9,31,33,34,36,38,43,44] I qk ?_ ?_
  ·refine cl 0 I (Ct.keep 2 I (hardH lb db L D iN.l)) ?_;rintro v30 K30 hs30 ⟨rfl,rfl,rfl⟩;refine dnx (by simp) I ?_;refine dfork 20 qk 0 [31,33,34,36,38,43,44] I qk ?_ ?_
   ·refine cl 0 I (newerGC m.lt m.idx (L.trm L.last).1 L.last) ?_;rintro v41 K41 hs41 ⟨rfl,rfl,rfl⟩;refine dnx (by simp) I ?_;refine dfork 20 qk 0 [33,34,36,38,43,44] I qk ?_ ?_
    ·refine cl 0 I (grantGC L.kt L.kv m.term m.frm (newerP m.lt m.idx (L.trm L.last).1 L.last)) ?_;rintro v42 K42 hs42 ⟨rfl,rfl,rfl⟩;rw[<-hgr];refine dnx (by simp) I ?_;refine dact qk 3 I ?_;refine al 0 (.agg #[.int .u64 0,.int .i64 0]) I qk fun b8=>?_;refine dnx (by simp) I ?_;refine dact qk 0 I ?_;refine stS 0 0 I I qk I I ?_;refine dnx (by simp) I ?_;refine dend qk 1 I ?_;exact jx b8 trivial ⟨I,I,I,I,trivial⟩ I I
    ·refine al 0 (.agg #[.int .u64 0,.int .i64 0]) I qk fun b8=>?_;refine dnx (by simp) I ?_;refine dact qk 0 I ?_;refine cl 0 I (grantGC L.kt L.kv m.term m.frm (newerP m.lt m.idx (L.trm L.last).1 L.last)) ?_;rintro v42 K42 hs42 ⟨rfl,rfl,rfl⟩;rw[<-hgr];refine dnx (by simp) I ?_;refine dact qk 3 I ?_;refine stS 0 0 I I qk I I ?_;refine dnx (by simp) I ?_;refine dend qk 1 I ?_;exact jx b8 trivial ⟨I,I,I,I,trivial⟩ I I
   ·refine al 0 (.agg #[.int .u64 0,.int .i64 0]) I qk fun b8=>?_;refine dnx (by simp) I ?_;refine dact qk 0 I ?_;refine cl 0 I (newerGC m.lt m.idx (L.trm L.last).1 L.last) ?_;rintro v41 K41 hs41 ⟨rfl,rfl,rfl⟩;refine dnx (by simp) I ?_;refine dact qk 0 I ?_;refine cl 0 I (grantGC L.kt L.kv m.term m.frm (newerP m.lt m.idx (L.trm L.last).1 L.last)) ?_;rintro v42 K42 hs42 ⟨rfl,rfl,rfl⟩;rw[<-hgr];refine dnx (by simp) I ?_;refine dact qk 3 I ?_;refine stS 0 0 I I qk I I ?_;refine dnx (by simp) I ?_;refine dend qk 1 I ?_;exact jx b8 trivial ⟨I,I,I,I,trivial⟩ I I
  ·refine al 0 (.agg #[.int .u64 0,.int .i64 0]) I qk fun b8=>?_;refine dnx (by simp) I ?_;refine dact qk 0 I ?_;refine cl 0 I (Ct.keep 3 I (hardH lb db L D iN.l)) ?_;rintro v30 K30 hs30 ⟨rfl,rfl,rfl⟩;refine dnx (by simp) I ?_;refine dact qk 0 I ?_;refine cl 0 I (newerGC m.lt m.idx (L.trm L.last).1 L.last) ?_;rintro v41 K41 hs41 ⟨rfl,rfl,rfl⟩;refine dnx (by simp) I ?_;refine dact qk 0 I ?_;refine cl 0 I (grantGC L.kt L.kv m.term m.frm (newerP m.lt m.idx (L.trm L.last).1 L.last)) ?_;rintro v42 K42 hs42 ⟨rfl,rfl,rfl⟩;rw[<-hgr];refine dnx (by simp) I ?_;refine dact qk 3 I ?_;refine stS 0 0 I I qk I I ?_;refine dnx (by simp) I ?_;refine dend qk 1 I ?_;exact jx b8 trivial ⟨I,I,I,I,trivial⟩ I I
 intro b8 _;have hg1:gr.1.1<=mxU:=by rw[hgr];exact grant_le hkt hb.term
 have hg2 : -1<=gr.1.2/\gr.1.2<7:=by
  rw[hgr];unfold grant
  grind
 refine sq (sq (rg ?_));refine fin 1 I (th (ifB I (fun h1=>?_) (fun h1=>?_)))
 ·rw[if_pos h1];have a:=o.setHard gr.1.1 gr.1.2 hg1;have hsh:=fun (hs':List PH)=>setHardH (w0:=w0) (hs:=hs') lb db L D c o.rn.lb qo o.rn.ok iN.l gr.1.1 gr.1.2 hg1 qo;generalize L.setHard D gr.1.1 gr.1.2=A at a hsh ⊢;obtain ⟨L1,D1,c1⟩:=A;dsimp only at a hsh ⊢;refine sq (rgm [2,0] 7 [0,2,4,6,8,10,13,15,16] ?_);refine dldtp [6] qk 4 0 I qk I I ?_;refine dldSt [6] qk 0 1 I qk I qk ?_;refine dact qk 0 I ?_;refine cl 0 I (Ct.at 3 I (hsh _)) ?_;rintro v52 K52 hs52 ⟨h2,rfl,le1,hL2,rfl⟩;refine WL.hs (pt b8 #[.int .u64 gr.1.1,.int .i64 gr.1.2] 112::pt b3 (mv m p) 34::pt rb (ndA lb R s) RT::h2::g::hs) I ?_;refine dnxL (by simp) le1 ?_;refine dact qk 0 I ?_;refine cl 0 I (Ct.at3 [_,_] (didGC (lh:=h2) (iN.g.le le1) c1)) ?_;rintro v53 K53 hs53 ⟨_,lh,g1,rfl,rfl,⟨s1,rfl,G1⟩,rfl,rfl⟩;refine dnext (.inl qk) ?_
  refine dend qk 1 I (th (sq (sq (rg ?_))));refine cmpS 1 I fun b55 h55=>?_;refine fin 0 I (th (ifP h55 I (fun e3=>?_) (fun e3=>?_)))
  ·rw[if_pos e3];refine sq (rg ?_);refine fin 2 I (th (rt (rT (rT (WQ.drop (WQ.drop ?_))))));exact ret1 I I ⟨_,_,_,I,⟨s1,I,le1,hL2,G1⟩,I⟩
  ·obtain rfl:c1=0:=Decidable.not_not.1 e3;rw[if_neg (by simp)];rw[show R.did 0=R from rfl] at G1 ⊢;refine sk (th (rg ?_));refine stp 4 2 I I I I ?_;refine stp 2 2 I I I I ?_;refine WL.h 2 (pt rb (ndA lb { R with el:=0,wt:=0 } s1) RT) ?_;refine fin 0 I (th (sq (rg ?_)));refine ldp 2 1 I I I ?_;refine bd 1 (.agg (mv { Msg.zero with kind:=2,to:=m.frm,good:=gr.2 } ⟨none,0,none,0,none,0⟩)) I (fun w=>by kernel_rfl) ?_;rw[h1];refine cl 0 I (Ct.at3 [_,_] (sayGC (R:={ R with el:=0,wt:=0 }) ⟨hL2,G1.r⟩ (by show R.out.length<=_;omega) _ _ ⟨EntsS.nil _ _ _,IsS.nil _ _ _ _,IsS.nil _ _ _ _⟩)) ?_;rintro v68 K68 hs68 ⟨_,_,_,rfl,⟨s2,rfl,le2,I2⟩,rfl⟩;refine fin 0 I (th (sq (rg ?_)));refine fin 1 I (th (rt (WQ.drop (WQ.drop ?_))));exact ret1 I I ⟨_,_,_,I,⟨s2,I,le1.trans le2,I2⟩,I⟩
 ·rw[if_neg (by simp[h1])];refine sk (th (sq (rg ?_)));refine ldp 2 1 I I I ?_;refine bd 1 (.agg (mv { Msg.zero with kind:=2,to:=m.frm,good:=gr.2 } ⟨none,0,none,0,none,0⟩)) I (fun w=>by kernel_rfl) ?_;rw[h1];refine cl 0 I (Ct.at3 [_,_] (sayGC iN qo _ _ ⟨EntsS.nil _ _ _,IsS.nil _ _ _ _,IsS.nil _ _ _ _⟩)) ?_;rintro v68 K68 hs68 ⟨_,_,_,rfl,⟨s2,rfl,le2,I2⟩,rfl⟩;refine fin 0 I (th (sq (rg ?_)));refine fin 1 I (th (rt (WQ.drop (WQ.drop ?_))));exact ret1 I I ⟨_,_,_,I,⟨s2,I,le2,I2⟩,I⟩
end
end
section
attribute [local irreducible] Code.wp wpList Calls
section
variable {w0:World} {K lh g:PH} {hs:List PH} {rb lb db c q z k:Nat} {R:Nd} {L:Lg} {D:Dk} {s:NS}
theorem votedGC(iN:Nd3 K rb lb db R L D s lh g)(o:NI c q z k R L D)(hc:c<=700000000)(hk:k<=500000)(m:Msg)(p:MA):
  NdC w0 K hs rb lb db R s lh g 75 [.pointer (some ⟨rb,0,none⟩),.agg (mv m p)] (R.voted L D m).1 (R.voted L D m).2.1 (R.voted L D m).2.2.1 (.int .i64 (R.voted L D m).2.2.2):=by
 have hcf:Cfg L.cfg.1:=cfgAt_cfg o.rn.lb o.cf L.last;have hyl:=o.rb.yes;unfold Nd.voted;refine enter Tryz.func75 qk I I I ?_;refine sq (rg ?_);refine bx 0 I fun b3=>?_;refine fin 1 I (th (sq (sq (rg ?_))));refine ldp 3 1 I I I ?_;refine cmpS 0 I fun b11 h11=>?_
 refine' bjo (q:=m.good=false) 1 4 16 [11,12] h11 I I I I I I I (fun _=>?x2) (fun b16 h16=>?_)
 case x2=>
  refine ldp 1 0 I I I ?_;refine cbS 0 (m.good=false) I (by cases m.good <;> simp) fun b15 h15=>?_;exact fin 1 I (bjx h15 I I I)
 refine fin 0 I<|th (ifP h16 I (fun e3=>?_) (fun e3=>?_))
 ·rw[if_pos e3];refine sq (rg ?_);refine fin 1 I (th (rt (rT (WQ.drop ?_))));exact ret1 I I ⟨_,_,_,I,⟨s,I,Le.refl _,iN⟩,I⟩
 rw[if_neg e3];refine sk (th (sq (rg ?_)));refine cl 1 I (Ct.at2p [_] (configGC o qo iN.l)) ?_;rintro v19 K19 hs19 ⟨_,lh,rfl,rfl,rfl,le1,ao,cap,rfl,x⟩;refine al 3 (.agg #[.slice none 0 0]) I qk fun b5=>?_;refine stS 0 0 I I qk I I ?_;have I1:=iN.le le1;obtain ⟨hL,hy,hd,hq,rfl,dj,⟨⟨aY,cY,eY,oY⟩,v,d,ou,f⟩⟩:=I1;obtain ⟨sy,sv,sd,so,f0,f1,f2⟩:=s;dsimp only at eY v d ou f;subst eY;refine WL.hs (pt b5 #[.slice ao L.cfg.1.length cap] 46::pt b3 (mv m p) 34::pt rb (ndA lb R ⟨.slice aY R.yes.length cY,sv,sd,so,f0,f1,f2⟩) RT::lh::uns [hy,hd,hq]::hs) I ?_;refine WL.perm (List.perm_append_comm_assoc [_,_,_,_] [_] hs) (WL.split dj ?_);refine fin 1 I (th (sq (rgm [5,4] 11 [0,2,4,6,8,10,12,15,17,18,20,23] ?_)));refine dldpw qk 4 0 I qk I I ?_;refine dldpw qk 1 1 I qk I I ?_;refine dact qk 0 I ?_;refine lit 0 #[.int .i64 m.frm] I (by decide) qk fun b29=>?_
 refine dnx (by simp) I ?_;refine dact qk 0 I ?_;have xm:IsS (pt b29 #[.int .i64 m.frm] 3) (some ⟨b29,0,none⟩) 1 1 1 [.int .i64 m.frm]:=(Own.ofPt (b:=b29) (c:=#[.int .i64 m.frm]) (e:=3) (n:=1) (size:=1) rfl (by decide)).isS;refine app 0 1 I I oY (.inr ⟨0,I⟩) xm I (by decide) (by simp;rfl) (by show (R.yes.length+1)*8<=_;omega) (by simp[maxLen];omega) fun ao30 c30 g30 o30=>?_;refine dnx (by simp) I ?_;refine dact qk 2 I ?_;refine stp 0 6 I I I I ?_;obtain ⟨R1,hR1⟩:∃ R1:Nd,R1={ R with yes:=R.yes++[m.frm] }:=⟨_,rfl⟩;have hyl1:R1.yes.length=R.yes.length+1:=by rw[hR1];simp
 have o1:NI c q z (k+1) R1 L D:=by
  rw[hR1];exact o.r { o.rb.up (Nat.le_succ k) with yes:=by show (R.yes++[m.frm]).length<=_;simp;omega }
 rw[<-hR1];have e30:(R.yes.length+1)=R1.yes.length:=hyl1.symm
 have o30':Own g30 ao30 R1.yes.length c30 3 1 (iv R1.yes):=by
  rw[hyl1,hR1];simpa[iv] using o30
 refine WL.h 6 (pt rb (ndA lb R1 ⟨.slice ao30 R1.yes.length c30,sv,sd,so,f0,f1,f2⟩) RT) ?_ (.there (.there (.there (.there (.there (.there (.here (by rw[hyl1,hR1];rfl))))))));refine dnext (.inl qk) ?_;refine dend qk 0 I (th (WC.drop (WC.join [g30,hd,hq] fun dj'=>WC.perm (List.perm_append_comm_assoc [_] [_,_,_,_] hs) ?_)));have G1:NdH K19 rb R1 ⟨.slice ao30 R1.yes.length c30,sv,sd,so,f0,f1,f2⟩ (uns [g30,hd,hq]):=⟨g30,hd,hq,rfl,dj',⟨ao30,c30,rfl,o30'⟩,by rw[hR1];exact v,by rw[hR1];exact d,by rw[hR1];exact ou,f⟩;refine sq (rg ?_);refine ldS 1 0 I I qk ?_;refine cl 0 I (Ct.at3 [_,_] (electGC ⟨hL,G1⟩ o1 qo qo L.cfg.1 hcf.len ao cap x)) ?_;rintro v35 K35 hs35 ⟨_,_,_,rfl,⟨s2,rfl,le2,I2⟩,rfl⟩;refine fin 1 I (th (rt (WQ.drop (WQ.drop ?_))));exact ret1 I I ⟨_,_,_,I,⟨s2,I,le1.trans le2,I2⟩,I⟩
theorem clashesGC(o:NI c q z k R L D)(hc:c<=700000000)(hL:LgH K lb db L D lh)(m:Msg)(hb:m.bd)(p:MA)(hS:MsgS K m p):
  Ct Tryz.prog w0 141 [.pointer (some ⟨rb,0,none⟩),.agg (mv m p)] K (pt rb (ndA lb R s) RT::lh::hs) (fun v K' hs'=>∃ a b,hs'=a::b::hs/\K'=K/\a=pt rb (ndA lb R s) RT/\b=lh/\v=.bool (R.clashes L m)):=by
 have xs:=hS.1.slS;obtain ⟨ys,hys⟩:=xs.isS;have hel:=hb.entsL;refine enter Tryz.func141 qk I I I ?_;refine sq (rg ?_);refine bx 0 I fun b3=>?_;refine fin 1 I (th (sq (rgm [1,0] 12 [0,2,4,6,8,10,13,14,16,18,20,22] ?_)));refine dldp qk 3 0 I I I ?_;refine dldp qk 1 1 I I I ?_;refine dact qk 0 I ?_;refine cl 0 I (Ct.keep 2 I (termH lb db L D c o.rn.lb qo hL m.idx (by have:=hb.idx;unfold mxU at this;omega))) ?_;rintro v18 K18 hs18 ⟨rfl,rfl,rfl⟩;obtain ⟨⟨tt,tb⟩,ht⟩:∃ x,x=L.trm m.idx:=⟨_,rfl⟩;rw[show trm L.sn L.l m.idx=(tt,tb) from ht.symm];refine dnx (by simp) I ?_;refine dend qk 5 I (th ?_);have hcl0:clash1 L R.com m.idx m.lt=(decide (m.idx<=R.com) && (tb && decide (tt≠m.lt))):=by unfold clash1;rw[<-ht]
 refine jn (σ:=Unit) (fun _=>[(0,.pointer (some ⟨rb,0,none⟩)),(3,.pointer (some ⟨b3,0,none⟩)),(4,.bool false)]) (fun _=>pt b3 (mv m p) 34::pt rb (ndA lb R s) RT::lh::hs) (fun _=>clash1 L R.com m.idx m.lt=false) ?_ ?_
 ·refine sq (rgm [1,0] 16 [0,2,4,6,8,10,12,14,16,18,20,22,24,26,28,30] ?_);refine dldp qk 1 1 I I I ?_;refine dldp qk 3 0 I I I ?_;refine dcmp qk 0 (m.idx<=R.com) I (by simp) (fun h1=>?_) (fun h1=>?_)
  ·cases tb with
   | true=>
    refine dldp qk 6 1 I I I ?_;refine dcbS qk 0 (tt≠m.lt) I (by simp;omega) fun b35 h35=>?_;refine dend qk 1 I (th (ifP h35 I (fun h2=>?_) (fun h2=>?_)))
    ·refine sq (rg ?_);refine fin 1 I (th (rt (rT (WQ.drop ?_))));exact ret1 I I ⟨_,_,I,I,I,I,by unfold Nd.clashes;rw[hcl0];simp[h1,h2]⟩
    ·refine sk ?_;exact jx () (by rw[hcl0];simp[h2]) ⟨rfl,rfl,rfl,trivial⟩ rfl rfl
   | false=>
    refine dend qk 9 I (th (ifF I (sk ?_)));exact jx () (by rw[hcl0];simp) ⟨rfl,rfl,rfl,trivial⟩ rfl rfl
  ·refine dend qk 9 I (th (ifF I (sk ?_)));exact jx () (by rw[hcl0];simp[h1]) ⟨rfl,rfl,rfl,trivial⟩ rfl rfl
 rintro _ hc0;refine sq (sq (rg ?_));refine ldp 1 0 I I I ?_;refine fin 2 I (th (bk ?_))
 refine loop (σ:=Nat) (fun j=>[(0,.pointer (some ⟨rb,0,none⟩)),(3,.pointer (some ⟨b3,0,none⟩)),(4,.bool false),(38,.slice p.ae m.ents.length p.ce),(39,.int .i64 m.ents.length),(40,.int .i64 (j:Nat))]) (fun _=>K18) (fun _=>pt b3 (mv m p) 34::pt rb (ndA lb R s) RT::lh::hs)
  (fun j=>j<=m.ents.length/\∀ e∈m.ents.take j,clash1 L R.com e.idx e.term=false) (fun j=>m.ents.length-j) 0 ⟨Nat.zero_le _,by simp⟩ ⟨rfl,rfl,rfl,rfl,rfl,rfl,trivial⟩ rfl rfl ?_
 rintro j ⟨hj,hno⟩;refine sq (rg ?_);refine cmpS 0 I fun b41 h41=>?_;refine fin 0 I (th (sq (ifP h41 I (fun e4=>?_) (fun e4=>?_))))
 ·have hjx:j<m.ents.length:=by omega
  obtain ⟨e,he⟩:∃ e,m.ents[j]?=some e:=⟨_,List.getElem?_eq_getElem hjx⟩;have hem:=List.mem_of_getElem? he;obtain ⟨q1,q2,q3⟩:=hb.ents e hem
  have hnext:clash1 L R.com e.idx e.term=false->j+1<=m.ents.length/\∀ e∈m.ents.take (j+1),clash1 L R.com e.idx e.term=false:=fun h=>⟨by omega,fun y hy=>by
   rw[List.take_add_one,he] at hy;rcases List.mem_append.1 hy with hy|hy
   ·exact hno y hy
   ·simp at hy;rw[hy];exact h⟩
  obtain ⟨a,ha⟩:=xs.addr qo (by decide);rw[ha] at xs hys;obtain ⟨cc,⟨ae,ce,rfl,xe⟩,_,hcell⟩:=xs.cells he;refine sk (th (sq (bk (sq (rg ?_)))));refine ixs 0 j (by rw[ha];rfl) rfl hys hjx (by decide) fun a42 h42=>?_;cases h42;refine lds 0 (e.v ae ce).toList I qk (.inl I) hcell ?_;refine al 0 (.agg #[.int .u64 0,.int .u64 0,.int .i64 0,.slice none 0 0]) I qk fun b8=>?_;refine stS 0 0 I I qk I I ?_;refine WL.hs (pt b8 (e.v ae ce) 51::pt b3 (mv m p) 34::pt rb (ndA lb R s) RT::lh::hs) (by simp[Ent.v]) ?_;refine fin 0 I (th (sq (rgm [2,0] 12 [0,2,4,6,8,10,13,14,16,18,20,22] ?_)));refine dldp qk 3 0 I I I ?_;refine dldp qk 1 1 I I I ?_;refine dact qk 0 I ?_;refine cl 0 I (Ct.keep 3 I (termH lb db L D c o.rn.lb qo hL e.idx (by unfold mxU at q1;omega))) ?_;rintro v51 K51 hs51 ⟨rfl,rfl,rfl⟩;obtain ⟨⟨ut,ub⟩,hu⟩:∃ x,x=L.trm e.idx:=⟨_,rfl⟩
  rw[show trm L.sn L.l e.idx=(ut,ub) from hu.symm];have hcl1:clash1 L R.com e.idx e.term=(decide (e.idx<=R.com) && (ub && decide (ut≠e.term))):=by unfold clash1;rw[<-hu]
  refine dnx (by simp) I ?_;refine dend qk 5 I (th (sq (rgm [2,0] 16 [0,2,4,6,8,10,12,14,16,18,20,22,24,26,28,30] ?_)));refine dldp qk 1 1 I I I ?_;refine dldp qk 3 0 I I I ?_;refine dcmp qk 0 (e.idx<=R.com) I (by simp) (fun h1=>?_) (fun h1=>?_)
  ·cases ub with
   | true=>
    refine dldp qk 6 1 I I I ?_;refine dcbS qk 0 (ut≠e.term) I (by simp;omega) fun b68 h68=>?_;refine dend qk 1 I (th (ifP h68 I (fun h2=>?_) (fun h2=>?_)))
    ·refine sq (rg ?_);refine fin 1 I (th (rt (rB (rT (rT (rB (rT (WQ.drop (WQ.drop ?_)))))))));refine ret1 I I ⟨_,_,I,I,I,I,?_⟩;unfold Nd.clashes;rw[hc0,Bool.false_or,List.any_eq_true.2 ⟨e,hem,by rw[hcl1];simp[h1,h2]⟩]
    ·refine sk (bl (th (rg ?_)));refine ar 0 I (i64w (x:=((j+1:Nat):Int)) qo) ?_;refine fin 1 I (WQ.drop ?_);exact again (x:=j) (j+1) ⟨I,I,I,by rw[ha];rfl,rfl,rfl,trivial⟩ rfl rfl (hnext (by rw[hcl1];simp[h2])) qo
   | false=>
    refine dend qk 9 I (th (ifF I (sk (bl (th (rg ?_))))));refine ar 0 I (i64w (x:=((j+1:Nat):Int)) qo) ?_;refine fin 1 I (WQ.drop ?_);exact again (x:=j) (j+1) ⟨I,I,I,by rw[ha];rfl,rfl,rfl,trivial⟩ rfl rfl (hnext (by rw[hcl1];simp)) qo
  ·refine dend qk 9 I (th (ifF I (sk (bl (th (rg ?_))))));refine ar 0 I (i64w (x:=((j+1:Nat):Int)) qo) ?_;refine fin 1 I (WQ.drop ?_);exact again (x:=j) (j+1) ⟨I,I,I,by rw[ha];rfl,rfl,rfl,trivial⟩ rfl rfl (hnext (by rw[hcl1];simp[h1])) qo
 ·obtain rfl:j=m.ents.length:=by omega
  rw[List.take_length] at hno;refine ex (xt (xt (xb (th (sq (rg ?_))))));refine fin 1 I (th (rt (WQ.drop ?_)));refine ret1 I I ⟨_,_,I,I,I,I,?_⟩;unfold Nd.clashes;rw[hc0,Bool.false_or,List.any_eq_false.2 (fun e he=>by rw[hno e he];simp)]
end
end
section
theorem setP_setP(R:Nd)(v:Int)(p q:Pr):(R.setP v p).setP v q=R.setP v q:=by
 unfold Nd.setP;simp only[Nd.mk.injEq,true_and,and_true]
 funext i
 split <;> rfl
theorem setP_pr(R:Nd)(j:Nat)(p:Pr):(R.setP (j:Int) p).pr j=p:=by rw[setP_at,if_pos rfl]
theorem ndA_prS(lb:Nat)(R:Nd)(s:NS){j:Nat}(hj:j<7)(p:Pr){k:Nat}{v:Value}(h:(prV p [])[k]?=some v):(ndA lb (R.setP (j:Int) p) s)[10+j*5+k]?=some v:=ndA_pr lb _ s hj (by rw[setP_pr];exact h)
theorem ndA_stS(lb:Nat)(R:Nd)(s:NS){j:Nat}(hj:j<7)(p0 p:Pr):
  (p.nx=p0.nx/\p.rd=p0.rd/\p.ws=p0.ws/\p.of=p0.of->(ndA lb (R.setP (j:Int) p0) s).setIfInBounds (10+j*5) (.int .u64 p.mt)=ndA lb (R.setP (j:Int) p) s) /\
  (p.mt=p0.mt/\p.rd=p0.rd/\p.ws=p0.ws/\p.of=p0.of->(ndA lb (R.setP (j:Int) p0) s).setIfInBounds (10+j*5+1) (.int .u64 p.nx)=ndA lb (R.setP (j:Int) p) s) /\
  (p.mt=p0.mt/\p.nx=p0.nx/\p.ws=p0.ws/\p.of=p0.of->(ndA lb (R.setP (j:Int) p0) s).setIfInBounds (10+j*5+2) (.int .u64 p.rd)=ndA lb (R.setP (j:Int) p) s) /\
  (p.mt=p0.mt/\p.nx=p0.nx/\p.rd=p0.rd/\p.of=p0.of->(ndA lb (R.setP (j:Int) p0) s).setIfInBounds (10+j*5+3) (.bool p.ws)=ndA lb (R.setP (j:Int) p) s) /\
  (p.mt=p0.mt/\p.nx=p0.nx/\p.rd=p0.rd/\p.ws=p0.ws->(ndA lb (R.setP (j:Int) p0) s).setIfInBounds (10+j*5+4) (.int .i64 p.of)=ndA lb (R.setP (j:Int) p) s):=by
 have h:=ndA_st lb (R.setP (j:Int) p0) s hj p;rw[setP_pr,setP_setP] at h;exact h
theorem minI(a b:Nat):(if (a:Int)<(b:Int) then (a:Int) else (b:Int))=((min b a:Nat):Int):=by split <;> omega
theorem maxI(a b:Nat):(if (a:Int)>(b:Int) then (a:Int) else (b:Int))=((max b a:Nat):Int):=by split <;> omega
attribute [local irreducible] Code.wp wpList Calls
section
variable {w0:World} {K lh g:PH} {hs:List PH} {rb lb db c q z k:Nat} {R:Nd} {L:Lg} {D:Dk} {s:NS}
theorem followGC'(x:Int):Ct Tryz.prog w0 142 [.pointer (some ⟨rb,0,none⟩),.int .i64 x] K (pt rb (ndA lb R s) RT::hs) (fun v K' hs'=>∃ a,hs'=a::hs/\K'=K/\a=pt rb (ndA lb (R.foll x) s) RT/\v=.tuple #[]):=
 (followGC x).mono fun v K' hs' ⟨h1,h2,h3⟩=>⟨_,h2,h1,rfl,h3⟩
theorem appGC(iN:Nd3 K rb lb db R L D s lh g)(o:NI c q z k R L D)(hc:c<=700000000)(hk:k<=500000)(m:Msg)(hb:m.bd)(ho:m.ok)(hkd:m.kind=3)(p:MA)(hS:MsgS K m p):
  NdC w0 K hs rb lb db R s lh g 76 [.pointer (some ⟨rb,0,none⟩),.agg (mv m p)] (R.app L D m).1 (R.app L D m).2.1 (R.app L D m).2.2.1 (.int .i64 (R.app L D m).2.2.2):=by
 have hf:=ok_frm ho;have he8:=(ok_ents ho hkd).2;have o1:=o.r (o.rb.foll (x:=m.frm) qo);have a:=o1.merge m.idx m.lt m.ents (fun e he=>⟨(hb.ents e he).1,(hb.ents e he).2.1⟩) he8 qo;unfold Nd.app;have hmg:=fun (hs':List PH)=>mergeH (w0:=w0) (hs:=hs') lb db L D c o.rn.lb o.rn.ok iN.l m.idx m.lt hb.idx hb.lt p.ae p.ce m.ents hS.1.slS (fun e he=>⟨(hb.ents e he).1,(hb.ents e he).2.1,by have:=(hb.ents e he).2.2;omega⟩) qo;refine enter Tryz.func76 qk I I I ?_;refine sq (rg ?_);refine bx 0 I fun b3=>?_;refine fin 1 I (th (sq (sq (rg ?_))));refine ldp 3 1 I I I ?_;refine cmpS 0 I fun b12 h12=>?_
 refine' bjo (q:=R.clashes L m=true) 1 4 17 [12,13] h12 I I I I I I I (fun _=>?x2) (fun b17 h17=>?_)
 case x2=>
  refine ldS 1 0 I I qk ?_;refine cl 0 I (Ct.at2p [_] (clashesGC o hc iN.l m hb p hS)) ?_;rintro v16 K16 hs16 ⟨_,_,rfl,rfl,rfl,rfl,rfl⟩;exact fin 1 I (bjx Iff.rfl I I I)
 refine fin 0 I<|th (ifP h17 I (fun e3=>?_) (fun e3=>?_))
 ·rw[if_pos e3];refine sq (rg ?_);refine fin 1 I (th (rt (rT (WQ.drop ?_))));exact ret1 I I ⟨_,_,_,I,⟨s,I,Le.refl _,iN⟩,I⟩
 rw[if_neg e3];generalize L.merge m.idx m.lt m.ents D=A at a hmg ⊢;obtain ⟨L1,D1,n,gd,c1⟩:=A;dsimp only at a hmg ⊢;obtain ⟨R1,hR1⟩:∃ R1,R1=R.foll m.frm:=⟨_,rfl⟩;have hout:R1.out.length<=900000:=by rw[hR1];have:=o.rb.out;show R.out.length<=_;omega
 rw[<-hR1] at a ⊢;refine sk (th (sq (rg ?_)));refine ldp 2 0 I I I ?_;refine cl 0 I (Ct.at 1 I (followGC' m.frm)) ?_;rintro v21 K21 hs21 ⟨_,rfl,rfl,rfl,rfl⟩;refine WL.hs (pt b3 (mv m p) 34::pt rb (ndA lb R1 s) RT::lh::g::hs) (by rw[hR1];rfl) ?_;have I1:NdH K21 rb R1 s g:=by rw[hR1];exact iN.g.r
 refine fin 0 I (th (sq (rgm [1,0] 18 [0,2,4,6,8,10,12,14,16,18,21,22,24,26,28,30,32,34] ?_)));refine dldp qk 3 0 I I I ?_;refine dldp qk 1 1 I I I ?_;refine dldp qk 1 1 I I I ?_;refine dldp qk 1 1 I I I ?_;refine dact qk 0 I ?_;refine cl 0 I (Ct.at 2 I (hmg _)) ?_;rintro v33 K33 hs33 ⟨h2,rfl,le1,hL2,rfl⟩;refine WL.hs (pt b3 (mv m p) 34::pt rb (ndA lb R1 s) RT::h2::g::hs) I ?_;refine dnxL (by simp) le1 ?_;refine dend qk 7 I (th (sq (sq (rg ?_))));refine cmpS 1 I fun b38 h38=>?_
 refine' bjo (q:=c1=181) 1 3 42 [38,39] h38 I I I I I I I (fun _=>?x5) (fun b42 h42=>?_)
 case x5=>
  refine cmpS 1 I fun b41 h41=>?_;exact fin 1 I (bjx h41 I I I)
 refine fin 0 I<|th (ifP h42 I (fun e7=>?_) (fun e7=>?_))
 ·rw[if_pos e7];refine sq (rg ?_);refine fin 1 I (th (rt (rT (WQ.drop ?_))));exact ret1 I I ⟨_,_,_,I,⟨s,I,le1,hL2,I1.le le1⟩,I⟩
 rw[if_neg e7];refine sk (th (sq (sq (rg ?_))));refine cmpS 1 I fun b44 h44=>?_
 refine' bja (q:=gd=true) 1 2 47 [44,45] h44 I I I I I I I (fun _=>?x9) (fun b47 h47=>?_)
 case x9=>
  exact fin 2 I<|bjx Iff.rfl I I I
 refine fin 0 I<|th (ifP h47 I (fun e10=>?_) (fun e10=>?_))
 ·obtain ⟨rfl,rfl⟩:=e10;rw[if_neg (by simp),if_neg (by simp)];have b:=a.sync;have hsy:=fun (hs':List PH)=>syncH' (w0:=w0) (hs:=hs') lb db L1 D1 (c+98) a.rn.lb qo a.rn.ok hL2;generalize L1.sync D1=B at b hsy ⊢;obtain ⟨L2,D2,c2⟩:=B;dsimp only at b hsy ⊢;refine rg ?_;refine ldp 3 1 I I I ?_;refine cl 0 I (Ct.at 2 I (hsy _)) ?_;rintro v52 K52 hs52 ⟨h3,rfl,le2,hL3,rfl⟩;refine WL.hs (pt b3 (mv m p) 34::pt rb (ndA lb R1 s) RT::h3::g::hs) I ?_;refine fin 1 I (th (sq (sq (rg ?_))));refine cl 2 I (Ct.at3 [_] (didGC (lh:=h3) ((I1.le le1).le le2) c2)) ?_;rintro v55 K55 hs55 ⟨_,lh,g1,rfl,rfl,⟨s1,rfl,G1⟩,rfl,rfl⟩;refine cmpS 0 I fun b56 h56=>?_;refine fin 0 I (th (ifP h56 I (fun e12=>?_) (fun e12=>?_)))
  ·rw[if_pos e12];refine sq (rg ?_);refine fin 2 I (th (rt (rT (WQ.drop ?_))));exact ret1 I I ⟨_,_,_,I,⟨s1,I,le1.trans le2,hL3,G1⟩,I⟩
  ·obtain rfl:c2=0:=Decidable.not_not.1 e12;rw[if_neg (by simp)];rw[show R1.did 0=R1 from rfl] at G1 ⊢;unfold Nd.appE;rw[if_pos rfl];refine sk (th (sq (sq (rg ?_))));refine fin 1 I (th (ifT I ?_));refine rgm [1,0] 12 [0,2,4,6,8,10,12,14,16,18,20,22,25] ?_;refine dldpw qk 4 0 I qk I I ?_;refine dldpw qk 1 1 I qk I I ?_;refine dact qk 5 I ?_;refine stp 0 1 I I I I ?_;refine WL.h 1 (pt rb (ndA lb { R1 with com:=max R1.com (min m.com n) } s1) RT) ?_ (.there (.here (by rw[show (if (if (n:Int)<(m.com:Int) then (n:Int) else (m.com:Int))>(R1.com:Int) then (if (n:Int)<(m.com:Int) then (n:Int) else (m.com:Int)) else (R1.com:Int))=((max R1.com (min m.com n):Nat):Int) from by split <;> split at * <;> omega];rfl)));refine dnext (.inl qk) ?_;refine dend qk 0 I (th (sq (rg ?_)));refine ldp 2 0 I I I ?_;refine ldp 3 0 I I I ?_
   refine bd 0 (.agg (mv { Msg.zero with kind:=4,to:=m.frm,good:=true,idx:=n,rnd:=m.rnd } ⟨none,0,none,0,none,0⟩)) I (fun w=>by kernel_rfl) ?_;refine cl 0 I (Ct.at3 [_] (sayGC (R:={ R1 with com:=max R1.com (min m.com n) }) ⟨hL3,G1.r⟩ (by show R1.out.length<=_;omega) _ _ ⟨EntsS.nil _ _ _,IsS.nil _ _ _ _,IsS.nil _ _ _ _⟩)) ?_;rintro v79 K79 hs79 ⟨_,_,_,rfl,⟨s2,rfl,le3,I3⟩,rfl⟩;refine fin 0 I (th (sq (rg ?_)));refine fin 1 I (th (rt (WQ.drop ?_)));exact ret1 I I ⟨_,_,_,I,⟨s2,I,(le1.trans le2).trans le3,I3⟩,I⟩
 ·refine sk (th (sq (sq (rg ?_))));refine cl 2 I (Ct.at3 [_] (didGC (lh:=h2) (I1.le le1) c1)) ?_;rintro v55 K55 hs55 ⟨_,lh,g1,rfl,rfl,⟨s1,rfl,G1⟩,rfl,rfl⟩;refine cmpS 0 I fun b56 h56=>?_;refine fin 0 I (th (ifP h56 I (fun e12=>?_) (fun e12=>?_)))
  ·rw[if_pos e12];refine sq (rg ?_);refine fin 2 I (th (rt (rT (WQ.drop ?_))));exact ret1 I I ⟨_,_,_,I,⟨s1,I,le1,hL2,G1⟩,I⟩
  ·obtain rfl:c1=0:=Decidable.not_not.1 e12
   obtain rfl:gd=false:=by
    cases gd with
    | true=>exact absurd ⟨rfl,rfl⟩ e10
    | false=>rfl
   rw[if_neg (by simp),if_pos rfl];rw[show R1.did 0=R1 from rfl] at G1 ⊢;unfold Nd.appE;rw[if_neg (by simp)];refine sk (th (sq (sq (rg ?_))));refine fin 1 I (th (ifF I ?_));refine sk (th (sq (rg ?_)));refine ldp 2 0 I I I ?_;refine ldp 3 0 I I I ?_;refine bd 0 (.agg (mv { Msg.zero with kind:=4,to:=m.frm,good:=false,idx:=n,rnd:=m.rnd } ⟨none,0,none,0,none,0⟩)) I (fun w=>by kernel_rfl) ?_;refine cl 0 I (Ct.at3 [_] (sayGC ⟨hL2,G1⟩ qo _ _ ⟨EntsS.nil _ _ _,IsS.nil _ _ _ _,IsS.nil _ _ _ _⟩)) ?_;rintro v79 K79 hs79 ⟨_,_,_,rfl,⟨s2,rfl,le3,I3⟩,rfl⟩;refine fin 0 I (th (sq (rg ?_)));refine fin 1 I (th (rt (WQ.drop ?_)));exact ret1 I I ⟨_,_,_,I,⟨s2,I,le1.trans le3,I3⟩,I⟩
theorem appdGC(iN:Nd3 K rb lb db R L D s lh g)(o:NI c q z k R L D)(hc:c<=700000000)(hk:k<=500000)(m:Msg)(hb:m.bd)(hf:0<=m.frm/\m.frm<7)(p:MA):
  NdC w0 K hs rb lb db R s lh g 77 [.pointer (some ⟨rb,0,none⟩),.agg (mv m p)] (R.appended L m) L D (.tuple #[]):=by
 have hlast:=o.last qo;obtain ⟨j,hj⟩:∃ j:Nat,m.frm=(j:Int):=⟨m.frm.toNat,by omega⟩;have hj7:j<7:=by omega
 have hpr:=o.rb.pr j;unfold Pr.ok at hpr;unfold rTop at hpr hlast;have hrn:=hb.rnd;have hcf:Cfg L.cfg.1:=cfgAt_cfg o.rn.lb o.cf L.last;unfold mxU at hrn;unfold Nd.appended;refine enter Tryz.func77 qk I I I ?_;refine sq (rg ?_);refine bx 0 I fun b3=>?_;refine fin 0 I (th (sq (sq (rg ?_))));refine ldp 3 1 I I I ?_;refine cmpS 0 I fun b11 h11=>?_;refine fin 0 I (th (ifP h11 I (fun e2=>?_) (fun e2=>?_)))
 ·rw[if_pos e2];refine rt (rT (WQ.drop ?_));exact ret0 I ⟨_,_,_,I,⟨s,I,Le.refl _,iN⟩,I⟩
 rw[if_neg e2];refine sk (th (sq (rgm [0] 7 [0,2,4,6,8,10,12] ?_)));refine dldp qk 2 0 I I I ?_;refine dixa (sz:=5) (a:=⟨rb,10,none⟩) qk 2 j I Tryz.underlying101 qk hj hj7 ?_;rw[add_mk];refine dend qk 1 I (th (sq (rg ?_)));refine stp 3 1 I I (ndA_pr lb R s hj7 (k:=3) I) I ?_;have hS:∀ p,Nd3 K rb lb db (R.setP (j:Int) p) L D s lh g:=fun p=>⟨iN.l,iN.g.r⟩;refine WL.h 1 (pt rb (ndA lb (R.setP (j:Int) { R.pr j with ws:=false }) s) RT) ?_ (.there (.here (by rw[<-(ndA_st lb R s hj7 { R.pr j with ws:=false }).2.2.2.1 ⟨rfl,rfl,rfl,rfl⟩])));refine fin 0 I (th (sq (rgm [1,0] 15 [0,2,4,6,8,10,12,14,16,18,20,22,24,26,28,31] ?_)));refine dldpw qk 4 0 I qk I (ndA_prS lb R s hj7 _ (k:=2) I) ?_;refine dldpw qk 1 1 I qk I I ?_;refine dldpw qk 3 0 (v:=.int .u64 R.rnd) I qk I I ?_
 refine dact qk 4 I ?_;refine stp 0 1 I I (ndA_prS lb R s hj7 _ (k:=2) I) I ?_
 refine WL.h 1 (pt rb (ndA lb (R.setP (j:Int) { R.pr j with ws:=false,rd:=max (R.pr j).rd (min m.rnd R.rnd) }) s) RT) ?_ (.there (.here (by
  rw[<-(ndA_stS lb R s hj7 { R.pr j with ws:=false } { R.pr j with ws:=false,rd:=max (R.pr j).rd (min m.rnd R.rnd) }).2.2.1 ⟨rfl,rfl,rfl,rfl⟩,<-maxI,<-minI])))
 refine dnext (.inl qk) ?_;refine dend qk 0 I (th ?_);have hA:Nd3 K rb lb db (R.appd1 L m) L D s lh g->True:=fun _=>trivial
 refine jnK (σ:=PH×NS×PH×PH) (fun _=>[(0,.pointer (some ⟨rb,0,none⟩)),(3,.pointer (some ⟨b3,0,none⟩)),(4,.pointer (some ⟨rb,10+j*5,none⟩))]) (fun u=>u.1) (fun u=>pt b3 (mv m p) 34::pt rb (ndA lb (R.appd1 L m) u.2.1) RT::u.2.2.1::u.2.2.2::hs)
  (fun u=>Le K u.1/\Nd3 u.1 rb lb db (R.appd1 L m) L D u.2.1 u.2.2.1 u.2.2.2) ?_ ?_
 ·unfold Nd.appd1;rw[show R.p m.frm=R.pr j from by rw[hj];rfl,hj];dsimp only;refine sq (rg ?_);refine ldp 1 0 I I I ?_;refine fin 0 I (th (ifB I (fun e3=>?_) (fun e3=>?_)))
  ·rw[if_pos e3];refine sq (rgm [1,0] 16 [0,2,4,6,8,10,12,14,16,18,20,23,24,26,28,30,33] ?_);refine dldpw qk 4 0 I qk I (ndA_prS lb R s hj7 _ (k:=0) I) ?_;refine dldpw qk 1 1 I qk I I ?_;refine dldpw qk 3 0 I qk I I ?_;refine dact qk 0 I ?_;refine cl 0 I (Ct.keep 2 I (lastH lb db L D c o.rn.lb qo iN.l)) ?_;rintro v49 K49 hs49 ⟨rfl,rfl,rfl⟩;refine dnx (by simp) I ?_;refine dact qk 4 I ?_;refine stp 0 1 I I (ndA_prS lb R s hj7 _ (k:=0) I) I ?_
   refine WL.h 1 (pt rb (ndA lb (R.setP (j:Int) { R.pr j with ws:=false,rd:=max (R.pr j).rd (min m.rnd R.rnd),mt:=max (R.pr j).mt (min m.idx L.last) }) s) RT) ?_ (.there (.here (by
    rw[<-(ndA_stS lb R s hj7 { R.pr j with ws:=false,rd:=max (R.pr j).rd (min m.rnd R.rnd) } { R.pr j with ws:=false,rd:=max (R.pr j).rd (min m.rnd R.rnd),mt:=max (R.pr j).mt (min m.idx L.last) }).1 ⟨rfl,rfl,rfl,rfl⟩,<-maxI,<-minI]
    rfl)))
   refine dnext (.inl qk) ?_;refine dend qk 0 I (th (sq (rgm [1] 13 [0,2,4,6,8,10,12,14,16,18,20,22,24,27] ?_)));refine dldpw qk 4 0 I qk I (ndA_prS lb R s hj7 _ (k:=1) I) ?_;refine dldpw qk 3 0 I qk I (ndA_prS lb R s hj7 _ (k:=0) I) ?_;refine dar qk 0 I (u64w (x:=((max (R.pr j).mt (min m.idx L.last)+1:Nat):Int)) qo) ?_;refine dact qk 3 I ?_;refine stp 0 1 I I (ndA_prS lb R s hj7 _ (k:=1) I) I ?_;obtain ⟨R4,hR4⟩:∃ R4,R4=R.setP (j:Int) { R.pr j with ws:=false,rd:=max (R.pr j).rd (min m.rnd R.rnd),mt:=max (R.pr j).mt (min m.idx L.last),nx:=max (R.pr j).nx (max (R.pr j).mt (min m.idx L.last)+1) }:=⟨_,rfl⟩
   refine WL.h 1 (pt rb (ndA lb R4 s) RT) ?_ (.there (.here (by
    rw[hR4,<-(ndA_stS lb R s hj7 { R.pr j with ws:=false,rd:=max (R.pr j).rd (min m.rnd R.rnd),mt:=max (R.pr j).mt (min m.idx L.last) } { R.pr j with ws:=false,rd:=max (R.pr j).rd (min m.rnd R.rnd),mt:=max (R.pr j).mt (min m.idx L.last),nx:=max (R.pr j).nx (max (R.pr j).mt (min m.idx L.last)+1) }).2.1 ⟨rfl,rfl,rfl,rfl⟩,<-maxI])))
   refine dnext (.inl qk) ?_;refine dend qk 0 I (th (rg ?_));rw[<-hR4]
   have o4:NI c q z k R4 L D:=by
    rw[hR4];refine o.r (o.rb.setP _ ?_);unfold Pr.ok rTop mxU;dsimp only;have h9:=hpr.2.2.1;unfold mxU at h9;omega
   refine cl 1 I (Ct.at3 [_] (agreeGC (R:=R4) (by rw[hR4];exact hS _) o4 qo qo)) ?_;rintro v68 K68 hs68 ⟨_,_,_,rfl,⟨s2,rfl,le1,I2⟩,rfl⟩;refine fin 0 I ?_;exact jxK (K68,s2,_,_) ⟨le1,I2⟩ ⟨I,I,I,trivial⟩ I I
  ·rw[if_neg (by simp[e3])];refine sq (rgm [1,0] 14 [0,2,4,6,8,10,12,14,16,18,20,23,24,26,29] ?_);refine dldpw qk 4 0 I qk I (ndA_prS lb R s hj7 _ (k:=1) I) ?_;refine dldpw qk 3 0 I qk I (ndA_prS lb R s hj7 _ (k:=0) I) ?_;refine dldpw qk 1 1 I qk I I ?_;refine dact qk 0 I ?_;refine cl 0 I (backGC (R.pr j).nx (R.pr j).mt m.idx qo qo) ?_;rintro v80 K80 hs80 ⟨rfl,rfl,rfl⟩;refine dnx (by simp) I ?_;refine dact qk 2 I ?_;refine stp 0 1 I I (ndA_prS lb R s hj7 _ (k:=1) I) I ?_
   refine WL.h 1 (pt rb (ndA lb (R.setP (j:Int) { R.pr j with ws:=false,rd:=max (R.pr j).rd (min m.rnd R.rnd),nx:=backV (R.pr j).nx (R.pr j).mt m.idx }) s) RT) ?_ (.there (.here (by
    rw[<-(ndA_stS lb R s hj7 { R.pr j with ws:=false,rd:=max (R.pr j).rd (min m.rnd R.rnd) } { R.pr j with ws:=false,rd:=max (R.pr j).rd (min m.rnd R.rnd),nx:=backV (R.pr j).nx (R.pr j).mt m.idx }).2.1 ⟨rfl,rfl,rfl,rfl⟩])))
   refine dnext (.inl qk) ?_;refine dend qk 0 I (th (rg ?_));refine stp 3 1 I I (ndA_prS lb R s hj7 _ (k:=4) I) I ?_
   refine WL.h 1 (pt rb (ndA lb (R.setP (j:Int) { R.pr j with ws:=false,rd:=max (R.pr j).rd (min m.rnd R.rnd),nx:=backV (R.pr j).nx (R.pr j).mt m.idx,of:=0 }) s) RT) ?_ (.there (.here (by
    rw[<-(ndA_stS lb R s hj7 { R.pr j with ws:=false,rd:=max (R.pr j).rd (min m.rnd R.rnd),nx:=backV (R.pr j).nx (R.pr j).mt m.idx } { R.pr j with ws:=false,rd:=max (R.pr j).rd (min m.rnd R.rnd),nx:=backV (R.pr j).nx (R.pr j).mt m.idx,of:=0 }).2.2.2.2 ⟨rfl,rfl,rfl,rfl⟩])))
   refine fin 0 I ?_;exact jxK (K80,s,_,_) ⟨Le.refl _,hS _⟩ ⟨I,I,I,trivial⟩ I I
 ·rintro ⟨K5,s5,l5,g5⟩ ⟨le5,I5⟩;dsimp only at le5 I5 ⊢;have o5:NI c q z (k+8) (R.appd1 L m) L D:=o.appd1 qo m hb;generalize R.appd1 L m=R5 at I5 o5 ⊢;unfold Nd.appd2;rw[show R5.p m.frm=R5.pr j from by rw[hj];rfl];obtain ⟨bq,hbq⟩:∃ bq,bq=decide (R5.role=2/\(m.good=false\/(R5.pr j).nx<=L.last)):=⟨_,rfl⟩;refine jn (σ:=Unit) (fun _=>[(0,.pointer (some ⟨rb,0,none⟩)),(3,.pointer (some ⟨b3,0,none⟩)),(107,.bool bq)]) (fun _=>pt b3 (mv m p) 34::pt rb (ndA lb R5 s5) RT::l5::g5::hs) (fun _=>True) ?_ ?_
  ·refine rgm [1,0] 22 [0,2,4,6,8,10,12,14,16,18,20,22,24,26,28,30,32,34,37,38,40,42] ?_;refine dldp qk 3 0 I I I ?_;refine dcmp qk 0 (R5.role=2) I (by simp) (fun h4=>?_) (fun h4=>?_)
   ·refine dldp qk 2 1 (v:=.bool m.good) I I I ?_;cases hg:m.good with
    | false=>
     refine dact qk 10 I ?_;refine WL.pures 1 I ?_;refine dnx (by simp) I ?_;refine dend qk 3 I ?_;exact jx () trivial ⟨I,I,by rw[hbq,decide_eq_true ⟨h4,.inl hg⟩];rfl,trivial⟩ rfl rfl
    | true=>
     refine dldp qk 5 0 I I (ndA_pr lb R5 s5 hj7 (k:=1) I) ?_;refine dldp qk 3 0 I I I ?_;refine dact qk 0 I ?_;refine cl 0 I (Ct.keep 2 I (lastH lb db L D c o.rn.lb qo I5.l)) ?_;rintro v104 K104 hs104 ⟨rfl,rfl,rfl⟩;refine dnx (by simp) I ?_;refine dcbS qk 0 ((R5.pr j).nx<=L.last) I (by unfold Lg.last;simp;omega) fun b105 h105=>?_;refine dend qk 2 I ?_
     have e:b105=bq:=by
      rw[hbq,Bool.eq_iff_iff,h105,decide_eq_true_iff];simp[h4,hg]
     exact jx () trivial ⟨I,I,by rw[<-e];rfl,trivial⟩ rfl rfl
   ·refine dact qk 13 I ?_;refine WL.pures 1 I ?_;refine dnx (by simp) I ?_;refine dend qk 3 I ?_;exact jx () trivial ⟨I,I,by rw[hbq,decide_eq_false (fun h=>h4 h.1)];rfl,trivial⟩ rfl rfl
  rintro _ _;refine ifB I (fun h=>?_) (fun h=>?_)
  ·rw[h] at hbq;have hbq:=of_decide_eq_true hbq.symm;refine sq (rg ?_);refine cl 1 I (Ct.at2p [_] (configGC o5 qo I5.l)) ?_;rintro v110 K110 hs110 ⟨_,lh,rfl,rfl,rfl,le6,ao,cap,rfl,x⟩;refine al 3 (.agg #[.slice none 0 0]) I qk fun b5=>?_;refine stS 0 0 I I qk I I ?_;refine WL.hs (pt b5 #[.slice ao L.cfg.1.length cap] 46::pt b3 (mv m p) 34::pt rb (ndA lb R5 s5) RT::lh::g5::hs) I ?_;refine fin 1 I (th (sq (rg ?_)));refine ldS 0 0 I I qk ?_;refine ldp 1 1 I I I ?_;refine cl 0 I (votesGC (.inl I) ao cap L.cfg.1 x (by have:=hcf.len;omega) m.frm) ?_;rintro v116 K116 hs116 ⟨rfl,rfl,rfl⟩;refine fin 0 I (th (ifB I (fun e6=>?_) (fun e6=>?_)))
   ·rw[if_pos ⟨hbq.1,hbq.2,of_decide_eq_true e6⟩,hj];refine rg ?_;refine ldp 2 1 (v:=.int .i64 (j:Nat)) I I (by rw[<-hj];rfl) ?_;refine cl 0 I (Ct.at3 [_,_] (sendGC (I5.le le6) o5 qo qo j hj7)) ?_;rintro v120 K120 hs120 ⟨_,_,_,rfl,⟨s6,rfl,le7,I7⟩,rfl⟩;refine fin 0 I (WQ.drop (WQ.drop ?_));exact end0 I ⟨_,_,_,I,⟨s6,I,(le5.trans le6).trans le7,I7⟩,I⟩
   ·rw[if_neg (fun h=>by simp[h.2.2] at e6)];refine sk (WQ.drop (WQ.drop ?_));exact end0 I ⟨_,_,_,I,⟨s5,I,le5.trans le6,I5.le le6⟩,I⟩
  ·rw[h] at hbq;have hbq:=of_decide_eq_false hbq.symm;rw[if_neg (fun h=>hbq ⟨h.1,h.2.1⟩)];refine sk (WQ.drop ?_);exact end0 I ⟨_,_,_,I,⟨s5,I,le5,I5⟩,I⟩
end
end
section
attribute [local irreducible] Code.wp wpList Calls
section
variable {w0:World} {K lh g:PH} {hs:List PH} {rb lb db c q z k:Nat} {R:Nd} {L:Lg} {D:Dk} {s:NS}
theorem chunkedGC(iN:Nd3 K rb lb db R L D s lh g)(o:NI c q z k R L D)(hc:c<=700000000)(hk:k<=500000)(m:Msg)(ho:m.ok)(hkd:m.kind=6)(p:MA):
  NdC w0 K hs rb lb db R s lh g 79 [.pointer (some ⟨rb,0,none⟩),.agg (mv m p)] (R.chunked L m) L D (.tuple #[]):=by
 have hf:=ok_frm ho;have hoff:=ok_off ho (.inr hkd);obtain ⟨j,hj⟩:∃ j:Nat,m.frm=(j:Int):=⟨m.frm.toNat,by omega⟩;have hj7:j<7:=by omega
 unfold Nd.chunked;rw[show R.p m.frm=R.pr j from by rw[hj];rfl];obtain ⟨bq,hbq⟩:∃ bq,bq=decide (R.role≠2\/m.idx≠L.sn.idx\/m.idx<(R.pr j).nx):=⟨_,rfl⟩;refine enter Tryz.func79 qk I I I ?_;refine sq (rg ?_);refine bx 0 I fun b3=>?_;refine WL.h 0 (pt b3 (mv m p) 34) ?_;refine fin 0 I (th (sq (rgm [0] 7 [0,2,4,6,8,10,12] ?_)));refine dldp qk 2 0 I I I ?_;refine dixa (sz:=5) (a:=⟨rb,10,none⟩) qk 2 j I Tryz.underlying101 qk hj hj7 ?_;rw[add_mk];refine dend qk 1 I (th (sq ?_));refine jnK (σ:=PH) (fun _=>[(0,.pointer (some ⟨rb,0,none⟩)),(3,.pointer (some ⟨b3,0,none⟩)),(4,.pointer (some ⟨rb,10+j*5,none⟩)),(35,.bool bq)]) (fun u=>u) (fun u=>pt b3 (mv m p) 34::pt rb (ndA lb R s) RT::lh::g::hs) (fun u=>Le K u) ?_ ?_
 ·refine rgm [1,0] 25 [0,2,4,6,8,10,12,14,16,18,20,22,25,26,28,30,32,34,36,38,40,42,44,46,48] ?_;refine dldp qk 3 0 I I I ?_;refine dcmp qk 0 (R.role≠2) I (by simp) (fun h1=>?_) (fun h1=>?_)
  ·refine dact qk 7 I ?_;refine WL.pures 1 I ?_;refine dnx (by simp) I ?_;refine dend qk 12 I ?_;exact jxK K (Le.refl _) ⟨I,I,I,by rw[hbq,decide_eq_true (.inl h1)];rfl,trivial⟩ rfl rfl
  ·have h1':=Decidable.not_not.1 h1;refine dldp qk 2 1 I I I ?_;refine dldp qk 3 0 I I I ?_;refine dact qk 0 I ?_;refine cl 0 I (Ct.at 2 I (snapH lb db L D c o.rn.lb iN.l)) ?_;rintro v23 K23 hs23 ⟨h',rfl,hh,le,aV,cV,aD,cD,rfl,xV,xD⟩;subst hh;refine WL.hs (pt b3 (mv m p) 34::pt rb (ndA lb R s) RT::h'::g::hs) I ?_;refine dnxL (by simp) le ?_;refine dopr qk 0 (v:=.int .u64 L.sn.idx) I (fun A w ha _=>fld_run (t:=48) (x:=.tmp 23) (i:=0) (v:=.agg (snV L.sn aV cV aD cD)) I I (fun w=>by kernel_rfl) A w ha) ?_;refine dcmp qk 0 (m.idx≠L.sn.idx) I (by simp;omega) (fun h2=>?_) (fun h2=>?_)
   ·refine dend qk 10 I ?_;exact jxK K23 le ⟨I,I,I,by rw[hbq,decide_eq_true (.inr (.inl h2))];rfl,trivial⟩ rfl rfl
   ·refine dldp qk 5 0 I I (ndA_pr lb R s hj7 (k:=1) I) ?_;refine dldp qk 1 1 I I I ?_;refine dcbS qk 0 (m.idx<(R.pr j).nx) I (by simp) fun b34 h34=>?_;refine dend qk 1 I ?_
    have e:b34=bq:=by
     rw[hbq,Bool.eq_iff_iff,h34,decide_eq_true_iff];simp[h1',Decidable.not_not.1 h2]
    exact jxK K23 le ⟨I,I,I,by rw[<-e];rfl,trivial⟩ rfl rfl
 intro K2 le;dsimp only at le ⊢;refine ifB I (fun h=>?_) (fun h=>?_)
 ·rw[h] at hbq;rw[if_pos (of_decide_eq_true hbq.symm)];refine rt (rT (WQ.drop ?_));exact ret0 I ⟨_,_,_,I,⟨s,I,le,iN.le le⟩,I⟩
 ·rw[h] at hbq;rw[if_neg (of_decide_eq_false hbq.symm),hj];have I1:=iN.le le;refine sk (th (sq (rg ?_)));refine stp 3 1 I I (ndA_pr lb R s hj7 (k:=3) I) I ?_;refine WL.h 1 (pt rb (ndA lb (R.setP (j:Int) { R.pr j with ws:=false }) s) RT) ?_ (.there (.here (by rw[<-(ndA_st lb R s hj7 { R.pr j with ws:=false }).2.2.2.1 ⟨rfl,rfl,rfl,rfl⟩])));refine fin 0 I (th (sq (rg ?_)));refine ldp 2 0 I I I ?_;refine stp 2 1 I I (ndA_prS lb R s hj7 _ (k:=4) I) I ?_
  refine WL.h 1 (pt rb (ndA lb (R.setP (j:Int) { R.pr j with ws:=false,of:=m.off }) s) RT) ?_ (.there (.here (by
   rw[<-(ndA_stS lb R s hj7 { R.pr j with ws:=false } { R.pr j with ws:=false,of:=m.off }).2.2.2.2 ⟨rfl,rfl,rfl,rfl⟩]
   rfl)))
  have hpr:=o.rb.pr j;have o2:NI c q z k (R.setP (j:Int) { R.pr j with ws:=false,of:=m.off }) L D:=o.r (o.rb.setP _ ⟨hpr.1,hpr.2.1,hpr.2.2.1,hoff⟩);refine fin 0 I (th (rg ?_));refine ldp 2 0 (v:=.int .i64 (j:Nat)) I I (by rw[<-hj];rfl) ?_;refine cl 0 I (Ct.at3 [_] (sendGC ⟨I1.l,I1.g.r⟩ o2 qo qo j hj7)) ?_;rintro v47 K47 hs47 ⟨_,_,_,rfl,⟨s2,rfl,le2,I2⟩,rfl⟩;refine fin 0 I (WQ.drop ?_);exact end0 I ⟨_,_,_,I,⟨s2,I,le.trans le2,I2⟩,I⟩
end
end
section
def Nd.freshP(R:Nd)(m:Msg):Nd:=if m.off=0\/R.pf≠m.frm\/R.ps.idx≠m.idx\/R.ps.term≠m.lt then { R with pf:=m.frm,ps:=⟨m.idx,m.lt,m.vot,[]⟩ } else R
theorem piece_eq(R:Nd)(m:Msg):R.piece m=if m.off=(R.freshP m).ps.data.length then { R.freshP m with ps:={ (R.freshP m).ps with data:=(R.freshP m).ps.data++m.data } } else R.freshP m:=rfl
attribute [local irreducible] Code.wp wpList Calls
section
variable {w0:World} {K lh g:PH} {hs:List PH} {rb lb db c q z k:Nat} {R:Nd} {L:Lg} {D:Dk} {s:NS}
theorem chunkGC(iN:Nd3 K rb lb db R L D s lh g)(o:NI c q z k R L D)(hc:c<=499900000)(hk:k<=500000)(hz:z<=1000000)(m:Msg)(hb:m.bd)(ho:m.ok)(hkd:m.kind=5)(p:MA)(hS:MsgS K m p):
  NdC w0 K hs rb lb db R s lh g 78 [.pointer (some ⟨rb,0,none⟩),.agg (mv m p)] (R.chunk L D m).1 (R.chunk L D m).2.1 (R.chunk L D m).2.2.1 (.int .i64 (R.chunk L D m).2.2.2):=by
 have hf:=ok_frm ho;have hdl:=ok_data ho hkd;have o1:Rb z k (R.foll m.frm):=o.rb.foll (x:=m.frm) qo;have hpl:=o.rb.ps.2.2.2;unfold Nd.chunk;refine enter Tryz.func78 qk I I I ?_;refine sq (rg ?_);refine bx 0 I fun b3=>?_;refine WL.h 0 (pt b3 (mv m p) 34) ?_;refine fin 1 I (th (sq (sq (rg ?_))));refine ldp 3 1 I I I ?_;refine cmpS 0 I fun b11 h11=>?_;refine fin 0 I (th (ifP h11 I (fun e2=>?_) (fun e2=>?_)))
 ·rw[if_pos e2];refine sq (rg ?_);refine fin 1 I (th (rt (rT (WQ.drop ?_))));exact ret1 I I ⟨_,_,_,I,⟨s,I,Le.refl _,iN⟩,I⟩
 rw[if_neg e2];have hcom:(R.foll m.frm).com=R.com:=rfl;have hRl:(R.foll m.frm).ps=R.ps/\(R.foll m.frm).out=R.out:=⟨rfl,rfl⟩;rw[<-hcom];have hfo:=fun (hs':List PH)=>followGC' (w0:=w0) (K:=K) (hs:=hs') (rb:=rb) (lb:=lb) (R:=R) (s:=s) m.frm;have I1':NdH K rb (R.foll m.frm) s g:=iN.g.r;have hL:=iN.l;have op:=o1.piece m hb ho hkd;have hou:=o.rb.out;rw[<-hRl.2] at hou;rw[<-hRl.1] at hpl;generalize R.foll m.frm=R1 at hfo I1' o1 hpl op hou ⊢;refine sk (th (sq (rg ?_)));refine ldp 2 0 I I I ?_;refine cl 0 I (Ct.at 1 I (hfo _)) ?_;rintro v15 K15 hs15 ⟨_,rfl,rfl,rfl,rfl⟩;refine WL.hs (pt b3 (mv m p) 34::pt rb (ndA lb R1 s) RT::lh::g::hs) I ?_;refine fin 0 I (th (sq (sq (rgm [1,0] 7 [0,2,4,6,8,10,12] ?_))));refine dldp qk 1 1 I I I ?_;refine dldp qk 3 0 I I I ?_;refine dcbS qk 0 (m.idx<=R1.com) I (by simp) fun b22 h22=>?_;refine dend qk 0 I (th (ifP h22 I (fun e3=>?_) (fun e3=>?_)))
 ·rw[if_pos e3];refine sq (rg ?_);refine ldp 2 0 I I I ?_;refine ldp 1 0 I I I ?_;refine bd 0 (.agg (mv { Msg.zero with kind:=4,to:=m.frm,good:=true,idx:=m.idx } ⟨none,0,none,0,none,0⟩)) I (fun w=>by kernel_rfl) ?_;refine cl 0 I (Ct.at3 [_] (sayGC ⟨hL,I1'⟩ qo _ _ ⟨EntsS.nil _ _ _,IsS.nil _ _ _ _,IsS.nil _ _ _ _⟩)) ?_;rintro v29 K29 hs29 ⟨_,_,_,rfl,⟨s2,rfl,le3,I3⟩,rfl⟩;refine fin 0 I (th (sq (rg ?_)));refine fin 1 I (th (rt (rT (WQ.drop ?_))));exact ret1 I I ⟨_,_,_,I,⟨s2,I,le3,I3⟩,I⟩
 rw[if_neg e3];refine sk (th (sq (rg ?_)));refine fin 5 I (th ?_);refine jn (σ:=NS×PH) (fun _=>[(0,.pointer (some ⟨rb,0,none⟩)),(3,.pointer (some ⟨b3,0,none⟩)),(5,.pointer (some ⟨rb,46,none⟩))]) (fun u=>pt b3 (mv m p) 34::pt rb (ndA lb (R1.freshP m) u.1) RT::lh::u.2::hs) (fun u=>NdH K15 rb (R1.freshP m) u.1 u.2) ?_ ?_
 ·obtain ⟨bq,hbq⟩:∃ bq,bq=decide (m.off=0\/R1.pf≠m.frm\/R1.ps.idx≠m.idx\/R1.ps.term≠m.lt):=⟨_,rfl⟩;unfold Nd.freshP;refine jn (σ:=Unit) (fun _=>[(0,.pointer (some ⟨rb,0,none⟩)),(3,.pointer (some ⟨b3,0,none⟩)),(5,.pointer (some ⟨rb,46,none⟩)),(64,.bool bq)]) (fun _=>pt b3 (mv m p) 34::pt rb (ndA lb R1 s) RT::lh::g::hs) (fun _=>True) ?_ ?_
  ·refine rgm [1,0] 31 [0,2,4,6,8,10,12,14,16,18,20,22,24,26,28,30,32,34,36,38,40,42,44,46,48,50,52,54,56,58,60] ?_;refine dldp qk 1 1 I I I ?_;refine dcmp qk 0 (m.off=0) I (by simp) (fun h4=>?_) (fun h4=>?_)
   ·refine dend qk 28 I ?_;exact jx () trivial ⟨I,I,I,by rw[hbq,decide_eq_true (.inl h4)];rfl,trivial⟩ rfl rfl
   refine dldpw qk 5 0 I qk I I ?_;refine dldpw qk 1 1 I qk I I ?_;refine dcmp qk 0 (R1.pf≠m.frm) I (by simp) (fun h5=>?_) (fun h5=>?_)
   ·refine dend qk 19 I ?_;exact jx () trivial ⟨I,I,I,by rw[hbq,decide_eq_true (.inr (.inl h5))];rfl,trivial⟩ rfl rfl
   refine dldpw qk 5 0 I qk I I ?_;refine dldpw qk 1 1 I qk I I ?_;refine dcmp qk 0 (R1.ps.idx≠m.idx) I (by simp;omega) (fun h6=>?_) (fun h6=>?_)
   ·refine dend qk 10 I ?_;exact jx () trivial ⟨I,I,I,by rw[hbq,decide_eq_true (.inr (.inr (.inl h6)))];rfl,trivial⟩ rfl rfl
   refine dldpw qk 5 0 I qk I I ?_;refine dldpw qk 1 1 I qk I I ?_;refine dcbS qk 0 (R1.ps.term≠m.lt) I (by simp;omega) fun b63 h63=>?_;refine dend qk 1 I ?_
   have e:b63=bq:=by
    rw[hbq,Bool.eq_iff_iff,h63,decide_eq_true_iff];simp[h4,Decidable.not_not.1 h5,Decidable.not_not.1 h6]
   exact jx () trivial ⟨I,I,I,by rw[<-e];rfl,trivial⟩ rfl rfl
  rintro _ _;refine ifB I (fun h=>?_) (fun h=>?_)
  ·rw[h] at hbq;rw[if_pos (of_decide_eq_true hbq.symm)];refine rg ?_;refine ldp 2 0 I I I ?_;refine ldp 1 0 I I I ?_;refine ldp 1 0 I I I ?_;refine ldp 1 0 I I I ?_;refine bd 0 (.agg #[.slice p.av m.vot.length p.cv]) I (fun w=>by kernel_rfl) ?_;refine bd 0 (.agg #[.int .u64 m.idx,.int .u64 m.lt,.slice p.av m.vot.length p.cv,.slice none 0 0]) I (fun w=>by kernel_rfl) ?_;refine bd 0 (.agg #[.int .i64 m.frm,.int .u64 m.idx,.int .u64 m.lt,.slice p.av m.vot.length p.cv,.slice none 0 0]) I (fun w=>by kernel_rfl) ?_;refine sts 2 1 (off:=45) (cs:=#[.int .i64 m.frm,.int .u64 m.idx,.int .u64 m.lt,.slice p.av m.vot.length p.cv,.slice none 0 0]) I I qk (by show 45+5<=54;omega) (fun v hv=>by simp at hv;rcases hv with rfl|rfl|rfl|rfl|rfl <;> rfl) ?_;obtain ⟨sy,sv,sd,sq',f0,f1,f2⟩:=s;refine WL.h 1 (pt rb (ndA lb { R1 with pf:=m.frm,ps:=⟨m.idx,m.lt,m.vot,[]⟩ } ⟨sy,.slice p.av m.vot.length p.cv,.slice none 0 0,sq',f0,f1,f2⟩) RT) ?_ (.there (.here I))
   obtain ⟨hy,hd,hq,rfl,dj,⟨y,v,d,ou,f⟩⟩:=I1';refine WL.perm (List.perm_append_comm_assoc [_,_,_] [_] hs) (WL.split dj ?_);refine fin 0 I (WQ.loss 1 En.em I (.inr I) (WQ.join [hy,En.em,hq] fun dj'=>WQ.perm (List.perm_append_comm_assoc [_] [_,_,_] hs) ?_));exact jx (⟨sy,.slice p.av m.vot.length p.cv,.slice none 0 0,sq',f0,f1,f2⟩,uns [hy,En.em,hq]) ⟨hy,En.em,hq,I,dj',⟨y,⟨p.av,p.cv,I,hS.2.1⟩,⟨none,0,I,Own.nil _ _⟩,ou,f⟩⟩ ⟨I,I,I,trivial⟩ I I
  ·rw[h] at hbq;rw[if_neg (of_decide_eq_false hbq.symm)];exact sk (jx (s,g) I1' ⟨I,I,I,trivial⟩ I I)
 rintro ⟨s1,g1⟩ G1;dsimp only at G1 ⊢
 have hfl:(R1.freshP m).ps.data.length<=256*z/\(R1.freshP m).com=R1.com/\(R1.freshP m).out=R1.out:=by
  unfold Nd.freshP
  split
  ·exact ⟨Nat.zero_le _,I,I⟩
  ·exact ⟨by omega,I,I⟩
 rw[piece_eq] at op ⊢;generalize R1.freshP m=R2 at G1 op hfl ⊢;refine jn (σ:=NS×PH) (fun _=>[(0,.pointer (some ⟨rb,0,none⟩)),(3,.pointer (some ⟨b3,0,none⟩)),(5,.pointer (some ⟨rb,46,none⟩))]) (fun u=>pt b3 (mv m p) 34::pt rb (ndA lb (if m.off=R2.ps.data.length then { R2 with ps:={ R2.ps with data:=R2.ps.data++m.data } } else R2) u.1) RT::lh::u.2::hs) (fun u=>NdH K15 rb (if m.off=R2.ps.data.length then { R2 with ps:={ R2.ps with data:=R2.ps.data++m.data } } else R2) u.1 u.2) ?_ ?_
 ·obtain ⟨hy,hd,hq,rfl,dj,⟨y,v,⟨aD,cD,eD,oD⟩,ou,f⟩⟩:=G1;obtain ⟨sy,sv,sd,sq',f0,f1,f2⟩:=s1;dsimp only at eD y v ou f;subst eD;refine sq (rgm [1,0] 8 [0,2,4,6,8,10,12,14] ?_);refine dldp qk 1 1 I I I ?_;refine dldp qk 3 0 I I I ?_;refine dcbS qk 1 (m.off=R2.ps.data.length) I (by simp) fun b86 h86=>?_;refine dend qk 0 I (th (ifP h86 I (fun e5=>?_) (fun e5=>?_)))
  ·rw[if_pos e5];refine WC.perm (List.perm_append_comm_assoc [_,_,_] [_] hs) (WC.split dj ?_);refine rgm [4,3] 10 [0,2,4,6,8,10,12,15,16,18,21] ?_;refine dldpw qk 4 0 I qk I I ?_;refine dldpw qk 1 1 I qk I I ?_;refine dact qk 0 I ?_;refine app 0 1 I I oD (.inl I) hS.2.2 I (by decide) (bv_one _) (by dsimp only;omega) (by simp only[maxLen];omega) fun ao94 c94 g94 o94=>?_;refine dnx (by simp) I ?_;refine dact qk 2 I ?_;refine stp 0 4 I I I I ?_;have ed:R2.ps.data.length+m.data.length=(R2.ps.data++m.data).length:=by simp
   rw[ed] at o94;refine WL.h 4 (pt rb (ndA lb { R2 with ps:={ R2.ps with data:=R2.ps.data++m.data } } ⟨sy,sv,.slice ao94 (R2.ps.data++m.data).length c94,sq',f0,f1,f2⟩) RT) ?_ (.there (.there (.there (.there (.here (by rw[<-ed];rfl))))));refine dnext (.inl qk) ?_;refine dend qk 0 I (WQ.join [hy,g94,hq] fun dj'=>WQ.perm (List.perm_append_comm_assoc [_] [_,_,_] hs) ?_);exact jx (⟨sy,sv,.slice ao94 (R2.ps.data++m.data).length c94,sq',f0,f1,f2⟩,uns [hy,g94,hq]) ⟨hy,g94,hq,I,dj',⟨y,v,⟨ao94,c94,I,by simpa[bv] using o94⟩,ou,f⟩⟩ ⟨I,I,I,trivial⟩ I I
  ·rw[if_neg e5];exact sk (jx (⟨sy,sv,.slice aD R2.ps.data.length cD,sq',f0,f1,f2⟩,uns [hy,hd,hq]) ⟨hy,hd,hq,I,dj,⟨y,v,⟨aD,cD,I,oD⟩,ou,f⟩⟩ ⟨I,I,I,trivial⟩ I I)
 rintro ⟨s2,g2⟩ G2;dsimp only at G2 ⊢
 have hp3:(if m.off=R2.ps.data.length then { R2 with ps:={ R2.ps with data:=R2.ps.data++m.data } } else R2).com=R1.com/\(if m.off=R2.ps.data.length then { R2 with ps:={ R2.ps with data:=R2.ps.data++m.data } } else R2).out=R1.out:=by
  split
  ·exact hfl.2
  ·exact hfl.2
 generalize (if m.off=R2.ps.data.length then { R2 with ps:={ R2.ps with data:=R2.ps.data++m.data } } else R2)=R3 at G2 op hp3 ⊢;rw[<-hp3.2] at hou;have h3:=op.ps;obtain ⟨hy,hd,hq,hg2,dj,⟨y,⟨aV,cV,eV,xV⟩,⟨aD,cD,eD,oD⟩,ou,f⟩⟩:=id G2;obtain ⟨sy,sv,sd,sq',f0,f1,f2⟩:=s2;dsimp only at eV eD;subst eV eD;refine sq (sq (rgm [1,0] 8 [0,2,4,6,8,10,12,14] ?_));refine dldp qk 3 0 I I I ?_;refine dldp qk 2 1 I I I ?_;refine dcbS qk 0 ((R3.ps.data.length:Int)<m.whole) I (by simp) fun b104 h104=>?_;refine dend qk 0 I (th (ifP h104 I (fun e6=>?_) (fun e6=>?_)))
 ·rw[if_pos e6];refine sq (rgm [1,0] 11 [0,2,4,6,8,10,12,14,16,18,20,23] ?_);refine dldtp [10] qk 2 1 I qk I I ?_;refine dldtp [10] qk 1 1 I qk I I ?_;refine dldtp [10,9] qk 3 0 I qk I I ?_;refine dbd qk 1 (.agg (mv { Msg.zero with kind:=6,to:=m.frm,idx:=m.idx,off:=R3.ps.data.length } ⟨none,0,none,0,none,0⟩)) I (fun w=>by kernel_rfl) ?_;refine dact qk 0 I ?_;refine cl 0 I (Ct.at3 [_] (sayGC ⟨hL,G2⟩ qo _ _ ⟨EntsS.nil _ _ _,IsS.nil _ _ _ _,IsS.nil _ _ _ _⟩)) ?_;rintro v116 K116 hs116 ⟨_,_,_,rfl,⟨s3,rfl,le3,I3⟩,rfl⟩;refine dnext (.inl qk) ?_;refine dend qk 0 I (th (sq (rg ?_)));refine fin 1 I (th (rt (rT (WQ.drop ?_))));exact ret1 I I ⟨_,_,_,I,⟨s3,I,le3,I3⟩,I⟩
 rw[if_neg e6];unfold Nd.inst;refine sk (th ?_);subst hg2;refine WC.perm (List.perm_append_comm_assoc [_,_,_] [_] hs) (WC.split dj ?_);refine WC.perm (hs':=hd::hy::hq::pt b3 (mv m p) 34::pt rb (ndA lb R3 ⟨sy,.slice aV R3.ps.vot.length cV,.slice aD R3.ps.data.length cD,sq',f0,f1,f2⟩) RT::lh::hs) (List.Perm.swap ..) (WC.frz fun K1 le0 lhd=>WC.em ?_);refine WC.perm (List.Perm.swap ..) (WC.join [hy,En.em,hq] fun dj'=>WC.perm (List.perm_append_comm_assoc [_] [_,_,_] hs) ?_);have hL1:=hL.le le0;have xD:IsS K1 aD R3.ps.data.length cD 1 (bv R3.ps.data):=oD.isS.le lhd;have hin:=fun (hs':List PH)=>installH (w0:=w0) (K:=K1) (hs:=hs') lb db L D c o.rn.lb hc o.rn.ok hL1 R3.ps (by have:=h3.1;unfold mxU at this;omega) h3.2.1 qo qo aV cV aD cD (xV.le le0) xD;generalize L.install R3.ps D=A at hin ⊢;obtain ⟨L1,D1,c1⟩:=A;dsimp only at hin ⊢;refine sq (rgm [1] 9 [0,2,4,6,8,10,12,15,16] ?_);refine dldp qk 3 0 I I I ?_
 refine dlds qk 2 (snV R3.ps aV cV aD cD).toList I qk qk (.inr ⟨0,I⟩) (cells_sub _ I) ?_;refine dact qk 0 I ?_;refine cl 0 I (Ct.at 2 I (hin _)) ?_;rintro v124 K124 hs124 ⟨h2,rfl,le1,hL2,rfl⟩;obtain ⟨R4,hR4⟩:∃ R4:Nd,R4={ R3 with pf:=0,ps:=Snp.zero }:=⟨_,rfl⟩;refine WL.hs (pt b3 (mv m p) 34::pt rb (ndA lb R3 ⟨sy,.slice aV R3.ps.vot.length cV,.slice aD R3.ps.data.length cD,sq',f0,f1,f2⟩) RT::h2::uns [hy,En.em,hq]::hs) I ?_;refine dnxL (by simp) le1 ?_;refine dend qk 1 I (th (sq (rg ?_)));refine bd 1 (.agg #[.int .i64 0,.int .u64 0,.int .u64 0,.slice none 0 0,.slice none 0 0]) I (fun w=>by kernel_rfl) ?_;refine sts 2 1 (off:=45) (cs:=#[.int .i64 0,.int .u64 0,.int .u64 0,.slice none 0 0,.slice none 0 0]) I I qk (by show 45+5<=54;omega) (fun v hv=>by simp at hv;rcases hv with rfl|rfl|rfl|rfl|rfl <;> rfl) ?_;refine WL.h 1 (pt rb (ndA lb R4 ⟨sy,.slice none 0 0,.slice none 0 0,sq',f0,f1,f2⟩) RT) ?_ (.there (.here (by rw[hR4];rfl)))
 have le:=le0.trans le1
 have G4:NdH K124 rb R4 ⟨sy,.slice none 0 0,.slice none 0 0,sq',f0,f1,f2⟩ (uns [hy,En.em,hq]):=by
  obtain ⟨y',v',d',ou',f'⟩:=(NdG.mk y ⟨aV,cV,rfl,xV⟩ ⟨aD,cD,rfl,oD⟩ ou f:NdG K15 rb R3 ⟨sy,.slice aV R3.ps.vot.length cV,.slice aD R3.ps.data.length cD,sq',f0,f1,f2⟩ hy hd hq).le le;rw[hR4];exact ⟨hy,En.em,hq,I,dj',⟨y',⟨none,0,I,IsS.nil _ _ _ _⟩,⟨none,0,I,Own.nil _ _⟩,ou',f'⟩⟩
 have h4c:R4.com=R3.com/\R4.out=R3.out:=by rw[hR4];exact ⟨I,I⟩
 rw[<-hR4];generalize (⟨sy,.slice none 0 0,.slice none 0 0,sq',f0,f1,f2⟩:NS)=s4 at G4 ⊢;generalize uns [hy,En.em,hq]=g4 at G4 ⊢;rw[<-h4c.2] at hou;refine fin 0 I (th (sq (sq (rg ?_))));refine cmpS 1 I fun b130 h130=>?_
 refine' bjo (q:=c1=181) 1 3 134 [130,131] h130 I I I I I I I (fun _=>?x15) (fun b134 h134=>?_)
 case x15=>
  refine cmpS 1 I fun b133 h133=>?_;exact fin 1 I (bjx h133 I I I)
 refine fin 0 I<|th (ifP h134 I (fun e17=>?_) (fun e17=>?_))
 ·rw[if_pos e17];refine sq (rg ?_);refine fin 1 I (th (rt (rT (WQ.drop ?_))));exact ret1 I I ⟨_,_,_,I,⟨s4,I,le,hL2,G4⟩,I⟩
 rw[if_neg e17];refine sk (th (sq (sq (rg ?_))));refine cl 2 I (Ct.at3 [_] (didGC (lh:=h2) G4 c1)) ?_;rintro v137 K137 hs137 ⟨_,lh,g1,rfl,rfl,⟨s1,rfl,G1⟩,rfl,rfl⟩;refine cmpS 0 I fun b138 h138=>?_;refine fin 0 I (th (ifP h138 I (fun e12=>?_) (fun e12=>?_)))
 ·rw[if_pos e12];refine sq (rg ?_);refine fin 2 I (th (rt (rT (WQ.drop ?_))));exact ret1 I I ⟨_,_,_,I,⟨s1,I,le,hL2,G1⟩,I⟩
 obtain rfl:c1=0:=Decidable.not_not.1 e12;rw[if_neg (by simp)];rw[show R4.did 0=R4 from rfl] at G1 ⊢;obtain ⟨R5,hR5⟩:∃ R5:Nd,R5={ R4 with com:=max R4.com m.idx }:=⟨_,rfl⟩;have hR5':({ R3 with pf:=0,ps:=Snp.zero,com:=max R3.com m.idx }:Nd)=R5:=by rw[hR5,hR4]
 rw[hR5'];refine sk (th (sq (rgm [1,0] 10 [0,2,4,6,8,10,12,14,16,18,21] ?_)));refine dldpw qk 4 0 I qk I I ?_;refine dldpw qk 1 1 I qk I I ?_;refine dact qk 3 I ?_;refine stp 0 1 I I I I ?_;refine WL.h 1 (pt rb (ndA lb R5 s1) RT) ?_ (.there (.here (by rw[hR5];unfold ndA;dsimp only;rw[<-maxI];rfl)));refine dnext (.inl qk) ?_;refine dend qk 0 I (th (sq (rg ?_)));refine ldp 2 0 I I I ?_;refine ldp 1 0 I I I ?_;refine bd 0 (.agg (mv { Msg.zero with kind:=4,to:=m.frm,good:=true,idx:=m.idx } ⟨none,0,none,0,none,0⟩)) I (fun w=>by kernel_rfl) ?_;refine cl 0 I (Ct.at3 [_] (sayGC (R:=R5) ⟨hL2,by rw[hR5];exact G1.r⟩ (by rw[hR5];show R4.out.length<=_;omega) _ _ ⟨EntsS.nil _ _ _,IsS.nil _ _ _ _,IsS.nil _ _ _ _⟩)) ?_;rintro v156 K156 hs156 ⟨_,_,_,rfl,⟨s2,rfl,le3,I3⟩,rfl⟩;refine fin 0 I (th (sq (rg ?_)));refine fin 1 I (th (rt (WQ.drop ?_)))
 exact ret1 I I ⟨_,_,_,I,⟨s2,I,le.trans le3,I3⟩,I⟩
end
end
section
attribute [local irreducible] Code.wp wpList Calls
section
variable {w0:World} {K lh g:PH} {hs:List PH} {rb lb db c q z k:Nat} {R:Nd} {L:Lg} {D:Dk} {s:NS}
theorem enc_isSome{m:Msg}(h:(enc m).isSome=true):m.ok:=by
 unfold enc at h
 by_cases hh:m.ok
 ·exact hh
 ·simp[hh] at h
theorem ec_enc(m:Msg):(ec (enc m)≠0)=((enc m).isSome=false):=by
 cases enc m <;> simp[ec]
theorem takeGC(iN:Nd3 K rb lb db R L D s lh g)(o:NI c q z k R L D)(hc:c<=499800000)(hk:k<=400000)(hz:z<=1000000)(m:Msg)(hb:m.bd)(p:MA)(hS:MsgS K m p):
  NdC w0 K hs rb lb db R s lh g 32 [.pointer (some ⟨rb,0,none⟩),.agg (mv m p)] (R.take L D m).1 (R.take L D m).2.1 (R.take L D m).2.2.1 (.int .i64 (R.take L D m).2.2.2):=by
 unfold Nd.take;refine enter Tryz.func32 qk I I I ?_;refine sq (rg ?_);refine bx 0 I fun b3=>?_;refine WL.h 0 (pt b3 (mv m p) 34) ?_;refine fin 1 I (th (sq (sq (rg ?_))));refine ldp 3 1 (v:=.bool R.hl) I I I ?_;refine fin 0 I (th (ifB I (fun e1=>?_) (fun e1=>?_)))
 ·rw[if_pos e1];refine sq (rg ?_);refine fin 1 I (th (rt (rT (WQ.drop ?_))));exact ret1 I I ⟨_,_,_,I,⟨s,I,Le.refl _,iN⟩,I⟩
 rw[if_neg (by simp[e1])];refine sk (th (sq (rg ?_)));refine ldS 0 0 I I qk ?_;refine cl 0 I (encodeC m p hS hb) ?_;rintro v14 K14 hs14 ⟨rfl,_,ao,cap,rfl,rfl,oE⟩;refine fin 5 I (th (WC.drop ?_));obtain ⟨bq,hbq⟩:∃ bq,bq=decide ((enc m).isSome=false\/m.to≠R.nd\/rTop<m.term):=⟨_,rfl⟩;refine sq ?_;refine jn (σ:=Unit) (fun _=>[(0,.pointer (some ⟨rb,0,none⟩)),(3,.pointer (some ⟨b3,0,none⟩)),(32,.bool bq)]) (fun _=>pt b3 (mv m p) 34::pt rb (ndA lb R s) RT::lh::g::hs) (fun _=>True) ?_ ?_
 ·refine rgm [1,0] 16 [0,2,4,6,8,10,12,14,16,18,20,22,24,26,28,30] ?_;refine dcmp qk 1 (ec (enc m)≠0) I (by simp) (fun h2=>?_) (fun h2=>?_)
  ·refine dend qk 14 I ?_;exact jx () trivial ⟨I,I,by rw[hbq,decide_eq_true (.inl (by rw[<-ec_enc];exact h2))];rfl,trivial⟩ rfl rfl
  refine dldp qk 2 1 I I I ?_;refine dldp qk 3 0 I I I ?_;refine dcmp qk 0 (m.to≠R.nd) I (by simp) (fun h3=>?_) (fun h3=>?_)
  ·refine dend qk 6 I ?_;exact jx () trivial ⟨I,I,by rw[hbq,decide_eq_true (.inr (.inl h3))];rfl,trivial⟩ rfl rfl
  refine dldp qk 3 1 I I I ?_;refine dcbS qk 0 (rTop<m.term) I (by unfold rTop;simp;omega) fun b31 h31=>?_;refine dend qk 1 I ?_
  have e:b31=bq:=by
   rw[ec_enc] at h2;rw[hbq,Bool.eq_iff_iff,h31,decide_eq_true_iff];simp[h2,Decidable.not_not.1 h3]
  exact jx () trivial ⟨I,I,by rw[<-e];rfl,trivial⟩ rfl rfl
 rintro _ _;refine ifB I (fun h=>?_) (fun h=>?_)
 ·rw[h] at hbq;rw[if_pos (of_decide_eq_true hbq.symm)];refine sq (rg ?_);refine fin 1 I (th (rt (rT (WQ.drop ?_))));exact ret1 I I ⟨_,_,_,I,⟨s,I,Le.refl _,iN⟩,I⟩
 rw[h] at hbq;have hgo:=of_decide_eq_false hbq.symm;rw[if_neg hgo];have ho:m.ok:=enc_isSome (by cases h9:(enc m).isSome with|true=>rfl|false=>exact absurd (.inl h9) hgo);have hf:=ok_frm ho;refine sk (th (sq (sq (rg ?_))));refine ldp 1 0 I I I ?_;refine cmpS 0 I fun b35 h35=>?_
 refine' bja (q:=R.content=true) 1 3 39 [35,36] h35 I I I I I I I (fun _=>?x6) (fun b39 h39=>?_)
 case x6=>
  refine cl 1 I (Ct.at 1 I contentGC) ?_;rintro v38 K38 hs38 ⟨_,rfl,rfl,rfl,rfl⟩;exact fin 1 I (bjx Iff.rfl I I I)
 refine fin 0 I<|th (ifP h39 I (fun e7=>?_) (fun e7=>?_))
 ·rw[if_pos (by simpa using e7)];refine sq (rg ?_);refine fin 1 I (th (rt (rT (WQ.drop ?_))));exact ret1 I I ⟨_,_,_,I,⟨s,I,Le.refl _,iN⟩,I⟩
 rw[if_neg (by simpa using e7)];refine sk (th ?_)
 refine jnK (σ:=PH×(Nd×Lg×Dk)×NS×PH×PH) (fun _=>[(0,.pointer (some ⟨rb,0,none⟩)),(3,.pointer (some ⟨b3,0,none⟩))]) (fun u=>u.1) (fun u=>pt b3 (mv m p) 34::pt rb (ndA lb u.2.1.1 u.2.2.1) RT::u.2.2.2.1::u.2.2.2.2::hs)
  (fun u=>Le K14 u.1/\Nd3 u.1 rb lb db u.2.1.1 u.2.1.2.1 u.2.1.2.2 u.2.2.1 u.2.2.2.1 u.2.2.2.2/\NI (c+10) (q+1) z k u.2.1.1 u.2.1.2.1 u.2.1.2.2/\R.take1 L D m=u.2.1.1.take2 u.2.1.2.1 u.2.1.2.2 m) ?_ ?_
 ·unfold Nd.take1;refine sq (rgm [0] 5 [0,2,4,7,8] ?_);refine dldp qk 1 0 I I I ?_;refine dact qk 1 I ?_;refine cl 0 I (Ct.at2p [_] (termGC iN.l)) ?_;rintro v43 K43 hs43 ⟨_,_,rfl,rfl,rfl,rfl,rfl⟩;refine dnx (by simp) I ?_;refine dcbS qk 0 (L.kt<m.term) I (by simp) fun b44 h44=>?_;refine dend qk 0 I (th (ifP h44 I (fun e8=>?_) (fun e8=>?_)))
  ·rw[if_pos e8];dsimp only;have a:=o.raise m.term hb.term;have hr:=fun (hs':List PH)=>raiseGC (w0:=w0) (hs:=hs') iN o qo m.term hb.term;generalize R.raise L D m.term=A at a hr ⊢;obtain ⟨R1,L1,D1,c1⟩:=A;dsimp only at a hr ⊢;refine sq (rg ?_);refine ldp 2 0 I I I ?_;refine cl 0 I (Ct.at3 [_] (hr _)) ?_;rintro v48 K48 hs48 ⟨_,_,_,rfl,⟨s2,rfl,le1,I2⟩,rfl⟩;refine fin 1 I (th (sq (rg ?_)));refine cmpS 1 I fun b50 h50=>?_;refine fin 0 I (th (ifP h50 I (fun e10=>?_) (fun e10=>?_)))
   ·rw[if_pos e10];refine sq (rg ?_);refine fin 2 I (th (rt (rT (WQ.drop ?_))));exact ret1 I I ⟨_,_,_,I,⟨s2,I,le1,I2⟩,I⟩
   ·rw[if_neg e10];exact sk (jxK (K48,(R1,L1,D1),s2,_,_) ⟨le1,I2,a.up qo qo qo,I⟩ ⟨I,I,trivial⟩ I I)
  ·rw[if_neg e8];exact sk (jxK (K43,(R,L,D),s,_,_) ⟨Le.refl _,iN,o.up qo qo qo,I⟩ ⟨I,I,trivial⟩ I I)
 rintro ⟨K1,⟨R1,L1,D1⟩,s1,lh1,g1⟩ ⟨le,I1,o1,hT⟩;dsimp only at le I1 o1 hT ⊢;rw[hT];have hS1:=hS.le le;have hout:=o1.rb.out;unfold Nd.take2;refine sq (sq (rgm [0] 5 [0,2,4,7,8] ?_));refine dldp qk 1 0 I I I ?_;refine dact qk 1 I ?_;refine cl 0 I (Ct.at2p [_] (termGC I1.l)) ?_;rintro v55 K55 hs55 ⟨_,_,rfl,rfl,rfl,rfl,rfl⟩;refine dnx (by simp) I ?_;refine dcbS qk 0 (m.term<L1.kt) I (by simp) fun b56 h56=>?_;refine dend qk 0 I (th (ifP h56 I (fun e11=>?_) (fun e11=>?_)))
 ·rw[if_pos e11];refine sq (rg ?_);refine ldS 1 0 I I qk ?_;refine cl 0 I (Ct.at3 [_] (staleGC I1 qo m p)) ?_;rintro v59 K59 hs59 ⟨_,_,_,rfl,⟨s2,rfl,le1,I2⟩,rfl⟩;refine fin 0 I (th (sq (rg ?_)));refine fin 1 I (th (rt (rT (WQ.drop ?_))));exact ret1 I I ⟨_,_,_,I,⟨s2,I,le.trans le1,I2⟩,I⟩
 rw[if_neg e11];unfold Nd.take3;refine sk (th (sq (sq (rg ?_))));refine ldp 1 0 I I I ?_;refine fin 0 I (th (bk (sq (rg ?_))));refine cmpS 0 I fun b63 h63=>?_;refine fin 1 I (th (ifP h63 I (fun k1=>?_) (fun k1=>?_)))
 ·replace k1:m.kind=1:=k1
  rw[if_pos k1];refine sq (rg ?_);refine ldS 1 0 I I qk ?_;refine cl 0 I (Ct.at3 [_] (askedGC I1 o1 qo qo m hb hf p)) ?_;rintro v66 K66 hs66 ⟨_,_,_,rfl,⟨s2,rfl,le1,I2⟩,rfl⟩;refine fin 1 I (th (rt (rB (rT (WQ.drop ?_)))));exact ret1 I I ⟨_,_,_,I,⟨s2,I,le.trans le1,I2⟩,I⟩
 replace k1:¬m.kind=1:=k1
 rw[if_neg k1];refine sq (rg ?_);refine cmpS 0 I fun b68 h68=>?_;refine fin 1 I (th (ifP h68 I (fun k2=>?_) (fun k2=>?_)))
 ·replace k2:m.kind=2:=k2
  rw[if_pos k2];refine sq (rg ?_);refine ldS 1 0 I I qk ?_;refine cl 0 I (Ct.at3 [_] (votedGC I1 o1 qo qo m p)) ?_;rintro v71 K71 hs71 ⟨_,_,_,rfl,⟨s2,rfl,le1,I2⟩,rfl⟩;refine fin 1 I (th (rt (rB (rT (WQ.drop ?_)))));exact ret1 I I ⟨_,_,_,I,⟨s2,I,le.trans le1,I2⟩,I⟩
 replace k2:¬m.kind=2:=k2
 rw[if_neg k2];refine sq (rg ?_);refine cmpS 0 I fun b73 h73=>?_;refine fin 1 I (th (ifP h73 I (fun k3=>?_) (fun k3=>?_)))
 ·replace k3:m.kind=3:=k3
  rw[if_pos k3];refine sq (rg ?_);refine ldS 1 0 I I qk ?_;refine cl 0 I (Ct.at3 [_] (appGC I1 o1 qo qo m hb ho k3 p hS1)) ?_;rintro v76 K76 hs76 ⟨_,_,_,rfl,⟨s2,rfl,le1,I2⟩,rfl⟩;refine fin 1 I (th (rt (rB (rT (WQ.drop ?_)))));exact ret1 I I ⟨_,_,_,I,⟨s2,I,le.trans le1,I2⟩,I⟩
 replace k3:¬m.kind=3:=k3
 rw[if_neg k3];refine sq (rg ?_);refine cmpS 0 I fun b78 h78=>?_;refine fin 1 I (th (ifP h78 I (fun k4=>?_) (fun k4=>?_)))
 ·replace k4:m.kind=4:=k4
  rw[if_pos k4];refine rg ?_;refine ldS 1 0 I I qk ?_;refine cl 0 I (Ct.at3 [_] (appdGC I1 o1 qo qo m hb hf p)) ?_;rintro v81 K81 hs81 ⟨_,_,_,rfl,⟨s2,rfl,le1,I2⟩,rfl⟩;refine fin 0 I (bl (th (sq (rg ?_))));refine fin 1 I (th (rt (WQ.drop ?_)));exact ret1 I I ⟨_,_,_,I,⟨s2,I,le.trans le1,I2⟩,I⟩
 replace k4:¬m.kind=4:=k4
 rw[if_neg k4];refine sq (rg ?_);refine cmpS 0 I fun b83 h83=>?_;refine fin 1 I (th (ifP h83 I (fun k5=>?_) (fun k5=>?_)))
 ·replace k5:m.kind=5:=k5
  rw[if_pos k5];refine sq (rg ?_);refine ldS 1 0 I I qk ?_;refine cl 0 I (Ct.at3 [_] (chunkGC I1 o1 qo qo qo m hb ho k5 p hS1)) ?_;rintro v86 K86 hs86 ⟨_,_,_,rfl,⟨s2,rfl,le1,I2⟩,rfl⟩;refine fin 1 I (th (rt (rB (rT (WQ.drop ?_)))));exact ret1 I I ⟨_,_,_,I,⟨s2,I,le.trans le1,I2⟩,I⟩
 replace k5:¬m.kind=5:=k5
 rw[if_neg k5];refine sq (rg ?_);refine cmpS 0 I fun b88 h88=>?_;refine fin 1 I (th (ifP h88 I (fun k6=>?_) (fun k6=>?_)))
 ·replace k6:m.kind=6:=k6
  rw[if_pos k6];refine rg ?_;refine ldS 1 0 I I qk ?_;refine cl 0 I (Ct.at3 [_] (chunkedGC I1 o1 qo qo m ho k6 p)) ?_;rintro v91 K91 hs91 ⟨_,_,_,rfl,⟨s2,rfl,le1,I2⟩,rfl⟩;refine fin 0 I (bl (th (sq (rg ?_))));refine fin 1 I (th (rt (WQ.drop ?_)));exact ret1 I I ⟨_,_,_,I,⟨s2,I,le.trans le1,I2⟩,I⟩
 replace k6:¬m.kind=6:=k6
 rw[if_neg k6];refine sk (bl (th (sq (rg ?_))));refine fin 1 I (th (rt (WQ.drop ?_)));exact ret1 I I ⟨_,_,_,I,⟨s1,I,le,I1⟩,I⟩
end
end
end Go.En
