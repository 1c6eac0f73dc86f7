/-
  Part 5 of what the proof needs (texts Qc Qd Qe Qf Qg Qh Qk Qi Zo Zi Aa Ab Ac Ad Ae Af Ag Ah Ai Aj Ak Al Am An Ao Ap Aq Ar As At Au Ba Bb Bc).
-/
import Derived.Test.YtneeeblghijmgaaGreatZC4
set_option linter.unusedSectionVars false
set_option linter.unusedSimpArgs false
set_option linter.unusedVariables false
namespace Go.En
open Go.Proofs Go.Proofs.YtneeeblghijmgaaGreat
section
inductive Rw:List Int->Dk->Dk->Prop
 | refl (A:List Int) (D:Dk):Rw A D D
 | write {A:List Int} {D E:Dk} (a n:Int) (b:List UInt8):a∈A->Rw A D E->Rw A D (E.write a n b).1
 | sync {A:List Int} {D E:Dk} (a:Int):Rw A D E->Rw A D (E.sync a).1
 | free {A:List Int} {D E:Dk} (a:Int):Rw A D E->Rw A D (E.free a).1
theorem Rw.mono{A B:List Int}{D E:Dk}(h:Rw A D E)(hs:∀ a∈A,a∈B):Rw B D E:=by
 induction h with
 | refl=>exact Rw.refl _ _
 | write a n b ha _ ih=>exact ih.write a n b (hs a ha)
 | sync a _ ih=>exact ih.sync a
 | free a _ ih=>exact ih.free a
theorem Rw.trans{A:List Int}{D E:Dk}(h:Rw A D E){F:Dk}(g:Rw A E F):Rw A D F:=by
 induction g with
 | refl=>exact h
 | write a n b ha _ ih=>exact ih.write a n b ha
 | sync a _ ih=>exact ih.sync a
 | free a _ ih=>exact ih.free a
theorem Rw.keys{A:List Int}{D E:Dk}(h:Rw A D E):∀ k∈E.areas.map (·.1),k∈D.areas.map (·.1)\/k∈A:=by
 induction h with
 | refl=>exact fun k hk=>.inl hk
 | write a n b ha _ ih=>
  rename_i E _;unfold Dk.write
  split
  ·exact ih
  ·split
   ·exact ih
   ·split
    ·exact ih
    ·intro k hk;obtain ⟨x,hx,rfl⟩:=List.mem_map.1 hk;rcases mset_mem hx with rfl|hx
     ·exact .inr ha
     ·exact ih _<|List.mem_map.2 ⟨x,hx,I⟩
 | sync a _ ih=>
  rename_i E _;unfold Dk.sync
  split
  ·exact ih
  ·split
   ·exact ih
   ·show ∀ k∈(E.synA a).map (·.1),_;rw[synA_keys];exact ih
 | free a _ ih=>
  rename_i E _;unfold Dk.free
  split
  ·exact ih
  ·split
   ·exact ih
   ·intro k hk;obtain ⟨x,hx,rfl⟩:=List.mem_map.1 hk;exact ih _ (List.mem_map.2 ⟨x,(mdel_sub (k:=a) E.areas).subset hx,I⟩)
def Rk(k:Nat)(D E:Dk):Prop:=∃ A:List Int,A.length<=k/\Rw A D E
theorem Rk.of{k:Nat}(D:Dk):Rk k D D:=⟨[],Nat.zero_le k,Rw.refl _ D⟩
theorem Rk.up{k j:Nat}{D E:Dk}(h:Rk k D E)(g:k<=j):Rk j D E:=let ⟨A,h1,h2⟩:=h;⟨A,by omega,h2⟩
theorem Rk.trans{k j:Nat}{D E F:Dk}(h:Rk k D E)(g:Rk j E F):Rk (k+j) D F:=by
 obtain ⟨A,h1,h2⟩:=h;obtain ⟨B,g1,g2⟩:=g;exact ⟨A++B,by rw[List.length_append];omega,(h2.mono fun a ha=>List.mem_append.2 (.inl ha)).trans (g2.mono fun a ha=>List.mem_append.2 (.inr ha))⟩
theorem Rk.sync{k:Nat}{D E:Dk}(h:Rk k D E)(a:Int):Rk k D (E.sync a).1:=let ⟨A,h1,h2⟩:=h;⟨A,h1,h2.sync a⟩
theorem Rk.free{k:Nat}{D E:Dk}(h:Rk k D E)(a:Int):Rk k D (E.free a).1:=let ⟨A,h1,h2⟩:=h;⟨A,h1,h2.free a⟩
theorem Rk.len{k c:Nat}{D E:Dk}(h:Rk k D E)(o:E.Ok c):E.areas.length<=D.areas.length+k:=by
 obtain ⟨A,h1,h2⟩:=h;have:=List.Nodup.length_le_of_subset o.keys (l₂:=D.areas.map (·.1)++A) (fun a ha=>List.mem_append.2 (h2.keys a ha));rw[List.length_append,List.length_map,List.length_map] at this;omega
theorem rw_save(S:Slt)(area:Nat)(D:Dk)(v:List UInt8):Rw [((area:Nat):Int)] D (S.save area D v).2.1:=by
 unfold Slt.save
 split
 ·exact Rw.refl _ D
 ·split
  ·exact ((Rw.refl _ D).write _ _ _ (by simp)).sync _
  ·exact (Rw.refl _ D).write _ _ _ (by simp)
theorem rw_wrL:∀ (f:Nat) (o:WOp) (D:Dk),Rw [segA o.num] D (wrL f o D).2.1
 | 0,o,D=>Rw.refl _ D
 | f+1,o,D=>by
  have hw:=(Rw.refl [segA o.num] D).write (segA o.num) o.full (UInt8.ofNat (min o.rest.length 63)::o.rest.take (min o.rest.length 63)) (by simp);rw[wrL_step]
  split
  ·exact hw
  ·split
   ·exact hw
   ·exact hw.trans<|rw_wrL f { o with full:=o.full+1,rest:=o.rest.drop 63 } _
theorem rw_wrO(o:WOp)(b:List UInt8)(D:Dk):Rw [segA o.num] D (wrO o b D).2.1:=rw_wrL (o.rest.length+b.length+1) { o with rest:=o.rest++b } D
theorem rw_wsync(A:List Int)(W:Wl)(D:Dk):Rw A D (W.sync D).2:=by
 unfold Wl.sync
 split
 ·exact Rw.refl _ D
 ·split
  ·exact Rw.refl _ D
  ·exact (Rw.refl _ D).sync _
theorem rw_begin(W:Wl)(i:Nat)(D:Dk):Rw [segA W.next] D (W.begin i D).2:=by
 unfold Wl.begin
 split
 ·exact rw_wsync _ W D
 ·exact (rw_wsync _ W D).trans<|rw_wrO ⟨W.next,i,0,[]⟩ (uint i) _
theorem rw_wlay(W:Wl)(A:List Int)(hA:∀ q,W.op=some q->segA q.num∈A)(b:List UInt8)(D:Dk):Rw A D (wLay W b D).2.1:=by
 unfold wLay;cases hop:W.op with
 | none=>exact Rw.refl _ D
 | some q=>exact (rw_wrO q (putBytes b) D).mono fun a ha=>by simp only[List.mem_singleton] at ha;rw[ha];exact hA q hop
theorem begin_num{W:Wl}{i:Nat}{D:Dk}(h:(W.begin i D).1.code=0):∀ q,(W.begin i D).1.op=some q->q.num=W.next:=by
 intro q hq;unfold Wl.begin at h hq
 split at hq
 ·rename_i h2;rw[if_pos h2] at h;exact absurd h h2
 ·simp only[Option.some.injEq] at hq;rw[<-hq,(wrO_num _ _ _).1]
theorem rw_wappend(W:Wl)(b:List UInt8)(D:Dk):Rk 1 D (W.append b D).2.1:=by
 unfold Wl.append
 split
 ·exact Rk.of D
 ·split
  ·exact Rk.of D
  ·split
   ·exact Rk.of D
   ·split
    ·have hb:=rw_begin W (W.first+W.recs.length) D
     split
     ·exact ⟨_,Nat.le_refl _,hb⟩
     ·rename_i h2;have hn:=begin_num (Decidable.not_not.1 h2);exact ⟨[segA W.next],Nat.le_refl _,hb.trans (rw_wlay _ _ (fun q hq=>by rw[hn q hq];simp) b _)⟩
    ·cases hop:W.op with
     | none=>exact ⟨[],Nat.zero_le _,rw_wlay W [] (fun q hq=>by rw[hop] at hq;cases hq) b D⟩
     | some o=>exact ⟨[segA o.num],Nat.le_refl _,rw_wlay W _ (fun q hq=>by rw[hop] at hq;cases hq;simp) b D⟩
theorem rw_wtrunc(W:Wl)(i:Nat)(D:Dk):Rk 1 D (W.truncate i D).2.1:=by
 unfold Wl.truncate
 split
 ·exact Rk.of D
 ·split
  ·exact Rk.of D
  ·split
   ·exact Rk.of D
   ·exact ⟨_,Nat.le_refl _,rw_begin W i D⟩
theorem rw_wfree(A:List Int)(i:Nat):∀ (f:Nat) (old:List (Nat×Nat)) (D:Dk),Rw A D (wfree i f old D).2.1
 | 0,old,D=>Rw.refl _ D
 | f+1,old,D=>by
  unfold Go.En.wfree
  split
  ·split
   ·exact (Rw.refl _ D).free _
   ·exact ((Rw.refl _ D).free _).trans<|rw_wfree A i f _ _
  ·exact Rw.refl _ D
theorem rw_compact2(W:Wl)(i:Nat)(D:Dk):Rw [segA W.next] D (W.compact2 i D).2:=by
 unfold Wl.compact2 Wl.compact1
 split
 ·exact (rw_begin W i D).trans<|rw_wsync _ _ _
 ·exact rw_wsync _ _ _
theorem rw_compact(W:Wl)(i:Nat)(D:Dk):Rw [segA W.next] D (W.compact i D).2.1:=by
 have h2:=rw_compact2 W i D;have h3:=h2.trans (rw_wfree _ i ((W.compact2 i D).1.old.length+1) (W.compact2 i D).1.old (W.compact2 i D).2);unfold Wl.compact
 split
 ·exact Rw.refl _ D
 ·split
  ·exact Rw.refl _ D
  ·split
   ·exact Rw.refl _ D
   ·split
    ·exact h2
    ·split
     ·exact h3
     ·exact h3
theorem rw_wreset(A:List Int):∀ (l:List Int) (D:Dk),Rw A D (wreset l D).1
 | [],D=>Rw.refl _ D
 | a::r,D=>by
  unfold Go.En.wreset
  split
  ·split
   ·exact ((Rw.refl _ D).free a).trans<|rw_wreset A r _
   ·exact (Rw.refl _ D).free a
  ·exact rw_wreset A r D
theorem rw_reset(A:List Int)(W:Wl)(first:Nat)(D:Dk):Rw A D (W.reset first D).2.1:=by
 have h1:=rw_wreset A (areasL D) D;unfold Wl.reset
 split
 ·exact Rw.refl _ D
 ·split
  ·exact Rw.refl _ D
  ·split
   ·exact h1
   ·exact h1
theorem begin_old(W:Wl)(i:Nat)(D:Dk):(W.begin i D).1.old.length<=W.old.length+1:=by
 unfold Wl.begin
 split
 ·rw[Wl.sync_eq];exact Nat.le_succ _
 ·rw[Wl.sync_eq];simp
theorem wlay_old(W:Wl)(b:List UInt8)(D:Dk):(wLay W b D).1.old=W.old:=by
 unfold wLay
 split <;> rfl
theorem append_old(W:Wl)(b:List UInt8)(D:Dk):(W.append b D).1.old.length<=W.old.length+1:=by
 unfold Wl.append
 split
 ·exact Nat.le_succ _
 ·split
  ·exact Nat.le_succ _
  ·split
   ·exact Nat.le_succ _
   ·split
    ·split
     ·exact begin_old _ _ _
     ·rw[wlay_old];exact begin_old _ _ _
    ·rw[wlay_old];exact Nat.le_succ _
theorem trunc_old(W:Wl)(i:Nat)(D:Dk):(W.truncate i D).1.old.length<=W.old.length+1:=by
 unfold Wl.truncate
 split
 ·exact Nat.le_succ _
 ·split
  ·exact Nat.le_succ _
  ·split
   ·exact Nat.le_succ _
   ·dsimp only
    split <;> exact begin_old _ _ _
theorem compact2_old(W:Wl)(i:Nat)(D:Dk):(W.compact2 i D).1.old.length<=W.old.length+1:=by
 unfold Wl.compact2;rw[Wl.sync_eq];unfold Wl.compact1
 split
 ·exact begin_old _ _ _
 ·exact Nat.le_succ _
theorem wfree_suf(i:Nat):∀ (f:Nat) (old:List (Nat×Nat)) (D:Dk),(wfree i f old D).1 <:+ old
 | 0,old,D=>List.suffix_refl _
 | f+1,old,D=>by
  unfold Go.En.wfree
  split
  ·split
   ·exact List.suffix_refl _
   ·exact (wfree_suf i f _ _).trans<|List.drop_suffix 1 old
  ·exact List.suffix_refl _
theorem compact_old(W:Wl)(i:Nat)(D:Dk):(W.compact i D).1.old.length<=W.old.length+1:=by
 have h2:=compact2_old W i D;have h3:=(wfree_suf i ((W.compact2 i D).1.old.length+1) (W.compact2 i D).1.old (W.compact2 i D).2).length_le;unfold Wl.compact
 split
 ·exact Nat.le_succ _
 ·split
  ·exact Nat.le_succ _
  ·split
   ·exact Nat.le_succ _
   ·split
    ·exact h2
    ·split
     ·dsimp only;omega
     ·dsimp only;omega
theorem reset_old(W:Wl)(i:Nat)(D:Dk):(W.reset i D).1.old.length<=W.old.length:=by
 unfold Wl.reset
 split
 ·exact Nat.le_refl _
 ·split
  ·exact Nat.le_refl _
  ·split
   ·exact Nat.le_refl _
   ·exact Nat.zero_le _
structure Rn (c q:Nat) (L:Lg) (D:Dk):Prop where
 lb:LBd c L
 ok:DOk c D
 old:L.w.old.length<=q
 ar:D.areas.length<=q
theorem Rn.up{c q c' q':Nat}{L:Lg}{D:Dk}(o:Rn c q L D)(h:c<=c')(h':q<=q'):Rn c' q' L D:=⟨o.lb.up h,o.ok.up h,by have:=o.old;omega,by have:=o.ar;omega⟩
theorem areasL_length(D:Dk):(areasL D).length=D.areas.length:=by unfold areasL;rw[(srtI_perm _).length_eq,List.length_map]
theorem rw_setHard(L:Lg)(D:Dk)(t:Nat)(v:Int):Rk 1 D (L.setHard D t v).2.1:=by
 have h:Rk 1 D (L.hard.save 0 D (uint t++uint (v+1).toNat)).2.1:=⟨_,Nat.le_refl _,rw_save L.hard 0 D (uint t++uint (v+1).toNat)⟩;unfold Lg.setHard
 split
 ·exact Rk.of D
 ·split
  ·exact Rk.of D
  ·split
   ·exact Rk.of D
   ·split <;> exact h
theorem Rn.setHard{c q:Nat}{L:Lg}{D:Dk}(o:Rn c q L D)(t:Nat)(v:Int)(ht:t<=mxU):Rn (c+2) (q+1) (L.setHard D t v).1 (L.setHard D t v).2.1:=by
 have hok:DOk (c+2) (L.setHard D t v).2.1:=by
  have h:=o.ok.save L.hard 0 qo (uint t++uint (v+1).toNat);unfold Lg.setHard
  split
  ·exact o.ok.up qo
  ·split
   ·exact o.ok.up qo
   ·split
    ·exact o.ok.up qo
    ·split <;> exact h.up qo
 refine ⟨(o.lb.setHard D t v ht).up qo,hok,?_,?_⟩
 ·have:(L.setHard D t v).1.w=L.w:=by
   unfold Lg.setHard
   split
   ·rfl
   ·split
    ·rfl
    ·split
     ·rfl
     ·split <;> rfl
  rw[this];have:=o.old;omega
 ·have:=(rw_setHard L D t v).len hok.ok;have:=o.ar;omega
theorem app1_rw:∀ (x:List Ent) (L:Lg) (D:Dk) (c:Nat),LBd c L->DOk c D->(∀ e∈x,entG e)->c+12*x.length<=999999990->Rk x.length D (Lg.app1 x L D).2.1/\(Lg.app1 x L D).1.w.old.length<=L.w.old.length+x.length
 | [],L,D,c,_,_,_,_=>⟨Rk.of D,Nat.le_refl _⟩
 | e::r,L,D,c,o,d,hx,hc=>by
  simp only[List.length_cons] at hc;have h1:=rw_wappend L.w e.bytes D;have h2:=append_old L.w e.bytes D;rw[app1_step]
  split
  ·exact ⟨h1.up (by simp only[List.length_cons];omega),by dsimp only;simp only[List.length_cons];omega⟩
  ·have h3:=app1_rw r _ _ (c+12) (o.w2 e.bytes D e (hx e (by simp))) (d.append o.w qo e.bytes) (fun y hy=>hx y (by simp[hy])) qo;exact ⟨(h1.trans h3.1).up (by simp only[List.length_cons];omega),by have:=h3.2;dsimp only at this;simp only[List.length_cons];omega⟩
theorem append_rw{c:Nat}{L:Lg}(o:LBd c L){D:Dk}(d:DOk c D)(x:List Ent)(hx:∀ e∈x,e.idx<=mxU/\e.term<=mxU)(hc:c+12*x.length<=999999990):Rk x.length D (L.append x D).2.1/\(L.append x D).1.w.old.length<=L.w.old.length+x.length:=by
 unfold Lg.append
 split
 ·exact ⟨Rk.of D,Nat.le_add_right _ _⟩
 ·split
  ·exact ⟨Rk.of D,Nat.le_add_right _ _⟩
  ·rename_i h;have hok:=fol_ok (Decidable.not_not.1 h);exact app1_rw x L D c o d (fun e he=>⟨hok e he,hx e he⟩) hc
theorem Rn.append{c q:Nat}{L:Lg}{D:Dk}(o:Rn c q L D)(x:List Ent)(hx:∀ e∈x,e.idx<=mxU/\e.term<=mxU)(hc:c+12*x.length<=999999990):Rn (c+12*x.length) (q+x.length) (L.append x D).1 (L.append x D).2.1:=by
 have h:=append_rw o.lb o.ok x hx hc;have h2:=o.lb.append o.ok x hx hc;have hl:=h.1.len h2.2.ok;exact ⟨h2.1,h2.2,by have:=o.old;omega,by have:=o.ar;omega⟩
theorem Rn.merge{c q:Nat}{L:Lg}{D:Dk}(o:Rn c q L D)(i t:Nat)(x:List Ent)(hx:∀ e∈x,e.idx<=mxU/\e.term<=mxU)(hc:c+2+12*x.length<=999999990):Rn (c+2+12*x.length) (q+1+x.length) (L.merge i t x D).1 (L.merge i t x D).2.1:=by
 have hb:=o.lb.merge o.ok i t x hx hc
 have h3:∀ (M:Lg) (E:Dk) (y:List Ent) (last b:Nat),LBd b M->DOk b E->(∀ e∈y,e.idx<=mxU/\e.term<=mxU)->b+12*y.length<=999999990->Rk y.length E (M.merge3 y last E).2.1/\(M.merge3 y last E).1.w.old.length<=M.w.old.length+y.length:=by
  intro M E y last b h1 h2 h3 h4;have:=append_rw h1 h2 y h3 h4;unfold Lg.merge3
  split <;> exact this
 have h2:∀ (y:List Ent) (last:Nat),(∀ e∈y,e.idx<=mxU/\e.term<=mxU)->y.length<=x.length->Rk (1+x.length) D (L.merge2 y last D).2.1/\(L.merge2 y last D).1.w.old.length<=L.w.old.length+1+x.length:=by
  intro y last hy hyl;have hsuf:=skp_suf L.sn L.l y true;have hmem:∀ e∈(skp L.sn L.l y true).1,e.idx<=mxU/\e.term<=mxU:=fun e he=>hy e (hsuf.subset he);have hlen:=hsuf.length_le;unfold Lg.merge2
  split
  ·have:=h3 L D [] last c o.lb o.ok (by simp) (by simp;omega);exact ⟨this.1.up (by simp),by have:=this.2;simp only[List.length_nil] at this;omega⟩
  ·rename_i e r h;rw[h] at hmem hlen;have hie:e.idx<18446744073709551616:=by have:=(hmem e (by simp)).1;unfold mxU at this;omega
   have hr:=rw_wtrunc L.w e.idx D;have ho:=trunc_old L.w e.idx D
   split
   ·split
    ·exact ⟨hr.up qo,by dsimp only;omega⟩
    ·have:=h3 _ _ (e::r) last (c+2) ((o.lb.cutAt e.idx D).up (show c+1<=c+2 by omega)) (o.ok.truncate o.lb.w qo e.idx hie) hmem qo;exact ⟨(hr.trans this.1).up qo,by have:=this.2;unfold Lg.cutAt at this ⊢;dsimp only at this ⊢;omega⟩
   ·have:=h3 L D (e::r) last c o.lb o.ok hmem qo;exact ⟨this.1.up qo,by have:=this.2;omega⟩
 have h1:∀ (i t:Nat) (y:List Ent) (last:Nat),(∀ e∈y,e.idx<=mxU/\e.term<=mxU)->y.length<=x.length->Rk (1+x.length) D (L.merge1 i t y last D).2.1/\(L.merge1 i t y last D).1.w.old.length<=L.w.old.length+1+x.length:=by
  intro i t y last hy hyl;unfold Lg.merge1
  split
  ·exact ⟨Rk.of D,by dsimp only;omega⟩
  ·exact h2 y last hy hyl
 have h0:Rk (1+x.length) D D/\L.w.old.length<=L.w.old.length+1+x.length:=⟨Rk.of D,by omega⟩
 have hm:Rk (1+x.length) D (L.merge i t x D).2.1/\(L.merge i t x D).1.w.old.length<=L.w.old.length+1+x.length:=by
  unfold Lg.merge
  split
  ·exact h0
  ·split
   ·exact h0
   ·split
    ·split
     ·exact h0
     ·split
      ·exact h0
      ·exact h1 _ _ _ _ (fun e he=>hx e (List.mem_of_mem_drop he)) (by rw[List.length_drop];omega)
    ·exact h1 i t x _ hx<|Nat.le_refl _
 have hl:=hm.1.len hb.2.ok;exact ⟨hb.1,hb.2,by have:=hm.2;have:=o.old;omega,by have:=o.ar;omega⟩
theorem rw_lsync(L:Lg)(D:Dk):Rk 0 D (L.sync D).2.1:=by
 unfold Lg.sync
 split
 ·exact Rk.of D
 ·exact ⟨[],Nat.le_refl _,rw_wsync [] L.w D⟩
theorem lsync_old(L:Lg)(D:Dk):(L.sync D).1.w.old=L.w.old:=by
 unfold Lg.sync
 split
 ·rfl
 ·dsimp only;rw[Wl.sync_eq]
theorem Rn.sync{c q:Nat}{L:Lg}{D:Dk}(o:Rn c q L D):Rn (c+1) q (L.sync D).1 (L.sync D).2.1:=
 ⟨(o.lb.sync D).up qo,o.ok.syncL L,by rw[lsync_old];exact o.old,by have:=(rw_lsync L D).len (o.ok.syncL L).ok;have:=o.ar;omega⟩
theorem rw_lgW(place:Nat):∀ (f n:Nat) (b:List UInt8) (D:Dk),Rw [((lgA4 place:Nat):Int)] D (lgW place f n b D).1
 | 0,_,_,D=>Rw.refl _ D
 | f+1,n,b,D=>by
  rw[lgW_step]
  split
  ·exact Rw.refl _ D
  ·have h1:=(Rw.refl [((lgA4 place:Nat):Int)] D).write (lgA4 place) n (b.take 64) (by simp)
   split
   ·exact h1
   ·exact h1.trans<|rw_lgW place f (n+1) (b.drop 64) _
theorem rw_lay(L:Lg)(s:Snp)(fr:Nat)(D:Dk):Rk 2 D (L.lay s fr D).2.1:=by
 have h1:Rk 1 D (lgW (L.place+1) (s.data.length+1) 0 s.data D).1:=⟨_,Nat.le_refl _,rw_lgW (L.place+1) (s.data.length+1) 0 s.data D⟩;unfold Lg.lay
 split
 ·exact h1.up qo
 ·unfold Lg.lay1;have h2:=h1.sync (lgA4 (L.place+1))
  split
  ·exact h2.up qo
  ·unfold Lg.lay2;have h3:=h2.trans (⟨_,Nat.le_refl _,rw_save L.head 4 _ (Lg.say s (L.place+1) fr)⟩:Rk 1 _ _)
   split
   ·exact h3
   ·unfold Lg.lay3;exact h3.free (lgA4 L.place)
theorem lay_w(L:Lg)(s:Snp)(fr:Nat)(D:Dk):(L.lay s fr D).1.w=L.w:=by
 unfold Lg.lay
 split
 ·rfl
 ·unfold Lg.lay1
  split
  ·rfl
  ·unfold Lg.lay2
   split
   ·rfl
   ·rfl
theorem fits_ok{L:Lg}{s:Snp}(h:L.fits s=0):(putConf s.vot).isSome=true/\s.data.length<=2097152/\L.sn.idx<s.idx/\s.idx<lgTop:=by
 unfold Lg.fits at h
 split at h
 ·rename_i h0;exact absurd h h0
 ·split at h
  ·cases h
  ·rename_i h1
   split at h
   ·cases h
   ·rename_i h2;have h1:=not_or.1 h1;refine ⟨by cases h3:(putConf s.vot).isSome with|true=>rfl|false=>exact absurd h3 h1.1,by omega,by omega,by omega⟩
theorem fits_bd{L:Lg}{s:Snp}(h:L.fits s=0)(ht:s.term<=mxU):SBd s:=by
 obtain ⟨h1,h2,h3,h4⟩:=fits_ok h;exact ⟨by omega,ht,putConf_len h1,h2⟩
theorem Rn.compact{c q:Nat}{L:Lg}{D:Dk}(o:Rn c q L D)(i:Nat)(hi:i<18446744073709551616)(hc:c<=1000000000):
  Rn (c+4+q) (q+1) { L with w:=(L.w.compact i D).1,code:=(L.w.compact i D).2.2 } (L.w.compact i D).2.1:=
 have hok:DOk (c+4+q) (L.w.compact i D).2.1:=(o.ok.compact o.lb.w hc i hi).up (by have:=compact2_old L.w i D;have:=o.old;omega)
 ⟨o.lb.wc ((o.lb.w.compact i D).up qo) qo _,hok,
  by have:=compact_old L.w i D;have:=o.old;dsimp only;omega,by have:=Rk.len ⟨_,Nat.le_refl _,rw_compact L.w i D⟩ hok.ok;have:=o.ar;simp only[List.length_cons,List.length_nil] at *;omega⟩
theorem Rn.resetL{c q:Nat}{L:Lg}{D:Dk}(o:Rn c q L D)(i:Nat):
  Rn (c+q) q { L with w:=(L.w.reset i D).1,code:=(L.w.reset i D).2.2 } (L.w.reset i D).2.1:=
 have hok:DOk (c+q) (L.w.reset i D).2.1:=(o.ok.reset L.w i).up (by rw[areasL_length];have:=o.ar;omega)
 ⟨o.lb.wc ((o.lb.w.reset i D).up qo) qo _,hok,
  by have:=reset_old L.w i D;have:=o.old;dsimp only;omega,by have:=Rk.len ⟨_,Nat.le_refl _,rw_reset [] L.w i D⟩ hok.ok;have:=o.ar;simp only[List.length_nil] at *;omega⟩
theorem Rn.lay{c q k:Nat}{L:Lg}{D:Dk}(o:Rn c q L D)(s:Snp)(hs:SBd s)(fr:Nat)(hfr:fr<=wMany+(c+1))(hc:c<=999000000)(hk:(s.data.length+63) / 64<=k):Rn (c+(k+4)) (q+2) (L.lay s fr D).1 (L.lay s fr D).2.1:=
 have hok:DOk (c+(k+4)) (L.lay s fr D).2.1:=(o.ok.layL o.lb hc s hs fr).up qo
 ⟨(o.lb.lay s hs fr hfr D).up qo,hok,by rw[lay_w];have:=o.old;omega,by have:=(rw_lay L s fr D).len hok.ok;have:=o.ar;omega⟩
theorem Rn.save{c q k:Nat}{L:Lg}{D:Dk}(o:Rn c q L D)(s:Snp)(hst:s.term<=mxU)(hc:c<=499900000)(hk:(s.data.length+63) / 64<=k):Rn (c+(2*k+q+20)) (q+3) (L.save s D).1 (L.save s D).2.1:=by
 unfold Lg.save
 split
 ·exact o.up qo qo
 ·rename_i hf;have hf:=Decidable.not_not.1 hf;have hs:=fits_bd hf hst
  split
  ·exact o.up qo qo
  ·unfold Lg.save1;have h1:=o.sync
   split
   ·exact h1.up qo qo
   ·unfold Lg.save2;have hkk:(s.data.length+63) / 64<=32769:=by have:=hs.data;omega
    have h2:=h1.lay (k:=(s.data.length+63) / 64) s hs (L.sync D).1.fr (by have:=h1.lb.fr;omega) qo (Nat.le_refl _)
    split
    ·exact h2.up qo qo
    ·exact (h2.compact (s.idx+1) (by have:=hs.idx;unfold lgTop at this;omega) qo).up qo qo
theorem Rn.install{c q k:Nat}{L:Lg}{D:Dk}(o:Rn c q L D)(s:Snp)(hst:s.term<=mxU)(hc:c<=499900000)(hk:(s.data.length+63) / 64<=k):Rn (c+(2*k+q+20)) (q+3) (L.install s D).1 (L.install s D).2.1:=by
 unfold Lg.install
 split
 ·exact o.up qo qo
 ·rename_i hf;have hf:=Decidable.not_not.1 hf;have hs:=fits_bd hf hst
  split
  ·exact o.save s hst hc hk
  ·unfold Lg.inst1;have h2:=o.lay (k:=(s.data.length+63) / 64) s hs L.w.next (by have:=o.lb.w.next;omega) qo (Nat.le_refl _)
   split
   ·exact h2.up qo qo
   ·exact (h2.resetL (s.idx+1)).up qo qo
def Lg.doo(L:Lg)(D:Dk)(o:ROp):Lg×Dk×Ans:=
 if o.kind=0 then ((L.setHard D o.ht o.hv).1,(L.setHard D o.ht o.hv).2.1,⟨0,false,(L.setHard D o.ht o.hv).2.2⟩)
 else if o.kind=1 then ((L.append o.x D).1,(L.append o.x D).2.1,⟨0,false,(L.append o.x D).2.2⟩)
 else if o.kind=2 then ((L.merge o.idx o.term o.x D).1,(L.merge o.idx o.term o.x D).2.1,⟨(L.merge o.idx o.term o.x D).2.2.1,(L.merge o.idx o.term o.x D).2.2.2.1,(L.merge o.idx o.term o.x D).2.2.2.2⟩)
 else if o.kind=3 then ((L.sync D).1,(L.sync D).2.1,⟨0,false,(L.sync D).2.2⟩)
 else if o.kind=4 then ((L.save o.sn D).1,(L.save o.sn D).2.1,⟨0,false,(L.save o.sn D).2.2⟩)
 else if o.kind=5 then ((L.install o.sn D).1,(L.install o.sn D).2.1,⟨0,false,(L.install o.sn D).2.2⟩)
 else (L,D,⟨0,false,0⟩)
def ROp.low(o:ROp):Bool:=(o.x.all fun e=>decide (e.idx<lgTop)) && (decide (o.x.length<=100) && decide (o.sn.data.length<=4096))
theorem ROp.low_ok{o:ROp}(h:o.low=true):(∀ e∈o.x,e.idx<lgTop)/\o.x.length<=100/\o.sn.data.length<=4096:=by
 unfold ROp.low at h;simp only[Bool.and_eq_true,List.all_eq_true,decide_eq_true_eq] at h;exact ⟨h.1,h.2.1,h.2.2⟩
theorem Rn.doo{c q n:Nat}{L:Lg}{D:Dk}(o:Rn c q L D)(p:ROp)(hp:p.bd n)(hl:p.low=true)(hc:c<=499900000):Rn (c+(1300+q)) (q+103) (L.doo D p).1 (L.doo D p).2.1:=by
 obtain ⟨h1,h2,h3⟩:=ROp.low_ok hl;have hx:∀ e∈p.x,e.idx<=mxU/\e.term<=mxU:=fun e he=>⟨(hp.ents e he).1,(hp.ents e he).2.1⟩;unfold Lg.doo
 split
 ·exact (o.setHard p.ht p.hv hp.ht).up qo qo
 ·split
  ·exact (o.append p.x hx qo).up qo qo
  ·split
   ·exact (o.merge p.idx p.term p.x hx qo).up qo qo
   ·split
    ·exact o.sync.up qo qo
    ·split
     ·exact (o.save (k:=65) p.sn hp.st hc qo).up qo qo
     ·split
      ·exact (o.install (k:=65) p.sn hp.st hc qo).up qo qo
      ·exact o.up qo qo
end
section
theorem trm_true{s:Snp}{l:List Ent}{i:Nat}(h:(trm s l i).2=true):s.idx<=i/\i<=s.idx+l.length:=by
 unfold trm at h
 split at h
 ·omega
 ·split at h
  ·cases h
  ·omega
theorem trm_take{s:Snp}{l:List Ent}{i n:Nat}(h:i<=s.idx+n)(hn:n<=l.length):trm s (l.take n) i=trm s l i:=by
 unfold trm;rw[List.length_take,Nat.min_eq_left hn]
 split
 ·rfl
 ·by_cases h1:i<s.idx
  ·rw[if_pos (.inl h1),if_pos (.inl h1)]
  ·rw[if_neg qo,if_neg qo,List.getElem?_take_of_lt qo]
theorem folR_cons(i t:Nat)(e:Ent)(r:List Ent):folR i t (e::r)=if e.idx≠i+1\/e.term<t then 180 else folR e.idx e.term r:=rfl
theorem folR_ok{i t:Nat}{e:Ent}{r:List Ent}(h:folR i t (e::r)=0):e.idx=i+1/\t<=e.term/\folR e.idx e.term r=0:=by
 rw[folR_cons] at h
 split at h
 ·cases h
 ·exact ⟨by omega,by omega,h⟩
theorem folR_drop:∀ (x:List Ent) (i t k:Nat) (e:Ent) (r:List Ent),folR i t x=0->x.drop k=e::r->e.idx=i+k+1/\folR e.idx e.term r=0
 | [],i,t,k,e,r,_,h=>by simp at h
 | a::x,i,t,0,e,r,hf,h=>by
  cases h;have:=folR_ok hf;exact ⟨by omega,this.2.2⟩
 | a::x,i,t,k+1,e,r,hf,h=>by
  have h1:=folR_ok hf;have:=folR_drop x a.idx a.term k e r h1.2.2 (by simpa using h);exact ⟨by omega,this.2⟩
theorem fol_zero{i t:Nat}{x:List Ent}(hok:∀ e∈x,e.ok)(hf:folR i t x=0):fol i t x=0:=by
 unfold fol;rw[if_pos (by simp only[List.all_eq_true,putEnt_ok];exact hok)];exact hf
theorem skp_at(s:Snp)(l:List Ent):∀ (x:List Ent) (i t:Nat) (b:Bool),folR i t x=0->trm s l i=(t,true)->∀ e r B,skp s l x b=(e::r,B) ->
  ∃ u,i<e.idx/\trm s l (e.idx-1)=(u,true)/\folR (e.idx-1) u (e::r)=0/\B=(trm s l e.idx).2
 | [],i,t,b,_,_,e,r,B,h=>by cases h
 | a::x,i,t,b,hf,ht,e,r,B,h=>by
  have h1:=folR_ok hf;rw[skp_cons] at h
  by_cases hc:(trm s l a.idx).2=false\/(trm s l a.idx).1≠a.term
  ·rw[if_pos hc] at h;cases h;refine ⟨t,by omega,?_,?_,I⟩
   ·rw[h1.1,Nat.add_sub_cancel];exact ht
   ·rw[show a.idx-1=i by omega];exact hf
  ·rw[if_neg hc] at h;have hc:=not_or.1 hc;have h2:trm s l a.idx=(a.term,true):=Prod.ext (Decidable.not_not.1 hc.2) (by simpa using hc.1);obtain ⟨u,g1,g2⟩:=skp_at s l x a.idx a.term true h1.2.2 h2 e r B h;exact ⟨u,by omega,g2⟩
theorem Sim.merge3{k q n:Nat}{L:Lg}{D:Dk}(o:Sim k q L)(x:List Ent)(last:Nat)(h:Liv (n+11*x.length) D)(hx:∀ e∈x,e.idx<=mxU/\e.term<=mxU)(hl:L.sn.idx+L.l.length+x.length<2*lgTop)
  (hf:folR L.last (trm L.sn L.l L.last).1 x=0) (hok:∀ e∈x,e.ok):
  (L.merge3 x last D).2.2=(last,true,0)/\Liv n (L.merge3 x last D).2.1/\Sim k (q+x.length) (L.merge3 x last D).1/\(L.merge3 x last D).1.rl={ L.rl with l:=L.l++x }:=by
 have h1:=o.append x h hx hl
 have h0:L.rl.append x=({ L.rl with l:=L.l++x },0):=by
  unfold Rl.append;rw[if_neg (by intro hc;exact hc (fol_zero hok hf))]
  rfl
 rw[h0] at h1;unfold Lg.merge3;rw[if_neg (by rw[h1.1];simp)];exact ⟨I,h1.2.1,h1.2.2.1,h1.2.2.2⟩
theorem Sim.merge2{k q n:Nat}{L:Lg}{D:Dk}(o:Sim k q L)(i t:Nat)(hi:L.sn.idx<=i)(x:List Ent)(last:Nat)(h:Liv (n+1+11*x.length) D)(hx:∀ e∈x,e.idx<=mxU/\e.term<=mxU)(hl:L.sn.idx+L.l.length+x.length<2*lgTop)
  (hf:folR i t x=0) (hok:∀ e∈x,e.ok) (ht:trm L.sn L.l i=(t,true)):
  (L.merge2 x last D).2.2=(L.rl.merge2 x last).2/\Liv n (L.merge2 x last D).2.1/\Sim k (q+1+x.length) (L.merge2 x last D).1/\(L.merge2 x last D).1.rl=(L.rl.merge2 x last).1:=by
 obtain ⟨⟨y,B⟩,hy⟩:∃ p,skp L.sn L.l x true=p:=⟨_,rfl⟩;have hy2:skp L.rl.sn L.rl.l x true=(y,B):=hy;have hsuf:=skp_suf L.sn L.l x true;rw[hy] at hsuf;dsimp only at hsuf;have hlen:=hsuf.length_le;cases y with
 | nil=>
  rw[merge2_nil hy,rmerge2_nil hy2];have h1:=o.merge3 (n:=n) [] last (h.mono (by simp;omega)) (by simp) (by simp;omega) rfl (by simp);refine ⟨h1.1,h1.2.1,h1.2.2.1.up (Nat.le_refl _) (by simp;omega),?_⟩;rw[h1.2.2.2,List.append_nil]
  rfl
 | cons e r=>
  obtain ⟨u,g1,g2,g3,g4⟩:=skp_at L.sn L.l x i t true hf ht e r B hy;have hie:=hx e (hsuf.subset (by simp));have hie2:e.idx<18446744073709551616:=by have:=hie.1;unfold mxU at this;omega
  have g5:=trm_true (s:=L.sn) (l:=L.l) (i:=e.idx-1) (by rw[g2]);rw[merge2_cons hy,rmerge2_cons hy2];cases hB:B with
  | true=>
   subst hB;have g6:=trm_true (s:=L.sn) (l:=L.l) (i:=e.idx) g4.symm;have hT:=o.w.truncate (n:=n+11*(e::r).length) (h.mono qo) e.idx hie2 (by rw[o.first];omega) (by rw[o.first,o.recs];omega);rw[if_pos rfl,if_neg (by rw[hT.1];simp)]
   have hat:(lgAt L.sn L.l e.idx).getD 0=e.idx-L.sn.idx-1:=by
    unfold lgAt;rw[if_neg qo]
    rfl
   have hMl:(L.cutAt e.idx (L.w.truncate e.idx D).1).l=L.l.take (e.idx-L.sn.idx-1):=by unfold Lg.cutAt;dsimp only;rw[hat]
   have hlt:(L.l.take (e.idx-L.sn.idx-1)).length=e.idx-L.sn.idx-1:=by rw[List.length_take];omega
   have hM:Sim k (q+1) (L.cutAt e.idx (L.w.truncate e.idx D).1):=
    ⟨o.code,hT.2.1,o.hard,o.head,o.place,by have:=o.next;have:=hT.2.2.2.2.2;unfold Lg.cutAt;dsimp only;omega,by have:=o.fr;unfold Lg.cutAt;dsimp only;omega,by unfold Lg.cutAt;dsimp only;rw[hT.2.2.2.1];exact o.first,by
     rw[hMl,hlt];unfold Lg.cutAt;dsimp only;rw[hT.2.2.2.2.1,List.length_take,o.first,o.recs];omega⟩
   have hsn:(L.cutAt e.idx (L.w.truncate e.idx D).1).sn=L.sn:=rfl
   have hla:(L.cutAt e.idx (L.w.truncate e.idx D).1).last=e.idx-1:=by
    unfold Lg.last;rw[hMl,hlt,hsn];omega
   have h3:=hM.merge3 (n:=n) (e::r) last hT.2.2.1 (fun a ha=>hx a (hsuf.subset ha)) (by rw[hMl,hlt,hsn];omega) (by
    rw[hla,hMl,hsn,trm_take qo qo,g2];exact g3) (fun a ha=>hok a (hsuf.subset ha))
   refine ⟨h3.1,h3.2.1,h3.2.2.1.up (Nat.le_refl _) qo,?_⟩;rw[h3.2.2.2,hMl]
   rfl
  | false=>
   subst hB
   have g6:e.idx=L.sn.idx+L.l.length+1:=by
    rcases Nat.lt_or_ge (L.sn.idx+L.l.length) e.idx with h7|h7
    ·omega
    ·exfalso
     have:(trm L.sn L.l e.idx).2=true:=by
      unfold trm;rw[if_neg qo,if_neg qo]
     rw[<-g4] at this;cases this
   rw[if_neg (by simp)];have hla:L.last=e.idx-1:=by unfold Lg.last;omega
   have h3:=o.merge3 (n:=n) (e::r) last (h.mono qo) (fun a ha=>hx a (hsuf.subset ha)) qo (by rw[hla,g2];exact g3) (fun a ha=>hok a (hsuf.subset ha));refine ⟨h3.1,h3.2.1,h3.2.2.1.up (Nat.le_refl _) qo,?_⟩;rw[h3.2.2.2]
   have:L.rl.l.take (e.idx-L.rl.sn.idx-1)=L.l:=by
    show L.l.take (e.idx-L.sn.idx-1)=L.l;rw[show e.idx-L.sn.idx-1=L.l.length by omega,List.take_length]
   rw[this]
theorem Sim.merge1{k q n:Nat}{L:Lg}{D:Dk}(o:Sim k q L)(i t:Nat)(hi:L.sn.idx<=i)(x:List Ent)(last:Nat)(h:Liv (n+1+11*x.length) D)(hx:∀ e∈x,e.idx<=mxU/\e.term<=mxU)(hl:L.sn.idx+L.l.length+x.length<2*lgTop)
  (hf:folR i t x=0) (hok:∀ e∈x,e.ok):
  (L.merge1 i t x last D).2.2=(L.rl.merge1 i t x last).2/\Liv n (L.merge1 i t x last D).2.1/\Sim k (q+1+x.length) (L.merge1 i t x last D).1/\(L.merge1 i t x last D).1.rl=(L.rl.merge1 i t x last).1:=by
 unfold Lg.merge1 Rl.merge1
 by_cases hc:(trm L.sn L.l i).2=false\/(trm L.sn L.l i).1≠t
 ·rw[if_pos hc,if_pos (show (trm L.rl.sn L.rl.l i).2=false\/(trm L.rl.sn L.rl.l i).1≠t from hc)];exact ⟨I,h.mono qo,o.up (Nat.le_refl _) qo,I⟩
 ·rw[if_neg hc,if_neg (show ¬((trm L.rl.sn L.rl.l i).2=false\/(trm L.rl.sn L.rl.l i).1≠t) from hc)];have hc:=not_or.1 hc;exact o.merge2 i t hi x last h hx hl hf hok (Prod.ext (Decidable.not_not.1 hc.2) (by simpa using hc.1))
theorem Sim.merge{k q n:Nat}{L:Lg}{D:Dk}(o:Sim k q L)(i t:Nat)(x:List Ent)(h:Liv (n+1+11*x.length) D)(hx:∀ e∈x,e.idx<=mxU/\e.term<=mxU)(hl:L.sn.idx+L.l.length+x.length<2*lgTop):
  (L.merge i t x D).2.2=(L.rl.merge i t x).2/\Liv n (L.merge i t x D).2.1/\Sim k (q+1+x.length) (L.merge i t x D).1/\(L.merge i t x D).1.rl=(L.rl.merge i t x).1:=by
 have h0:Liv n D/\Sim k (q+1+x.length) L:=⟨h.mono qo,o.up (Nat.le_refl _) qo⟩;have hsn:L.rl.sn=L.sn:=rfl;unfold Lg.merge Rl.merge;rw[if_neg (by rw[o.code];simp),hsn]
 by_cases hf:fol i t x≠0
 ·rw[if_pos hf,if_pos hf];exact ⟨I,h0.1,h0.2,I⟩
 ·rw[if_neg hf,if_neg hf];have hf:=Decidable.not_not.1 hf;have hok:=fol_ok hf;have hfR:=fol_folR hf
  by_cases hi:i<L.sn.idx
  ·rw[if_pos hi,if_pos hi]
   by_cases h1:i+x.length<L.sn.idx
   ·rw[if_pos h1,if_pos h1];exact ⟨I,h0.1,h0.2,I⟩
   ·rw[if_neg h1,if_neg h1]
    by_cases h2:((x.drop (L.sn.idx-i)).head?.map fun e=>decide (e.term<L.sn.term))=some true
    ·rw[if_pos h2,if_pos h2];exact ⟨I,h0.1,h0.2,I⟩
    ·rw[if_neg h2,if_neg h2];have hdl:(x.drop (L.sn.idx-i)).length<=x.length:=by rw[List.length_drop];omega
     have hm:=o.merge1 (n:=n) L.sn.idx L.sn.term (Nat.le_refl _) (x.drop (L.sn.idx-i)) (i+x.length) (h.mono qo) (fun e he=>hx e (List.mem_of_mem_drop he)) qo (by
      cases hd:x.drop (L.sn.idx-i) with
      | nil=>rfl
      | cons e r=>
       have h3:=folR_drop x i t _ e r hfR hd;rw[hd] at h2;simp at h2;rw[folR_cons,if_neg qo];exact h3.2) (fun e he=>hok e (List.mem_of_mem_drop he))
     exact ⟨hm.1,hm.2.1,hm.2.2.1.up (Nat.le_refl _) qo,hm.2.2.2⟩
  ·rw[if_neg hi,if_neg hi];exact o.merge1 i t qo x _ h hx hl hfR hok
theorem Sim.doo{k q n m:Nat}{L:Lg}{D:Dk}(o:Sim k q L)(p:ROp)(hp:p.bd m)(hl:p.low=true)(h:Liv (n+1300) D)(hk:k<=1000000)(hq:q<=1900000)(hi:L.sn.idx<=lgTop)(hn:L.l.length<=1000000):
  (L.doo D p).2.2=(L.rl.doo p).2/\Liv n (L.doo D p).2.1/\Sim (k+1) (q+101) (L.doo D p).1/\(L.doo D p).1.rl=(L.rl.doo p).1:=by
 obtain ⟨_,h2,h3⟩:=ROp.low_ok hl;have hx:∀ e∈p.x,e.idx<=mxU/\e.term<=mxU:=fun e he=>⟨(hp.ents e he).1,(hp.ents e he).2.1⟩;have hl2:L.sn.idx+L.l.length+p.x.length<2*lgTop:=by unfold lgTop at hi ⊢;omega
 unfold Lg.doo Rl.doo
 by_cases e0:p.kind=0
 ·rw[if_pos e0,if_pos e0];have g:=o.setHard (n:=n) (h.mono qo) p.ht p.hv hp.ht hk;exact ⟨by dsimp only;rw[g.1],g.2.1,g.2.2.1.up (Nat.le_refl _) qo,g.2.2.2⟩
 ·rw[if_neg e0,if_neg e0]
  by_cases e1:p.kind=1
  ·rw[if_pos e1,if_pos e1];have g:=o.append (n:=n) p.x (h.mono qo) hx hl2;exact ⟨by dsimp only;rw[g.1],g.2.1,g.2.2.1.up qo qo,g.2.2.2⟩
  ·rw[if_neg e1,if_neg e1]
   by_cases e2:p.kind=2
   ·rw[if_pos e2,if_pos e2];have g:=o.merge (n:=n) p.idx p.term p.x (h.mono qo) hx hl2;exact ⟨by dsimp only;rw[g.1],g.2.1,g.2.2.1.up qo qo,g.2.2.2⟩
   ·rw[if_neg e2,if_neg e2]
    by_cases e3:p.kind=3
    ·rw[if_pos e3,if_neg qo,if_neg qo];have g:=o.sync (n:=n) (h.mono qo);exact ⟨by dsimp only;rw[g.1],g.2.1,g.2.2.1.up qo qo,g.2.2.2.1⟩
    ·rw[if_neg e3]
     by_cases e4:p.kind=4
     ·rw[if_pos e4,if_pos e4];have g:=o.save (n:=n) p.sn (h.mono qo) hp.si hp.st hk qo;exact ⟨by dsimp only;rw[g.1],g.2.1,g.2.2.1.up (Nat.le_refl _) qo,g.2.2.2⟩
     ·rw[if_neg e4,if_neg e4]
      by_cases e5:p.kind=5
      ·rw[if_pos e5,if_pos e5];have g:=o.install (n:=n) p.sn (h.mono qo) hp.si hp.st hk qo;exact ⟨by dsimp only;rw[g.1],g.2.1,g.2.2.1.up (Nat.le_refl _) qo,g.2.2.2⟩
      ·rw[if_neg e5,if_neg e5];exact ⟨I,h.mono qo,o.up qo qo,I⟩
theorem Rl.doo_len(r:Rl)(p:ROp):(r.doo p).1.l.length<=r.l.length+p.x.length:=by
 have hm:∀ (y:List Ent) (last:Nat),y.length<=p.x.length->(r.merge2 y last).1.l.length<=r.l.length+p.x.length:=by
  intro y last hy;have hs:=(skp_suf r.sn r.l y true).length_le;unfold Rl.merge2
  split
  ·exact Nat.le_add_right _ _
  ·rename_i e t h;rw[h] at hs;dsimp only;rw[List.length_append,List.length_take];omega
 have hm1:∀ (i t:Nat) (y:List Ent) (last:Nat),y.length<=p.x.length->(r.merge1 i t y last).1.l.length<=r.l.length+p.x.length:=by
  intro i t y last hy;unfold Rl.merge1
  split
  ·exact Nat.le_add_right _ _
  ·exact hm y last hy
 have hsv:(r.save p.sn).1.l.length<=r.l.length+p.x.length:=by
  unfold Rl.save
  split
  ·exact Nat.le_add_right _ _
  ·split
   ·exact Nat.le_add_right _ _
   ·dsimp only;rw[List.length_drop];omega
 unfold Rl.doo
 split
 ·unfold Rl.setHard;dsimp only
  split
  ·exact Nat.le_add_right _ _
  ·split <;> exact Nat.le_add_right _ _
 ·split
  ·unfold Rl.append;dsimp only
   split
   ·exact Nat.le_add_right _ _
   ·dsimp only;rw[List.length_append];exact Nat.le_refl _
  ·split
   ·unfold Rl.merge;dsimp only
    split
    ·exact Nat.le_add_right _ _
    ·split
     ·split
      ·exact Nat.le_add_right _ _
      ·split
       ·exact Nat.le_add_right _ _
       ·exact hm1 _ _ _ _ (by rw[List.length_drop];omega)
     ·exact hm1 _ _ _ _<|Nat.le_refl _
   ·split
    ·exact hsv
    ·split
     ·unfold Rl.install;dsimp only
      split
      ·exact Nat.le_add_right _ _
      ·split
       ·exact hsv
       ·dsimp only;simp
     ·exact Nat.le_add_right _ _
end
section
attribute [local irreducible] Code.wp wpList Calls
def LgH(K:PH)(lb db:Nat)(L:Lg)(D:Dk)(h:PH):Prop:=∃ m,h=uns m/\Djs m/\LgM K lb db L D m
theorem LgH.le{K K':PH}(l:Le K K'){lb db:Nat}{L:Lg}{D:Dk}{h:PH}(x:LgH K lb db L D h):LgH K' lb db L D h:=let ⟨m,h1,h2,h3⟩:=x;⟨m,h1,h2,h3.le l⟩
section
variable {w0:World} {K h:PH} {hs:List PH}
theorem lgKeep{f:FuncId}{args:List Value}{lb db:Nat}{L:Lg}{D:Dk}{u:Value}(hL:LgH K lb db L D h)(c:∀ m,LgM K lb db L D m->Ct Tryz.prog w0 f args K (m++hs) (fun v K' hs'=>K'=K/\hs'=m++hs/\v=u)):Ct Tryz.prog w0 f args K (h::hs) (fun v K' hs'=>K'=K/\hs'=h::hs/\v=u):=by
 obtain ⟨m,rfl,d,hm⟩:=hL;refine Ct.bun2 d (c m hm) ?_;rintro v K' hs' ⟨rfl,rfl,rfl⟩;exact ⟨m,hs,I,fun _=>⟨I,I,I⟩⟩
theorem lgRead{f:FuncId}{args:List Value}{lb db:Nat}{L:Lg}{D:Dk}{S:Value->PH->Prop}(hL:LgH K lb db L D h)(c:∀ m,LgM K lb db L D m->Ct Tryz.prog w0 f args K (m++hs) (fun v K' hs'=>Le K K'/\hs'=m++hs/\S v K')):Ct Tryz.prog w0 f args K (h::hs) (fun v K' hs'=>∃ h',hs'=h'::hs/\h'=h/\Le K K'/\S v K'):=by
 obtain ⟨m,rfl,d,hm⟩:=hL;refine Ct.bun2 d (c m hm) ?_;rintro v K' hs' ⟨le,rfl,hS⟩;exact ⟨m,hs,I,fun _=>⟨_,I,I,le,hS⟩⟩
theorem lgDo{f:FuncId}{args:List Value}{lb db:Nat}{L L':Lg}{D D':Dk}{u:Value}(hL:LgH K lb db L D h)(c:∀ m,LgM K lb db L D m->Ct Tryz.prog w0 f args K (m++hs) (fun v K' hs'=>Le K K'/\∃ m',hs'=m'++hs/\LgM K' lb db L' D' m'/\v=u)):Ct Tryz.prog w0 f args K (h::hs) (fun v K' hs'=>∃ h',hs'=h'::hs/\Le K K'/\LgH K' lb db L' D' h'/\v=u):=by
 obtain ⟨m,rfl,d,hm⟩:=hL;refine Ct.bun2 d (c m hm) ?_;rintro v K' hs' ⟨le,m',rfl,hm',rfl⟩;exact ⟨m',hs,I,fun d'=>⟨_,I,le,⟨m',I,d',hm'⟩,I⟩⟩
variable (lb db:Nat) (L:Lg) (D:Dk) (c:Nat)
theorem hardH(hL:LgH K lb db L D h):Ct Tryz.prog w0 36 [.pointer (some ⟨lb,0,none⟩)] K (h::hs) (fun v K' hs'=>K'=K/\hs'=h::hs/\v=.agg #[.int .u64 L.kt,.int .i64 L.kv]):=
 lgKeep hL fun m hm=>hardLC lb db L D hm
theorem termH(hb:LBd c L)(hc:c<=1000000000)(hL:LgH K lb db L D h)(i:Nat)(hi:i<18446744073709551616):Ct Tryz.prog w0 13 [.pointer (some ⟨lb,0,none⟩),.int .u64 (i:Nat)] K (h::hs) (fun v K' hs'=>K'=K/\hs'=h::hs/\v=okT (trm L.sn L.l i)):=
 lgKeep hL fun m hm=>termLC lb db L D c hb hc hm i hi
theorem snapH(hb:LBd c L)(hL:LgH K lb db L D h):Ct Tryz.prog w0 43 [.pointer (some ⟨lb,0,none⟩)] K (h::hs) (fun v K' hs'=>∃ h',hs'=h'::hs/\h'=h/\Le K K'/\SnpS K' L.sn v):=
 lgRead hL fun m hm=>snapLC lb db L D c hb hm
theorem entriesH(hb:LBd c L)(hc:c<=1000000000)(hL:LgH K lb db L D h)(i:Nat)(hi:i<18446744073709551616)(most:Int)(hmo : -9223372036854775808<=most/\most<=9223372036854775807):Ct Tryz.prog w0 17 [.pointer (some ⟨lb,0,none⟩),.int .u64 (i:Nat),.int .i64 most] K (h::hs)
  (fun v K' hs'=>∃ h',hs'=h'::hs/\h'=h/\Le K K'/\∃ ao cap,v=.slice ao (partsL L.sn L.l i most).length cap/\SlS 4 (EntC K') K' ao (partsL L.sn L.l i most).length cap (partsL L.sn L.l i most)):=
 lgRead hL fun m hm=>entriesLC lb db L D c hb hc hm i hi most hmo
theorem syncH'(hb:LBd c L)(hc:c<=1000000000)(oD:DOk c D)(hL:LgH K lb db L D h):Ct Tryz.prog w0 35 [.pointer (some ⟨lb,0,none⟩)] K (h::hs)
  (fun v K' hs'=>∃ h',hs'=h'::hs/\Le K K'/\LgH K' lb db (L.sync D).1 (L.sync D).2.1 h'/\v=.int .i64 (L.sync D).2.2):=
 lgDo hL fun m hm=>(syncLC lb db L D c hb hc oD hm).mono fun v K' hs' ⟨e,g⟩=>by subst e;exact ⟨Le.refl _,g⟩
theorem setHardH(hb:LBd c L)(hc:c<=1000000000)(oD:DOk c D)(hL:LgH K lb db L D h)(t:Nat)(v:Int)(ht:t<=mxU)(hv : -9223372036854775808<=v/\v<=9223372036854775807):Ct Tryz.prog w0 34 [.pointer (some ⟨lb,0,none⟩),.agg #[.int .u64 (t:Nat),.int .i64 v]] K (h::hs)
  (fun u K' hs'=>∃ h',hs'=h'::hs/\Le K K'/\LgH K' lb db (L.setHard D t v).1 (L.setHard D t v).2.1 h'/\u=.int .i64 (L.setHard D t v).2.2):=
 lgDo hL fun m hm=>setHardLC lb db L D c hb hc oD hm t v ht hv
theorem appendH(hb:LBd c L)(oD:DOk c D)(hL:LgH K lb db L D h)(ao:Option Addr)(cap:Nat)(x:List Ent)(xs:SlS 4 (EntC K) K ao x.length cap x)(hx:∀ e∈x,entB e)(hc:c+12*x.length<=999999000):Ct Tryz.prog w0 33 [.pointer (some ⟨lb,0,none⟩),.slice ao x.length cap] K (h::hs)
  (fun u K' hs'=>∃ h',hs'=h'::hs/\Le K K'/\LgH K' lb db (L.append x D).1 (L.append x D).2.1 h'/\u=.int .i64 (L.append x D).2.2):=
 lgDo hL fun m hm=>appendLC lb db L D c hb oD hm ao cap x xs hx hc
theorem mergeH(hb:LBd c L)(oD:DOk c D)(hL:LgH K lb db L D h)(i t:Nat)(hi:i<=mxU)(ht:t<=mxU)(ao:Option Addr)(cap:Nat)(x:List Ent)(xs:SlS 4 (EntC K) K ao x.length cap x)(hx:∀ e∈x,entB e)(hc:c+2+12*x.length<=999999000):
  Ct Tryz.prog w0 12 [.pointer (some ⟨lb,0,none⟩),.int .u64 (i:Nat),.int .u64 (t:Nat),.slice ao x.length cap] K (h::hs)
  (fun u K' hs'=>∃ h',hs'=h'::hs/\Le K K'/\LgH K' lb db (L.merge i t x D).1 (L.merge i t x D).2.1 h'/\u=okM (L.merge i t x D).2.2):=
 lgDo hL fun m hm=>mergeLC lb db L D c hb oD hm i t hi ht ao cap x xs hx hc
theorem saveH(hb:LBd c L)(hc:c<=499900000)(oD:DOk c D)(hL:LgH K lb db L D h)(s:Snp)(hsi:s.idx<18446744073709551616)(hst:s.term<=mxU)(hvl:s.vot.length<1099511627776)(hdl:s.data.length<1099511627776)
  (aS:Option Addr) (cS:Nat) (aT:Option Addr) (cT:Nat) (xS:IsS K aS s.vot.length cS 1 (iv s.vot)) (xT:IsS K aT s.data.length cT 1 (bv s.data)):
  Ct Tryz.prog w0 44 [.pointer (some ⟨lb,0,none⟩),.agg (snV s aS cS aT cT)] K (h::hs)
  (fun u K' hs'=>∃ h',hs'=h'::hs/\Le K K'/\LgH K' lb db (L.save s D).1 (L.save s D).2.1 h'/\u=.int .i64 (L.save s D).2.2):=
 lgDo hL fun m hm=>saveLC lb db L D c hb hc oD hm s hsi hst hvl hdl aS cS aT cT xS xT
theorem installH(hb:LBd c L)(hc:c<=499900000)(oD:DOk c D)(hL:LgH K lb db L D h)(s:Snp)(hsi:s.idx<18446744073709551616)(hst:s.term<=mxU)(hvl:s.vot.length<1099511627776)(hdl:s.data.length<1099511627776)
  (aS:Option Addr) (cS:Nat) (aT:Option Addr) (cT:Nat) (xS:IsS K aS s.vot.length cS 1 (iv s.vot)) (xT:IsS K aT s.data.length cT 1 (bv s.data)):
  Ct Tryz.prog w0 45 [.pointer (some ⟨lb,0,none⟩),.agg (snV s aS cS aT cT)] K (h::hs)
  (fun u K' hs'=>∃ h',hs'=h'::hs/\Le K K'/\LgH K' lb db (L.install s D).1 (L.install s D).2.1 h'/\u=.int .i64 (L.install s D).2.2):=
 lgDo hL fun m hm=>installLC lb db L D c hb hc oD hm s hsi hst hvl hdl aS cS aT cT xS xT
end
theorem openH{w0:World}{K dh:PH}{hs:List PH}(db:Nat)(D:Dk)(c:Nat)(oD:DOk c D)(hc:c<=199000000)(hd:DskH K db D dh)(first:List Int)(hfl:first.length<=1000000)(aF:Option Addr)(cF:Nat)(xF:IsS K aF first.length cF 1 (iv first)):
  Ct Tryz.prog w0 27 [.pointer (some ⟨db,0,none⟩),.agg #[.slice aF first.length cF]] K (dh::hs)
   (fun v K' hs'=>∃ h',hs'=h'::hs/\Le K K'/\(((lOpen D first).1=none/\v=.tuple #[.pointer none,.int .i64 (lOpen D first).2.2]/\DskH K' db (lOpen D first).2.1 h') \/
    (∃ L lb,(lOpen D first).1=some L/\v=.tuple #[.pointer (some ⟨lb,0,none⟩),.int .i64 (lOpen D first).2.2]/\LgH K' lb db L (lOpen D first).2.1 h'))):=by
 refine Ct.fix2 (openLC db D c oD hc hd first hfl aF cF xF) ?_;rintro w v K' hs' hS ⟨le,⟨h1,rfl,dh',rfl,hD⟩|⟨L,lb,m,h1,rfl,rfl,hm⟩⟩
 ·exact ⟨K',_,⟨dh',I,le,.inl ⟨h1,I,hD⟩⟩,hS⟩
 ·obtain ⟨d,hS'⟩:=Sat.join m hS;exact ⟨K',_,⟨_,I,le,.inr ⟨L,lb,h1,I,m,I,d,hm⟩⟩,hS'⟩
end
section
attribute [local irreducible] Code.wp wpList Calls
theorem firstW{w0:World}{K:PH}{hs:List PH}:Ct Tryz.prog w0 28 [] K hs (fun v K' hs'=>Le K K'/\hs'=hs/\∃ ao cap,v=.agg #[.slice ao 3 cap]/\IsS K' ao 3 cap 1 (iv [0,1,2])):=by
 exact enter Tryz.func28 qk I I I<|sq (rg (al hT 0 (.agg #[.slice none 0 0]) I qk fun b0=>fin hT 0 I<|th (sq<|rg (lit hT 0 #[.int .i64 0,.int .i64 1,.int .i64 2] I (by decide) qk fun b1=>bd hT 0 (.agg #[.slice (some ⟨b1,0,none⟩) 3 3]) I (fun w=>by kernel_rfl)<|stS hT 0 1 I I qk I I (fin hT 0 I<|th (rt (WQ.frz fun K2 l1 l2=>retcA 0 1 I I I qk ⟨l1,I,some ⟨b1,0,none⟩,3,I,(Own.ofPt (n:=3) (size:=1) I (by decide)).isS.le l2⟩)))))))
theorem lowW{w0:World}{K:PH}{hs:List PH}(o:ROp)(k:Nat)(ho:o.bd k)(hk:k<=1099511627)(d:AdO)(xo:OpS K o d):Ct Tryz.prog w0 10 [.agg (opV o d)] K hs (fun v K' hs'=>K'=K/\hs'=hs/\v=.bool o.low):=by
 have hol:=ho.len;refine enter Tryz.func10 qk I I I (sq (rg (bx hT 0 I fun b1=>WL.hs (pt b1 (opV o d) 34::hs) I (fin hT 1 I (th (sq (sq (rg (ldp hT 1 0 I I I (fin hT 2 I (th (bk (loop (σ:=Nat) (fun i=>[(1,.pointer (some ⟨b1,0,none⟩)),(6,.slice d.aX o.x.length d.cX),(7,.int .i64 o.x.length),(8,.int .i64 (i:Nat))]) (fun _=>K) (fun _=>pt b1 (opV o d) 34::hs) (fun i=>i<=o.x.length/\∀ e∈o.x.take i,e.idx<lgTop) (fun i=>o.x.length-i) 0 ⟨Nat.zero_le _,by simp⟩ ⟨I,I,I,I,trivial⟩ I I ?_)))))))))))));rintro i ⟨hi,he⟩
 (try dsimp only at *)
 refine sq<|rg (cmpS hT 0 I fun b9 h9=>fin hT 0 I<|th (sq<|ifP h9 I (fun e2=>?_) (fun e2=>?_)))
 ·have hi1:i<o.x.length:=by omega
  obtain ⟨p,hp⟩:∃ p,o.x[i]?=some p:=⟨_,List.getElem?_eq_getElem hi1⟩;obtain ⟨a,ap,cp,ha,xp,hcp⟩:=entR_cells xo.1 hp;obtain ⟨vs,hvs⟩:=xo.1.isS;refine sk (th (sq (bk (sq (rg (ixs hT 0 i I I hvs hi1 (by decide) fun a10 h10=>?_))))));rw[ha] at h10;cases h10;refine lds hT 0 (p.v ap cp).toList I qk (.inl I) hcp (al hT 0 (.agg #[.int .u64 0,.int .u64 0,.int .i64 0,.slice none 0 0]) I qk fun b4=>stS hT 0 0 I I qk I I (WL.hs (pt b4 (p.v ap cp) 46::pt b1 (opV o d) 34::hs) I (fin hT 0 I (th (sq (rg (ldp hT 1 0 I I I (cmpS hT 0 I fun b14 h14=>fin hT 0 I (th (ifP h14 I (fun e4=>?_) (fun e4=>?_)))))))))))
  ·refine sq<|rg (fin hT 1 I<|th (rt<|rB (rT<|rT (rB<|rT (WQ.drop<|WQ.drop ?_)))))
   have hl:o.low=false:=by
    cases hlow:o.low with
    | false=>rfl
    | true=>
     have:=(ROp.low_ok hlow).1 p (List.mem_of_getElem? hp);unfold lgTop at this;omega
   exact ret1 I I ⟨I,I,by rw[hl]⟩
  ·refine sk (bl (th (rg (ar hT 0 I (i64w qo) (fin hT 1 I (WQ.drop (again (x:=i) (i+1) ⟨I,I,I,I,trivial⟩ I I ⟨by omega,?_⟩ (by (try dsimp only);omega))))))));rw[take_succ_at hp];intro e hm;rcases List.mem_append.1 hm with hm|hm
   ·exact he e hm
   ·simp only[List.mem_singleton] at hm;subst hm;unfold lgTop;omega
 ·obtain rfl:i=o.x.length:=by omega
  rw[List.take_of_length_le (Nat.le_refl _)] at he;refine ex (xt (xt (xb (th (sq (rg (ldp hT 1 0 I I I (cmpS hT 1 I fun b19 h19=>?_))))))))
  refine' bja (q:=o.sn.data.length<=4096) hT 1 6 26 [19,20] h19 I I I I I I I (fun _=>?x6) (fun b26 h26=>?_)
  case x6=>
   exact ldp hT 2 0 I I I (cmpS hT 1 I fun b25 h25=>fin hT 1 I<|bjx (h25.trans qo) I I I)
  refine fin hT 1 I<|th (rt<|WQ.drop ?_)
  have hl:b26=o.low:=by
   rw[Bool.eq_iff_iff,h26];unfold ROp.low;simp only[Bool.and_eq_true,List.all_eq_true,decide_eq_true_eq];exact ⟨fun ⟨h1,h2⟩=>⟨he,by omega,h2⟩,fun ⟨_,h1,h2⟩=>⟨by omega,h2⟩⟩
  exact ret1 I I ⟨I,I,by rw[hl]⟩
theorem fewW{w0:World}{K:PH}{hs:List PH}(ao:Option Addr)(n cap:Nat)(hn:n<1099511627776):Ct Tryz.prog w0 18 [.slice ao n cap] K hs (fun v K' hs'=>K'=K/\hs'=hs/\v=.bool (decide (n<=300))):=by
 exact enter Tryz.func18 qk I I I (sq (rg (fin hT 1 I (th (sq (rg (cmpS hT 2 I fun b5 h5=>fin hT 1 I (th (rt (ret1 I I ⟨I,I,by rw[show b5=decide (n<=300) from by rw[Bool.eq_iff_iff,h5,decide_eq_true_eq];omega]⟩))))))))))
theorem doesW{w0:World}{K h:PH}{hs:List PH}(lb db:Nat)(L:Lg)(D:Dk)(c k:Nat)(hb:LBd c L)(hc:c<=499900000)(oD:DOk c D)(hL:LgH K lb db L D h)(o:ROp)(ho:o.bd k)(hk:k<=1099511627)(hl:o.x.length<=100)(d:AdO)(xo:OpS K o d):
  Ct Tryz.prog w0 20 [.pointer (some ⟨lb,0,none⟩),.agg (opV o d)] K (h::hs)
   (fun v K' hs'=>∃ h',hs'=h'::hs/\Le K K'/\LgH K' lb db (L.doo D o).1 (L.doo D o).2.1 h'/\v=.agg (ansV (L.doo D o).2.2)):=by
 have hsi:=ho.si;have hvl:=ho.vl;have hdl:=ho.dl;unfold mxU at hsi;refine enter Tryz.func20 qk I I I (sq (rg (bx hT 0 I fun b3=>al hT 0 (.agg #[.int .u64 0,.bool false,.int .i64 0]) I qk fun b4=>fin hT 0 I (th (sq (rg (al hT 0 (.agg #[.int .u64 0,.bool false,.int .i64 0]) I qk fun b5=>WL.hs (pt b5 #[.int .u64 0,.bool false,.int .i64 0] 59::pt b4 #[.int .u64 0,.bool false,.int .i64 0] 59::pt b3 (opV o d) 34::h::hs) I (fin hT 0 I (th (sq (sq (rg (ldp hT 1 2 I I I (fin hT 0 I (th (bk (sq (rg (cmpS hT 0 I fun b9 h9=>fin hT 1 I (th (ifP h9 I (fun e2=>?_) (fun e2=>?_))))))))))))))))))))))
 ·have hd:L.doo D o=((L.setHard D o.ht o.hv).1,(L.setHard D o.ht o.hv).2.1,⟨0,false,(L.setHard D o.ht o.hv).2.2⟩):=by unfold Lg.doo;rw[if_pos e2]
  rw[hd];refine rg (lds hT 2 [.int .u64 o.ht,.int .i64 o.hv] I qk (.inr ⟨2,I⟩) (cells_sub _ I) (cl hT 0 I (Ct.at 3 I (setHardH lb db L D c hb qo oD hL o.ht o.hv ho.ht ho.hv)) ?_));rintro v13 K13 hs13 ⟨h',rfl,le,hL',rfl⟩;exact stp hT 1 0 I I I I (fin hT 0 I (bl (th (sq (rg (ldS hT 0 0 I I qk (stS hT 0 1 I I qk I I (fin hT 0 I (th (rt (retcA 1 3 I I I qk ⟨h',I,le,hL',I⟩)))))))))))
 ·refine sq<|rg (cmpS hT 0 I fun b16 h16=>fin hT 1 I<|th (ifP h16 I (fun e4=>?_) (fun e4=>?_)))
  ·have hd:L.doo D o=((L.append o.x D).1,(L.append o.x D).2.1,⟨0,false,(L.append o.x D).2.2⟩):=by unfold Lg.doo;rw[if_neg e2,if_pos e4]
   rw[hd];refine rg (ldp hT 2 2 I I I (cl hT 0 I (Ct.at 3 I (appendH lb db L D c hb oD hL d.aX d.cX o.x xo.1 ho.ents qo)) ?_));rintro v20 K20 hs20 ⟨h',rfl,le,hL',rfl⟩;exact stp hT 1 0 I I I I (fin hT 0 I (bl (th (sq (rg (ldS hT 0 0 I I qk (stS hT 0 1 I I qk I I (fin hT 0 I (th (rt (retcA 1 3 I I I qk ⟨h',I,le,hL',I⟩)))))))))))
  ·refine sq<|rg (cmpS hT 0 I fun b23 h23=>fin hT 1 I<|th (ifP h23 I (fun e6=>?_) (fun e6=>?_)))
   ·have hd:L.doo D o=((L.merge o.idx o.term o.x D).1,(L.merge o.idx o.term o.x D).2.1,⟨(L.merge o.idx o.term o.x D).2.2.1,(L.merge o.idx o.term o.x D).2.2.2.1,(L.merge o.idx o.term o.x D).2.2.2.2⟩):=by unfold Lg.doo;rw[if_neg e2,if_neg e4,if_pos e6]
    rw[hd];refine rg (ldp hT 2 2 I I I (ldp hT 1 2 I I I (ldp hT 1 2 I I I (cl hT 0 I (Ct.at 3 I (mergeH lb db L D c hb oD hL o.idx o.term ho.idx ho.term d.aX d.cX o.x xo.1 ho.ents qo)) ?_))));rintro v32 K32 hs32 ⟨h',rfl,le,hL',rfl⟩;exact stp hT 5 0 I I I I (stp hT 1 0 I I I I (stp hT 1 0 I I I I (fin hT 0 I (bl (th (sq (rg (ldS hT 0 0 I I qk (stS hT 0 1 I I qk I I (fin hT 0 I (th (rt (retcA 1 3 I I I qk ⟨h',I,le,hL',I⟩)))))))))))))
   ·refine sq<|rg (cmpS hT 0 I fun b40 h40=>fin hT 1 I<|th (ifP h40 I (fun e8=>?_) (fun e8=>?_)))
    ·have hd:L.doo D o=((L.sync D).1,(L.sync D).2.1,⟨0,false,(L.sync D).2.2⟩):=by unfold Lg.doo;rw[if_neg e2,if_neg e4,if_neg e6,if_pos e8]
     rw[hd];refine rg (cl hT 1 I (Ct.at 3 I (syncH' lb db L D c hb qo oD hL)) ?_);rintro v42 K42 hs42 ⟨h',rfl,le,hL',rfl⟩;exact stp hT 1 0 I I I I (fin hT 0 I (bl (th (sq (rg (ldS hT 0 0 I I qk (stS hT 0 1 I I qk I I (fin hT 0 I (th (rt (retcA 1 3 I I I qk ⟨h',I,le,hL',I⟩)))))))))))
    ·refine sq<|rg (cmpS hT 0 I fun b45 h45=>fin hT 1 I<|th (ifP h45 I (fun e10=>?_) (fun e10=>?_)))
     ·have hd:L.doo D o=((L.save o.sn D).1,(L.save o.sn D).2.1,⟨0,false,(L.save o.sn D).2.2⟩):=by unfold Lg.doo;rw[if_neg e2,if_neg e4,if_neg e6,if_neg e8,if_pos e10]
      rw[hd];refine rg (lds hT 2 (snV o.sn d.aV d.cV d.aD d.cD).toList I qk (.inr ⟨2,I⟩) (cells_sub _ I) (cl hT 0 I (Ct.at 3 I (saveH lb db L D c hb hc oD hL o.sn qo ho.st qo qo d.aV d.cV d.aD d.cD xo.2.1 xo.2.2)) ?_));rintro v49 K49 hs49 ⟨h',rfl,le,hL',rfl⟩;exact stp hT 1 0 I I I I (fin hT 0 I (bl (th (sq (rg (ldS hT 0 0 I I qk (stS hT 0 1 I I qk I I (fin hT 0 I (th (rt (retcA 1 3 I I I qk ⟨h',I,le,hL',I⟩)))))))))))
     ·refine sq<|rg (cmpS hT 0 I fun b52 h52=>fin hT 1 I<|th (ifP h52 I (fun e12=>?_) (fun e12=>?_)))
      ·have hd:L.doo D o=((L.install o.sn D).1,(L.install o.sn D).2.1,⟨0,false,(L.install o.sn D).2.2⟩):=by unfold Lg.doo;rw[if_neg e2,if_neg e4,if_neg e6,if_neg e8,if_neg e10,if_pos e12]
       rw[hd];refine rg (lds hT 2 (snV o.sn d.aV d.cV d.aD d.cD).toList I qk (.inr ⟨2,I⟩) (cells_sub _ I) (cl hT 0 I (Ct.at 3 I (installH lb db L D c hb hc oD hL o.sn qo ho.st qo qo d.aV d.cV d.aD d.cD xo.2.1 xo.2.2)) ?_));rintro v56 K56 hs56 ⟨h',rfl,le,hL',rfl⟩;exact stp hT 1 0 I I I I (fin hT 0 I (bl (th (sq (rg (ldS hT 0 0 I I qk (stS hT 0 1 I I qk I I (fin hT 0 I (th (rt (retcA 1 3 I I I qk ⟨h',I,le,hL',I⟩)))))))))))
      ·have hd:L.doo D o=(L,D,⟨0,false,0⟩):=by unfold Lg.doo;rw[if_neg e2,if_neg e4,if_neg e6,if_neg e8,if_neg e10,if_neg e12]
       rw[hd];exact sk (bl (th (sq (rg (ldS hT 0 0 I I qk (stS hT 0 1 I I qk I I (fin hT 0 I (th (rt (retcA 1 3 I I I qk ⟨h,I,Le.refl _,hL,I⟩))))))))))
theorem takenW{w0:World}{K h:PH}{hs:List PH}(lb db:Nat)(L:Lg)(D:Dk)(c:Nat)(hb:LBd c L)(hc:c<=1000000000)(hL:LgH K lb db L D h)(hlen:L.l.length<=1048576):
  Ct Tryz.prog w0 19 [.pointer (some ⟨lb,0,none⟩)] K (h::hs) (fun v K' hs'=>∃ h',hs'=h'::hs/\h'=h/\Le K K'/\RlS K' L.rl v):=by
 have hix:=hb.idx;unfold lgTop at hix
 have hparts:partsL L.sn L.l (L.sn.idx+1) 1048576=L.l:=by
  unfold partsL lgAt
  by_cases e:L.l.length=0
  ·rw[if_pos qo,List.length_eq_zero_iff.1 e]
  ·rw[if_neg qo];show (L.l.drop (L.sn.idx+1-L.sn.idx-1)).take _=_;rw[show L.sn.idx+1-L.sn.idx-1=0 by omega,List.drop_zero,List.take_of_length_le (by show L.l.length<=1048576;exact hlen)]
 refine enter Tryz.func19 qk I I I (sq (rg (al hT 0 (.agg #[.int .u64 0,.int .i64 0,.int .u64 0,.int .u64 0,.slice none 0 0,.slice none 0 0,.slice none 0 0]) I qk fun b2=>WL.hs (pt b2 z7 37::h::hs) I (fin hT 0 I (th (sq (rg (cl hT 1 I (Ct.at 1 I (snapH lb db L D c hb hL)) ?_))))))));rintro v5 K5 hs5 ⟨h',rfl,rfl,le,aV,cV,aD,cD,rfl,xV,xD⟩;refine al hT 0 (.agg #[.int .u64 0,.int .u64 0,.slice none 0 0,.slice none 0 0]) I qk fun b3=>stS hT 0 0 I I qk I I (WL.hs (pt b3 (snV L.sn aV cV aD cD) 32::pt b2 z7 37::h'::hs) I (fin hT 0 I (th (sq (rga [pt b3 (snV L.sn aV cV aD cD) 32] 9 [0,4,6,8,10,12,3,15,16,19] (by simp) qk qk (dldS hT qk 1 0 I qk I qk (dldpw hT qk 2 0 I qk I I (dar hT qk 0 I (u64w (x:=((L.sn.idx+1:Nat):Int)) qo) (dact hT qk 0 I (cl hT 0 I (Ct.keep 2 I (hardH lb db L D (hL.le le))) ?_))))))))))
 rintro v7 K7 hs7 ⟨rfl,rfl,rfl⟩;refine dnex [pt b3 (snV L.sn aV cV aD cD) 32] (by simp) (by simp) I (dact hT qk 0 I (cl hT 0 I (Ct.at 2 I (entriesH lb db L D c hb hc (hL.le le) (L.sn.idx+1) qo 1048576 qo)) ?_));rintro v13 K13 hs13 ⟨h'',rfl,rfl,le2,aL,cL,rfl,xL⟩;rw[hparts] at xL ⊢;exact dnexL [pt b3 (snV L.sn aV cV aD cD) 32] (by simp) (by simp) le2 (dbd hT qk 0 (.agg (rlV L.rl aV cV aD cD aL cL)) I (fun w=>by kernel_rfl) (dact hT qk 0 I (stS hT 0 1 I I qk I I (dnex [pt b3 (snV L.sn aV cV aD cD) 32] (by simp) (by simp) I (dend hT qk 0 I (th (rt (retcA 1 2 I I I qk ⟨_,I,I,le.trans le2,aV,cV,aD,cD,aL,cL,I,xV.le le2,xD.le le2,xL⟩))))))))
theorem sameW{w0:World}{K:PH}{hs:List PH}(r q:Rl)(n:Nat)(hr:RBd n r)(hq:RBd n q)(hn:n<1099511627776)(v0 v1:Value)(h0:RlS K r v0)(h1:RlS K q v1):
  Ct Tryz.prog w0 65 [v0,v1] K hs (fun v K' hs'=>K'=K/\hs'=hs/\∃ b:Bool,v=.bool b/\(b=true↔r.sn=q.sn/\r.l=q.l)):=by
 obtain ⟨aV,cV,aD,cD,aL,cL,rfl,xV,xD,xL⟩:=h0;obtain ⟨aW,cW,aE,cE,aM,cM,rfl,xW,xE,xM⟩:=h1;have hrl:=hr.len;have hql:=hq.len;have hrv:=hr.vot;refine enter Tryz.func65 qk I I I (sq (rg (bx hT 0 I fun b2=>bx hT 0 I fun b3=>WL.hs (pt b3 (rlV q aW cW aE cE aM cM) 37::pt b2 (rlV r aV cV aD cD aL cL) 37::hs) I (fin hT 1 I (th (sq (rg (lds hT 1 (snV r.sn aV cV aD cD).toList I qk (.inr ⟨1,I⟩) (cells_sub _ I) (lds hT 1 (snV q.sn aW cW aE cE).toList I qk (.inr ⟨0,I⟩) (cells_sub _ I) (cl hT 0 I (sameSnapRC r.sn q.sn aV aW aD aE cV cW cD cE xV xW xD xE qo) ?_))))))))));rintro v9 K9 hs9 ⟨rfl,rfl,b9,rfl,h9⟩
 refine' bja hT 1 6 16 [9,10] h9 I I I I I I I (fun _=>?x1) (fun b16 h16=>?_)
 case x1=>
  refine ldp hT 1 1 I I I (ldp hT 1 0 I I I (cl hT 0 I (sameEntriesRC aL aM cL cM r.l q.l xL xM qo qo) ?_));rintro v15 K15 hs15 ⟨rfl,rfl,b15,rfl,h15⟩;exact fin hT 1 I (bjx h15 I I I)
 exact fin hT 1 I<|th (rt<|WQ.drop (WQ.drop<|ret1 I I ⟨I,I,b16,I,h16⟩))
end
section
theorem pick_bd{s:Slt}{r:Nat×List UInt8}(hs:s.bd)(hr:r.1<18446744073709551616/\r.2.length<=48):(s.pick r).bd:=by
 unfold Slt.pick
 split
 ·exact hr
 ·exact hs
theorem sltOpen_bd{c:Nat}{D:Dk}(o:D.Ok c)(area:Nat):(sltOpen D area).bd:=
 pick_bd (pick_bd ⟨Nat.zero_lt_succ _,Nat.zero_le _⟩ (sltRd_bd o area 0)) (sltRd_bd o area 1)
theorem rdE_ok:∀ (r:List (List UInt8)) (i:Nat) (l:List Ent),rdE i r=some l->l.length=r.length/\∀ e∈l,entG e
 | [],i,l,h=>by
  cases h;exact ⟨I,by simp⟩
 | b::r,i,l,h=>by
  rw[rdE_cons] at h;cases hg:getEnt b with
  | none=>rw[hg] at h;cases h
  | some e=>
   rw[hg] at h;dsimp only at h
   split at h
   ·cases hr:rdE (i+1) r with
    | none=>rw[hr] at h;cases h
    | some q=>
     rw[hr] at h;cases h;obtain ⟨g1,g2⟩:=rdE_ok r (i+1) q hr;have h3:=putEnt_get hg;refine ⟨by simp[g1],fun y hy=>?_⟩;rcases List.mem_cons.1 hy with rfl|hy
     ·exact ⟨putEnt_ok.1 (by rw[h3.1];rfl),h3.2⟩
     ·exact g2 y hy
   ·cases h
theorem wOpen_old{c:Nat}{D:Dk}(o:DOk c D){fr first:Nat}{W:Wl}{E:Dk}(h:wOpen D fr first=(some W,E,0)):W.old.length<=D.areas.length:=by
 unfold wOpen at h
 split at h
 ·cases h
 ·split at h
  ·cases h
  ·rename_i h1
   split at h
   ·cases h
   ·rename_i h2
    split at h
    ·cases h
    ·rename_i h3
     split at h
     ·cases h
     ·simp only[Prod.mk.injEq,Option.some.injEq] at h;obtain ⟨rfl,_⟩:=h
      have h3:(wscan D fr (wnums (areasL D)) (wl0 fr first (areasL D)) []).2.2=true:=by
       cases hh:(wscan D fr (wnums (areasL D)) (wl0 fr first (areasL D)) []).2.2 with
       | false=>exact absurd hh h3
       | true=>rfl
      have h0:SInv D (wl0 fr first (areasL D)).next [] (wl0 fr first (areasL D)):=⟨rfl,rfl,rfl,by simp[wl0],by simp[wl0];omega,by simp[wl0],by simp[wl0],by simp[wl0]⟩;have hS:=(SInv.scan o.ok _ _ _ _ h0 h3).old;rw[List.nil_append] at hS;have hnl:=wnums_len (areasL D);rw[areasL_length] at hnl;exact Nat.le_trans hS hnl
theorem rk_wset1(g:List Nat)(n:Nat)(D:Dk):Rk 0 D (wset1 D g n).1:=by
 unfold wset1
 split
 ·exact (Rk.of D).free _
 ·exact (Rk.of D).sync _
theorem rk_settle(g:List Nat):∀ (l:List Nat) (D:Dk),Rk 0 D (wsettle g l D).1
 | [],D=>Rk.of D
 | n::r,D=>by
  unfold Go.En.wsettle
  split
  ·exact (rk_wset1 g n D).trans<|rk_settle g r _
  ·exact rk_wset1 g n D
theorem rk_wOpen(D:Dk)(fr first:Nat):Rk 0 D (wOpen D fr first).2.1:=by
 unfold wOpen
 split
 ·exact Rk.of D
 ·split
  ·exact Rk.of D
  ·split
   ·exact Rk.of D
   ·split
    ·exact Rk.of D
    ·split
     ·exact rk_settle _ _ _
     ·exact rk_settle _ _ _
theorem rk_lgFree(pl:Nat):∀ (l:List Int) (D:Dk),Rk 0 D (lgFree pl l D).1
 | [],D=>Rk.of D
 | a::r,D=>by
  rw[lgFree_cons]
  split
  ·split
   ·exact (Rk.of D).free _
   ·exact ((Rk.of D).free _).trans<|rk_lgFree pl r _
  ·exact rk_lgFree pl r D
theorem rdHead_SBd{D:Dk}{S:Slt}{v:List Int}(hv:v.length<=7){p:Snp×Nat×Nat}(h:rdHead D S v=some p):SBd p.1/\p.2.1<=lgTop/\p.2.2<=lgTop:=by
 unfold rdHead at h
 split at h
 ·cases h;exact ⟨⟨Nat.zero_le _,Nat.zero_le _,hv,Nat.zero_le _⟩,Nat.zero_le _,Nat.zero_le _⟩
 ·split at h
  ·cases h
  ·split at h
   ·cases h
   ·cases h;refine ⟨⟨rUint_le _ _,rUint_le _ _,(getConf_mem _).1,?_⟩,rUint_le _ _,rUint_le _ _⟩;have:(hd4 S.val).1<=2097152:=rUint_le _ _;dsimp only;rw[List.length_take];omega
theorem Rn.opened{c q:Nat}{D:Dk}(o:DOk c D)(hq:D.areas.length<=q){first:List Int}{L:Lg}(h:(lOpen D first).1=some L):Rn (c+2*q) q L (lOpen D first).2.1/\(lOpen D first).2.2=0:=by
 unfold lOpen at h ⊢
 split at h
 ·cases h
 ·rename_i hv;have hv:(putConf first).isSome=true:=by cases hh:(putConf first).isSome with|true=>rfl|false=>exact absurd hh hv
  rw[if_neg (by rw[hv];simp)]
  split at h
  ·cases h
  ·rename_i hd;rw[if_neg hd];cases hkh:rdHard (sltOpen D 0) with
   | none=>rw[hkh] at h;cases h
   | some kh=>
    rw[hkh] at h;dsimp only at h ⊢;cases hhd:rdHead D (sltOpen D 4) first with
    | none=>rw[hhd] at h;cases h
    | some p=>
     rw[hhd] at h;dsimp only at h ⊢;unfold lOpen2 at h ⊢
     split at h
     ·cases h
     ·rename_i hf;rw[if_neg hf];have oF:DOk (c+q) (lgFree p.2.1 (areasL D) D).1:=(DOk.lgFree p.2.1 (areasL D) D c o).up (by rw[areasL_length];omega);have hFq:(lgFree p.2.1 (areasL D) D).1.areas.length<=q:=by have:=(rk_lgFree p.2.1 (areasL D) D).len oF.ok;omega
      generalize (lgFree p.2.1 (areasL D) D).1=F at h oF hFq ⊢;unfold lOpen3 at h ⊢;have hco:=wOpen_code (D:=F) (fr:=p.2.2) (first:=p.1.idx+1);have hdo:=oF.opened p.2.2 (p.1.idx+1);have hrk:=(rk_wOpen F p.2.2 (p.1.idx+1)).len hdo.ok;cases hw:(wOpen F p.2.2 (p.1.idx+1)).1 with
      | none=>rw[hw] at h;cases h
      | some W=>
       rw[hw] at h;dsimp only at h ⊢
       have he:wOpen F p.2.2 (p.1.idx+1)=(some W,(wOpen F p.2.2 (p.1.idx+1)).2.1,0):=by
        rw[<-hw,<-hco.2 W hw]
       have hb:=WBd.opened oF he;have hold:=wOpen_old oF he;cases hre:rdEnts p.1 W with
       | none=>rw[hre] at h;cases h
       | some l=>
        rw[hre] at h;dsimp only at h ⊢;cases h;have hS:=rdHead_SBd (putConf_len hv) hhd;have hw70:=hb.1.recs
        have hrd:l.length<=70000000000+(c+q)/\∀ e∈l,entG e:=by
         unfold rdEnts at hre
         split at hre
         ·cases hre
         ·obtain ⟨g1,g2⟩:=rdE_ok _ _ _ hre;rw[List.length_drop] at g1;exact ⟨by omega,g2⟩
        have hkb:kh.1<=mxU /\ -1<=kh.2/\kh.2<=6:=by
         unfold rdHard at hkh
         split at hkh
         ·cases hkh;exact ⟨Nat.zero_le _,by decide,by decide⟩
         ·split at hkh
          ·cases hkh;have h1:=rUint_le mxU ((sltOpen D 0).val,0);have h2:=rUint_le 7 (rUint mxU ((sltOpen D 0).val,0)).2;exact ⟨h1,by dsimp only;omega,by dsimp only;omega⟩
          ·cases hkh
        refine ⟨⟨⟨hb.1.up qo,sltOpen_bd o.ok 0,sltOpen_bd o.ok 4,hkb.1,hkb.2,hS.1.idx,hS.1.term,hS.1.vot,hS.1.data,by have:=hS.2.1;dsimp only;omega,by have:=hS.2.2;unfold lgTop at this;unfold wMany;dsimp only;omega,by dsimp only;omega,hrd.2⟩,hdo.up qo,by dsimp only;omega,by omega⟩,rfl⟩
def alE:Ent:=⟨1,1,0,[]⟩
def alive1(L:Lg)(D:Dk):(Lg×Dk×Int)×(Lg×Dk×Int)×(Lg×Dk×Int):=
 let a:=L.append [alE] D
 let b:=a.1.setHard a.2.1 1 2
 (a,b,b.1.sync b.2.1)
def aliveC:Bool:=
 match lOpen (dk0 1048576) [0,1,2] with
 | (
   some L,D,e)=>decide (e=0) && (decide ((alive1 L D).1.2.2=0) && (decide ((alive1 L D).2.1.2.2=0) && (decide ((alive1 L D).2.2.2.2=0) &&
  match lOpen (alive1 L D).2.2.2.1 [0,1,2] with
  | (some M,_,f)=>decide (f=0) && (decide (trm M.sn M.l 1=(1,true)) && (decide (M.kt=1) && decide (M.kv=2)))
  | (none,_,_)=>false)))
 | (none,_,_)=>false
theorem aliveC_true:aliveC=true:=by decide +kernel
theorem alive_facts:∃ L D,lOpen (dk0 1048576) [0,1,2]=(some L,D,0)/\(L.append [alE] D).2.2=0/\((L.append [alE] D).1.setHard (L.append [alE] D).2.1 1 2).2.2=0 /\
  (((L.append [alE] D).1.setHard (L.append [alE] D).2.1 1 2).1.sync ((L.append [alE] D).1.setHard (L.append [alE] D).2.1 1 2).2.1).2.2=0 /\
  ∃ M E,lOpen (((L.append [alE] D).1.setHard (L.append [alE] D).2.1 1 2).1.sync ((L.append [alE] D).1.setHard (L.append [alE] D).2.1 1 2).2.1).2.1 [0,1,2]=(some M,E,0)/\trm M.sn M.l 1=(1,true)/\M.kt=1/\M.kv=2:=by
 have h:=aliveC_true;unfold aliveC at h
 split at h
 ·rename_i L D e heq;unfold alive1 at h;simp only[Bool.and_eq_true,decide_eq_true_eq] at h;obtain ⟨rfl,h2,h3,h4,h5⟩:=h;refine ⟨L,D,heq,h2,h3,h4,?_⟩
  split at h5
  ·rename_i M E f heq2;simp only[Bool.and_eq_true,decide_eq_true_eq] at h5;obtain ⟨rfl,g2,g3,g4⟩:=h5;exact ⟨M,E,heq2,g2,g3,g4⟩
  ·cases h5
 ·cases h
end
section
section deqs
variable {P:Program} {T:Tab} {w0:World} {ops:Array Oper} {Q:Exit->Act->World->Prop} {plan plan':List Nat} {z:Nat} {listed listed':Array Bool} {n:Nat} {l l':Sl} {K K0:PH} {hs A:List PH}
end deqs
attribute [local irreducible] Code.wp wpList Calls
theorem dk0_DOk{r:Int}(h:0<=r/\r<=1073741824):DOk 0 (dk0 r):=⟨dk0_ok ⟨h.1,by omega⟩,by simp[dk0],by simp[dk0],by simp[dk0,totA];omega⟩
theorem lg_disk{w0 w:World}{K h:PH}{hs:List PH}{lb db:Nat}{L:Lg}{D:Dk}(s:Sat w0 w K (h::hs))(hL:LgH K lb db L D h):∃ dh,DskH K db D dh/\Sat w0 w K (dh::hs):=by
 obtain ⟨m,rfl,d,hm⟩:=hL;obtain ⟨wb,hb',eb,aV,cV,aD,cD,aL,cL,wh,hh,eh,gl,dh,rfl,hW,hH,hE,hG,hD,xV,xD⟩:=hm;have s2:=s.split d;exact ⟨dh,hD,s2.dropHead.dropHead.dropHead.dropHead.dropHead⟩
theorem WL.lgd{P:Program}{w0:World}{ops:Array Oper}{Q:Exit->Act->World->Prop}{rest:List Oper}{n:Nat}{l:Sl}{K h:PH}{hs:List PH}{lb db:Nat}{L:Lg}{D:Dk}(hL:LgH K lb db L D h)
  (hk:∀ dh,DskH K db D dh->WL P w0 ops Q rest n l K (dh::hs)):WL P w0 ops Q rest n l K (h::hs):=fun a w ha hw=>let ⟨dh,h1,h2⟩:=lg_disk hw hL;hk dh h1 a w ha h2
theorem eqHard(k:Nat)(v:Int)(w:World):(Op.equalIn 10000 25 (.agg #[.int .u64 (k:Nat),.int .i64 v]) (.agg #[.int .u64 (k:Nat),.int .i64 v])).run Tryz.prog w=.ok true w:=by
 have u3:=Tryz.underlying3;have a3:=Tryz.isAgg3;have z3:=Tryz.sizeOf3;have u4:=Tryz.underlying23;have a4:=Tryz.isAgg23;have z4:=Tryz.sizeOf23;have hS:Tryz.prog.underlying 25=some (.struct (Tryz.prog.fieldsOf 25)):=by kernel_rfl
 rw[show (10000:Nat)=9999+1 from rfl,run_equalIn_agg w 9999 25 _ _ hS qk];simp only[Program.fieldsOf,Tryz.underlying25]
 go_simp
theorem eqAns(a:Ans)(w:World):(Op.equalIn 10000 59 (.agg (ansV a)) (.agg (ansV a))).run Tryz.prog w=.ok true w:=by
 have u3:=Tryz.underlying42;have a3:=Tryz.isAgg42;have z3:=Tryz.sizeOf42;have u4:=Tryz.underlying23;have a4:=Tryz.isAgg23;have z4:=Tryz.sizeOf23;have u5:=Tryz.underlying4;have a5:=Tryz.isAgg4;have z5:=Tryz.sizeOf4;have hS:Tryz.prog.underlying 59=some (.struct (Tryz.prog.fieldsOf 59)):=by kernel_rfl
 unfold ansV;rw[show (10000:Nat)=9999+1 from rfl,run_equalIn_agg w 9999 59 _ _ hS qk];simp only[Program.fieldsOf,Tryz.underlying59]
 go_simp
theorem aliveW{w0:World}{K:PH}{hs:List PH}:Ct Tryz.prog w0 11 [] K hs (fun v K' hs'=>K'=K/\hs'=hs/\v=.bool true):=by
 obtain ⟨L,D,hlo,hap,hsh,hsy,M,E,hlo2,htr,hkt,hkv⟩:=alive_facts;have r1:=(Rn.opened (dk0_DOk (r:=1048576) qo) (q:=0) (by simp[dk0]) (first:=[0,1,2]) (L:=L) (by rw[hlo])).1;rw[hlo] at r1;have hbE:∀ e∈[alE],entB e:=by simp[alE,entB,mxU]
 have r2:=r1.append [alE] (fun e he=>⟨(hbE e he).1,(hbE e he).2.1⟩) (by simp);have r3:=r2.setHard 1 2 (by decide);have r4:=r3.sync;have r5:=(Rn.opened r4.ok r4.ar (first:=[0,1,2]) (L:=M) (by rw[hlo2])).1;rw[hlo2] at r5;simp only[List.length_cons,List.length_nil] at r2 r3 r4 r5;generalize hA:L.append [alE] D=A at hap hsh hsy hlo2 r2 r3 r4 r5;generalize hB:A.1.setHard A.2.1 1 2=B at hsh hsy hlo2 r3 r4 r5;generalize hC:B.1.sync B.2.1=C at hsy hlo2 r4 r5
 refine Ct.fix2 (R:=fun v K' hs'=>Le K K'/\(∃ t,hs'=t++hs)/\v=.bool true) ?_ (fun w v K' hs' hS ⟨le,⟨t,ht⟩,hv⟩=>⟨K,hs,⟨I,I,hv⟩,by
  subst ht;have:=(hS.weak le).dropN t.length;simpa using this⟩)
 refine enter Tryz.func11 qk I I I (sq (rg (fin hT 1 I (th (sq (rg (cl hT 0 I (newH 1048576 qo) ?_)))))));rintro v11 K11 hs11 ⟨rfl,db,dh,rfl,hD,rfl⟩;refine fin hT 1 I (th (sq (sq (rg (fin hT 2 I (th (ifF I (sk (th (sq (rg (cl hT 1 I firstW ?_))))))))))));rintro v16 K16 hs16 ⟨le1,rfl,ao,cap,rfl,x1⟩;refine cl hT 0 I (openH db (dk0 1048576) 0 (dk0_DOk qo) qo (hD.le le1) [0,1,2] (by simp) ao cap x1) ?_;rintro v17 K17 hs17 ⟨h',rfl,le2,hX⟩;rw[hlo] at hX;rcases hX with ⟨hn,_⟩|⟨L',lb,hL',rfl,hL⟩
 ·cases hn
 cases hL';refine fin hT 5 I (th (sq (sq (rg (cmpS hT 1 I fun b21 h21=>?_)))))
 refine' bjo (q:=False) hT 1 3 25 [21,22] h21 I I I I I I I (fun _=>?x4) (fun b25 h25=>?_)
 case x4=>exact fin hT 3 rfl (bjx (show false=true↔False by simp) rfl rfl rfl)
 refine fin hT 0 I<|th (ifP h25 I (fun e6=>absurd e6 (by simp)) (fun _=>sk<|th (sq<|rg (bd hT 1 (.agg<|alE.v none 0) I (fun w=>by kernel_rfl) (lit hT 0 (alE.v none 0) I (by decide) qk fun b28=>WL.frz fun K2 l1 l2=>?_)))))
 have xs:SlS 4 (EntC K2) K2 (some ⟨b28,0,none⟩) [alE].length 1 [alE]:=⟨[(alE.v none 0).toList],rfl,by
  have:=(Own.ofPt (b:=b28) (c:=alE.v none 0) (e:=46) (n:=1) (size:=4) rfl (by decide)).isS.le l2;simpa using this,⟨⟨none,0,rfl,IsS.nil _ _ _ _⟩,trivial⟩,by simp[Ent.v]⟩
 refine cl hT 0 I (appendH lb db L D 0 (r1.lb) r1.ok (hL.le l1) (some ⟨b28,0,none⟩) 1 [alE] xs hbE (by simp)) ?_;rintro v29 K29 hs29 ⟨h2,rfl,le3,hL2,rfl⟩;rw[hA] at hL2 ⊢;rw[hap];refine fin hT 1 I (th (sq (rg (bd hT 1 (.agg #[.int .u64 1,.int .i64 2]) I (fun w=>by kernel_rfl) (cl hT 0 I (setHardH lb db A.1 A.2.1 _ r2.lb qo r2.ok hL2 1 2 (by decide) (by decide)) ?_)))));rintro v32 K32 hs32 ⟨h3,rfl,le4,hL3,rfl⟩;rw[hB] at hL3 ⊢;rw[hsh];refine fin hT 1 I (th (sq (rg (cl hT 1 I (syncH' lb db B.1 B.2.1 _ r3.lb qo r3.ok hL3) ?_))));rintro v34 K34 hs34 ⟨h4,rfl,le5,hL4,rfl⟩;rw[hC] at hL4 ⊢;rw[hsy];refine fin hT 1 I (th (sq (rg (WL.lgd hL4 fun dh2 hD2=>cl hT 1 I firstW ?_))));rintro v37 K37 hs37 ⟨le6,rfl,ao2,cap2,rfl,x2⟩;refine cl hT 0 I (openH db C.2.1 _ r4.ok qo (hD2.le le6) [0,1,2] (by simp) ao2 cap2 x2) ?_;rintro v38 K38 hs38 ⟨h5,rfl,le7,hX⟩;rw[hlo2] at hX;rcases hX with ⟨hn,_⟩|⟨L',lb2,hL',rfl,hL5⟩
 ·cases hn
 cases hL';refine fin hT 5 I (th (sq (sq (rg (cmpS hT 1 I fun b42 h42=>?_)))))
 refine' bjo (q:=False) hT 1 3 46 [42,43] h42 I I I I I I I (fun _=>?x8) (fun b46 h46=>?_)
 case x8=>exact fin hT 3 rfl (bjx (show false=true↔False by simp) rfl rfl rfl)
 refine fin hT 0 I (th (ifP h46 I (fun e10=>absurd e10 (by simp)) (fun _=>sk (th (sq (rg (cl hT 1 I (termH lb2 db M E _ r5.lb qo hL5 1 qo) ?_)))))));rintro v49 K49 hs49 ⟨rfl,rfl,rfl⟩;rw[htr];refine fin hT 5 I (th (sq (rg (cmpS hT 1 I fun b53 h53=>?_))))
 refine' bja (q:=True) hT 1 3 57 [53,54] h53 I I I I I I I (fun _=>?x12) (fun b57 h57=>?_)
 case x12=>
  exact cmpS hT 1 I fun b56 h56=>fin hT 1 I<|bjx (h56.trans (by simp)) I I I
 refine' bja (q:=True) hT 1 3 61 [57,58] h57 I I I I I I I (fun _=>?x14) (fun b61 h61=>?_)
 case x14=>
  exact cmpS hT 1 I fun b60 h60=>fin hT 1 I<|bjx (h60.trans (by simp)) I I I
 refine' bja (q:=True) hT 1 2 64 [61,62] h61 I I I I I I I (fun _=>?x16) (fun b64 h64=>?_)
 case x16=>exact fin hT 2 rfl (bjx (show true=true↔True by simp) rfl rfl rfl)
 refine' bja (q:=True) hT 1 3 68 [64,65] h64 I I I I I I I (fun _=>?x17) (fun b68 h68=>?_)
 case x17=>
  exact cmpS hT 1 I fun b67 h67=>fin hT 1 I<|bjx (h67.trans (by simp)) I I I
 refine' bja (q:=True) hT 1 5 74 [68,69] h68 I I I I I I I (fun _=>?x19) (fun b74 h74=>?_)
 case x19=>
  refine cl hT 1 I (hardH lb2 db M E hL5) ?_;rintro v71 K71 hs71 ⟨rfl,rfl,rfl⟩;rw[hkt,hkv];exact bd hT 0 (.agg #[.int .u64 1,.int .i64 2]) I (fun w=>by kernel_rfl) (eqs hT 0 I qk (fun w=>eqHard 1 2 w) (fin hT 1 I (bjx (show (true == true)=true↔True by simp) I I I)))
 refine fin hT 1 I (th (rt ?_));have e74:b74=true:=h74.2 (by simp);subst e74;exact ret1 I I ⟨(le1.trans le2).trans ((l1.trans le3).trans ((le4.trans le5).trans (le6.trans le7))),⟨[_],I⟩,I⟩
end
section
def lastT(t:Nat)(a:List Ent):Nat:=((a.getLast?).map Ent.term).getD t
theorem lastT_cons(t:Nat)(e:Ent)(a:List Ent):lastT t (e::a)=lastT e.term a:=by
 unfold lastT;cases a with
 | nil=>rfl
 | cons b r=>rw[List.getLast?_cons_cons];cases h:(b::r).getLast? with
  | none=>simp at h
  | some x=>rfl
theorem folR_app:∀ (a b:List Ent) (i t:Nat),folR i t (a++b)=0↔folR i t a=0/\folR (i+a.length) (lastT t a) b=0
 | [],b,i,t=>by simp[lastT,folR]
 | e::a,b,i,t=>by
  rw[List.cons_append,folR_cons,folR_cons]
  by_cases h:e.idx≠i+1\/e.term<t
  ·rw[if_pos h,if_pos h];simp
  ·rw[if_neg h,if_neg h,folR_app a b e.idx e.term,lastT_cons,List.length_cons,show e.idx+a.length=i+(a.length+1) by omega]
theorem trm_lastT{s:Snp}{l:List Ent}{k:Nat}(h:k<=l.length):trm s l (s.idx+k)=(lastT s.term (l.take k),true):=by
 unfold trm;cases k with
 | zero=>rw[if_pos qo];rfl
 | succ k=>
  rw[if_neg qo,if_neg qo];have hk:k<l.length:=by omega
  have h2:l.take (k+1)=l.take k++[l[k]]:=by rw[List.take_add_one,List.getElem?_eq_getElem hk];rfl
  unfold lastT;rw[show s.idx+(k+1)-s.idx-1=k by omega,h2,List.getElem?_eq_getElem hk,List.getLast?_append]
  rfl
theorem folR_drop2{i t:Nat}{l:List Ent}(h:folR i t l=0){k:Nat}(hk:k<=l.length):folR (i+k) (lastT t (l.take k)) (l.drop k)=0:=by
 rw[<-List.take_append_drop k l] at h;have:=((folR_app _ _ _ _).1 h).2
 rwa [List.length_take,Nat.min_eq_left hk] at this
def Rl.wf(r:Rl):Prop:=folR r.sn.idx r.sn.term r.l=0
theorem Rl.wf.idx{r:Rl}(h:r.wf){j:Nat}{e:Ent}(he:r.l[j]?=some e):e.idx=r.sn.idx+j+1:=folR_idx r.l _ _ h j e he
end
section
section
variable {P:Program} {w0:World} {fn:Func} {R:Value->PH->List PH->Prop} {n:Nat} {l:Sl} {K:PH} {hs:List PH}
end
structure BgI (k:Nat) (L:Lg) (D:Dk):Prop where
 sim:Sim k (101*k) L
 liv:Liv (16777216-1300*k) D
 rn:Rn (32303*k) (103*k) L D
 len:L.l.length<=100*k
 wf:L.rl.wf
attribute [local irreducible] Code.wp wpList Calls
def lg0:Lg:=⟨⟨none,1,[],[],0,0⟩,⟨0,[]⟩,⟨0,[]⟩,0,-1,⟨0,0,[0,1,2],[]⟩,0,0,[],0⟩
theorem open0:lOpen (dk0 16777216) [0,1,2]=(some lg0,dk0 16777216,0):=by kernel_rfl
theorem bg0:BgI 0 lg0 (dk0 16777216):=by
 have r:=(Rn.opened (dk0_DOk (r:=16777216) qo) (q:=0) (by simp[dk0]) (first:=[0,1,2]) (L:=lg0) (by rw[open0])).1;rw[open0] at r;exact ⟨⟨I,⟨I,fun o h=>by cases h⟩,Nat.le_refl _,Nat.le_refl _,Nat.le_refl _,Nat.le_refl _,Nat.le_refl _,I,I⟩,⟨I,I,by simp[dk0]⟩,r,Nat.le_refl _,I⟩
def OpC(K:PH)(cs:List Value)(o:ROp):Prop:=∃ d,cs=(opV o d).toList/\OpS K o d
theorem OpC.le{K K':PH}(l:Le K K'){cs:List Value}{o:ROp}(h:OpC K cs o):OpC K' cs o:=let ⟨d,h1,h2⟩:=h;⟨d,h1,h2.le l⟩
theorem op_cells{K:PH}{ao:Option Addr}{cap:Nat}{ops:List ROp}(hG:SlS 10 (OpC K) K ao ops.length cap ops){k:Nat}{o:ROp}(hk:ops[k]?=some o):
  ∃ a d,ao=some a/\OpS K o d/\∀ (j:Nat) v,(opV o d).toList[j]?=some v->Cell K ((a.add (k*10)).add j) v:=by
 have hkl:k<ops.length:=(List.getElem?_eq_some_iff.1 hk).1;obtain ⟨a,rfl⟩:=hG.addr qo (by decide);obtain ⟨c,⟨d,rfl,x⟩,_,hc⟩:=hG.cells hk;exact ⟨a,d,I,x,hc⟩
abbrev rlA(r:Rl)(d:AdL):Array Value:=rlV r d.aV d.cV d.aD d.cD d.aL d.cL
end
section
open Go.En Go.ChangeShapes Go.WideShapes Go.ChangeAt Go.RowKit Go.Deep
set_option maxRecDepth 100000
section opens
variable {H:Type} {enc:TypeId×Value->H} {W:World}
abbrev HdT:Type:=Int×Int×Unit
abbrev RHd:=RP (RI .u64) (RP (RI .i64) R0)
def mHd:HdT->Nat:=mS (mP mU (mP mU mZ))
theorem hdOpens:Opens enc Tryz.prog W 25 2 RHd mHd:=by
 exact structM Tryz.underlying25 qk<|consM (off:=0) (sz1:=1) (sz2:=1) I (intM Tryz.underlying23 qk) (consM (off:=1) (sz1:=1) (sz2:=0) I (intM Tryz.underlying3 qk) nilM)
abbrev SnT:Type:=Int×Int×(List Int×Unit)×List Int×Unit
abbrev RSn(W:World):=RP (RI .u64) (RP (RI .u64) (RP (RCf W) (RP (RSl W 1 (RI .u8)) R0)))
def mSn:SnT->Nat:=mS (mP mU (mP mU (mP mCf (mP (mL mU) mZ))))
theorem snOpens:Opens enc Tryz.prog W 32 4 (RSn W) mSn:=by
 refine structM Tryz.underlying32 qk ?_
 exact consM (off:=0) (sz1:=1) (sz2:=3) I (intM Tryz.underlying23 qk) (consM (off:=1) (sz1:=1) (sz2:=2) I (intM Tryz.underlying23 qk) (consM (off:=2) (sz1:=1) (sz2:=1) I cfOpens
  (consM (off:=3) (sz1:=1) (sz2:=0) rfl (sliceM Tryz.underlying30 qk (intM Tryz.underlying5 qk)) nilM)))
abbrev EnT:Type:=Int×Int×Int×List Int×Unit
abbrev OpT:Type:=Int×HdT×Int×Int×List EnT×SnT×Unit
abbrev ROpR(W:World):=RP (RI .i64) (RP RHd (RP (RI .u64) (RP (RI .u64) (RP (RSl W 4 (REn W)) (RP (RSn W) R0)))))
def mOp:OpT->Nat:=mS (mP mU (mP mHd (mP mU (mP mU (mP (mL mEn) (mP mSn mZ))))))
theorem opOpens:Opens enc Tryz.prog W 34 10 (ROpR W) mOp:=by
 refine structM Tryz.underlying34 qk ?_
 exact consM (off:=0) (sz1:=1) (sz2:=9) I (intM Tryz.underlying3 qk) (consM (off:=1) (sz1:=2) (sz2:=7) I hdOpens (consM (off:=3) (sz1:=1) (sz2:=6) I (intM Tryz.underlying23 qk) (consM (off:=4) (sz1:=1) (sz2:=5) I (intM Tryz.underlying23 qk)
  (consM (off:=5) (sz1:=1) (sz2:=4) rfl (sliceM Tryz.underlying26 qk enOpens) (consM (off:=6) (sz1:=4) (sz2:=0) rfl snOpens nilM)))))
def toOp(x:OpT):ROp:=
 ⟨x.1,x.2.1.1.toNat,x.2.1.2.1,x.2.2.1.toNat,x.2.2.2.1.toNat,x.2.2.2.2.1.map toEnt,⟨x.2.2.2.2.2.1.1.toNat,x.2.2.2.2.2.1.2.1.toNat,x.2.2.2.2.2.1.2.2.1.1,byI x.2.2.2.2.2.1.2.2.2.1⟩⟩
theorem al2_of_all2{α:Type}{R:List Value->α->Prop}:∀ {css:List (List Value)} {xs:List α},All2 R css xs->Al2 R css xs
 | [],[],_=>trivial
 | _::_,_::_,g=>⟨g.1,al2_of_all2 g.2⟩
 | [],_::_,g=>g.elim
 | _::_,[],g=>g.elim
theorem all2_size{α:Type}{n:Nat}{R:List Value->α->Prop}(h:∀ c x,R c x->c.length=n):∀ {css:List (List Value)} {xs:List α},All2 R css xs->∀ d∈css,d.length=n
 | [],[],_=>by simp
 | c::cs,x::xs,g=>by
  intro d hd;rcases List.mem_cons.1 hd with rfl|hd
  ·exact h _ _ g.1
  ·exact all2_size h g.2 d hd
 | [],_::_,g=>g.elim
 | _::_,[],g=>g.elim
theorem entsS_sl{K:PH}{ao:Option Addr}{cap:Nat}{es:List Ent}(h:EntsS K ao cap es):SlS 4 (EntC K) K ao es.length cap es:=by
 obtain ⟨css,h1,h2⟩:=h;exact ⟨css,I,h1,al2_of_all2 h2,all2_size (fun c x hc=>by obtain ⟨_,_,rfl,_⟩:=hc;rfl) h2⟩
theorem op_of{cs:List Value}{x:OpT}(hR:ROpR W cs x)(hB:mOp x<=1048576):OpC (hp W) cs (toOp x)/\(toOp x).bd 1048576:=by
 obtain ⟨k,⟨ht,hv,u1⟩,i,t,es,⟨si,st,⟨vo,u2⟩,dd,u3⟩,u4⟩:=x;obtain ⟨c1,r1,e1,h1,c2,r2,e2,h2,c3,r3,e3,h3,c4,r4,e4,h4,c5,r5,e5,h5,c6,r6,e6,h6,h7⟩:=hR;obtain ⟨c21,r21,e21,h21,c22,r22,e22,h22,h23⟩:=h2;obtain ⟨c61,r61,e61,h61,c62,r62,e62,h62,c63,r63,e63,h63,c64,r64,e64,h64,h65⟩:=h6;obtain ⟨c71,r71,e71,h71,h72⟩:=h63;obtain ⟨rfl,_⟩:=ri_i64 h1;obtain ⟨rfl,b21⟩:=ri_u64 h21;obtain ⟨rfl,b22⟩:=ri_i64 h22;obtain rfl:r22=[]:=h23;obtain ⟨rfl,b3⟩:=ri_u64 h3;obtain ⟨rfl,b4⟩:=ri_u64 h4;obtain ⟨ae,ce,rfl,xE,bE⟩:=rsl_ents h5;obtain ⟨rfl,b61⟩:=ri_u64 h61;obtain ⟨rfl,b62⟩:=ri_u64 h62;obtain ⟨av,cv,rfl,xV,bV⟩:=rsl_ints h71;obtain rfl:r71=[]:=h72;obtain ⟨ad,cd,rfl,xD⟩:=rsl_bytes h64;obtain rfl:r64=[]:=h65;obtain rfl:r6=[]:=h7;simp only[mOp,mSn,mHd,mCf,mS,mP,mL,mU,mZ,sumM_U,sumM_one] at hB;have hge:=sumM_ge mEn (fun _=>by simp only[mEn];omega) es;refine ⟨⟨⟨ae,ce,av,cv,ad,cd⟩,?_,entsS_sl xE,xV,xD⟩,?_⟩
 ·rw[e1,e2,e21,e22,e3,e4,e5,e6,e61,e62,e63,e71,e64];rfl
 ·exact {
      ht:=b21,hv:=b22,idx:=b3,term:=b4,
      len:=by show (es.map toEnt).length<=_;rw[List.length_map];omega,
      ents:=fun y hy=>by
       obtain ⟨z,hz,rfl⟩:=List.mem_map.1 hy;have h1:=sumM_mem mEn hz;simp only[mEn,sumM_one] at h1;refine ⟨(bE z hz).1,(bE z hz).2,?_⟩;show (byI _).length<_;rw[byI_len];omega,
      si:=b61,st:=b62,vl:=by show vo.length<=_;omega,vot:=bV,dl:=by show (byI dd).length<=_;rw[byI_len];omega }
theorem all2_ops:∀ {css:List (List Value)} {xs:List OpT},All2 (ROpR W) css xs->sumM mOp xs<=1048576->All2 (OpC (hp W)) css (xs.map toOp)/\∀ o∈xs.map toOp,o.bd 1048576
 | [],[],_,_=>⟨trivial,by simp⟩
 | c::cs,x::xs,⟨h1,h2⟩,hB=>by
  simp only[sumM] at hB;obtain ⟨g1,g2⟩:=op_of h1 qo;obtain ⟨k1,k2⟩:=all2_ops h2 qo;refine ⟨⟨g1,k1⟩,fun y hy=>?_⟩;rw[List.map_cons] at hy;rcases List.mem_cons.1 hy with rfl|hy
  ·exact g2
  ·exact k2 y hy
 | [],_::_,g,_=>g.elim
 | _::_,[],g,_=>g.elim
theorem rsl_ops{cs:List Value}{xs:List OpT}(h:RSl W 10 (ROpR W) cs xs)(hB:sumM mOp xs<=1048576):∃ ao cap,∃ ops:List ROp,cs=[.slice ao ops.length cap]/\ops.length=xs.length/\SlS 10 (OpC (hp W)) (hp W) ao ops.length cap ops/\∀ o∈ops,o.bd 1048576:=by
 obtain ⟨ao,cap,css,rfl,x,h2⟩:=h;obtain ⟨g1,g2⟩:=all2_ops h2 hB;have e:xs.length=(xs.map toOp).length:=by simp
 rw[e] at x ⊢;exact ⟨ao,cap,xs.map toOp,I,I,⟨css,I,x,al2_of_all2 g1,all2_size (fun c x hc=>by obtain ⟨_,rfl,_⟩:=hc;rfl) g1⟩,g2⟩
theorem opsOpens:Opens enc Tryz.prog W 22 1 (RSl W 10 (ROpR W)) (mL mOp):=sliceM Tryz.underlying22 qk opOpens
end opens
end
section
open Go.En Go.ChangeShapes Go.WideShapes Go.ChangeAt Go.RowKit
section opens
variable {H:Type} {enc:TypeId×Value->H} {W:World}
theorem all2_is:∀ {css:List (List Value)} {xs:List Int},All2 (RI .i64) css xs->css.flatten=iv xs/\∀ d∈xs,-9223372036854775808<=d/\d<=9223372036854775807
 | [],[],_=>⟨rfl,by simp⟩
 | c::cs,x::xs,⟨hc,g⟩=>by
  obtain ⟨rfl,hw⟩:=hc;obtain ⟨h1,h2⟩:=all2_is g;have hx : -9223372036854775808<=x/\x<=9223372036854775807:=by simpa[Lit.wf,IntKind.min,IntKind.max,IntKind.signed,IntKind.bits] using hw
  refine ⟨by rw[List.flatten_cons,h1];simp[iv],?_⟩;intro d hd;rcases List.mem_cons.1 hd with rfl|hd
  ·exact hx
  ·exact h2 d hd
 | [],_::_,g=>g.elim
 | _::_,[],g=>g.elim
theorem sum_ones1:∀ xs:List Int,sumM (fun _=>1) xs=xs.length
 | []=>rfl
 | x::r=>by rw[sumM,sum_ones1 r,List.length_cons];omega
set_option maxRecDepth 100000 in
theorem open_is{base:Nat}{v:Value}{d:DataW H}{ps:List MemPlace}(hval:Value.okWide Tryz.prog W .any base 27 v)(h:DataW.Trod enc Tryz.prog W 0 (fun _=>true) true 27 v d ps)(hB:Rows.uptoBulk d<=1048576):
  ∃ ao cap,∃ ds:List Int,v=.slice ao ds.length cap/\IsS (hp W) ao ds.length cap 1 (iv ds)/\(∀ x∈ds,-9223372036854775808<=x/\x<=9223372036854775807)/\ds.length<1099511627776:=by
 obtain ⟨a0,len,cap0,rfl⟩:=okWide_slice Tryz.underlying27 hval;obtain ⟨xs,hR,hm⟩:=(Opens.slice Tryz.underlying27 qk (Opens.int (enc:=enc) (W:=W) Tryz.underlying3 qk)).arg h;obtain ⟨ao,cap,css,e,x,h2⟩:=hR;obtain ⟨g1,g2⟩:=all2_is h2;simp[Value.cells] at e;obtain ⟨rfl,rfl,rfl⟩:=e;rw[g1] at x;rw[sum_ones1] at hm;exact ⟨a0,cap0,xs,by simp,by simpa using x,g2,by omega⟩
end opens
end
section
abbrev SF:=Int->Option Sec
def PkS(s s':Option Sec):Prop:=
 match s with
 | none=>s'=none
 | some s=>(s.syn=false/\s'=none)\/∃ v∈s.vs,s'=some ⟨[v],true⟩
def Pk(f f':SF):Prop:=∀ n,PkS (f n) (f' n)
def rdF(f:SF)(n:Int):Option (List UInt8):=(f n).map fun s=>s.vs.getLastD []
theorem read_F(D:Dk)(a n:Int):D.read a n=rdF (D.sec a) n:=rfl
def Fx(f:SF):Prop:=∀ n s,f n=some s->s.syn=true/\∃ v,s.vs=[v]
theorem Pk.fx{f f':SF}(h:Pk f f'):Fx f':=by
 intro n s hs;have:=h n;unfold PkS at this;cases hf:f n with
 | none=>rw[hf] at this;rw[this] at hs;cases hs
 | some t=>
  rw[hf] at this;rcases this with ⟨_,h2⟩|⟨v,_,h2⟩
  ·rw[h2] at hs;cases hs
  ·rw[h2] at hs;cases hs;exact ⟨I,v,I⟩
theorem Fx.pk{f f':SF}(h:Fx f)(p:Pk f f'):f'=f:=by
 funext n
 have:=p n;unfold PkS at this;cases hf:f n with
 | none=>rw[hf] at this;exact this
 | some t=>
  rw[hf] at this;obtain ⟨h1,v,h2⟩:=h n t hf;rcases this with ⟨h3,_⟩|⟨u,hu,h3⟩
  ·rw[h1] at h3;cases h3
  ·rw[h2] at hu;simp only[List.mem_singleton] at hu;rw[h3,hu];obtain ⟨vs,sy⟩:=t;cases h1;cases h2
   rfl
def wtxF(f:SF):Nat->Nat->List UInt8
 | 0,_=>[]
 | k+1,n=>match rdF f n with
  | none=>[]
  | some s=>(s.drop 1).take (usedB s)++(if usedB s<63 then [] else wtxF f k (n+1))
def textF(f:SF):List UInt8:=wtxF f 65537 0
theorem wtx_F(D:Dk)(num:Nat):∀ (k n:Nat),wtx D num k n=wtxF (D.sec (segA num)) k n
 | 0,_=>rfl
 | k+1,n=>by
  rw[wtx_step,wtxF,read_F];cases rdF (D.sec (segA num)) n with
  | none=>rfl
  | some s=>dsimp only;rw[wtx_F D num k (n+1)]
theorem wtext_F(D:Dk)(num:Nat):wtext D num=textF (D.sec (segA num)):=wtx_F D num 65537 0
theorem wtxF_some{f:SF}{n:Nat}{s:List UInt8}(h:rdF f n=some s)(k:Nat):wtxF f (k+1) n=(s.drop 1).take (usedB s)++(if usedB s<63 then [] else wtxF f k (n+1)):=by
 rw[wtxF,h]
theorem wtxF_none{f:SF}{n:Nat}(h:f n=none)(k:Nat):wtxF f (k+1) n=[]:=by
 have:rdF f n=none:=by unfold rdF;rw[h];rfl
 rw[wtxF,this]
def encS(c:List UInt8):List UInt8:=padS (UInt8.ofNat c.length::c)
theorem encS_used{c:List UInt8}(h:c.length<=63):usedB (encS c)=c.length/\((encS c).drop 1).take c.length=c/\(encS c).length=64:=by
 refine ⟨?_,?_,?_⟩
 ·unfold usedB encS padS
  simp
  omega
 ·unfold encS padS
  simp
 ·exact padS_len (by simp;omega)
structure SegO (f:SF) (T:List UInt8) (t0:Nat):Prop where
 le:t0<=T.length
 has:∀ n:Nat,63*n<T.length->∃ s,f n=some s/\s.vs.getLast?=some (encS ((T.drop (63*n)).take 63))/\(s.syn=false->t0<=63*n) /\
  ∀ v∈s.vs,∃ k,k<=63/\63*n+k<=T.length/\(63*(n+1)<=63*n+k\/t0<=63*n+k)/\v=encS ((T.drop (63*n)).take k)
 no:∀ n:Nat,T.length<=63*n->f n=none
 neg:∀ n:Int,n<0->f n=none
theorem take_chunk(T:List UInt8)(n m:Nat):(T.drop (63*n)).take 63++(T.drop (63*(n+1))).take m=(T.drop (63*n)).take (63+m):=by
 rw[List.take_add,List.drop_drop,show 63*n+63=63*(n+1) by omega]
theorem SegO.read{f:SF}{T:List UInt8}{t0:Nat}(o:SegO f T t0):∀ (k n:Nat),T.length<63*(n+k)->wtxF f k n=T.drop (63*n)
 | 0,n,h=>by rw[List.drop_of_length_le qo];rfl
 | k+1,n,h=>by
  rcases Nat.lt_or_ge (63*n) T.length with hlt|hge
  ·obtain ⟨s,h1,h2,_,_⟩:=o.has n hlt;have hr:rdF f n=some (encS ((T.drop (63*n)).take 63)):=by unfold rdF;rw[h1,Option.map_some,List.getLastD_eq_getLast?,h2];rfl
   have hc:((T.drop (63*n)).take 63).length<=63:=by rw[List.length_take];omega
   obtain ⟨g1,g2,_⟩:=encS_used hc;rw[wtxF_some hr,g1,g2,SegO.read o k (n+1) qo];rw[List.length_take,List.length_drop]
   split
   ·rw[List.append_nil,List.take_of_length_le (by rw[List.length_drop];omega)]
   ·rw[show 63*(n+1)=63*n+63 by omega,<-List.drop_drop,List.take_append_drop]
  ·rw[wtxF_none (o.no n hge),List.drop_of_length_le hge]
theorem SegO.text{f:SF}{T:List UInt8}{t0:Nat}(o:SegO f T t0)(h:T.length<=63*65536):textF f=T:=by
 unfold textF;rw[o.read 65537 0 qo,Nat.mul_zero,List.drop_zero]
theorem SegO.pick{f f':SF}{T:List UInt8}{t0:Nat}(o:SegO f T t0)(p:Pk f f'):∀ (k n:Nat),T.length<63*(n+k)->∃ m,wtxF f' k n=(T.drop (63*n)).take m/\(63*n+m<=T.length\/m=0)/\t0<=63*n+m
 | 0,n,h=>⟨0,by rw[List.take_zero];rfl,.inr rfl,by have:=o.le;omega⟩
 | k+1,n,h=>by
  rcases Nat.lt_or_ge (63*n) T.length with hlt|hge
  ·obtain ⟨s,h1,_,h3,h4⟩:=o.has n hlt;have hp:=p n;unfold PkS at hp;rw[h1] at hp;rcases hp with ⟨hp1,hp2⟩|⟨v,hv,hp2⟩
   ·exact ⟨0,by rw[List.take_zero,wtxF_none hp2],.inr I,by have:=h3 hp1;omega⟩
   ·obtain ⟨j,hj1,hj2,hj3,rfl⟩:=h4 v hv;have hr:rdF f' n=some (encS ((T.drop (63*n)).take j)):=by unfold rdF;rw[hp2];rfl
    have hc:((T.drop (63*n)).take j).length=j:=by rw[List.length_take,List.length_drop];omega
    obtain ⟨g1,g2,_⟩:=encS_used (c:=(T.drop (63*n)).take j) qo;rw[hc] at g1 g2;rw[wtxF_some hr,g1,g2]
    by_cases hlt63:j<63
    ·rw[if_pos hlt63,List.append_nil];exact ⟨j,I,.inl hj2,by omega⟩
    ·rw[if_neg hlt63];obtain rfl:j=63:=by omega
     obtain ⟨m,hm1,hm2,hm3⟩:=SegO.pick o p k (n+1) qo;refine ⟨63+m,by rw[hm1,take_chunk],?_,by omega⟩;rcases hm2 with hm2|hm2
     ·exact .inl qo
     ·exact .inl qo
  ·have hp:=p n;unfold PkS at hp;rw[o.no n hge] at hp;exact ⟨0,by rw[List.take_zero,wtxF_none hp],.inr I,by have:=o.le;omega⟩
theorem SegO.crash{f f':SF}{T:List UInt8}{t0:Nat}(o:SegO f T t0)(h:T.length<=63*65536)(p:Pk f f'):∃ m,m<=T.length/\t0<=m/\textF f'=T.take m:=by
 obtain ⟨m,h1,h2,h3⟩:=o.pick p 65537 0 qo;rw[Nat.mul_zero,List.drop_zero] at h1;exact ⟨m,by omega,by omega,h1⟩
structure SegI (f:SF) (T:List UInt8):Prop where
 fx:Fx f
 text:textF f=T
def sySF(f:SF):SF:=fun n=>(f n).map secS
theorem sySF_fx(f:SF):Fx (sySF f):=by
 intro n s h;unfold sySF at h;cases hf:f n with
 | none=>rw[hf] at h;cases h
 | some t=>rw[hf] at h;cases h;exact ⟨I,_,I⟩
theorem rdF_syn(f:SF)(n:Int):rdF (sySF f) n=rdF f n:=by
 unfold rdF sySF;cases f n with
 | none=>rfl
 | some t=>simp[secS]
theorem wtxF_congr{f g:SF}(h:∀ n,rdF f n=rdF g n):∀ (k n:Nat),wtxF f k n=wtxF g k n
 | 0,_=>rfl
 | k+1,n=>by rw[wtxF,wtxF,h,wtxF_congr h k (n+1)]
theorem textF_syn(f:SF):textF (sySF f)=textF f:=wtxF_congr (rdF_syn f) _ _
theorem SegO.syn{f:SF}{T:List UInt8}{t0:Nat}(o:SegO f T t0):SegO (sySF f) T T.length:=by
 refine ⟨Nat.le_refl _,fun n hn=>?_,fun n hn=>by unfold sySF;rw[o.no n hn];rfl,fun n hn=>by unfold sySF;rw[o.neg n hn];rfl⟩;obtain ⟨s,h1,h2,h3,h4⟩:=o.has n hn;refine ⟨secS s,by unfold sySF;rw[h1];rfl,?_,fun h=>(by cases h),fun v hv=>?_⟩
 ·show [s.vs.getLastD []].getLast?=_;rw[List.getLastD_eq_getLast?,h2]
  rfl
 ·have hv:v∈[s.vs.getLastD []]:=hv;rw[List.getLastD_eq_getLast?,h2] at hv;simp only[Option.getD_some,List.mem_singleton] at hv;refine ⟨min 63 (T.length-63*n),by omega,by omega,by omega,?_⟩;rw[hv]
  congr 1
  rw[List.take_eq_take_iff,List.length_drop];omega
theorem SegO.closed{f:SF}{T:List UInt8}{t0:Nat}(o:SegO f T t0)(h:T.length<=63*65536):SegI (sySF f) T:=⟨sySF_fx f,by rw[textF_syn,o.text h]⟩
def setF(f:SF)(n:Int)(s:Sec):SF:=fun k=>if k=n then some s else f k
theorem SegO.write{f:SF}{T c:List UInt8}{t0 n:Nat}(o:SegO f T t0)(hn:63*n<=T.length)(hn2:T.length<=63*(n+1))(hc:c.length<=63)(hc0:0<c.length)(hp:T.drop (63*n) <+: c):
  SegO (setF f n (secW (f n) (UInt8.ofNat c.length::c))) (T.take (63*n)++c) t0:=by
 have hl:(T.take (63*n)).length=63*n:=by rw[List.length_take];omega
 have hlen:(T.take (63*n)++c).length=63*n+c.length:=by rw[List.length_append,hl]
 have hpl:=hp.length_le;rw[List.length_drop] at hpl;have hle:=o.le;refine ⟨by omega,fun j hj=>?_,fun j hj=>?_,fun j hj=>?_⟩
 ·by_cases e:j=n
  ·subst e;unfold setF;rw[if_pos rfl];have hd:(T.take (63*j)++c).drop (63*j)=c:=by rw[List.drop_append_of_le_length qo,List.drop_of_length_le qo,List.nil_append]
   refine ⟨_,I,?_,?_,?_⟩
   ·unfold secW;rw[hd,List.take_of_length_le hc];simp[encS]
   ·intro hs;unfold secW at hs;cases hf:f j with
    | none=>
     have:¬63*j<T.length:=fun h=>by obtain ⟨s,h1,_⟩:=o.has j h;rw[hf] at h1;cases h1
     omega
    | some s=>
     rw[hf] at hs;rcases Nat.lt_or_ge (63*j) T.length with h|h
     ·obtain ⟨s',h1,_,h3,_⟩:=o.has j h;rw[hf] at h1;cases h1;exact h3 hs
     ·omega
   ·intro v hv;unfold secW at hv;rw[hd];rcases List.mem_append.1 hv with hv|hv
    ·cases hf:f j with
     | none=>rw[hf] at hv;simp at hv
     | some s=>
      rw[hf] at hv
      have h:63*j<T.length:=by
       rcases Nat.lt_or_ge (63*j) T.length with h|h
       ·exact h
       ·have:=o.no j h;rw[hf] at this;cases this
      obtain ⟨s',h1,_,_,h4⟩:=o.has j h;rw[hf] at h1;cases h1;obtain ⟨k,hk1,hk2,hk3,hk4⟩:=h4 v hv;refine ⟨k,hk1,by omega,hk3,?_⟩;rw[hk4]
      congr 1
      obtain ⟨r,hr⟩:=hp;rw[<-hr,List.take_append_of_le_length (by rw[List.length_drop];omega)]
    ·simp only[List.mem_singleton] at hv;exact ⟨c.length,hc,by omega,by omega,by rw[hv,List.take_length];rfl⟩
  ·have hjn:j<n:=by omega
   obtain ⟨s,h1,h2,h3,h4⟩:=o.has j qo
   have hd:∀ k,k<=63->((T.take (63*n)++c).drop (63*j)).take k=(T.drop (63*j)).take k:=by
    intro k hk;rw[List.drop_append_of_le_length qo,List.take_append_of_le_length (by rw[List.length_drop];omega),List.drop_take,List.take_take,Nat.min_eq_left qo]
   refine ⟨s,by unfold setF;rw[if_neg qo];exact h1,by rw[hd 63 (Nat.le_refl _)];exact h2,h3,fun v hv=>?_⟩;obtain ⟨k,hk1,hk2,hk3,hk4⟩:=h4 v hv;exact ⟨k,hk1,by omega,hk3,by rw[hd k hk1];exact hk4⟩
 ·unfold setF;rw[if_neg qo];exact o.no j qo
 ·unfold setF;rw[if_neg qo];exact o.neg j hj
end
section
abbrev Rec:=List UInt8
def puts(rs:List Rec):List UInt8:=(rs.map putBytes).flatten
theorem puts_cons(r:Rec)(rs:List Rec):puts (r::rs)=putBytes r++puts rs:=rfl
theorem puts_app(a b:List Rec):puts (a++b)=puts a++puts b:=by simp[puts]
def segT(i:Nat)(rs:List Rec):List UInt8:=uint i++puts rs
theorem rUint_short{i m:Nat}{P more:List UInt8}(h:P++more=uint i)(hm:more≠[])(hi:i<18446744073709551616):(rUint m (P,0)).2.2≠0:=by
 intro hc;obtain ⟨h1,h2⟩:=rUint_ok hc;have h3:=(rUint_bd m P 0).1;have e1:=rUint_uint (m:=18446744073709551615) (n:=i) [] hi qo;have e2:=rUint_uint (m:=18446744073709551615) (n:=(rUint m (P,0)).1) ((rUint m (P,0)).2.1++more) h3 qo;rw[<-List.append_assoc,<-h1,h] at e2;rw[List.append_nil,e2] at e1;have:=congrArg (fun x=>x.2.1) e1;simp at this;exact hm this.2
theorem rBytes_short{r P more:List UInt8}(h:P++more=putBytes r)(hm:more≠[])(hr:r.length<=512):(rBytes 512 (P,0)).2.2≠0:=by
 intro hc;obtain ⟨_,h1,h2⟩:=rBytes_fin hc;have e1:=rBytes_put (most:=512) (x:=r) [] qo qo;have e2:=rBytes_put (most:=512) (x:=(rBytes 512 (P,0)).1) ((rBytes 512 (P,0)).2.1++more) (by have:((512:Int)).toNat=512:=rfl;omega) (by have:((512:Int)).toNat=512:=rfl;omega);rw[<-List.append_assoc,<-h1,h] at e2;rw[List.append_nil,e2] at e1;have:=congrArg (fun x=>x.2.1) e1;simp at this;exact hm this.2
theorem putBytes_pos(r:List UInt8):0<(putBytes r).length:=by
 rw[putBytes_length];have:=uint_pos r.length;omega
theorem rBytes_nil:(rBytes 512 ([],0)).2.2≠0:=rBytes_short (r:=[]) (P:=[]) (more:=putBytes []) rfl (by have:=putBytes_pos [];intro h;rw[h] at this;simp at this) (by simp)
theorem wrecs_puts:∀ (rs:List Rec) (m f:Nat),(∀ r∈rs,r.length<=512)->((puts rs).take m).length<f ->
  ∃ j,j<=rs.length/\wrecs f ((puts rs).take m,0)=rs.take j/\(puts (rs.take j)).length<=m/\∀ k,k<=rs.length->(puts (rs.take k)).length<=m->k<=j
 | [],m,f,_,hf=>by
  cases f with
  | zero=>omega
  | succ f=>
   refine ⟨0,Nat.le_refl _,?_,Nat.zero_le _,fun k hk _=>hk⟩;rw[wrecs_step,if_neg]
   ·rfl
   ·show ¬(rBytes 512 (([]:List UInt8).take m,0)).2.2=0;rw[List.take_nil];exact rBytes_nil
 | r::rs,m,f,hr,hf=>by
  cases f with
  | zero=>omega
  | succ f=>
   rw[puts_cons] at hf ⊢;have hr512:=hr r (by simp)
   by_cases hm:(putBytes r).length<=m
   ·have ht:(putBytes r++puts rs).take m=putBytes r++(puts rs).take (m-(putBytes r).length):=by
     rw[List.take_append,List.take_of_length_le hm]
    rw[ht] at hf ⊢;have hp:=putBytes_pos r;rw[List.length_append] at hf;have e:=rBytes_put (most:=512) (x:=r) ((puts rs).take (m-(putBytes r).length)) qo qo;obtain ⟨j,h1,h2,h3,h4⟩:=wrecs_puts rs (m-(putBytes r).length) f (fun x hx=>hr x (by simp[hx])) qo;refine ⟨j+1,by simp;omega,?_,?_,fun k hk hkm=>?_⟩
    ·rw[wrecs_step,e,if_pos rfl,h2]
     rfl
    ·rw[List.take_succ_cons,puts_cons,List.length_append];omega
    ·cases k with
     | zero=>omega
     | succ k=>
      rw[List.take_succ_cons,puts_cons,List.length_append] at hkm;have:=h4 k (by simpa using hk) qo;omega
   ·refine ⟨0,Nat.zero_le _,?_,Nat.zero_le _,fun k hk hkm=>?_⟩
    ·rw[List.take_append_of_le_length qo,wrecs_step,if_neg]
     ·rfl
     ·exact rBytes_short (List.take_append_drop m (putBytes r)) (by intro h;have:=congrArg List.length h;rw[List.length_drop] at this;simp at this;omega) hr512
    ·cases k with
     | zero=>omega
     | succ k=>
      rw[List.take_succ_cons,puts_cons,List.length_append] at hkm;omega
def RdT(t:List UInt8):Option (Nat×List Rec)->Prop
 | none=>(rUint wTop (t,0)).2.2≠0
 | some (i,rs)=>i<=wTop/\(rUint wTop (t,0)).2.2=0/\(rUint wTop (t,0)).1=i/\wrecs (t.length+1) (rUint wTop (t,0)).2=rs
def Rds(D:Dk)(n:Nat)(o:Option (Nat×List Rec)):Prop:=RdT (wtext D n) o
theorem Rds.void{D:Dk}{n:Nat}(h:Rds D n none)(W:Wl):wread D n W=(W,true,true):=if_pos h
theorem Rds.seg{D:Dk}{n i:Nat}{rs:List Rec}(h:Rds D n (some (i,rs)))(W:Wl):wread D n W=if (W.follows n i).2=false then ((W.follows n i).1,false,false) else ({ (W.follows n i).1 with recs:=(W.follows n i).1.recs++rs },true,false):=by
 obtain ⟨_,h1,h2,h3⟩:=h;unfold wread;rw[h1,h2,h3]
 rfl
structure SegC (f:SF) (s:Nat×List Rec):Prop where
 fx:Fx f
 rd:RdT (textF f) (some s)
theorem rdT_take{i:Nat}{rs:List Rec}(m:Nat)(hi:i<=wTop)(hr:∀ r∈rs,r.length<=512):
  (m<(uint i).length/\RdT ((segT i rs).take m) none)\/((uint i).length<=m/\∃ j,j<=rs.length/\RdT ((segT i rs).take m) (some (i,rs.take j))/\∀ k,k<=rs.length->(segT i (rs.take k)).length<=m->k<=j):=by
 have hi2:i<18446744073709551616:=by unfold wTop at hi;omega
 unfold segT;rcases Nat.lt_or_ge m (uint i).length with hm|hm
 ·refine .inl ⟨hm,?_⟩;rw[List.take_append_of_le_length qo];exact rUint_short (List.take_append_drop m (uint i)) (by intro h;have:=congrArg List.length h;rw[List.length_drop] at this;simp at this;omega) hi2
 ·refine .inr ⟨hm,?_⟩;rw[List.take_append,List.take_of_length_le hm];have hu:=rUint_uint (m:=wTop) (n:=i) ((puts rs).take (m-(uint i).length)) hi2 hi;obtain ⟨j,h1,h2,h3,h4⟩:=wrecs_puts rs (m-(uint i).length) ((uint i++(puts rs).take (m-(uint i).length)).length+1) hr (by rw[List.length_append];omega);refine ⟨j,h1,⟨hi,by rw[hu],by rw[hu],by rw[hu,h2]⟩,fun k hk hkm=>h4 k hk ?_⟩;rw[List.length_append] at hkm;omega
theorem rdT_full{i:Nat}{rs:List Rec}(hi:i<=wTop)(hr:∀ r∈rs,r.length<=512):RdT (segT i rs) (some (i,rs)):=by
 rcases rdT_take (i:=i) (rs:=rs) (segT i rs).length hi hr with ⟨h1,_⟩|⟨_,j,h2,h3,h4⟩
 ·unfold segT at h1;rw[List.length_append] at h1;omega
 ·have:=h4 rs.length (Nat.le_refl _) (by rw[List.take_length];exact Nat.le_refl _);obtain rfl:j=rs.length:=by omega
  rwa [List.take_length,List.take_length] at h3
theorem rdT_nil:RdT [] none:=rUint_short (i:=0) (P:=[]) (more:=uint 0) rfl (by have:=uint_pos 0;intro h;rw[h] at this;simp at this) qo
theorem SegI.segC{f:SF}{i:Nat}{rs:List Rec}(h:SegI f (segT i rs))(hi:i<=wTop)(hr:∀ r∈rs,r.length<=512):SegC f (i,rs):=⟨h.fx,by rw[h.text];exact rdT_full hi hr⟩
theorem SegC.crash{f f':SF}{s:Nat×List Rec}(o:SegC f s)(p:Pk f f'):f'=f:=o.fx.pk p
end
section
theorem mget_mdel{κ ν:Type}[DecidableEq κ](k j:κ):∀ (m:List (κ×ν)),(m.map (·.1)).Nodup->mget j (mdel k m)=if j=k then none else mget j m
 | [],_=>by simp[mdel,mget]
 | (i,v)::m,h=>by
  simp only[List.map_cons,List.nodup_cons] at h
  by_cases e:k=i
  ·subst e;simp only[mdel,if_true]
   by_cases e2:j=k
   ·subst e2;rw[if_pos rfl];exact mget_none.2 h.1
   ·rw[if_neg e2];simp only[mget,if_neg e2]
  ·simp only[mdel,if_neg e,mget]
   by_cases e2:j=i
   ·subst e2;rw[if_pos rfl,if_pos rfl,if_neg (fun h=>e h.symm)]
   ·rw[if_neg e2,if_neg e2];exact mget_mdel k j m h.2
theorem mget_mapv{κ ν:Type}[DecidableEq κ](g:ν->ν)(j:κ):∀ (m:List (κ×ν)),mget j (m.map fun x=>(x.1,g x.2))=(mget j m).map g
 | []=>rfl
 | (i,v)::m=>by
  by_cases e:j=i
  ·simp[mget,e]
  ·simp[mget,e,mget_mapv g j m]
theorem sec_stp(D:Dk)(a:Int):D.stp.sec a=D.sec a:=rfl
theorem sec_laid(D:Dk)(a n:Int)(b:List UInt8)(a':Int):(D.laid a n b).sec a'=if a'=a then setF (D.sec a) n (secW (D.sec a n) b) else D.sec a':=by
 funext k
 unfold Dk.sec Dk.ar Dk.laid;dsimp only;rw[mget_mset]
 by_cases e:a'=a
 ·subst e;rw[if_pos rfl,if_pos rfl];unfold setF;show mget k (mset n _ _)=_;rw[mget_mset]
  rfl
 ·rw[if_neg e,if_neg e]
theorem sec_synA(D:Dk)(a a':Int):({ D with areas:=D.synA a }:Dk).sec a'=if a'=a then sySF (D.sec a) else D.sec a':=by
 funext k
 unfold Dk.sec Dk.ar Dk.synA;dsimp only;cases hg:mget a D.areas with
 | none=>
  dsimp only
  by_cases e:a'=a
  ·subst e;rw[if_pos rfl,hg];unfold sySF
   rfl
  ·rw[if_neg e]
 | some l=>
  dsimp only;rw[mget_mset]
  by_cases e:a'=a
  ·subst e;rw[if_pos rfl,if_pos rfl];show mget k (l.map fun x=>(x.1,secS x.2))=_;rw[mget_mapv];unfold sySF
   rfl
  ·rw[if_neg e,if_neg e]
theorem sec_mdel{D:Dk}(h:(D.areas.map (·.1)).Nodup)(a a':Int):({ D with areas:=mdel a D.areas }:Dk).sec a'=if a'=a then fun _=>none else D.sec a':=by
 funext k
 unfold Dk.sec Dk.ar;dsimp only;rw[mget_mdel _ _ _ h]
 by_cases e:a'=a
 ·rw[if_pos e,if_pos e];rfl
 ·rw[if_neg e,if_neg e]
def SecAt(D E:Dk)(a:Int)(f:SF):Prop:=E.sec a=f/\∀ a',a'≠a->E.sec a'=D.sec a'
structure Alv (n:Nat) (D:Dk):Prop where
 left : -1<=D.left
 dead:D.dead=false
 room:(n:Int)<=D.room
 keys:(D.areas.map (·.1)).Nodup
theorem Alv.mono{n m:Nat}{D:Dk}(h:Alv n D)(k:m<=n):Alv m D:=⟨h.left,h.dead,by have:=h.room;omega,h.keys⟩
def Or30(n:Nat)(E:Dk)(c:Int):Prop:=(c=0/\Alv n E)\/(c=30/\E.dead=true)
theorem stp_or{D:Dk}(h : -1<=D.left): -1<=D.stp.left:=by
 unfold Dk.stp;dsimp only
 split <;> omega
theorem laid_keys{D:Dk}(h:(D.areas.map (·.1)).Nodup)(a n:Int)(b:List UInt8):((D.laid a n b).areas.map (·.1)).Nodup:=mset_nodup h
theorem Alv.write{n:Nat}{D:Dk}(h:Alv (n+1) D)(a i:Int)(b:List UInt8)(h0:0<=i)(hi:i<65536)(hb:b.length<=64):
  Or30 n (D.write a i b).1 (D.write a i b).2/\SecAt D (D.write a i b).1 a (setF (D.sec a) i (secW (D.sec a i) b)):=by
 have h3:=h.room;unfold Dk.write;rw[if_neg (by rw[h.dead];decide),if_neg qo,if_neg (by rintro ⟨_,h4⟩;omega)];dsimp only;refine ⟨?_,?_,fun a' ha=>?_⟩
 ·cases hd:((D.laid a i b).stp).dead with
  | true=>exact .inr ⟨by simp,hd⟩
  | false=>
   refine .inl ⟨by simp,stp_or h.left,hd,?_,laid_keys h.keys a i b⟩;show (n:Int)<=(D.laid a i b).room;unfold Dk.laid;dsimp only
   split <;> omega
 ·rw[sec_stp,sec_laid,if_pos rfl]
 ·rw[sec_stp,sec_laid,if_neg ha]
theorem Alv.sync{n:Nat}{D:Dk}(h:Alv n D)(a:Int):
  ((D.sync a).2=0/\Alv n (D.sync a).1/\SecAt D (D.sync a).1 a (sySF (D.sec a)))\/((D.sync a).2=30/\(D.sync a).1.dead=true/\∀ a',(D.sync a).1.sec a'=D.sec a'):=by
 unfold Dk.sync;rw[if_neg (by rw[h.dead];decide)];cases hd:D.stp.dead with
 | true=>rw[if_pos rfl];exact .inr ⟨I,hd,fun _=>I⟩
 | false=>
  rw[if_neg (by decide)];refine .inl ⟨I,⟨stp_or h.left,hd,h.room,?_⟩,?_,fun a' ha=>?_⟩
  ·show ((D.synA a).map (·.1)).Nodup;rw[synA_keys];exact h.keys
  ·show ({ D with areas:=D.synA a }:Dk).sec a=_;rw[sec_synA,if_pos rfl]
  ·show ({ D with areas:=D.synA a }:Dk).sec a'=_;rw[sec_synA,if_neg ha]
theorem Alv.free{n:Nat}{D:Dk}(h:Alv n D)(a:Int):
  ((D.free a).2=0/\Alv n (D.free a).1/\SecAt D (D.free a).1 a (fun _=>none))\/((D.free a).2=30/\(D.free a).1.dead=true/\∀ a',(D.free a).1.sec a'=D.sec a'):=by
 unfold Dk.free;rw[if_neg (by rw[h.dead];decide)];cases hd:D.stp.dead with
 | true=>rw[if_pos rfl];exact .inr ⟨I,hd,fun _=>I⟩
 | false=>
  rw[if_neg (by decide)];refine .inl ⟨I,⟨stp_or h.left,hd,by have:=h.room;dsimp only;omega,(mdel_sub (k:=a) D.areas).map (·.1) |>.nodup h.keys⟩,?_,fun a' ha=>?_⟩
  ·show ({ D with areas:=mdel a D.areas }:Dk).sec a=_;rw[sec_mdel h.keys,if_pos rfl]
  ·show ({ D with areas:=mdel a D.areas }:Dk).sec a'=_;rw[sec_mdel h.keys,if_neg ha]
theorem wrL_seg:∀ (f:Nat) (o:WOp) (D:Dk) (n:Nat) (T:List UInt8) (t0:Nat),Alv (n+(o.rest.length / 63+1)) D->o.rest.length<63*f->o.full+o.rest.length / 63<65536->0<o.rest.length ->
  SegO (D.sec (segA o.num)) T t0->63*o.full<=T.length->T.length<=63*o.full+62->T.drop (63*o.full) <+: o.rest ->
  ∃ T1,SegO ((wrL f o D).2.1.sec (segA o.num)) T1 t0/\(∀ a',a'≠segA o.num->(wrL f o D).2.1.sec a'=D.sec a')/\T <+: T1/\T1 <+: T.take (63*o.full)++o.rest/\Or30 n (wrL f o D).2.1 (wrL f o D).2.2 /\
   ((wrL f o D).2.2=0->T1=T.take (63*o.full)++o.rest/\T1.length=63*(wrL f o D).1.full+(wrL f o D).1.rest.length/\(wrL f o D).1.rest=T1.drop (63*(wrL f o D).1.full)/\(wrL f o D).1.rest.length<=62)
 | 0,o,D,n,T,t0,_,hf,_,_,_,_,_,_=>by omega
 | f+1,o,D,n,T,t0,h,hf,hfu,hr0,hS,hT1,hT2,hp=>by
  have hcl:(o.rest.take (min o.rest.length 63)).length=min o.rest.length 63:=by rw[List.length_take];omega
  have hce:UInt8.ofNat (min o.rest.length 63)::o.rest.take (min o.rest.length 63)=UInt8.ofNat (o.rest.take (min o.rest.length 63)).length::o.rest.take (min o.rest.length 63):=by rw[hcl]
  have hw:=Alv.write (n:=n+o.rest.length / 63) (h.mono qo) (segA o.num) o.full (UInt8.ofNat (min o.rest.length 63)::o.rest.take (min o.rest.length 63)) qo qo (by simp only[List.length_cons,hcl];omega);have hpl:=hp.length_le;rw[List.length_drop] at hpl
  have hpc:T.drop (63*o.full) <+: o.rest.take (min o.rest.length 63):=by
   refine List.prefix_take_iff.2 ⟨hp,?_⟩;rw[List.length_drop];omega
  have hS1:=hS.write hT1 qo (c:=o.rest.take (min o.rest.length 63)) qo qo hpc;rw[<-hce,<-hw.2.1] at hS1;have htl:(T.take (63*o.full)).length=63*o.full:=by rw[List.length_take];omega
  have hTpre:T <+: T.take (63*o.full)++o.rest.take (min o.rest.length 63):=by
   obtain ⟨r,hr⟩:=hpc;exact ⟨r,by rw[<-hr,<-List.append_assoc,List.take_append_drop]⟩
  have hpre:T.take (63*o.full)++o.rest.take (min o.rest.length 63) <+: T.take (63*o.full)++o.rest:=(List.prefix_append_right_inj _).2 (List.take_prefix _ _);rw[wrL_step];generalize D.write (segA o.num) o.full (UInt8.ofNat (min o.rest.length 63)::o.rest.take (min o.rest.length 63))=W at hw hS1;obtain ⟨hor,hat,hfr⟩:=hw
  by_cases hc:W.2≠0\/o.rest.length<63
  ·rw[if_pos hc];refine ⟨_,hS1,hfr,hTpre,hpre,?_,fun h0=>?_⟩
   ·rcases hor with ⟨g1,g2⟩|g
    ·exact .inl ⟨g1,g2.mono qo⟩
    ·exact .inr g
   ·have hlt:o.rest.length<63:=by
     rcases hc with hc|hc
     ·exact absurd h0 hc
     ·exact hc
    have ht:o.rest.take (min o.rest.length 63)=o.rest:=List.take_of_length_le qo;rw[ht];refine ⟨I,by rw[List.length_append,htl],?_,by dsimp only;omega⟩;dsimp only;rw[List.drop_append_of_le_length qo,List.drop_of_length_le qo,List.nil_append]
  ·rw[if_neg hc];have hc:=not_or.1 hc;have h0:W.2=0:=Decidable.not_not.1 hc.1
   have hal:Alv (n+o.rest.length / 63) W.1:=by
    rcases hor with ⟨_,g⟩|⟨g,_⟩
    ·exact g
    ·rw[h0] at g;cases g
   have hl63:(T.take (63*o.full)++o.rest.take (min o.rest.length 63)).length=63*(o.full+1):=by rw[List.length_append,htl,hcl];omega
   by_cases he:o.rest.length=63
   ·rw[if_pos he];have ht:o.rest.take (min o.rest.length 63)=o.rest:=List.take_of_length_le qo;refine ⟨_,hS1,hfr,hTpre,hpre,.inl ⟨I,hal.mono qo⟩,fun _=>⟨by rw[ht],by rw[hl63];rfl,?_,by simp⟩⟩;dsimp only;rw[List.drop_of_length_le qo]
   ·rw[if_neg he];have hrec:=wrL_seg f { o with full:=o.full+1,rest:=o.rest.drop 63 } W.1 n (T.take (63*o.full)++o.rest.take (min o.rest.length 63)) t0 (hal.mono (by dsimp only;rw[List.length_drop];omega)) (by dsimp only;rw[List.length_drop];omega) (by dsimp only;rw[List.length_drop];omega) (by dsimp only;rw[List.length_drop];omega) hS1 (by dsimp only;omega) (by dsimp only;omega) (by dsimp only;rw[List.drop_of_length_le qo];exact List.nil_prefix);dsimp only at hrec;obtain ⟨T1,r1,r2,r3,r4,r5,r6⟩:=hrec
    have hU:(T.take (63*o.full)++o.rest.take (min o.rest.length 63)).take (63*(o.full+1))++o.rest.drop 63=T.take (63*o.full)++o.rest:=by
     rw[List.take_of_length_le qo,List.append_assoc,show min o.rest.length 63=63 by omega,List.take_append_drop]
    rw[hU] at r4 r6;exact ⟨T1,r1,fun a' ha=>by rw[r2 a' ha,hfr a' ha],hTpre.trans r3,r4,r5,r6⟩
end
section
abbrev Vl:=Option (Nat×List Rec)
def stepV:Vl->Nat×List Rec->Nat×List Rec
 | none,s=>s
 | some (f,r),s=>if s.1<f then s else (f,r.take (s.1-f)++s.2)
def okVl:Vl->Nat->Prop
 | none,_=>True
 | some (f,r),i=>i<=f+r.length
def scanV:Vl->List (Nat×List Rec)->Vl
 | v,[]=>v
 | v,s::t=>scanV (some (stepV v s)) t
def okS:Vl->List (Nat×List Rec)->Prop
 | _,[]=>True
 | v,s::t=>okVl v s.1/\s.1+s.2.length<=wTop/\okS (some (stepV v s)) t
theorem scanV_app:∀ (a b:List (Nat×List Rec)) (v:Vl),scanV v (a++b)=scanV (scanV v a) b
 | [],b,v=>rfl
 | s::a,b,v=>by rw[List.cons_append,scanV,scanV,scanV_app a b]
theorem okS_app:∀ (a b:List (Nat×List Rec)) (v:Vl),okS v (a++b)↔okS v a/\okS (scanV v a) b
 | [],b,v=>by simp[okS,scanV]
 | s::a,b,v=>by rw[List.cons_append,okS,okS,scanV,okS_app a b];simp only[and_assoc]
theorem stepV_end{v:Vl}{s:Nat×List Rec}(h:okVl v s.1):(stepV v s).1+(stepV v s).2.length=s.1+s.2.length:=by
 cases v with
 | none=>rfl
 | some x=>
  obtain ⟨f,r⟩:=x;unfold stepV;unfold okVl at h;dsimp only
  split
  ·rfl
  ·dsimp only;rw[List.length_append,List.length_take];omega
theorem stepV_le{v:Vl}{s:Nat×List Rec}:(stepV v s).1<=s.1:=by
 cases v with
 | none=>exact Nat.le_refl _
 | some x=>
  obtain ⟨f,r⟩:=x;unfold stepV;dsimp only
  split
  ·exact Nat.le_refl _
  ·dsimp only;omega
def AgrV(i:Nat)(a b:Nat×List Rec):Prop:=a.1<=i/\b.1<=i/\a.1+a.2.length=b.1+b.2.length/\a.2.drop (i-a.1)=b.2.drop (i-b.1)
theorem agr_low{i:Nat}{v u:Vl}{s:Nat×List Rec}(hv:okVl v s.1)(hu:okVl u s.1)(hi:s.1<=i):AgrV i (stepV v s) (stepV u s):=by
 have e:∀ w:Vl,okVl w s.1->(stepV w s).2.drop (i-(stepV w s).1)=s.2.drop (i-s.1):=by
  intro w hw;cases w with
  | none=>rfl
  | some x=>
   obtain ⟨f,r⟩:=x;unfold stepV;unfold okVl at hw;dsimp only
   split
   ·rfl
   ·dsimp only;rw[List.drop_append,List.drop_of_length_le (by rw[List.length_take];omega),List.nil_append,List.length_take]
    congr 1
    omega
 have h1:=stepV_le (v:=v) (s:=s);have h2:=stepV_le (v:=u) (s:=s);have h3:=stepV_end hv;have h4:=stepV_end hu;exact ⟨by omega,by omega,by omega,by rw[e v hv,e u hu]⟩
theorem agr_step{i:Nat}{a b:Nat×List Rec}(h:AgrV i a b){s:Nat×List Rec}(ha:okVl (some a) s.1):okVl (some b) s.1/\AgrV i (stepV (some a) s) (stepV (some b) s):=by
 obtain ⟨h1,h2,hf,h5⟩:=h;have hb:okVl (some b) s.1:=by unfold okVl at ha ⊢;dsimp only at ha ⊢;omega
 refine ⟨hb,?_⟩;rcases Nat.lt_or_ge i s.1 with hlt|hge
 ·have h6:=stepV_end ha;have h7:=stepV_end hb;obtain ⟨f,r⟩:=a;obtain ⟨g,q⟩:=b;unfold okVl at ha hb;dsimp only at h1 h2 h5 ha hb hf;unfold stepV at h6 h7 ⊢;dsimp only at h6 h7 ⊢;rw[if_neg qo] at h6 ⊢;rw[if_neg qo] at h7 ⊢;refine ⟨h1,h2,by omega,?_⟩;dsimp only;rw[List.drop_append_of_le_length (by rw[List.length_take];omega),List.drop_append_of_le_length (by rw[List.length_take];omega),List.drop_take,List.drop_take,h5]
  congr 2
  omega
 ·exact agr_low ha hb hge
theorem agr_scan{i:Nat}:∀ (l:List (Nat×List Rec)) (a b:Nat×List Rec),AgrV i a b->okS (some a) l->okS (some b) l/\∃ a' b',scanV (some a) l=some a'/\scanV (some b) l=some b'/\AgrV i a' b'
 | [],a,b,h,_=>⟨trivial,a,b,rfl,rfl,h⟩
 | s::l,a,b,h,ho=>by
  obtain ⟨o1,o2,o3⟩:=ho;obtain ⟨h1,h2⟩:=agr_step h o1;obtain ⟨k1,k2⟩:=agr_scan l _ _ h2 o3;exact ⟨⟨h1,o2,k1⟩,k2⟩
theorem scan_drop{i:Nat}:∀ (l:List (Nat×List Rec)) (x:Nat×List Rec) (u:Vl),(u=none\/∃ y,u=some y/\y.1+y.2.length=x.1+x.2.length)->okS (some x) l->(∃ s∈l,s.1<=i)->okS u l/\∃ a b,scanV (some x) l=some a/\scanV u l=some b/\AgrV i a b
 | [],x,u,_,_,h=>by obtain ⟨s,hs,_⟩:=h;simp at hs
 | s::l,x,u,hu,ho,hex=>by
  obtain ⟨o1,o2,o3⟩:=ho
  have hou:okVl u s.1:=by
   rcases hu with rfl|⟨y,rfl,e⟩
   ·trivial
   ·unfold okVl at o1 ⊢;dsimp only at o1 ⊢;omega
  by_cases hs:s.1<=i
  ·have h2:=agr_low o1 hou hs;obtain ⟨k1,k2⟩:=agr_scan l _ _ h2 o3;exact ⟨⟨hou,o2,k1⟩,k2⟩
  ·have hex2:∃ t∈l,t.1<=i:=by
    obtain ⟨t,ht,h⟩:=hex;rcases List.mem_cons.1 ht with rfl|ht
    ·exact absurd h hs
    ·exact ⟨t,ht,h⟩
   obtain ⟨k1,k2⟩:=scan_drop l (stepV (some x) s) (some (stepV u s)) (.inr ⟨_,rfl,by rw[stepV_end o1,stepV_end hou]⟩) o3 hex2;exact ⟨⟨hou,o2,k1⟩,k2⟩
def VW(W:Wl)(v:Vl):Prop:=(v=none/\W.old=[])\/(W.old≠[]/\v=some (W.first,W.recs))
theorem wread_seg{D:Dk}{n i:Nat}{rs:List Rec}{W:Wl}{v:Vl}(hr:Rds D n (some (i,rs)))(hv:VW W v)(ho:okVl v i):
  ∃ W',wread D n W=(W',true,false)/\VW W' (some (stepV v (i,rs)))/\W'.old=W.old++[(n,i)]/\W'.op=W.op/\W'.next=W.next/\W'.code=W.code/\W'.first+W'.recs.length=i+rs.length:=by
 have he:=stepV_end (s:=(i,rs)) ho;rw[hr.seg W];rcases hv with ⟨rfl,hold⟩|⟨hold,rfl⟩
 ·have hF:W.follows n i=({ W with first:=i,recs:=[],old:=W.old++[(n,i)] },true):=by unfold Wl.follows;rw[if_pos (.inl (by rw[hold];rfl))]
  rw[hF,if_neg (by simp)];exact ⟨_,I,.inr ⟨by simp,by simp[stepV]⟩,I,I,I,I,by simp⟩
 ·by_cases hlt:i<W.first
  ·have hF:W.follows n i=({ W with first:=i,recs:=[],old:=W.old++[(n,i)] },true):=by unfold Wl.follows;rw[if_pos (.inr hlt)]
   rw[hF,if_neg (by simp)];exact ⟨_,I,.inr ⟨by simp,by simp[stepV,hlt]⟩,I,I,I,I,by simp⟩
  ·unfold okVl at ho;dsimp only at ho;have hl0:W.old.length≠0:=by intro h;exact hold (List.length_eq_zero_iff.1 h)
   have hF:W.follows n i=({ W with recs:=W.recs.take (i-W.first),old:=W.old++[(n,i)] },true):=by
    unfold Wl.follows;rw[if_neg (by rintro (h|h);exact hl0 h;exact hlt h),if_neg qo]
   rw[hF,if_neg (by simp)];refine ⟨_,I,.inr ⟨by simp,by simp[stepV,hlt]⟩,I,I,I,I,?_⟩;dsimp only;rw[List.length_append,List.length_take];omega
def segsOf(fr:Nat)(l:List (Nat×Option (Nat×List Rec))):List (Nat×Nat×List Rec):=l.filterMap fun x=>if x.1<fr then none else x.2.map fun s=>(x.1,s.1,s.2)
theorem segsOf_cons(fr:Nat)(x:Nat×Option (Nat×List Rec))(l:List (Nat×Option (Nat×List Rec))):segsOf fr (x::l)=(match (if x.1<fr then none else x.2.map fun s=>(x.1,s.1,s.2)) with
  | none=>segsOf fr l
  | some y=>y::segsOf fr l):=by
 unfold segsOf;rw[List.filterMap_cons];cases (if x.1<fr then none else x.2.map fun s=>(x.1,s.1,s.2):Option (Nat×Nat×List Rec)) <;> rfl
theorem wscan_run{D:Dk}{fr:Nat}:∀ (l:List (Nat×Option (Nat×List Rec))) (W:Wl) (v:Vl) (g:List Nat),(∀ x∈l,fr<=x.1->Rds D x.1 x.2)->VW W v->W.first+W.recs.length<=wTop->okS v ((segsOf fr l).map (·.2)) ->
  ∃ W' g',wscan D fr (l.map (·.1)) W g=(W',g',true)/\VW W' (scanV v ((segsOf fr l).map (·.2)))/\W'.old=W.old++(segsOf fr l).map (fun s=>(s.1,s.2.1))/\W'.op=W.op/\W'.next=W.next/\W'.code=W.code/\(segsOf fr l=[]->W'.first=W.first/\W'.recs=W.recs) /\
   ∀ n,n∈g'↔n∈g\/∃ x∈l,x.1=n/\(n<fr\/x.2=none)
 | [],W,v,g,_,hv,_,_=>⟨W,g,rfl,hv,by simp[segsOf],rfl,rfl,rfl,fun _=>⟨rfl,rfl⟩,fun n=>by simp⟩
 | (n,o)::l,W,v,g,hr,hv,ht,ho=>by
  have hr':∀ x∈l,fr<=x.1->Rds D x.1 x.2:=fun x hx=>hr x (by simp[hx]);rw[segsOf_cons] at ho ⊢;rw[List.map_cons];unfold wscan
  have skip:((n<fr\/o=none))->wstep D fr n W=(W,true,true):=by
   intro h;unfold wstep
   by_cases hn:n<fr
   ·rw[if_pos hn]
   ·rw[if_neg hn];rcases h with h|h
    ·exact absurd h hn
    ·have:=hr (n,o) (by simp) (by dsimp only;omega);rw[h] at this;exact this.void W
  by_cases hs:n<fr\/o=none
  ·have hno:(if n<fr then none else o.map fun s=>(n,s.1,s.2))=(none:Option (Nat×Nat×List Rec)):=by
    rcases hs with hs|hs
    ·rw[if_pos hs]
    ·rw[hs];split <;> rfl
   dsimp only at ho ⊢;rw[hno] at ho ⊢;dsimp only at ho ⊢;obtain ⟨W',g',h1,h2,h3,h4,h5,h6,h7,h8⟩:=wscan_run l W v (g++[n]) hr' hv ht ho;rw[skip hs];rw[if_neg (by rintro (h|h);cases h;dsimp only at h;omega)];refine ⟨W',g',by simpa using h1,h2,h3,h4,h5,h6,h7,fun m=>?_⟩;rw[h8 m];simp only[List.mem_append,List.mem_cons,List.not_mem_nil,or_false]
   constructor
   ·rintro ((h|h)|⟨x,hx,h⟩)
    ·exact .inl h
    ·exact .inr ⟨(n,o),.inl I,h.symm,by rw[h];exact hs⟩
    ·exact .inr ⟨x,.inr hx,h⟩
   ·rintro (h|⟨x,rfl|hx,h⟩)
    ·exact .inl (.inl h)
    ·exact .inl (.inr h.1.symm)
    ·exact .inr ⟨x,hx,h⟩
  ·have hs:=not_or.1 hs;obtain ⟨⟨i,rs⟩,rfl⟩:=Option.ne_none_iff_exists'.1 hs.2;dsimp only at ho ⊢;rw[if_neg hs.1] at ho ⊢;simp only[Option.map_some,List.map_cons] at ho ⊢;obtain ⟨ho1,ho2,ho3⟩:=ho;obtain ⟨W1,k1,k2,k3,k4,k5,k6,k7⟩:=wread_seg (hr (n,some (i,rs)) (by simp) (by dsimp only;omega)) hv ho1;have hst:wstep D fr n W=(W1,true,false):=by unfold wstep;rw[if_neg hs.1,k1]
   obtain ⟨W',g',h1,h2,h3,h4,h5,h6,h7,h8⟩:=wscan_run l W1 _ g hr' k2 (by rw[k7];exact ho2) ho3;rw[hst];rw[if_neg (by rintro (h|h);cases h;dsimp only at h;rw[k7] at h;dsimp only at ho2;omega)];refine ⟨W',g',by simpa using h1,h2,?_,h4.trans k4,h5.trans k5,h6.trans k6,fun h=>(by cases h),fun m=>?_⟩
   ·rw[h3,k3,List.append_assoc]
    rfl
   ·rw[h8 m];simp only[List.mem_cons]
    constructor
    ·rintro (h|⟨x,hx,h⟩)
     ·exact .inl h
     ·exact .inr ⟨x,.inr hx,h⟩
    ·rintro (h|⟨x,rfl|hx,h1,h2⟩)
     ·exact .inl h
     ·subst h1;rcases h2 with h2|h2
      ·exact absurd h2 hs.1
      ·cases h2
     ·exact .inr ⟨x,hx,h1,h2⟩
theorem segA_ne{a b:Nat}(h:a≠b):segA a≠segA b:=fun e=>h (segA_inj e)
theorem set1_run{D:Dk}{k:Nat}(h:Liv k D)(hk:(D.areas.map (·.1)).Nodup)(g:List Nat)(n:Nat):
  (wset1 D g n).2=0/\Liv k (wset1 D g n).1/\((wset1 D g n).1.areas.map (·.1)).Nodup/\SecAt D (wset1 D g n).1 (segA n) (if n∈g then fun _=>none else sySF (D.sec (segA n)))/\∀ a∈(wset1 D g n).1.areas.map (·.1),a∈D.areas.map (·.1)/\(n∈g->a≠segA n):=by
 have ha:Alv 0 D:=⟨by rw[h.left];decide,h.dead,by have:=h.room;omega,hk⟩;unfold wset1
 by_cases hn:n∈g
 ·rw[if_pos hn,if_pos hn];have h1:=h.free (segA n);rcases ha.free (segA n) with ⟨_,g2,g3⟩|⟨g1,_⟩
  ·refine ⟨h1.1,h1.2,g2.keys,g3,fun a haa=>?_⟩;unfold Dk.free at haa;rw[if_neg (by rw[h.dead];decide),if_neg (by rw[h.stp.dead];decide)] at haa;have haa:a∈(mdel (segA n) D.areas).map (·.1):=haa;refine ⟨((mdel_sub (k:=segA n) D.areas).map (·.1)).subset haa,fun _ e=>?_⟩;subst e;have:=mget_mdel (segA n) (segA n) D.areas hk;rw[if_pos rfl] at this;exact mget_none.1 this haa
  ·rw[h1.1] at g1;cases g1
 ·rw[if_neg hn,if_neg hn];have h1:=h.sync (segA n);rcases ha.sync (segA n) with ⟨_,g2,g3⟩|⟨g1,_⟩
  ·refine ⟨h1.1,h1.2,g2.keys,g3,fun a haa=>?_⟩;unfold Dk.sync at haa;rw[if_neg (by rw[h.dead];decide),if_neg (by rw[h.stp.dead];decide)] at haa;have haa:a∈(D.synA (segA n)).map (·.1):=haa;rw[synA_keys] at haa;exact ⟨haa,fun h=>absurd h hn⟩
  ·rw[h1.1] at g1;cases g1
theorem settle_run(g:List Nat):∀ (l:List Nat) (D:Dk) (k:Nat),l.Nodup->Liv k D->(D.areas.map (·.1)).Nodup ->
  (wsettle g l D).2=0/\Liv k (wsettle g l D).1/\((wsettle g l D).1.areas.map (·.1)).Nodup/\(∀ n∈l,(wsettle g l D).1.sec (segA n)=if n∈g then fun _=>none else sySF (D.sec (segA n)))/\(∀ a,(∀ n∈l,a≠segA n)->(wsettle g l D).1.sec a=D.sec a) /\
   ∀ a∈(wsettle g l D).1.areas.map (·.1),a∈D.areas.map (·.1)/\∀ n∈l,n∈g->a≠segA n
 | [],D,k,_,h,hk=>⟨rfl,h,hk,by simp,fun _ _=>rfl,fun a ha=>⟨ha,by simp⟩⟩
 | n::r,D,k,hn,h,hk=>by
  have hn:=List.nodup_cons.1 hn;obtain ⟨h1,h2,h3,⟨h4,h5⟩,h6⟩:=set1_run h hk g n;obtain ⟨g1,g2,g3,g4,g5,g6⟩:=settle_run g r (wset1 D g n).1 k hn.2 h2 h3;unfold wsettle;rw[if_pos h1];refine ⟨g1,g2,g3,fun m hm=>?_,fun a ha=>?_,fun a ha=>?_⟩
  ·rcases List.mem_cons.1 hm with rfl|hm
   ·rw[g5 _ (fun m hm e=>hn.1 (by rw[segA_inj e];exact hm)),h4]
   ·rw[g4 m hm,h5 _ (segA_ne (fun e=>hn.1 (by rw[<-e];exact hm)))]
  ·rw[g5 a (fun m hm=>ha m (by simp[hm])),h5 a (ha n (by simp))]
  ·obtain ⟨k1,k2⟩:=g6 a ha;obtain ⟨k3,k4⟩:=h6 a k1;refine ⟨k3,fun m hm hmg=>?_⟩;rcases List.mem_cons.1 hm with rfl|hm
   ·exact k4 hmg
   ·exact k2 m hm hmg
end
section
structure Sg where
 num:Nat
 idx:Nat
 recs:List Rec
def Sg.v(s:Sg):Nat×List Rec:=(s.idx,s.recs)
def Sg.T(s:Sg):List UInt8:=segT s.idx s.recs
structure Og where
 num:Nat
 idx:Nat
 recs:List Rec
 T:List UInt8
 t0:Nat
structure DSeg (E:Dk) (S:List Sg) (op:Option Og):Prop where
 keys:∀ a∈E.areas.map (·.1),a % 4=1->(∃ s∈S,a=segA s.num)\/∃ o,op=some o/\a=segA o.num
 asc:S.Pairwise fun a b=>a.num<b.num
 bd:∀ s∈S,s.idx<=wTop/\∀ r∈s.recs,r.length<=512
 cl:∀ s∈S,SegC (E.sec (segA s.num)) s.v
 op:∀ o,op=some o->(∀ s∈S,s.num<o.num)/\o.idx<=wTop/\(∀ r∈o.recs,r.length<=512)/\SegO (E.sec (segA o.num)) o.T o.t0/\o.T <+: segT o.idx o.recs/\o.T.length<=63*65536
structure Cr (D D':Dk):Prop where
 left:D'.left = -1
 dead:D'.dead=false
 pk:∀ a,Pk (D.sec a) (D'.sec a)
 keys:∀ k∈D'.areas.map (·.1),k∈D.areas.map (·.1)
 nd:(D'.areas.map (·.1)).Nodup
 ne:∀ a,a∈D'.areas.map (·.1)↔∃ n x,D'.sec a n=some x
 pos:∀ k∈D'.areas.map (·.1),0<=k
structure CrW (D D':Dk):Prop where
 left:D'.left = -1
 dead:D'.dead=false
 pk:∀ n,Pk (D.sec (segA n)) (D'.sec (segA n))
 keys:∀ n,segA n∈D'.areas.map (·.1)->segA n∈D.areas.map (·.1)
 nd:(D'.areas.map (·.1)).Nodup
 ne:∀ n,segA n∈D'.areas.map (·.1)↔∃ k x,D'.sec (segA n) k=some x
 pos:∀ k∈D'.areas.map (·.1),0<=k
theorem Cr.w{D D':Dk}(h:Cr D D'):CrW D D':=⟨h.left,h.dead,fun n=>h.pk _,fun n=>h.keys _,h.nd,fun n=>h.ne _,h.pos⟩
theorem Cr.liv{D D':Dk}(h:Cr D D')(hr:0<=D'.room):Liv 0 D':=⟨h.left,h.dead,by simpa using hr⟩
theorem textF_none{f:SF}(h:∀ n,f n=none):textF f=[]:=wtxF_none (h _) _
theorem textF_nil{f:SF}(h:f 0=none):textF f=[]:=wtxF_none (n:=0) h _
theorem SegC.some0{f:SF}{s:Nat×List Rec}(h:SegC f s):∃ x,f 0=some x:=by
 cases hf:f 0 with
 | some x=>exact ⟨x,rfl⟩
 | none=>
  have h1:=h.rd;rw[textF_nil hf] at h1;exact absurd h1.2.1 rdT_nil
def TailOk(o:Og):Option (Nat×List Rec)->Prop
 | none=>o.t0<(uint o.idx).length
 | some (i,rs)=>i=o.idx/\∃ j,j<=o.recs.length/\rs=o.recs.take j/\∀ k,k<=o.recs.length->(segT o.idx (o.recs.take k)).length<=o.t0->k<=j
theorem tail_of{D D':Dk}{S:List Sg}{op:Option Og}(d:DSeg D S op)(c:CrW D D')(o:Og)(ho:op=some o):∃ res,TailOk o res/\Rds D' o.num res/\(segA o.num∉D'.areas.map (·.1)->res=none):=by
 obtain ⟨h1,h2,h3,h4,h5,h6⟩:=d.op o ho;obtain ⟨m,m1,m2,m3⟩:=h4.crash h6 (c.pk o.num)
 have hT:wtext D' o.num=(segT o.idx o.recs).take m:=by
  rw[wtext_F,m3];obtain ⟨r,hr⟩:=h5;rw[<-hr,List.take_append_of_le_length m1]
 by_cases hk:segA o.num∈D'.areas.map (·.1)
 ·rcases rdT_take (i:=o.idx) (rs:=o.recs) m h2 h3 with ⟨g1,g2⟩|⟨g1,j,g2,g3,g4⟩
  ·exact ⟨none,by unfold TailOk;dsimp only;omega,by unfold Rds;rw[hT];exact g2,fun _=>I⟩
  ·exact ⟨some (o.idx,o.recs.take j),⟨I,j,g2,I,fun k hk1 hk2=>g4 k hk1 qo⟩,by unfold Rds;rw[hT];exact g3,fun h=>absurd hk h⟩
 ·have hn:∀ n,D'.sec (segA o.num) n=none:=by
   intro n;cases hx:D'.sec (segA o.num) n with
   | none=>rfl
   | some x=>exact absurd ((c.ne _).2 ⟨n,x,hx⟩) hk
  refine ⟨none,?_,by unfold Rds;rw[wtext_F,textF_none hn];exact rdT_nil,fun _=>I⟩;rw[textF_none hn] at m3;have:=congrArg List.length m3;rw[List.length_take] at this;have hu:=uint_pos o.idx;unfold TailOk;dsimp only;rw[List.length_nil] at this;have hle:=h4.le;omega
theorem asc_eq:∀ {a b:List Nat},a.Pairwise (· < ·)->b.Pairwise (· < ·)->(∀ n,n∈a↔n∈b)->a=b
 | [],[],_,_,_=>rfl
 | [],y::b,_,_,h=>by have:=(h y).2 (by simp);simp at this
 | x::a,[],_,_,h=>by have:=(h x).1 (by simp);simp at this
 | x::a,y::b,ha,hb,h=>by
  have ha:=List.pairwise_cons.1 ha;have hb:=List.pairwise_cons.1 hb
  have hxy:x=y:=by
   rcases List.mem_cons.1 ((h x).1 (by simp)) with h1|h1
   ·exact h1
   ·rcases List.mem_cons.1 ((h y).2 (by simp)) with h2|h2
    ·exact h2.symm
    ·have:=ha.1 y h2;have:=hb.1 x h1;omega
  subst hxy
  congr 1
  refine asc_eq ha.2 hb.2 fun n=>?_;have:=h n;simp only[List.mem_cons] at this
  constructor
  ·intro hn;rcases this.1 (.inr hn) with h1|h1
   ·subst h1;have:=ha.1 n hn;omega
   ·exact h1
  ·intro hn;rcases this.2 (.inr hn) with h1|h1
   ·subst h1;have:=hb.1 n hn;omega
   ·exact h1
theorem wnums_asc{D:Dk}(h:(D.areas.map (·.1)).Nodup)(h0:∀ k∈D.areas.map (·.1),0<=k):(wnums (areasL D)).Pairwise (· < ·):=by
 have hp:∀ k∈areasL D,k∈D.areas.map (·.1):=fun k hk=>(srtI_perm _).mem_iff.1 hk;have h1:(wnums (areasL D)).Nodup:=wnums_nodup ((srtI_perm _).symm.nodup h) (fun k hk=>h0 k (hp k hk))
 have h2:(wnums (areasL D)).Pairwise (· <= ·):=by
  unfold wnums;rw[List.pairwise_map];exact ((srtI_srt (D.areas.map (·.1))).filter _).imp fun {a b} hab=>Nat.div_le_div_right (show a.toNat<=b.toNat by omega)
 have h3:=List.nodup_iff_pairwise_ne.1 h1;exact (h2.and h3).imp fun ⟨a,b⟩=>by omega
theorem wnums_iff{D:Dk}(h0:∀ k∈D.areas.map (·.1),0<=k)(n:Nat):n∈wnums (areasL D)↔segA n∈D.areas.map (·.1):=by
 have hp:∀ k,k∈areasL D↔k∈D.areas.map (·.1):=fun k=>(srtI_perm _).mem_iff
 constructor
 ·intro h;obtain ⟨a,h1,h2,h3⟩:=wnums_mem h;have h4:=(hp a).1 h1;have h5:=h0 a h4;have:a=segA n:=by unfold segA;omega
  rw[<-this];exact h4
 ·intro h;unfold wnums;refine List.mem_map.2 ⟨segA n,List.mem_filter.2 ⟨(hp _).2 h,by unfold segA;rw[decide_eq_true_eq];omega⟩,by unfold segA;omega⟩
theorem crash_list{D D':Dk}{S:List Sg}{op:Option Og}(d:DSeg D S op)(c:CrW D D'):
  ∃ l:List (Nat×Option (Nat×List Rec)),wnums (areasL D')=l.map (·.1)/\(∀ x∈l,Rds D' x.1 x.2) /\
   ((op=none/\l=S.map fun s=>(s.num,some s.v))\/∃ o res,op=some o/\TailOk o res/\(l=(S.map fun s=>(s.num,some s.v))++[(o.num,res)]\/(l=(S.map fun s=>(s.num,some s.v))/\res=none))):=by
 have hcl:∀ s∈S,D'.sec (segA s.num)=D.sec (segA s.num):=fun s hs=>(d.cl s hs).crash (c.pk _)
 have hin:∀ s∈S,segA s.num∈D'.areas.map (·.1):=fun s hs=>by
  obtain ⟨x,hx⟩:=(d.cl s hs).some0;exact (c.ne _).2 ⟨0,x,by rw[hcl s hs];exact hx⟩
 have hR:∀ s∈S,Rds D' s.num (some s.v):=fun s hs=>by unfold Rds;rw[wtext_F,hcl s hs];exact (d.cl s hs).rd
 have hasc:=wnums_asc c.nd c.pos
 have hSasc:((S.map fun s=>(s.num,some s.v)).map (·.1):List Nat).Pairwise (· < ·):=by
  rw[List.map_map,List.pairwise_map];exact d.asc.imp fun h=>h
 have hSmem:∀ n,n∈((S.map fun s=>(s.num,some s.v)).map (·.1):List Nat)↔∃ s∈S,s.num=n:=by
  intro n;rw[List.map_map]
  simp
 have hRl:∀ x∈(S.map fun s=>(s.num,some s.v)),Rds D' x.1 x.2:=by
  intro x hx;obtain ⟨s,hs,rfl⟩:=List.mem_map.1 hx;exact hR s hs
 cases hop:op with
 | none=>
  refine ⟨_,asc_eq hasc hSasc fun n=>?_,hRl,.inl ⟨I,I⟩⟩;rw[wnums_iff c.pos,hSmem]
  constructor
  ·intro h;rcases d.keys _ (c.keys _ h) (by unfold segA;omega) with ⟨s,hs,e⟩|⟨o,ho,_⟩
   ·exact ⟨s,hs,(segA_inj e).symm⟩
   ·rw[hop] at ho;cases ho
  ·rintro ⟨s,hs,rfl⟩;exact hin s hs
 | some o=>
  obtain ⟨res,t1,t2,t3⟩:=tail_of d c o hop;obtain ⟨hlt,_⟩:=d.op o hop
  by_cases hk:segA o.num∈D'.areas.map (·.1)
  ·refine ⟨(S.map fun s=>(s.num,some s.v))++[(o.num,res)],asc_eq hasc ?_ fun n=>?_,?_,.inr ⟨o,res,I,t1,.inl I⟩⟩
   ·rw[List.map_append,List.pairwise_append];refine ⟨hSasc,by simp,fun a ha b hb=>?_⟩;obtain ⟨s,hs,rfl⟩:=(hSmem a).1 ha;simp only[List.map_cons,List.map_nil,List.mem_singleton] at hb;rw[hb];exact hlt s hs
   ·rw[wnums_iff c.pos,List.map_append,List.mem_append,hSmem]
    constructor
    ·intro h;rcases d.keys _ (c.keys _ h) (by unfold segA;omega) with ⟨s,hs,e⟩|⟨o',ho,e⟩
     ·exact .inl ⟨s,hs,(segA_inj e).symm⟩
     ·rw[hop] at ho;cases ho;exact .inr (by simp[segA_inj e])
    ·rintro (⟨s,hs,rfl⟩|h)
     ·exact hin s hs
     ·simp only[List.map_cons,List.map_nil,List.mem_singleton] at h;rw[h];exact hk
   ·intro x hx;rcases List.mem_append.1 hx with hx|hx
    ·exact hRl x hx
    ·simp only[List.mem_singleton] at hx;rw[hx];exact t2
  ·refine ⟨_,asc_eq hasc hSasc fun n=>?_,hRl,.inr ⟨o,res,I,t1,.inr ⟨I,t3 hk⟩⟩⟩;rw[wnums_iff c.pos,hSmem]
   constructor
   ·intro h;rcases d.keys _ (c.keys _ h) (by unfold segA;omega) with ⟨s,hs,e⟩|⟨o',ho,e⟩
    ·exact ⟨s,hs,(segA_inj e).symm⟩
    ·rw[hop] at ho;cases ho;exact absurd (by rw[<-segA_inj e];exact h) hk
   ·rintro ⟨s,hs,rfl⟩;exact hin s hs
end
section
def TailO(op:Option Og)(t:Option (Nat×List Rec)):Prop:=match op with
 | none=>t=none
 | some o=>TailOk o t
def tlS(op:Option Og)(t:Option (Nat×List Rec)):List Sg:=match op,t with
 | some o,some (i,rs)=>[⟨o.num,i,rs⟩]
 | _,_=>[]
theorem tlS_mem{op:Option Og}{t:Option (Nat×List Rec)}{b:Sg}(h:b∈tlS op t):∃ o,op=some o/\b.num=o.num:=by
 cases op with
 | none=>simp[tlS] at h
 | some o=>cases t with
  | none=>simp[tlS] at h
  | some x=>
   obtain ⟨i,rs⟩:=x;simp only[tlS,List.mem_singleton] at h;exact ⟨o,I,by rw[h]⟩
theorem segsOf_map{fr:Nat}:∀ (S:List Sg),(∀ s∈S,fr<=s.num)->segsOf fr (S.map fun s=>(s.num,some s.v))=S.map fun s=>(s.num,s.idx,s.recs)
 | [],_=>rfl
 | s::S,h=>by
  rw[List.map_cons,segsOf_cons];dsimp only;rw[if_neg (by have:=h s (by simp);omega)];simp only[Option.map_some,List.map_cons];rw[segsOf_map S (fun x hx=>h x (by simp[hx]))]
  rfl
theorem segsOf_app(fr:Nat)(a b:List (Nat×Option (Nat×List Rec))):segsOf fr (a++b)=segsOf fr a++segsOf fr b:=by simp[segsOf]
theorem segsOf_low{fr:Nat}{l:List (Nat×Option (Nat×List Rec))}(h:∀ x∈l,x.1<fr):segsOf fr l=[]:=by
 unfold segsOf;rw[List.filterMap_eq_nil_iff];intro x hx;rw[if_pos (h x hx)]
theorem fx_sySF{f:SF}(h:Fx f):sySF f=f:=(h.pk (f':=sySF f) (by
 intro n;unfold PkS sySF;cases hf:f n with
 | none=>rfl
 | some s=>
  obtain ⟨h1,v,h2⟩:=h n s hf;exact .inr ⟨v,by rw[h2];simp,by simp[secS,h2]⟩))
theorem wnext_bd{l:List Int}{M:Nat}(h:∀ n∈wnums l,n<M):wnext l<=M:=by
 have:∀ (q:List Nat) (z:Nat),z<=M->(∀ n∈q,n<M)->q.foldl (fun _ n=>n+1) z<=M:=by
  intro q
  induction q with
  | nil=>intro z hz _;exact hz
  | cons a q ih=>intro z _ hq;exact ih (a+1) (hq a (by simp)) (fun n hn=>hq n (by simp[hn]))
 exact this _ 0 (Nat.zero_le _) h
structure Wop (W:Wl) (E:Dk) (S:List Sg) (fr M:Nat):Prop where
 op:W.op=none
 code:W.code=0
 old:W.old=S.map fun s=>(s.num,s.idx)
 lt:∀ s∈S,s.num<W.next
 frn:fr<=W.next
 next:W.next<=M
 seg:DSeg E S none
 vw:VW W (scanV none (S.map Sg.v))
theorem wOpen_crash{D F:Dk}{S:List Sg}{op:Option Og}(d:DSeg D S op)(c:CrW D F)(hr:0<=F.room){fr first M:Nat}(hfirst:first<=wTop)(hM:M<=wMany)(hfM:fr<=M)
  (hS:∀ s∈S,s.num<M) (ho:∀ o,op=some o->o.num<M)
  (hfr:((∀ s∈S,fr<=s.num)/\(∀ o,op=some o->fr<=o.num)/\∀ t,TailO op t->okS none (S.map Sg.v++t.toList))\/((∀ s∈S,s.num<fr)/\∀ o,op=some o->o.num<fr)):
  ∃ S' W E,((∃ t,TailO op t/\S'=S++tlS op t/\(∀ s∈S,fr<=s.num)/\∀ o,op=some o->fr<=o.num)\/(S'=[]/\(∀ s∈S,s.num<fr)/\∀ o,op=some o->o.num<fr))/\wOpen F fr first=(some W,E,0)/\Wop W E S' fr M/\(S'=[]->W.first=first/\W.recs=[])/\Liv 0 E/\(E.areas.map (·.1)).Nodup /\
   (∀ a,a % 4≠1->E.sec a=F.sec a)/\∀ a∈E.areas.map (·.1),a∈F.areas.map (·.1):=by
 obtain ⟨l,hl,hR,hsh⟩:=crash_list d c;have hliv:Liv 0 F:=⟨c.left,c.dead,by simpa using hr⟩
 have hlM:∀ n∈wnums (areasL F),n<M:=by
  intro n hn;rw[wnums_iff c.pos] at hn;rcases d.keys _ (c.keys n hn) (by unfold segA;omega) with ⟨s,hs,e⟩|⟨o,h1,e⟩
  ·rw[segA_inj e];exact hS s hs
  ·rw[segA_inj e];exact ho o h1
 have hnx:=wnext_bd hlM;have hnd:=wnums_nodup ((srtI_perm _).symm.nodup c.nd) (fun k hk=>c.pos k ((srtI_perm _).mem_iff.1 hk))
 obtain ⟨S',hS',hseg,hex,hsub⟩:∃ S':List Sg,((∃ t,TailO op t/\S'=S++tlS op t/\(∀ s∈S,fr<=s.num)/\∀ o,op=some o->fr<=o.num)\/(S'=[]/\(∀ s∈S,s.num<fr)/\∀ o,op=some o->o.num<fr))/\segsOf fr l=(S'.map fun s=>(s.num,s.idx,s.recs))/\okS none (S'.map Sg.v) /\
   (∀ s∈S',(s∈S\/∃ o t,op=some o/\TailOk o (some t)/\s=⟨o.num,t.1,t.2⟩)/\fr<=s.num/\(s.num,some s.v)∈l):=by
  rcases hfr with ⟨h1,h2,h3⟩|⟨h1,h2⟩
  ·rcases hsh with ⟨hop,rfl⟩|⟨o,res,hop,ht,hsh⟩
   ·refine ⟨S,.inl ⟨none,by unfold TailO;rw[hop],by simp[tlS,hop],h1,h2⟩,segsOf_map S h1,?_,fun s hs=>⟨.inl hs,h1 s hs,List.mem_map.2 ⟨s,hs,rfl⟩⟩⟩;have:=h3 none (by unfold TailO;rw[hop]);simpa using this
   ·have hto:TailO op res:=by unfold TailO;rw[hop];exact ht
    have hk:=h3 res hto;have hemp:∀ res':Option (Nat×List Rec),res'=none->okS none (S.map Sg.v++res'.toList)->okS none (S.map Sg.v):=fun r h1 h2=>by subst h1;simpa using h2
    rcases hsh with rfl|⟨rfl,rfl⟩
    ·cases res with
     | none=>
      refine ⟨S,.inl ⟨none,hto,by simp[tlS,hop],h1,h2⟩,?_,hemp none I hk,fun s hs=>⟨.inl hs,h1 s hs,List.mem_append.2 (.inl (List.mem_map.2 ⟨s,hs,I⟩))⟩⟩;rw[segsOf_app,segsOf_map S h1,segsOf_cons];simp[segsOf]
     | some t=>
      obtain ⟨i,rs⟩:=t;refine ⟨S++[⟨o.num,i,rs⟩],.inl ⟨some (i,rs),hto,by simp[tlS,hop],h1,h2⟩,?_,?_,fun s hs=>?_⟩
      ·rw[segsOf_app,segsOf_map S h1,segsOf_cons];dsimp only;rw[if_neg (by have:=h2 o hop;omega)];simp[segsOf]
      ·simpa[Sg.v] using hk
      ·rcases List.mem_append.1 hs with hs|hs
       ·exact ⟨.inl hs,h1 s hs,List.mem_append.2 (.inl<|List.mem_map.2 ⟨s,hs,I⟩)⟩
       ·simp only[List.mem_singleton] at hs;subst hs;exact ⟨.inr ⟨o,(i,rs),hop,ht,I⟩,h2 o hop,List.mem_append.2 (.inr (by simp[Sg.v]))⟩
    ·exact ⟨S,.inl ⟨none,hto,by simp[tlS,hop],h1,h2⟩,segsOf_map S h1,hemp none I hk,fun s hs=>⟨.inl hs,h1 s hs,List.mem_map.2 ⟨s,hs,I⟩⟩⟩
  ·refine ⟨[],.inr ⟨I,h1,h2⟩,segsOf_low ?_,trivial,by simp⟩;intro x hx
   have hm:∀ y∈(S.map fun s=>(s.num,some s.v)),y.1<fr:=by
    intro y hy;obtain ⟨s,hs,rfl⟩:=List.mem_map.1 hy;exact h1 s hs
   rcases hsh with ⟨_,rfl⟩|⟨o,res,hop,_,rfl|⟨rfl,_⟩⟩
   ·exact hm x hx
   ·rcases List.mem_append.1 hx with hx|hx
    ·exact hm x hx
    ·simp only[List.mem_singleton] at hx;rw[hx];exact h2 o hop
   ·exact hm x hx
 have hw0:VW (wl0 fr first (areasL F)) none:=.inl ⟨rfl,rfl⟩;have hv2:(segsOf fr l).map (·.2)=S'.map Sg.v:=by rw[hseg,List.map_map];rfl
 obtain ⟨W,g,r1,r2,r3,r4,r5,r6,r7,r8⟩:=wscan_run (D:=F) (fr:=fr) l (wl0 fr first (areasL F)) none [] (fun x hx _=>hR x hx) hw0 (by simp[wl0];omega) (by rw[hv2];exact hex);rw[hv2] at r2;obtain ⟨s1,s2,s3,s4,s5,s6⟩:=settle_run g (wnums (areasL F)) F 0 hnd hliv c.nd;have hnw:(wl0 fr first (areasL F)).next<=M:=by unfold wl0;exact Nat.max_le.2 ⟨hnx,hfM⟩
 have hold:W.old=S'.map fun s=>(s.num,s.idx):=by
  rw[r3,hseg,List.map_map]
  rfl
 have hkeep:∀ s∈S',s.num∈wnums (areasL F)/\s.num∉g:=by
  intro s hs;obtain ⟨_,h2,h3⟩:=hsub s hs;refine ⟨by rw[hl];exact List.mem_map.2 ⟨_,h3,I⟩,fun hg=>?_⟩;rcases (r8 s.num).1 hg with h|⟨x,hx,h4,h5⟩
  ·simp at h
  ·have hx2:x=(s.num,some s.v):=by
    have hnl:(l.map (·.1)).Nodup:=by rw[<-hl];exact hnd
    have:∀ (q:List (Nat×Option (Nat×List Rec))),(q.map (·.1)).Nodup->∀ a∈q,∀ b∈q,a.1=b.1->a=b:=by
     intro q
     induction q with
     | nil=>intro _ a ha;simp at ha
     | cons y q ih=>
      intro hn a ha b hb e;simp only[List.map_cons,List.nodup_cons] at hn;rcases List.mem_cons.1 ha with h1|h1
      ·rcases List.mem_cons.1 hb with h2|h2
       ·rw[h1,h2]
       ·exact (hn.1<|List.mem_map.2 ⟨b,h2,by rw[<-e,h1]⟩).elim
      ·rcases List.mem_cons.1 hb with h2|h2
       ·exact (hn.1<|List.mem_map.2 ⟨a,h1,by rw[e,h2]⟩).elim
       ·exact ih hn.2 a h1 b h2 e
    exact this l hnl x hx _ h3 h4
   rw[hx2] at h5;rcases h5 with h5|h5
   ·omega
   ·cases h5
 have hgone:∀ x∈l,(∀ s∈S',s.num≠x.1)->x.1∈g:=by
  intro x hx hn;refine (r8 x.1).2 (.inr ⟨x,hx,I,?_⟩)
  by_cases h1:x.1<fr
  ·exact .inl h1
  ·right
   cases h2:x.2 with
   | none=>rfl
   | some t=>
    exfalso
    have:(x.1,t.1,t.2)∈segsOf fr l:=by
     unfold segsOf;refine List.mem_filterMap.2 ⟨x,hx,?_⟩;rw[if_neg h1,h2]
     rfl
    rw[hseg] at this;obtain ⟨s,hs,e⟩:=List.mem_map.1 this;exact hn s hs (Prod.mk.inj e).1
 have hcl:∀ s∈S',(wsettle g (wnums (areasL F)) F).1.sec (segA s.num)=F.sec (segA s.num)/\SegC (F.sec (segA s.num)) s.v:=by
  intro s hs;obtain ⟨h1,h2,h3⟩:=hsub s hs;have h4:=hkeep s hs;have hfx:Fx (F.sec (segA s.num)):=(c.pk s.num).fx;refine ⟨by rw[s4 s.num h4.1,if_neg h4.2,fx_sySF hfx],hfx,?_⟩;have:=hR _ h3;unfold Rds at this;rw[wtext_F] at this;exact this
 refine ⟨S',W,(wsettle g (wnums (areasL F)) F).1,hS',?_,⟨r4,r6,hold,?_,by rw[r5];unfold wl0;exact Nat.le_max_right _ _,by rw[r5];exact hnw,?_,r2⟩,fun h=>r7 (by rw[hseg,h];rfl),s2,s3,fun a ha=>s5 a (fun n _ e=>ha (by rw[e];unfold segA;omega)),fun a ha=>(s6 a ha).1⟩
 ·unfold wOpen;rw[if_neg (by rw[c.dead];decide),if_neg qo,if_neg (by unfold wMany at hM ⊢;omega),hl,r1,if_neg (by simp),<-hl,if_neg (by rw[s1];simp)]
 ·intro s hs;rw[r5];have h4:=(hkeep s hs).1;have:=wnums_lt (l:=areasL F) (srtI_srt _) s.num h4;unfold wl0;dsimp only;have h5:wnext (areasL F)<=max (wnext (areasL F)) fr:=Nat.le_max_left _ _;omega
 ·refine ⟨fun a ha h1=>.inl ?_,?_,fun s hs=>?_,fun s hs=>by rw[(hcl s hs).1];exact (hcl s hs).2,fun o h=>by cases h⟩
  ·obtain ⟨k1,k2⟩:=s6 a ha;have ha0:=c.pos a k1;have hseg:a=segA (a.toNat / 4):=by unfold segA;omega
   have hin:a.toNat / 4∈wnums (areasL F):=by rw[wnums_iff c.pos,<-hseg];exact k1
   have hng:a.toNat / 4∉g:=fun hg=>k2 _ hin hg hseg;rw[hl] at hin;obtain ⟨x,hx,e⟩:=List.mem_map.1 hin
   by_cases hex2:∃ s∈S',s.num=x.1
   ·obtain ⟨s,hs,e2⟩:=hex2;exact ⟨s,hs,by rw[hseg,<-e,e2]⟩
   ·exact absurd (by rw[<-e];exact hgone x hx (fun s hs h=>hex2 ⟨s,hs,h⟩)) hng
  ·have hasc:=wnums_asc c.nd c.pos;rcases hS' with ⟨t,ht,rfl,_⟩|⟨rfl,_⟩
   ·rw[List.pairwise_append];refine ⟨d.asc,?_,fun a ha b hb=>?_⟩
    ·unfold tlS
     split <;> simp
    ·obtain ⟨o,h1,h2⟩:=tlS_mem hb;rw[h2];exact (d.op o h1).1 a ha
   ·simp
  ·rcases (hsub s hs).1 with h|⟨o,t,h1,h2,h3⟩
   ·exact d.bd s h
   ·obtain ⟨_,g2,g3,_⟩:=d.op o h1;obtain ⟨k1,j,k2,k3,_⟩:=h2;subst h3;exact ⟨by dsimp only;rw[k1];exact g2,fun r hr=>g3 r (by dsimp only at hr;rw[k3] at hr;exact List.mem_of_mem_take hr)⟩
end
section
def sltRdF(f:SF)(i:Nat):Nat×List UInt8:=match rdF f i with
 | none=>(0,[])
 | some b=>sltSay b i
def sltF(f:SF):Slt:=(Slt.pick ⟨0,[]⟩ (sltRdF f 0)).pick (sltRdF f 1)
theorem sltSay_par(b:List UInt8)(i:Nat):(sltSay b i).1=0\/(sltSay b i).1 % 2=i:=by
 unfold sltSay
 split
 ·exact .inl I
 ·split
  ·rename_i h;exact .inr h.1
  ·exact .inl I
theorem sltRdF_par(f:SF)(i:Nat):(sltRdF f i).1=0\/(sltRdF f i).1 % 2=i:=by
 unfold sltRdF
 split
 ·exact .inl I
 ·exact sltSay_par _ _
theorem sltSay_sect{n:Nat}{v:List UInt8}{i:Nat}(hv:v.length<=48)(hn:n<18446744073709551616)(hi:n % 2=i):sltSay (sect n v) i=(n,v):=by
 have e0:sect n v=leB 8 n++(UInt8.ofNat v.length::(v++(List.replicate (51-v.length) 0++leB 4 (crc (sectH n v)).toNat))):=by
  unfold sect sectH;simp[List.append_assoc]
 have e1:(sect n v).getD 8 0=UInt8.ofNat v.length:=by
  rw[e0,List.getD_eq_getElem?_getD,List.getElem?_append_right (by rw[leB_length];exact Nat.le_refl _),leB_length]
  rfl
 have e2:(sect n v).take 8=leB 8 n:=by rw[e0,List.take_append_of_le_length (by rw[leB_length];exact Nat.le_refl _),List.take_of_length_le (by rw[leB_length];exact Nat.le_refl _)]
 have e3:(UInt8.ofNat v.length).toNat=v.length:=by simp;omega
 have e4:((sect n v).drop 9).take v.length=v:=by
  rw[e0,List.drop_append,List.drop_of_length_le (by rw[leB_length];decide),leB_length,List.nil_append,show 9-8=1 from rfl,List.drop_succ_cons,List.drop_zero,List.take_append_of_le_length (Nat.le_refl _),List.take_length]
 have e5:un4 (leB 8 n)=n:=un4_leB 8 n qo;unfold sltSay;rw[e1,e3,if_neg qo,e2,e5,e4,if_pos ⟨hi,rfl⟩]
theorem padS_sect{n:Nat}{v:List UInt8}(hv:v.length<=48):padS (sect n v)=sect n v:=by
 unfold padS;rw[sect_length hv]
 simp
theorem pick_even{a b:Nat×List UInt8}{n:Nat}{v:List UInt8}(ha:a.1=0\/a.1 % 2=0)(hb:b.1=0\/b.1 % 2=1)(hn:n=((Slt.pick ⟨0,[]⟩ a).pick b).num+1)(he:n % 2=0):
  (Slt.pick ⟨0,[]⟩ (n,v)).pick b=⟨n,v⟩/\∀ x:Nat×List UInt8,x.1=0->(Slt.pick ⟨0,[]⟩ x).pick b=(Slt.pick ⟨0,[]⟩ a).pick b:=by
 have hn0:Slt.pick ⟨0,[]⟩ (n,v)=⟨n,v⟩:=by unfold Slt.pick;dsimp only;rw[if_pos (show 0<n by omega)]
 have hx0:∀ x:Nat×List UInt8,x.1=0->Slt.pick ⟨0,[]⟩ x=⟨0,[]⟩:=fun x hx=>by unfold Slt.pick;dsimp only;rw[if_neg (show ¬0<x.1 by omega)]
 have hp0:(Slt.pick ⟨0,[]⟩ a).num=a.1:=by
  unfold Slt.pick;dsimp only
  split
  ·rfl
  ·dsimp only;omega
 rw[hn0];generalize Slt.pick ⟨0,[]⟩ a=p at hn hp0 ⊢;unfold Slt.pick at hn ⊢;dsimp only at hn ⊢
 by_cases h2:p.num<b.1
 ·rw[if_pos h2] at hn ⊢;dsimp only at hn;refine ⟨by rw[if_neg (show ¬n<b.1 by omega)],fun x hx=>?_⟩;have:=hx0 x hx;unfold Slt.pick at this;rw[this];dsimp only;rw[if_pos (show 0<b.1 by omega)]
 ·rw[if_neg h2] at hn;omega
theorem pick_odd{a b:Nat×List UInt8}{n:Nat}{v:List UInt8}(ha:a.1=0\/a.1 % 2=0)(hb:b.1=0\/b.1 % 2=1)(hn:n=((Slt.pick ⟨0,[]⟩ a).pick b).num+1)(he:n % 2=1):
  (Slt.pick ⟨0,[]⟩ a).pick (n,v)=⟨n,v⟩/\∀ x:Nat×List UInt8,x.1=0->(Slt.pick ⟨0,[]⟩ a).pick x=(Slt.pick ⟨0,[]⟩ a).pick b:=by
 generalize hp:Slt.pick ⟨0,[]⟩ a=p at *
 have hp0:p.num=a.1\/p.num=0:=by
  rw[<-hp];unfold Slt.pick
  split
  ·exact .inl I
  ·exact .inr I
 unfold Slt.pick at hn ⊢;dsimp only at hn ⊢
 by_cases h2:p.num<b.1
 ·rw[if_pos h2] at hn;dsimp only at hn;omega
 ·rw[if_neg h2] at hn ⊢;refine ⟨by rw[if_pos qo],fun x hx=>by rw[if_neg qo]⟩
theorem sltRdF_congr{f g:SF}{i:Nat}(h:f i=g i):sltRdF f i=sltRdF g i:=by unfold sltRdF rdF;rw[h]
theorem Fx.pk1{f:SF}(h:Fx f){n:Int}{s':Option Sec}(p:PkS (f n) s'):s'=f n:=by
 cases hf:f n with
 | none=>rw[hf] at p;exact p
 | some t=>
  rw[hf] at p;obtain ⟨h1,v,h2⟩:=h n t hf;rcases p with ⟨h3,_⟩|⟨u,hu,h3⟩
  ·rw[h1] at h3;cases h3
  ·rw[h2] at hu;simp only[List.mem_singleton] at hu;rw[h3,hu];obtain ⟨vs,sy⟩:=t;cases h1;cases h2
   rfl
def slW(f:SF)(n:Nat)(v:List UInt8):SF:=setF f ((n % 2:Nat):Int) (secW (f ((n % 2:Nat):Int)) (sect n v))
theorem slot_write{f:SF}(hf:Fx f){v:List UInt8}(hv:v.length<=48)(hn:(sltF f).num+1<18446744073709551616):
  (∀ f',Pk (slW f ((sltF f).num+1) v) f'->sltF f'=sltF f\/sltF f'=⟨(sltF f).num+1,v⟩)/\sltF (sySF (slW f ((sltF f).num+1) v))=⟨(sltF f).num+1,v⟩:=by
 have ha:=sltRdF_par f 0;have hb:=sltRdF_par f 1;obtain ⟨n,hn'⟩:∃ n,n=(sltF f).num+1:=⟨_,rfl⟩;rw[<-hn'] at hn ⊢
 have hnew:∀ (g:SF) (i:Nat) (b:Bool),n % 2=i->g i=some ⟨[padS (sect n v)],b⟩->sltRdF g i=(n,v):=by
  intro g i b hi hg;unfold sltRdF rdF;rw[hg];simp only[Option.map_some,List.getLastD_cons,List.getLastD_nil];rw[padS_sect hv];exact sltSay_sect hv hn hi
 have hnone:∀ (g:SF) (i:Nat),g i=none->(sltRdF g i).1=0:=by
  intro g i hg;unfold sltRdF rdF;rw[hg]
  rfl
 have hsec:∀ (i:Nat),n % 2=i->∀ (s':Option Sec),PkS (slW f n v i) s'->s'=f i\/s'=none\/s'=some ⟨[padS (sect n v)],true⟩:=by
  intro i hi s' hp;have e:slW f n v i=some (secW (f i) (sect n v)):=by unfold slW setF;rw[hi,if_pos rfl]
  rw[e] at hp;rcases hp with ⟨_,h⟩|⟨u,hu,h⟩
  ·exact .inr (.inl h)
  ·unfold secW at hu;rcases List.mem_append.1 hu with hu|hu
   ·cases hfi:f i with
    | none=>rw[hfi] at hu;simp at hu
    | some t=>
     rw[hfi] at hu;obtain ⟨h1,w,h2⟩:=hf _ t hfi;simp only[Option.getD_some,h2,List.mem_singleton] at hu
     left
     rw[h,hu];obtain ⟨vs,sy⟩:=t;cases h1;cases h2
     rfl
   ·simp only[List.mem_singleton] at hu;exact .inr (.inr (by rw[h,hu]))
 have hoth:∀ (i:Nat),n % 2≠i->slW f n v i=f i:=by
  intro i hi;unfold slW setF;rw[if_neg qo]
 have hsy:∀ (i:Nat),n % 2=i->sySF (slW f n v) i=some ⟨[padS (sect n v)],true⟩:=by
  intro i hi;unfold sySF slW setF;rw[hi,if_pos rfl];simp[secS,secW]
 rcases Nat.mod_two_eq_zero_or_one n with he|he
 ·obtain ⟨k1,k2⟩:=pick_even (v:=v) ha hb hn' he;refine ⟨fun f' p=>?_,?_⟩
  ·have h1:f' ((1:Nat):Int)=f ((1:Nat):Int):=hf.pk1 (by have:=p ((1:Nat):Int);rwa [hoth 1 qo] at this);have e1:sltRdF f' 1=sltRdF f 1:=sltRdF_congr h1;unfold sltF;rw[e1];rcases hsec 0 he _ (p ((0:Nat):Int)) with h|h|h
   ·left
    rw[sltRdF_congr h]
   ·left
    exact k2 _<|hnone f' 0 h
   ·right
    rw[hnew f' 0 true he h];exact k1
  ·unfold sltF;rw[hnew _ 0 true he (hsy 0 he)]
   have e1:sltRdF (sySF (slW f n v)) 1=sltRdF f 1:=by
    unfold sltRdF;rw[rdF_syn];unfold rdF;rw[hoth 1 qo]
   rw[e1];exact k1
 ·obtain ⟨k1,k2⟩:=pick_odd (v:=v) ha hb hn' he;refine ⟨fun f' p=>?_,?_⟩
  ·have h1:f' ((0:Nat):Int)=f ((0:Nat):Int):=hf.pk1 (by have:=p ((0:Nat):Int);rwa [hoth 0 qo] at this);have e1:sltRdF f' 0=sltRdF f 0:=sltRdF_congr h1;unfold sltF;rw[e1];rcases hsec 1 he _ (p ((1:Nat):Int)) with h|h|h
   ·left
    rw[sltRdF_congr h]
   ·left
    exact k2 _<|hnone f' 1 h
   ·right
    rw[hnew f' 1 true he h];exact k1
  ·unfold sltF;rw[hnew _ 1 true he (hsy 1 he)]
   have e1:sltRdF (sySF (slW f n v)) 0=sltRdF f 0:=by
    unfold sltRdF;rw[rdF_syn];unfold rdF;rw[hoth 0 qo]
   rw[e1];exact k1
theorem slot_save{n:Nat}{D:Dk}(h:Alv (n+1) D)(area:Nat)(hf:Fx (D.sec area)){S:Slt}(hS:sltF (D.sec area)=S){v:List UInt8}(hv:v.length<=48)(hn:S.num+1<18446744073709551616):
  (∀ a,a≠((area:Nat):Int)->(S.save area D v).2.1.sec a=D.sec a) /\
  (((S.save area D v).2.2=0/\(S.save area D v).1=⟨S.num+1,v⟩/\Alv n (S.save area D v).2.1/\Fx ((S.save area D v).2.1.sec area)/\sltF ((S.save area D v).2.1.sec area)=⟨S.num+1,v⟩) \/
   ((S.save area D v).2.2=30/\(S.save area D v).2.1.dead=true/\∀ f',Pk ((S.save area D v).2.1.sec area) f'->sltF f'=S\/sltF f'=⟨S.num+1,v⟩)):=by
 subst hS;obtain ⟨w1,w2⟩:=slot_write hf hv hn;have hw:=h.write area (((sltF (D.sec area)).num+1) % 2:Nat) (sect ((sltF (D.sec area)).num+1) v) qo qo (by rw[sect_length hv];exact Nat.le_refl _);unfold Slt.save;rw[if_neg qo];have e:setF (D.sec area) (((sltF (D.sec area)).num+1) % 2:Nat) (secW (D.sec area (((sltF (D.sec area)).num+1) % 2:Nat)) (sect ((sltF (D.sec area)).num+1) v))=slW (D.sec area) ((sltF (D.sec area)).num+1) v:=rfl;rw[e] at hw;generalize D.write area (((sltF (D.sec area)).num+1) % 2:Nat) (sect ((sltF (D.sec area)).num+1) v)=W at hw;obtain ⟨hor,hat,hfr⟩:=hw;rcases hor with ⟨h0,hal⟩|⟨h0,hdead⟩
 ·rw[if_pos h0];rcases hal.sync area with ⟨s1,s2,s3,s4⟩|⟨s1,s2,s3⟩
  ·rw[if_pos s1];refine ⟨fun a ha=>by rw[s4 a ha,hfr a ha],.inl ⟨s1,I,s2,?_,?_⟩⟩
   ·rw[s3];exact sySF_fx _
   ·rw[s3,hat];exact w2
  ·refine ⟨fun a ha=>by rw[s3 a,hfr a ha],.inr ⟨s1,s2,fun f' p=>?_⟩⟩;rw[s3,hat] at p;exact w1 f' p
 ·rw[if_neg (by rw[h0];decide)];refine ⟨hfr,.inr ⟨h0,hdead,fun f' p=>?_⟩⟩;rw[hat] at p;exact w1 f' p
structure DatOk (f:SF) (data:List UInt8):Prop where
 fx:Fx f
 rd:∀ n:Nat,64*n<data.length->rdF f n=some (padS ((data.drop (64*n)).take 64))
theorem rdDat_ok{D:Dk}{place:Nat}{data:List UInt8}(o:DatOk (D.sec (lgA4 place)) data):∀ (k n:Nat) (acc:List UInt8),acc=data.take (64*n)->acc.length=64*n->data.length<64*(n+k) ->
  ∃ d,rdDat D place data.length k n acc=some d/\d.take data.length=data
 | 0,n,acc,h1,h2,h3=>by
  rw[h1,List.length_take] at h2;omega
 | k+1,n,acc,h1,h2,h3=>by
  rw[rdDat_step]
  by_cases hlt:acc.length<data.length
  ·rw[if_pos hlt,read_F,o.rd n qo];dsimp only;have hc:((data.drop (64*n)).take 64).length=min 64 (data.length-64*n):=by rw[List.length_take,List.length_drop]
   by_cases hfull:64*(n+1)<=data.length
   ·have hp:padS ((data.drop (64*n)).take 64)=(data.drop (64*n)).take 64:=by unfold padS;rw[hc,show 64-min 64 (data.length-64*n)=0 by omega];simp
    rw[hp];refine rdDat_ok o k (n+1) _ ?_ (by rw[List.length_append,hc];omega) qo;rw[h1,show 64*(n+1)=64*n+64 by omega,List.take_add]
   ·have hall:acc++(data.drop (64*n)).take 64=data:=by
     rw[h1,List.take_of_length_le (l:=data.drop (64*n)) (by rw[List.length_drop];omega),List.take_append_drop]
    cases k with
    | zero=>
     refine ⟨_,I,?_⟩;unfold padS;rw[<-List.append_assoc,hall,List.take_append_of_le_length (Nat.le_refl _),List.take_length]
    | succ k=>
     rw[rdDat_step,if_neg (by rw[List.length_append];unfold padS;rw[List.length_append,hc,List.length_replicate,h2];omega)];refine ⟨_,I,?_⟩;unfold padS;rw[<-List.append_assoc,hall,List.take_append_of_le_length (Nat.le_refl _),List.take_length]
  ·rw[if_neg hlt];refine ⟨acc,I,?_⟩;rw[h1,List.take_take,List.take_of_length_le qo]
end
section
def HeadOk(S:Slt)(vot0:List Int)(sn:Snp)(place fr:Nat):Prop:=
 (S.num=0/\sn=⟨0,0,vot0,[]⟩/\place=0/\fr=0) \/
 (S.num≠0/\S.val=Lg.say sn place fr/\sn.idx<=lgTop/\sn.term<=mxU/\place<=lgTop/\sn.data.length<=2097152/\fr<=lgTop/\(putConf sn.vot).isSome=true)
theorem putConf_one{l:List Int}(h:(putConf l).isSome=true):∃ c,putConf l=some [c]:=by
 unfold putConf at h ⊢
 split at h
 ·rename_i h1;rw[if_pos h1];exact ⟨_,I⟩
 ·simp at h
theorem rdHead_ok{D:Dk}{S:Slt}{vot0:List Int}{sn:Snp}{place fr:Nat}(h:HeadOk S vot0 sn place fr)(hd:S.num≠0->DatOk (D.sec (lgA4 place)) sn.data):rdHead D S vot0=some (sn,place,fr):=by
 unfold rdHead;rcases h with ⟨h1,h2,h3,h4⟩|⟨h1,h2,h3,h4,h5,h6,h7,h8⟩
 ·rw[if_pos h1,h2,h3,h4]
 ·rw[if_neg h1];obtain ⟨c,hc⟩:=putConf_one h8;have hg:=getConf_put hc;unfold lgTop at h3 h5 h7;unfold mxU at h4
  have e1:hd1 S.val=(sn.idx,(uint sn.term++(uint place++(uint sn.data.length++(uint fr++[c]))),0)):=by
   unfold hd1;rw[h2];unfold Lg.say;rw[hc];exact rUint_uint _ qo (by unfold lgTop;omega)
  have e2:hd2 S.val=(sn.term,(uint place++(uint sn.data.length++(uint fr++[c])),0)):=by unfold hd2;rw[e1];exact rUint_uint _ qo (by unfold mxU;omega)
  have e3:hd3 S.val=(place,(uint sn.data.length++(uint fr++[c]),0)):=by unfold hd3;rw[e2];exact rUint_uint _ qo (by unfold lgTop;omega)
  have e4:hd4 S.val=(sn.data.length,(uint fr++[c],0)):=by unfold hd4;rw[e3];exact rUint_uint _ qo qo
  have e5:hd5 S.val=(fr,([c],0)):=by unfold hd5;rw[e4];exact rUint_uint _ qo (by unfold lgTop;omega)
  have e6:hd6 S.val=(c.toNat,([],0)):=by unfold hd6;rw[e5];rfl
  have e7:UInt8.ofNat c.toNat=c:=by simp
  rw[e6,e4,e3,e2,e1,e5];dsimp only;rw[e7,hg,if_neg (by rintro (h|h);exact h I;cases h)];obtain ⟨d,r1,r2⟩:=rdDat_ok (hd h1) 32769 0 [] (by simp) rfl qo;rw[r1];dsimp only;rw[r2]
  rfl
theorem rdHard_put{n t:Nat}{v:Int}(hn:n≠0)(ht:t<=mxU)(hv : -1<=v/\v<=6):rdHard ⟨n,uint t++uint (v+1).toNat⟩=some (t,v):=by
 unfold mxU at ht;unfold rdHard;rw[if_neg hn];dsimp only;have e1:=rUint_uint (m:=mxU) (n:=t) (uint (v+1).toNat) qo (by unfold mxU;omega);have e2:=rUint_uint (m:=7) (n:=(v+1).toNat) [] qo qo;rw[List.append_nil] at e2;rw[e1];dsimp only;rw[e2];dsimp only;rw[if_pos (show rEnd (([]:List UInt8),0)=0 from rfl)]
 congr 2
 omega
theorem lgFree_run(pl:Nat):∀ (l:List Int) (D:Dk),Liv 0 D->(D.areas.map (·.1)).Nodup ->
  (lgFree pl l D).2=0/\Liv 0 (lgFree pl l D).1/\((lgFree pl l D).1.areas.map (·.1)).Nodup/\(∀ a,(a % 4≠2\/a=((lgA4 pl:Nat):Int))->(lgFree pl l D).1.sec a=D.sec a/\(a∈(lgFree pl l D).1.areas.map (·.1)↔a∈D.areas.map (·.1))) /\
   ∀ a∈(lgFree pl l D).1.areas.map (·.1),a∈D.areas.map (·.1)
 | [],D,h,hk=>⟨rfl,h,hk,fun a _=>⟨rfl,Iff.rfl⟩,fun a ha=>ha⟩
 | b::r,D,h,hk=>by
  rw[lgFree_cons]
  by_cases hb:b % 4=2/\b≠((lgA4 pl:Nat):Int)
  ·rw[if_pos hb];have h1:=h.free b;have ha:Alv 0 D:=⟨by rw[h.left];decide,h.dead,by have:=h.room;omega,hk⟩;rw[if_neg (by rw[h1.1];simp)];rcases ha.free b with ⟨_,g2,g3,g4⟩|⟨g1,_⟩
   ·obtain ⟨r1,r2,r3,r4,r5⟩:=lgFree_run pl r _ h1.2 g2.keys
    have hmk:(D.free b).1.areas=mdel b D.areas:=by
     unfold Dk.free;rw[if_neg (by rw[h.dead];decide),if_neg (by rw[h.stp.dead];decide)]
    refine ⟨r1,r2,r3,fun a hor=>?_,fun a ha=>?_⟩
    ·obtain ⟨k1,k2⟩:=r4 a hor
     have hne:a≠b:=by
      rintro rfl;rcases hor with h|h
      ·exact h hb.1
      ·exact hb.2 h
     refine ⟨by rw[k1,g4 a hne],k2.trans ?_⟩;rw[hmk]
     constructor
     ·intro hm;exact ((mdel_sub (k:=b) D.areas).map (·.1)).subset hm
     ·intro hm;have hx:=mget_mdel b a D.areas hk;rw[if_neg hne] at hx;cases hy:mget a D.areas with
      | none=>exact absurd hm (mget_none.1 hy)
      | some v=>rw[hy] at hx;exact List.mem_map.2 ⟨_,mget_mem hx,I⟩
    ·have:=r5 a ha;rw[hmk] at this;exact ((mdel_sub (k:=b) D.areas).map (·.1)).subset this
   ·rw[h1.1] at g1;cases g1
  ·rw[if_neg hb];exact lgFree_run pl r D h hk
def GoodL(sn:Snp)(l:List Ent):Prop:=folR sn.idx sn.term l=0/\∀ e∈l,entG e
theorem getEnt_bytes{e:Ent}(h:entG e):getEnt e.bytes=some e:=getEnt_put h.2.1 h.2.2 (putEnt_eq h.1)
theorem rdE_bytes:∀ (l:List Ent) (i t:Nat),folR i t l=0->(∀ e∈l,entG e)->rdE (i+1) (l.map Ent.bytes)=some l
 | [],_,_,_,_=>rfl
 | e::l,i,t,h,hg=>by
  obtain ⟨h1,_,h3⟩:=folR_ok h;rw[List.map_cons,rdE_cons,getEnt_bytes (hg e (by simp))];dsimp only;have:=rdE_bytes l e.idx e.term h3 (fun x hx=>hg x (by simp[hx]));rw[h1] at this;rw[if_pos h1,this]
  rfl
def LV(sn:Snp):Vl->List Ent->Prop
 | none,l=>l=[]
 | some (f,r),l=>f<=sn.idx+1/\sn.idx+1<=f+r.length/\r.drop (sn.idx+1-f)=l.map Ent.bytes
theorem rdEnts_ok{sn:Snp}{W:Wl}{v:Vl}{l:List Ent}(hv:VW W v)(hn:v=none->W.first=sn.idx+1/\W.recs=[])(hl:LV sn v l)(hg:GoodL sn l):rdEnts sn W=some l:=by
 unfold rdEnts;rcases hv with ⟨rfl,hold⟩|⟨hold,rfl⟩
 ·obtain ⟨h1,h2⟩:=hn rfl;have hl:l=[]:=hl;rw[h1,h2,hl];rw[if_neg (by simp)];simp[rdE]
 ·obtain ⟨h1,h2,h3⟩:=hl;rw[if_neg qo,h3];exact rdE_bytes l _ _ hg.1 hg.2
def opL(op:Option Og):List Sg:=match op with
 | none=>[]
 | some o=>[⟨o.num,o.idx,o.recs⟩]
structure LInv (vot0:List Int) (M:Nat) (L:Lg) (D:Dk) (S:List Sg) (op:Option Og):Prop where
 code:L.code=0
 wcode:L.w.code=0
 old:L.w.old=(S++opL op).map fun s=>(s.num,s.idx)
 seg:DSeg D S op
 opn:op=none->L.w.op=none
 ops:∀ o,op=some o->∃ q,L.w.op=some q/\q.num=o.num/\o.T=segT o.idx o.recs/\o.T.length=63*q.full+q.rest.length/\q.rest=o.T.drop (63*q.full)/\q.rest.length<=62/\q.full<=24
 lt:∀ s∈S++opL op,s.num<L.w.next
 frS:∀ s∈S++opL op,L.fr<=s.num
 frn:L.fr<=L.w.next
 next:L.w.next<=M
 ok:okS none ((S++opL op).map Sg.v)
 val:(S++opL op=[]/\L.w.recs=[]/\L.w.first=L.sn.idx+1/\L.l=[])\/∃ f r,scanV none ((S++opL op).map Sg.v)=some (f,r)/\f<=L.w.first/\L.w.first<=L.sn.idx+1/\L.sn.idx+1<=f+r.length/\L.w.recs=r.drop (L.w.first-f)/\r.drop (L.sn.idx+1-f)=L.l.map Ent.bytes
 hardF:Fx (D.sec 0)
 hardS:sltF (D.sec 0)=L.hard
 hardV:rdHard L.hard=some (L.kt,L.kv)
 headF:Fx (D.sec 4)
 headS:sltF (D.sec 4)=L.head
 headV:HeadOk L.head vot0 L.sn L.place L.fr
 dat:L.head.num≠0->DatOk (D.sec (lgA4 L.place)) L.sn.data
 good:GoodL L.sn L.l
theorem scanV_none:∀ (l:List (Nat×List Rec)) (v:Vl),v≠none->scanV v l≠none
 | [],v,h=>h
 | s::l,v,h=>scanV_none l _ (by simp)
def WFound(D:Dk)(fr M:Nat)(sn:Snp)(Q:List Ent->Prop):Prop:=
 ∀ F,CrW D F->0<=F.room->∃ S' W E l,wOpen F fr (sn.idx+1)=(some W,E,0)/\Wop W E S' fr M/\(S'=[]->W.first=sn.idx+1/\W.recs=[])/\Liv 0 E/\(E.areas.map (·.1)).Nodup/\(∀ a,a % 4≠1->E.sec a=F.sec a)/\(∀ a∈E.areas.map (·.1),a∈F.areas.map (·.1)) /\
  Q l/\GoodL sn l/\LV sn (scanV none (S'.map Sg.v)) l/\okS none (S'.map Sg.v)/\∀ s∈S',fr<=s.num
theorem WFound.frame{D E:Dk}{fr M:Nat}{sn:Snp}{Q:List Ent->Prop}(h:WFound D fr M sn Q)(hs:∀ n,E.sec (segA n)=D.sec (segA n))(hk:∀ n,segA n∈E.areas.map (·.1)->segA n∈D.areas.map (·.1)):WFound E fr M sn Q:=
 fun F c hr=>h F ⟨c.left,c.dead,fun n=>by rw[<-hs];exact c.pk n,fun n hn=>hk n (c.keys n hn),c.nd,c.ne,c.pos⟩ hr
theorem WFound.imp{D:Dk}{fr M:Nat}{sn:Snp}{Q Q':List Ent->Prop}(h:WFound D fr M sn Q)(hq:∀ l,Q l->Q' l):WFound D fr M sn Q':=fun F c hr=>by
 obtain ⟨S',W,E,l,h1,h2,h3,h4,h5,h6,h7,h8,h9⟩:=h F c hr;exact ⟨S',W,E,l,h1,h2,h3,h4,h5,h6,h7,hq l h8,h9⟩
def PosS(S:List Sg)(op:Option Og)(sn:Snp)(Q:List Ent->Prop):Prop:=∀ t,TailO op t->okS none (S.map Sg.v++t.toList)/\∃ l,Q l/\GoodL sn l/\LV sn (scanV none (S.map Sg.v++t.toList)) l
theorem tl_v{S:List Sg}{op:Option Og}{t:Option (Nat×List Rec)}(h:TailO op t):(S++tlS op t).map Sg.v=S.map Sg.v++t.toList:=by
 cases op with
 | none=>
  have:t=none:=h;subst this;simp[tlS]
 | some o=>cases t with
  | none=>simp[tlS]
  | some x=>simp[tlS,Sg.v]
theorem wfound_seg{D:Dk}{S:List Sg}{op:Option Og}(d:DSeg D S op){sn:Snp}{fr M:Nat}(hidx:sn.idx<=lgTop)(hM:M<=wMany)(hfM:fr<=M)(hS:∀ s∈S,fr<=s.num/\s.num<M)(ho:∀ o,op=some o->fr<=o.num/\o.num<M){Q:List Ent->Prop}(hp:PosS S op sn Q):WFound D fr M sn Q:=by
 intro F c hr;obtain ⟨S',W,E,w1,w2,w3,w4,w5,w6,w7,w8⟩:=wOpen_crash d c hr (fr:=fr) (first:=sn.idx+1) (M:=M) (by unfold lgTop at hidx;unfold wTop;omega) hM hfM (fun s hs=>(hS s hs).2) (fun o h=>(ho o h).2) (.inl ⟨fun s hs=>(hS s hs).1,fun o h=>(ho o h).1,fun t ht=>(hp t ht).1⟩);rcases w1 with ⟨t,ht,rfl,_,_⟩|⟨rfl,h1,h2⟩
 ·obtain ⟨k1,l,k2,k3,k4⟩:=hp t ht;refine ⟨_,W,E,l,w2,w3,w4,w5,w6,w7,w8,k2,k3,by rw[tl_v ht];exact k4,by rw[tl_v ht];exact k1,fun s hs=>?_⟩;rcases List.mem_append.1 hs with hs|hs
  ·exact (hS s hs).1
  ·obtain ⟨o,g1,g2⟩:=tlS_mem hs;rw[g2];exact (ho o g1).1
 ·have hSn:S=[]:=by
   rw[List.eq_nil_iff_forall_not_mem];intro s hs;have:=h1 s hs;have:=(hS s hs).1;omega
  have hop:op=none:=by
   cases op with
   | none=>rfl
   | some o=>
    have:=h2 o rfl;have:=(ho o rfl).1;omega
  subst hSn;subst hop;obtain ⟨_,l,k2,k3,k4⟩:=hp none rfl;have:l=[]:=k4;subst this;exact ⟨[],W,E,[],w2,w3,w4,w5,w6,w7,w8,k2,k3,I,trivial,by simp⟩
theorem wfound_void{D:Dk}{sn:Snp}{fr M:Nat}(hidx:sn.idx<=lgTop)(hM:M<=wMany)(hfM:fr<=M)(hk:∀ n,segA n∈D.areas.map (·.1)->n<fr){Q:List Ent->Prop}(hQ:Q []):WFound D fr M sn Q:=by
 intro F c hr;have hliv:Liv 0 F:=⟨c.left,c.dead,by simpa using hr⟩
 have hlt:∀ n∈wnums (areasL F),n<fr:=fun n hn=>by
  rw[wnums_iff c.pos] at hn;exact hk n (c.keys n hn)
 have hnd:=wnums_nodup ((srtI_perm _).symm.nodup c.nd) (fun k hk=>c.pos k ((srtI_perm _).mem_iff.1 hk));have hnx:=wnext_bd hlt
 have hlow:segsOf fr ((wnums (areasL F)).map fun n=>((n,none):Nat×Option (Nat×List Rec)))=[]:=by
  refine segsOf_low ?_;intro x hx;obtain ⟨n,hn,rfl⟩:=List.mem_map.1 hx;exact hlt n hn
 obtain ⟨W,g,r1,r2,r3,r4,r5,r6,r7,r8⟩:=wscan_run (D:=F) (fr:=fr) ((wnums (areasL F)).map fun n=>(n,none)) (wl0 fr (sn.idx+1) (areasL F)) none [] (fun x hx h=>by
  obtain ⟨n,hn,rfl⟩:=List.mem_map.1 hx;have:=hlt n hn;dsimp only at h;omega) (.inl ⟨rfl,rfl⟩) (by unfold lgTop at hidx;simp[wl0];unfold wTop;omega) (by rw[hlow];trivial)
 rw[hlow] at r2 r3 r7;have e:((wnums (areasL F)).map fun n=>((n,none):Nat×Option (Nat×List Rec))).map (·.1)=wnums (areasL F):=by rw[List.map_map];exact List.map_id _
 rw[e] at r1;obtain ⟨s1,s2,s3,s4,s5,s6⟩:=settle_run g (wnums (areasL F)) F 0 hnd hliv c.nd;have hnw:(wl0 fr (sn.idx+1) (areasL F)).next<=M:=by unfold wl0;exact Nat.max_le.2 ⟨by omega,hfM⟩
 have hg:∀ n∈wnums (areasL F),n∈g:=fun n hn=>(r8 n).2 (.inr ⟨(n,none),List.mem_map.2 ⟨n,hn,rfl⟩,rfl,.inr rfl⟩);refine ⟨[],W,(wsettle g (wnums (areasL F)) F).1,[],?_,⟨r4,r6,by rw[r3];rfl,by simp,by rw[r5];unfold wl0;exact Nat.le_max_right _ _,by rw[r5];exact hnw,?_,r2⟩,fun _=>r7 I,s2,s3,fun a ha=>s5 a (fun n _ e=>ha (by rw[e];unfold segA;omega)),fun a ha=>(s6 a ha).1,hQ,⟨rfl,by simp⟩,rfl,trivial,by simp⟩
 ·unfold wOpen;rw[if_neg (by rw[c.dead];decide),if_neg (by unfold lgTop at hidx;unfold wTop;omega),if_neg (by unfold wMany at hM ⊢;omega),r1,if_neg (by simp),if_neg (by rw[s1];simp)]
 ·refine ⟨fun a ha h1=>?_,List.Pairwise.nil,by simp,by simp,fun o h=>by cases h⟩
  exfalso
  obtain ⟨k1,k2⟩:=s6 a ha;have ha0:=c.pos a k1;have hseg:a=segA (a.toNat / 4):=by unfold segA;omega
  have hin:a.toNat / 4∈wnums (areasL F):=by rw[wnums_iff c.pos,<-hseg];exact k1
  exact k2 _ hin (hg _ hin) hseg
theorem lOpen_found{D D':Dk}(c:Cr D D')(hr:0<=D'.room){vot0:List Int}(hv:(putConf vot0).isSome=true){kh:Nat×Int}(hh:rdHard (sltF (D'.sec 0))=some kh){sn:Snp}{place fr M:Nat}
  (hE:HeadOk (sltF (D'.sec 4)) vot0 sn place fr) (hdat:(sltF (D'.sec 4)).num≠0->DatOk (D'.sec (lgA4 place)) sn.data) {Q:List Ent->Prop} (hw:WFound D fr M sn Q):
  ∃ L E S',lOpen D' vot0=(some L,E,0)/\L.sn=sn/\(L.kt,L.kv)=kh/\Q L.l/\LInv vot0 M L E S' none/\Liv 0 E/\(E.areas.map (·.1)).Nodup/\L.hard=sltF (D'.sec 0)/\L.head=sltF (D'.sec 4)/\L.place=place:=by
 obtain ⟨f1,f2,f3,f4,f5⟩:=lgFree_run place (areasL D') D' (c.liv hr) c.nd;obtain ⟨F,hF⟩:∃ F,F=(lgFree place (areasL D') D').1:=⟨_,rfl⟩;rw[<-hF] at f2 f3 f4 f5;have hseg4:∀ n,segA n % 4≠2\/segA n=((lgA4 place:Nat):Int):=fun n=>.inl (by unfold segA;omega);have cF:CrW D F:=⟨f2.left,f2.dead,fun n=>by rw[(f4 _ (hseg4 n)).1];exact c.pk _,fun n h=>c.keys _ (f5 _ h),f3,fun n=>by rw[(f4 _ (hseg4 n)).2,(f4 _ (hseg4 n)).1];exact c.ne _,fun k hk=>c.pos k (f5 k hk)⟩;have hroom:0<=F.room:=by have:=f2.room;omega
 obtain ⟨S',W,E,l,w2,w3,w4,w5,w6,w7,w8,hQ,hG,hL,hok,hfrS⟩:=hw F cF hroom
 have hnil:scanV none (S'.map Sg.v)=none->S'=[]:=by
  intro h;cases S' with
  | nil=>rfl
  | cons s q=>exact absurd h (scanV_none (q.map Sg.v) (some (stepV none s.v)) (fun e=>by cases e))
 have hrd:=rdEnts_ok w3.vw (fun h=>w4 (hnil h)) hL hG;have hdead:¬D'.dead=true:=by rw[c.dead];decide
 have hopen:lOpen D' vot0=(some ⟨W,sltOpen D' 0,sltOpen D' 4,kh.1,kh.2,sn,place,fr,l,0⟩,E,0):=by
  unfold lOpen;rw[if_neg (by rw[hv];decide),if_neg hdead];rw[show rdHard (sltOpen D' 0)=some kh from hh];dsimp only;rw[rdHead_ok (S:=sltOpen D' 4) hE hdat];dsimp only;unfold lOpen2;dsimp only;rw[if_neg (by rw[f1];simp),<-hF];unfold lOpen3;dsimp only;rw[w2];dsimp only;rw[hrd]
 have e0:E.sec 0=D'.sec 0:=by rw[w7 0 (by decide),(f4 0 (.inl (by decide))).1]
 have e4:E.sec 4=D'.sec 4:=by rw[w7 4 (by decide),(f4 4 (.inl (by decide))).1]
 have ep:E.sec (lgA4 place)=D'.sec (lgA4 place):=by rw[w7 _ (by unfold lgA4;omega),(f4 _ (.inr rfl)).1]
 refine ⟨_,E,S',hopen,I,I,hQ,?_,w5,w6,I,I,I⟩
 exact {
  code:=rfl
  wcode:=w3.code
  old:=by rw[show opL none=[] from rfl,List.append_nil];exact w3.old
  seg:=w3.seg
  opn:=fun _=>w3.op
  ops:=fun o h=>by cases h
  lt:=by rw[show opL none=[] from rfl,List.append_nil];exact w3.lt
  frS:=by rw[show opL none=[] from rfl,List.append_nil];exact hfrS
  frn:=w3.frn
  next:=w3.next
  ok:=by rw[show opL none=[] from rfl,List.append_nil];exact hok
  val:=by
   rw[show opL none=[] from rfl,List.append_nil];rcases w3.vw with ⟨h1,h2⟩|⟨h1,h2⟩
   ·have hS:=hnil h1;obtain ⟨g1,g2⟩:=w4 hS;rw[h1] at hL;exact .inl ⟨hS,g2,g1,hL⟩
   ·rw[h2] at hL;obtain ⟨g1,g2,g3⟩:=hL;exact .inr ⟨W.first,W.recs,h2,Nat.le_refl _,g1,g2,by rw[Nat.sub_self,List.drop_zero],g3⟩
  hardF:=by rw[e0];exact (c.pk 0).fx
  hardS:=by rw[e0];rfl
  hardV:=hh
  headF:=by rw[e4];exact (c.pk 4).fx
  headS:=by rw[e4];rfl
  headV:=hE
  dat:=fun h=>by rw[ep];exact hdat h
  good:=hG }
end
section
theorem DSeg.frame{D E:Dk}{S:List Sg}{op:Option Og}(d:DSeg D S op)(hs:∀ n,E.sec (segA n)=D.sec (segA n))(hk:∀ a∈E.areas.map (·.1),a % 4=1->a∈D.areas.map (·.1)):DSeg E S op:=
 ⟨fun a ha h1=>d.keys a (hk a ha h1) h1,d.asc,d.bd,fun s h=>by rw[hs];exact d.cl s h,fun o h=>by
  obtain ⟨h1,h2,h3,h4,h5⟩:=d.op o h;exact ⟨h1,h2,h3,by rw[hs];exact h4,h5⟩⟩
structure WI (W:Wl) (D:Dk) (S:List Sg) (op:Option Og):Prop where
 code:W.code=0
 seg:DSeg D S op
 opn:op=none->W.op=none
 ops:∀ o,op=some o->∃ q,W.op=some q/\q.num=o.num/\o.T=segT o.idx o.recs/\o.T.length=63*q.full+q.rest.length/\q.rest=o.T.drop (63*q.full)/\q.rest.length<=62/\q.full<=24
 lt:∀ s∈S++opL op,s.num<W.next
def Og.lasts(o:Og):Og:={ o with t0:=o.T.length }
def Died(D E:Dk):Prop:=E.dead=true/\(∀ a,E.sec a=D.sec a)/\∀ a∈E.areas.map (·.1),a∈D.areas.map (·.1)
theorem sync_keys(D:Dk)(a:Int):∀ k∈(D.sync a).1.areas.map (·.1),k∈D.areas.map (·.1):=fun k hk=>by
 rcases (Rw.sync a (Rw.refl [] D)).keys k hk with h|h
 ·exact h
 ·simp at h
theorem wsync_run{W:Wl}{D:Dk}{S:List Sg}{op:Option Og}{n:Nat}(w:WI W D S op)(h:Alv n D):
  ((W.sync D).1=W/\Alv n (W.sync D).2/\WI W (W.sync D).2 S (op.map Og.lasts)/\DSeg (W.sync D).2 (S++opL op) none/\(∀ a,a % 4≠1->(W.sync D).2.sec a=D.sec a)/\∀ a∈(W.sync D).2.areas.map (·.1),a∈D.areas.map (·.1)) \/
   ((W.sync D).1.code=30/\Died D (W.sync D).2):=by
 unfold Wl.sync;rw[if_neg (by rw[w.code];simp)];cases hop:op with
 | none=>
  rw[w.opn hop];dsimp only;subst hop;exact .inl ⟨I,h,w,by rw[show opL none=[] from rfl,List.append_nil];exact w.seg,fun _ _=>I,fun _ h=>h⟩
 | some o=>
  subst hop;obtain ⟨q,q1,q2,q3,q4,q5,q6,q7⟩:=w.ops o rfl;obtain ⟨d1,d2,d3,d4,d5,d6⟩:=w.seg.op o rfl;rw[q1];dsimp only;have hk:=sync_keys D (segA q.num);have hkd:∀ a∈(D.sync (segA q.num)).1.areas.map (·.1),a % 4=1->(∃ s∈S,a=segA s.num)\/∃ o',some o=some o'/\a=segA o'.num:=fun a ha h1=>w.seg.keys a (hk a ha) h1;rcases h.sync (segA q.num) with ⟨s1,s2,s3,s4⟩|⟨s1,s2,s3⟩
  ·left
   have hcl:∀ s∈S,(D.sync (segA q.num)).1.sec (segA s.num)=D.sec (segA s.num):=fun s hs=>s4 _ (segA_ne (by have:=d1 s hs;omega));have hsy:(D.sync (segA q.num)).1.sec (segA o.num)=sySF (D.sec (segA o.num)):=by rw[<-q2,s3]
   refine ⟨by rw[s1,<-w.code,<-q1],s2,⟨w.code,⟨?_,w.seg.asc,w.seg.bd,fun s hs=>(by rw[hcl s hs];exact w.seg.cl s hs),?_⟩,fun h=>(by cases h),?_,?_⟩,⟨?_,?_,?_,?_,fun o h=>(by cases h)⟩,fun a ha=>s4 a (fun e=>ha (by rw[e];unfold segA;omega)),hk⟩
   ·intro a ha h1;rcases hkd a ha h1 with h2|⟨o',h2,h3⟩
    ·exact .inl h2
    ·cases h2;exact .inr ⟨_,I,h3⟩
   ·intro o' ho';cases ho';exact ⟨d1,d2,d3,by show SegO _ o.T o.T.length;rw[show o.lasts.num=o.num from rfl,hsy];exact d4.syn,d5,d6⟩
   ·intro o' ho';cases ho';exact ⟨q,q1,q2,q3,q4,q5,q6,q7⟩
   ·exact w.lt
   ·intro a ha h1;rcases hkd a ha h1 with ⟨s,hs,e⟩|⟨o',h2,h3⟩
    ·exact .inl ⟨s,List.mem_append.2 (.inl hs),e⟩
    ·cases h2;exact .inl ⟨⟨o.num,o.idx,o.recs⟩,List.mem_append.2 (.inr (by simp[opL])),h3⟩
   ·rw[List.pairwise_append];exact ⟨w.seg.asc,by simp[opL],fun a ha b hb=>by simp only[opL,List.mem_singleton] at hb;rw[hb];exact d1 a ha⟩
   ·intro s hs;rcases List.mem_append.1 hs with hs|hs
    ·exact w.seg.bd s hs
    ·simp only[opL,List.mem_singleton] at hs;rw[hs];exact ⟨d2,d3⟩
   ·intro s hs;rcases List.mem_append.1 hs with hs|hs
    ·rw[hcl s hs];exact w.seg.cl s hs
    ·simp only[opL,List.mem_singleton] at hs;rw[hs];dsimp only;rw[hsy];have:=d4.closed d6;rw[q3] at this;exact this.segC d2 d3
  ·exact .inr ⟨s1,s2,s3,hk⟩
theorem wrO_run{q:WOp}{D:Dk}{S:List Sg}{o:Og}{n:Nat}(d:DSeg D S (some o))(hq:q.num=o.num)(hT:o.T.length=63*q.full+q.rest.length)(hr:q.rest=o.T.drop (63*q.full))(hr62:q.rest.length<=62)(hf:q.full<=15){b:List UInt8}(hb:0<b.length/\b.length<=522){recs':List Rec}
  (hrec:∀ r∈recs',r.length<=512) (hTb:o.T++b=segT o.idx recs') (h:Alv (n+10) D):
  (∀ a,a % 4≠1->(wrO q b D).2.1.sec a=D.sec a)/\(((wrO q b D).2.2=0/\Alv n (wrO q b D).2.1/\DSeg (wrO q b D).2.1 S (some { o with recs:=recs',T:=segT o.idx recs' })/\(wrO q b D).1.num=q.num /\
    (segT o.idx recs').length=63*(wrO q b D).1.full+(wrO q b D).1.rest.length/\(wrO q b D).1.rest=(segT o.idx recs').drop (63*(wrO q b D).1.full)/\(wrO q b D).1.rest.length<=62/\(wrO q b D).1.full<=24) \/
   ((wrO q b D).2.2=30/\(wrO q b D).2.1.dead=true/\∃ T1,o.T <+: T1/\T1 <+: segT o.idx recs'/\DSeg (wrO q b D).2.1 S (some { o with recs:=recs',T:=T1 }))):=by
 obtain ⟨d1,d2,d3,d4,d5,d6⟩:=d.op o rfl;have hl:(q.rest++b).length=q.rest.length+b.length:=List.length_append;have hwr:=wrL_seg (q.rest.length+b.length+1) { q with rest:=q.rest++b } D n o.T o.t0 (by dsimp only;rw[hl];exact h.mono qo) (by dsimp only;rw[hl];omega) (by dsimp only;rw[hl];omega) (by dsimp only;rw[hl];omega) (by dsimp only;rw[hq];exact d4) (by dsimp only;omega) (by dsimp only;omega) (by dsimp only;rw[<-hr];exact List.prefix_append _ _);have hnum:=wrO_num q b D;have hkeys:=(rw_wrO q b D).keys;obtain ⟨T1,r1,r2,r3,r4,r5,r6⟩:=hwr;have e:wrL (q.rest.length+b.length+1) { q with rest:=q.rest++b } D=wrO q b D:=rfl;rw[e] at r1 r2 r5 r6;dsimp only at r1 r2 r4 r5 r6;have hU:o.T.take (63*q.full)++(q.rest++b)=segT o.idx recs':=by rw[<-hTb,<-List.append_assoc,hr,List.take_append_drop]
 rw[hU] at r4 r6;rw[hq] at r1
 have hds:∀ T2,T2=T1->DSeg (wrO q b D).2.1 S (some { o with recs:=recs',T:=T2 }):=by
  intro T2 e2;subst e2;refine ⟨fun a ha h1=>?_,d.asc,d.bd,fun s hs=>?_,fun o' ho'=>?_⟩
  ·rcases hkeys a ha with h2|h2
   ·rcases d.keys a h2 h1 with h3|⟨o',h3,h4⟩
    ·exact .inl h3
    ·cases h3;exact .inr ⟨_,I,h4⟩
   ·simp only[List.mem_singleton] at h2;exact .inr ⟨_,I,by rw[h2,hq]⟩
  ·rw[r2 _ (segA_ne (by have:=d1 s hs;omega))];exact d.cl s hs
  ·cases ho';have:=r4.length_le;refine ⟨d1,d2,hrec,r1,r4,?_⟩;have h3:=congrArg List.length hTb;rw[List.length_append] at h3;show T2.length<=_;omega
 refine ⟨fun a ha=>r2 a (fun e=>ha (by rw[e];unfold segA;omega)),?_⟩;rcases r5 with ⟨g1,g2⟩|⟨g1,g2⟩
 ·obtain ⟨k1,k2,k3,k4⟩:=r6 g1;rw[k1] at k2 k3;exact .inl ⟨g1,g2,hds _ k1.symm,hnum.1,k2,k3,k4,by have:=hnum.2.2;omega⟩
 ·exact .inr ⟨g1,g2,T1,r3,r4,hds _ I⟩
theorem begin_run{W:Wl}{D:Dk}{S:List Sg}{op:Option Og}{n:Nat}(w:WI W D S op)(h:Alv (n+10) D){i:Nat}(hi:i<=wTop):
  (∀ a,a % 4≠1->(W.begin i D).2.sec a=D.sec a) /\
  ((∃ q,q.full<=1/\(W.begin i D).1={ W with op:=some q,next:=W.next+1,old:=W.old++[(W.next,i)] }/\Alv n (W.begin i D).2/\WI (W.begin i D).1 (W.begin i D).2 (S++opL op) (some ⟨W.next,i,[],segT i [],0⟩)) \/
   ((W.begin i D).1.code=30/\Died D (W.begin i D).2) \/
   ((W.begin i D).1.code=30/\(W.begin i D).2.dead=true/\∃ T1,T1 <+: segT i []/\DSeg (W.begin i D).2 (S++opL op) (some ⟨W.next,i,[],T1,0⟩))):=by
 have hi2:i<18446744073709551616:=by unfold wTop at hi;omega
 unfold Wl.begin;rcases wsync_run w h with ⟨s1,s2,s3,s4,s5,s6⟩|⟨s1,s2⟩
 ·rw[s1,if_neg (by rw[w.code];simp)];generalize hE:(W.sync D).2=E at s2 s3 s4 s5 s6
  have hnk:segA W.next∉E.areas.map (·.1):=by
   intro hin;rcases s4.keys _ hin (by unfold segA;omega) with ⟨s,hs,e⟩|⟨o,ho,_⟩
   ·have:=w.lt s hs;have:=segA_inj e;omega
   ·cases ho
  have hns:∀ k,E.sec (segA W.next) k=none:=by
   intro k;unfold Dk.sec Dk.ar;rw[mget_none.2 hnk]
   rfl
  have d0:DSeg E (S++opL op) (some ⟨W.next,i,[],[],0⟩):=⟨fun a ha h1=>(by
    rcases s4.keys a ha h1 with h2|⟨o,ho,_⟩
    ·exact .inl h2
    ·cases ho),s4.asc,s4.bd,s4.cl,fun o ho=>(by
    cases ho;exact ⟨fun s hs=>w.lt s hs,hi,by simp,⟨Nat.le_refl _,fun n hn=>by simp at hn,fun n _=>hns _,fun n _=>hns _⟩,List.nil_prefix,by simp⟩)⟩
  have hu:=uint_pos i;have hu2:=uint_le10 hi2;obtain ⟨r1,r2⟩:=wrO_run (q:=⟨W.next,i,0,[]⟩) (n:=n) d0 rfl rfl rfl (by simp) (by simp) (b:=uint i) ⟨hu,by omega⟩ (recs':=[]) (by simp) (by simp[segT,puts]) s2;refine ⟨fun a ha=>by dsimp only;rw[r1 a ha,s5 a ha],?_⟩;rcases r2 with ⟨g1,g2,g3,g4,g5,g6,g7,g8⟩|⟨g1,g2,T1,g3,g4,g5⟩
  ·left
   have hf1:=(wrO_num ⟨W.next,i,0,[]⟩ (uint i) E).2.2;dsimp only[List.length_nil] at hf1;refine ⟨(wrO ⟨W.next,i,0,[]⟩ (uint i) E).1,by omega,?_,g2,?_⟩
   ·dsimp only;rw[g1,<-w.code]
   ·refine ⟨g1,g3,fun h=>(by cases h),fun o ho=>?_,fun s hs=>?_⟩
    ·cases ho;exact ⟨_,I,g4,I,g5,g6,g7,g8⟩
    ·dsimp only;rcases List.mem_append.1 hs with hs|hs
     ·have:=w.lt s hs;omega
     ·simp only[opL,List.mem_singleton] at hs;rw[hs];dsimp only;omega
  ·exact .inr (.inr ⟨g1,g2,T1,g4,g5⟩)
 ·rw[if_pos (by rw[s1];simp)];exact ⟨fun a _=>s2.2.1 a,.inr (.inl ⟨s1,s2⟩)⟩
theorem wlay_run{W:Wl}{D:Dk}{S:List Sg}{o:Og}{n:Nat}(w:WI W D S (some o)){q:WOp}(hq:W.op=some q)(hf:q.full<=15)(h:Alv (n+10) D){b:List UInt8}(hb:b.length<=512):
  (∀ a,a % 4≠1->(wLay W b D).2.1.sec a=D.sec a) /\
  (((wLay W b D).2.2=0/\(∃ q',(wLay W b D).1={ W with op:=some q',recs:=W.recs++[b] })/\Alv n (wLay W b D).2.1/\WI (wLay W b D).1 (wLay W b D).2.1 S (some { o with recs:=o.recs++[b],T:=segT o.idx (o.recs++[b]) })) \/
   ((wLay W b D).2.2=30/\(wLay W b D).1.code=30/\(wLay W b D).2.1.dead=true/\∃ T1,o.T <+: T1/\DSeg (wLay W b D).2.1 S (some { o with recs:=o.recs++[b],T:=T1 }))):=by
 obtain ⟨q',q1,q2,q3,q4,q5,q6,q7⟩:=w.ops o rfl;obtain rfl:q'=q:=by rw[hq] at q1;exact (Option.some.inj q1).symm
 have hp:=putBytes_le hb
 have hTb:o.T++putBytes b=segT o.idx (o.recs++[b]):=by
  rw[q3];unfold segT;rw[puts_app,List.append_assoc];simp[puts]
 obtain ⟨d1,d2,d3,d4⟩:=w.seg.op o rfl
 obtain ⟨r1,r2⟩:=wrO_run (q:=q') (n:=n) w.seg q2 q4 q5 q6 hf (b:=putBytes b) hp (recs':=o.recs++[b]) (fun r hr=>by
  rcases List.mem_append.1 hr with hr|hr
  ·exact d3 r hr
  ·simp only[List.mem_singleton] at hr;rw[hr];exact hb) hTb h
 unfold wLay;rw[hq];dsimp only;refine ⟨r1,?_⟩;rcases r2 with ⟨g1,g2,g3,g4,g5,g6,g7,g8⟩|⟨g1,g2,T1,g3,g4,g5⟩
 ·refine .inl ⟨g1,⟨_,by rw[if_pos g1,g1,<-w.code]⟩,g2,⟨g1,g3,fun h=>(by cases h),fun o' ho'=>?_,fun s hs=>?_⟩⟩
  ·cases ho';exact ⟨_,I,g4.trans q2,I,g5,g6,g7,g8⟩
  ·rcases List.mem_append.1 hs with hs|hs
   ·exact w.lt s<|List.mem_append.2 (.inl hs)
   ·simp only[opL,List.mem_singleton] at hs;rw[hs];exact w.lt ⟨o.num,o.idx,o.recs⟩ (by simp[opL])
 ·exact .inr ⟨g1,g1,g2,T1,g3,g5⟩
end
section
def Vk(first:Nat)(recs:List Rec)(sn:Snp)(l:List Ent):Vl->Prop
 | none=>recs=[]/\first=sn.idx+1/\l=[]
 | some (f,r)=>f<=first/\first<=sn.idx+1/\sn.idx+1<=f+r.length/\recs=r.drop (first-f)/\r.drop (sn.idx+1-f)=l.map Ent.bytes
theorem Vk.fin{first:Nat}{recs:List Rec}{sn:Snp}{l:List Ent}{v:Vl}(h:Vk first recs sn l v):first+recs.length=sn.idx+1+l.length/\first<=sn.idx+1:=by
 cases v with
 | none=>obtain ⟨h1,h2,h3⟩:=h;rw[h1,h2,h3];exact ⟨I,Nat.le_refl _⟩
 | some x=>
  obtain ⟨f,r⟩:=x;obtain ⟨h1,h2,h3,h4,h5⟩:=h;have h6:=congrArg List.length h5;rw[List.length_drop,List.length_map] at h6;rw[h4,List.length_drop];omega
theorem Vk.endV{first:Nat}{recs:List Rec}{sn:Snp}{l:List Ent}{x:Nat×List Rec}(h:Vk first recs sn l (some x)):x.1+x.2.length=sn.idx+1+l.length:=by
 obtain ⟨f,r⟩:=x;obtain ⟨h1,h2,h3,h4,h5⟩:=h;have h6:=congrArg List.length h5;rw[List.length_drop,List.length_map] at h6;dsimp only;omega
theorem Vk.lv{first:Nat}{recs:List Rec}{sn:Snp}{l:List Ent}{v:Vl}(h:Vk first recs sn l v):LV sn v l:=by
 cases v with
 | none=>exact h.2.2
 | some x=>
  obtain ⟨f,r⟩:=x;obtain ⟨h1,h2,h3,h4,h5⟩:=h;exact ⟨by omega,h3,h5⟩
theorem Vk.cut{first:Nat}{recs:List Rec}{sn:Snp}{l:List Ent}{v:Vl}(h:Vk first recs sn l v){i:Nat}(h1:sn.idx+1<=i)(h2:i<=first+recs.length):
  okVl v i/\Vk first (recs.take (i-first)) sn (l.take (i-(sn.idx+1))) (some (stepV v (i,[]))):=by
 have hf:=h.fin;cases v with
 | none=>
  obtain ⟨g1,g2,g3⟩:=h;subst g1 g2 g3;simp only[List.length_nil] at h2;obtain rfl:i=sn.idx+1:=by omega
  exact ⟨trivial,Nat.le_refl _,Nat.le_refl _,by simp,by simp[stepV],by simp[stepV]⟩
 | some x=>
  obtain ⟨f,r⟩:=x;obtain ⟨g1,g2,g3,g4,g5⟩:=h;have h6:=congrArg List.length g5;rw[List.length_drop,List.length_map] at h6;unfold stepV okVl;dsimp only;rw[if_neg qo,List.append_nil];refine ⟨by omega,g1,g2,by rw[List.length_take];omega,?_,?_⟩
  ·rw[g4,List.drop_take]
   congr 1
   omega
  ·rw[List.drop_take,g5,List.map_take]
   congr 1
   omega
theorem stepV_snoc(v:Vl)(i:Nat)(rs:List Rec)(b:Rec):stepV v (i,rs++[b])=((stepV v (i,rs)).1,(stepV v (i,rs)).2++[b]):=by
 cases v with
 | none=>rfl
 | some x=>
  obtain ⟨f,r⟩:=x;unfold stepV;dsimp only
  split
  ·rfl
  ·dsimp only;rw[List.append_assoc]
theorem Vk.snoc{first:Nat}{recs:List Rec}{sn:Snp}{l:List Ent}{v:Vl}{i:Nat}{rs:List Rec}(h:Vk first recs sn l (some (stepV v (i,rs))))(e:Ent):
  Vk first (recs++[e.bytes]) sn (l++[e]) (some (stepV v (i,rs++[e.bytes]))):=by
 rw[stepV_snoc];generalize stepV v (i,rs)=x at h;obtain ⟨f,r⟩:=x;obtain ⟨g1,g2,g3,g4,g5⟩:=h;dsimp only;refine ⟨g1,g2,by rw[List.length_append];omega,?_,?_⟩
 ·rw[g4,List.drop_append_of_le_length qo]
 ·rw[List.drop_append_of_le_length qo,g5]
  simp
theorem folR_pre:∀ (a b:List Ent) (i t:Nat),folR i t (a++b)=0->folR i t a=0
 | [],_,_,_,_=>rfl
 | e::a,b,i,t,h=>by
  obtain ⟨h1,h2,h3⟩:=folR_ok h;unfold folR;rw[if_neg qo];exact folR_pre a b _ _ h3
theorem GoodL.take{sn:Snp}{l:List Ent}(h:GoodL sn l)(k:Nat):GoodL sn (l.take k):=
 ⟨folR_pre (l.take k) (l.drop k) _ _ (by rw[List.take_append_drop];exact h.1),fun e he=>h.2 e (List.mem_of_mem_take he)⟩
theorem PosS.mono{S:List Sg}{op:Option Og}{sn:Snp}{Q Q':List Ent->Prop}(h:PosS S op sn Q)(hq:∀ l,Q l->Q' l):PosS S op sn Q':=fun t ht=>by
 obtain ⟨h1,l,h2,h3⟩:=h t ht;exact ⟨h1,l,hq l h2,h3⟩
theorem pos_begin{S:List Sg}{sn:Snp}{l:List Ent}{first:Nat}{recs:List Rec}(ok:okS none (S.map Sg.v))(vk:Vk first recs sn l (scanV none (S.map Sg.v)))(g:GoodL sn l){Q:List Ent->Prop}(hq:Q l){i:Nat}(h1:sn.idx+1<=i)(h2:i<=first+recs.length)(h3:i<=wTop)
  (hq2:Q (l.take (i-(sn.idx+1)))) (num:Nat) (T:List UInt8):PosS S (some ⟨num,i,[],T,0⟩) sn Q/\okS none (S.map Sg.v++[(i,[])])/\Vk first (recs.take (i-first)) sn (l.take (i-(sn.idx+1))) (scanV none (S.map Sg.v++[(i,[])])):=by
 obtain ⟨k1,k2⟩:=vk.cut h1 h2
 have ok2:okS none (S.map Sg.v++[(i,[])]):=by
  rw[okS_app];exact ⟨ok,k1,by simpa using h3,trivial⟩
 have vk2:Vk first (recs.take (i-first)) sn (l.take (i-(sn.idx+1))) (scanV none (S.map Sg.v++[(i,[])])):=by
  rw[scanV_app];exact k2
 refine ⟨fun t ht=>?_,ok2,vk2⟩;cases t with
 | none=>
  rw[Option.toList_none,List.append_nil];exact ⟨ok,l,hq,g,vk.lv⟩
 | some t=>
  obtain ⟨i',rs⟩:=t;obtain ⟨e1,j,e2,e3,e4⟩:=ht;dsimp only at e1 e2 e3;rw[List.take_nil] at e3;subst e1 e3;exact ⟨ok2,_,hq2,g.take _,vk2.lv⟩
theorem pos_lay{S:List Sg}{o:Og}{sn:Snp}{Q:List Ent->Prop}(h:PosS S (some o) sn Q){b:Rec}{l:List Ent}(ok:okS none (S.map Sg.v++[(o.idx,o.recs++[b])]))(hq:Q l)(g:GoodL sn l)(lv:LV sn (scanV none (S.map Sg.v++[(o.idx,o.recs++[b])])) l)(T:List UInt8):
  PosS S (some { o with recs:=o.recs++[b],T:=T }) sn Q:=by
 intro t ht;cases t with
 | none=>exact h none ht
 | some t=>
  obtain ⟨i',rs⟩:=t;obtain ⟨e1,j,e2,e3,e4⟩:=ht;dsimp only at e1 e2 e3 e4;subst e1 e3;rw[List.length_append,List.length_singleton] at e2;rcases Nat.lt_or_ge o.recs.length j with hj|hj
  ·obtain rfl:j=o.recs.length+1:=by omega
   rw[List.take_of_length_le (by simp)];exact ⟨ok,l,hq,g,lv⟩
  ·rw[List.take_append_of_le_length hj];refine h (some (o.idx,o.recs.take j)) ⟨I,j,hj,I,fun k hk1 hk2=>(e4 k (by rw[List.length_append];omega) ?_)⟩;rw[List.take_append_of_le_length hk1];exact hk2
theorem LInv.wi{vot0:List Int}{M:Nat}{L:Lg}{D:Dk}{S:List Sg}{op:Option Og}(o:LInv vot0 M L D S op):WI L.w D S op:=⟨o.wcode,o.seg,o.opn,o.ops,o.lt⟩
theorem LInv.vk{vot0:List Int}{M:Nat}{L:Lg}{D:Dk}{S:List Sg}{op:Option Og}(o:LInv vot0 M L D S op):Vk L.w.first L.w.recs L.sn L.l (scanV none ((S++opL op).map Sg.v)):=by
 rcases o.val with ⟨h1,h2,h3,h4⟩|⟨f,r,h1,h2⟩
 ·rw[h1];exact ⟨h2,h3,h4⟩
 ·rw[h1];exact h2
theorem LInv.chg{vot0:List Int}{M M':Nat}{L:Lg}{D E:Dk}{S S':List Sg}{op op':Option Og}(o:LInv vot0 M L D S op){W:Wl}{l:List Ent}(w:WI W E S' op')(hold:W.old=(S'++opL op').map fun s=>(s.num,s.idx))(hs:∀ a,a % 4≠1->E.sec a=D.sec a)
  (hfr:∀ s∈S'++opL op',L.fr<=s.num) (hn1:L.fr<=W.next) (hn2:W.next<=M') (ok:okS none ((S'++opL op').map Sg.v)) (vk:Vk W.first W.recs L.sn l (scanV none ((S'++opL op').map Sg.v))) (g:GoodL L.sn l):LInv vot0 M' { L with w:=W,l:=l } E S' op' where
 code:=o.code
 wcode:=w.code
 old:=hold
 seg:=w.seg
 opn:=w.opn
 ops:=w.ops
 lt:=w.lt
 frS:=hfr
 frn:=hn1
 next:=hn2
 ok:=ok
 val:=by
  cases hv:scanV none ((S'++opL op').map Sg.v) with
  | none=>
   rw[hv] at vk;refine .inl ⟨?_,vk.1,vk.2.1,vk.2.2⟩;cases hx:S'++opL op' with
   | nil=>rfl
   | cons a q=>rw[hx,List.map_cons] at hv;exact absurd hv (scanV_none (q.map Sg.v) (some (stepV none a.v)) (fun e=>by cases e))
  | some x=>
   rw[hv] at vk;exact .inr ⟨x.1,x.2,I,vk⟩
 hardF:=by rw[hs 0 (by decide)];exact o.hardF
 hardS:=by rw[hs 0 (by decide)];exact o.hardS
 hardV:=o.hardV
 headF:=by rw[hs 4 (by decide)];exact o.headF
 headS:=by rw[hs 4 (by decide)];exact o.headS
 headV:=o.headV
 dat:=by rw[hs _ (by unfold lgA4;omega)];exact o.dat
 good:=g
theorem LInv.found{vot0:List Int}{M M':Nat}{L:Lg}{D E:Dk}{S S':List Sg}{op op':Option Og}(o:LInv vot0 M L D S op)(hM:M<=M')(hM':M'<=wMany)(hidx:L.sn.idx<=lgTop)(d:DSeg E S' op')(hS:∀ s∈S',L.fr<=s.num/\s.num<M')(ho:∀ q,op'=some q->L.fr<=q.num/\q.num<M'){Q:List Ent->Prop}(p:PosS S' op' L.sn Q):WFound E L.fr M' L.sn Q:=
 wfound_seg d hidx hM' (by have:=o.frn;have:=o.next;omega) hS ho p
theorem LInv.foundS{vot0:List Int}{M M':Nat}{L:Lg}{D E:Dk}{S:List Sg}{op:Option Og}(o:LInv vot0 M L D S op)(hM:M<=M')(hM':M'<=wMany)(hidx:L.sn.idx<=lgTop){Q:List Ent->Prop}(p:PosS S op L.sn Q)(d:DSeg E S op):WFound E L.fr M' L.sn Q:=by
 refine o.found hM hM' hidx d (fun s hs=>?_) (fun q hq=>?_) p
 ·have h1:=o.frS s (List.mem_append.2 (.inl hs));have h2:=o.lt s (List.mem_append.2 (.inl hs));have:=o.next;omega
 ·subst hq;have h1:=o.frS ⟨q.num,q.idx,q.recs⟩ (by simp[opL]);have h2:=o.lt ⟨q.num,q.idx,q.recs⟩ (by simp[opL]);have:=o.next;dsimp only at h1 h2;omega
theorem Died.seg{D E:Dk}(h:Died D E){S:List Sg}{op:Option Og}(d:DSeg D S op):DSeg E S op:=d.frame (fun n=>h.2.1 _) fun a ha _=>h.2.2 a ha
theorem LInv.up{vot0:List Int}{M M':Nat}{L:Lg}{D:Dk}{S:List Sg}{op:Option Og}(o:LInv vot0 M L D S op)(h:M<=M'):LInv vot0 M' L D S op:={ o with next:=Nat.le_trans o.next h }
end
section
theorem lay_one{vot0:List Int}{M M' n:Nat}{L:Lg}{D E:Dk}{S S':List Sg}{q:Og}{op:Option Og}{W:Wl}(o:LInv vot0 M L D S op)(hM:M<=M')(hM':M'<=wMany)(hidx:L.sn.idx+L.l.length+1<lgTop)
  (w:WI W E S' (some q)) (hold:W.old=(S'++opL (some q)).map fun s=>(s.num,s.idx)) (hs:∀ a,a % 4≠1->E.sec a=D.sec a) (hfr:∀ s∈S'++opL (some q),L.fr<=s.num) (hn1:L.fr<=W.next) (hn2:W.next<=M')
  (ok:okS none ((S'++opL (some q)).map Sg.v)) (vk:Vk W.first W.recs L.sn L.l (scanV none ((S'++opL (some q)).map Sg.v))) {Q:List Ent->Prop} (p:PosS S' (some q) L.sn Q) {e:Ent} (hq:Q (L.l++[e])) (g:GoodL L.sn (L.l++[e]))
  {k:WOp} (hop:W.op=some k) (hf:k.full<=15) (h:Alv (n+10) E) (hb:e.bytes.length<=512):
  ((wLay W e.bytes E).2.2=0/\Alv n (wLay W e.bytes E).2.1/\(∀ a,a % 4≠1->(wLay W e.bytes E).2.1.sec a=D.sec a)/\∃ S1 op1,LInv vot0 M' { L with w:=(wLay W e.bytes E).1,l:=L.l++[e] } (wLay W e.bytes E).2.1 S1 op1/\PosS S1 op1 L.sn Q) \/
   ((wLay W e.bytes E).2.2=30/\(wLay W e.bytes E).2.1.dead=true/\(∀ a,a % 4≠1->(wLay W e.bytes E).2.1.sec a=D.sec a)/\WFound (wLay W e.bytes E).2.1 L.fr M' L.sn Q):=by
 obtain ⟨r1,r2⟩:=wlay_run w hop hf h hb;have hv:(S'++opL (some q)).map Sg.v=S'.map Sg.v++[(q.idx,q.recs)]:=by simp[opL,Sg.v]
 rw[hv] at ok vk
 have vk2:Vk W.first (W.recs++[e.bytes]) L.sn (L.l++[e]) (scanV none (S'.map Sg.v++[(q.idx,q.recs++[e.bytes])])):=by
  rw[scanV_app] at vk ⊢;exact Vk.snoc vk e
 have ok2:okS none (S'.map Sg.v++[(q.idx,q.recs++[e.bytes])]):=by
  have hfin:=vk.fin;rw[okS_app] at ok ⊢;obtain ⟨k1,k2,k3,_⟩:=ok;refine ⟨k1,k2,?_,trivial⟩;have h1:=stepV_end k2;rw[scanV_app] at vk;have h2:=Vk.endV (show Vk W.first W.recs L.sn L.l (some (stepV (scanV none (S'.map Sg.v)) (q.idx,q.recs))) from vk);dsimp only at h1 k3 ⊢;rw[List.length_append,List.length_singleton];unfold lgTop at hidx;unfold wTop;omega
 have hS:∀ s∈S',L.fr<=s.num/\s.num<M':=fun s hs=>⟨hfr s (List.mem_append.2 (.inl hs)),by have:=w.lt s (List.mem_append.2 (.inl hs));omega⟩
 have hqn:L.fr<=q.num/\q.num<M':=by
  have h1:=hfr ⟨q.num,q.idx,q.recs⟩ (by simp[opL]);have h2:=w.lt ⟨q.num,q.idx,q.recs⟩ (by simp[opL]);dsimp only at h1 h2;omega
 have pos:∀ T,PosS S' (some { q with recs:=q.recs++[e.bytes],T:=T }) L.sn Q:=fun T=>pos_lay p ok2 hq g vk2.lv T;have hsec:∀ a,a % 4≠1->(wLay W e.bytes E).2.1.sec a=D.sec a:=fun a ha=>by rw[r1 a ha,hs a ha]
 rcases r2 with ⟨g1,⟨k',g2⟩,g3,g4⟩|⟨g1,g2,g3,T1,g4,g5⟩
 ·refine .inl ⟨g1,g3,hsec,S',_,?_,pos (segT q.idx (q.recs++[e.bytes]))⟩;have e1:(S'++opL (some { q with recs:=q.recs++[e.bytes],T:=segT q.idx (q.recs++[e.bytes]) })).map Sg.v=S'.map Sg.v++[(q.idx,q.recs++[e.bytes])]:=by simp[opL,Sg.v]
  refine o.chg g4 ?_ hsec ?_ ?_ ?_ ?_ ?_ g
  ·rw[g2];dsimp only;rw[hold];simp[opL]
  ·intro s hs;rcases List.mem_append.1 hs with hs|hs
   ·exact (hS s hs).1
   ·simp only[opL,List.mem_singleton] at hs;rw[hs];exact hqn.1
  ·rw[g2];exact hn1
  ·rw[g2];exact hn2
  ·rw[e1];exact ok2
  ·rw[e1,g2];exact vk2
 ·refine .inr ⟨g1,g3,hsec,(o.found hM hM' qo g5 hS (fun q' hq'=>?_) (pos T1))⟩;cases hq';exact hqn
theorem begin_one{vot0:List Int}{M n:Nat}{L:Lg}{D:Dk}{S:List Sg}{op:Option Og}(o:LInv vot0 M L D S op)(hM':M+1<=wMany)(hidx:L.sn.idx+L.l.length<lgTop){Q:List Ent->Prop}(p:PosS S op L.sn Q)(hq:Q L.l){i:Nat}(h1:L.sn.idx+1<=i)(h2:i<=L.w.first+L.w.recs.length)
  (hq2:Q (L.l.take (i-(L.sn.idx+1)))) (h:Alv (n+10) D):
  (∀ a,a % 4≠1->(L.w.begin i D).2.sec a=D.sec a)/\((∃ k,k.full<=1/\(L.w.begin i D).1={ L.w with op:=some k,next:=L.w.next+1,old:=L.w.old++[(L.w.next,i)] }/\Alv n (L.w.begin i D).2/\WI (L.w.begin i D).1 (L.w.begin i D).2 (S++opL op) (some ⟨L.w.next,i,[],segT i [],0⟩) /\
   PosS (S++opL op) (some ⟨L.w.next,i,[],segT i [],0⟩) L.sn Q/\okS none ((S++opL op).map Sg.v++[(i,[])])/\Vk L.w.first (L.w.recs.take (i-L.w.first)) L.sn (L.l.take (i-(L.sn.idx+1))) (scanV none ((S++opL op).map Sg.v++[(i,[])]))) \/
   ((L.w.begin i D).1.code=30/\(L.w.begin i D).2.dead=true/\WFound (L.w.begin i D).2 L.fr (M+1) L.sn Q)):=by
 have hfin:=o.vk.fin;have hi:i<=wTop:=by unfold wTop;unfold lgTop at hidx;omega
 obtain ⟨r1,r2⟩:=begin_run o.wi h hi;have hpb:=fun T=>pos_begin o.ok o.vk o.good hq h1 h2 hi hq2 L.w.next T;refine ⟨r1,?_⟩;rcases r2 with ⟨k,g1,g2,g3,g4⟩|⟨g1,g2⟩|⟨g1,g2,T1,g3,g4⟩
 ·obtain ⟨b1,b2,b3⟩:=hpb (segT i []);exact .inl ⟨k,g1,g2,g3,g4,b1,b2,b3⟩
 ·exact .inr ⟨g1,g2.1,o.foundS qo hM' qo p (g2.seg o.seg)⟩
 ·have hn:=o.next;have hfn:=o.frn;refine .inr ⟨g1,g2,o.found qo hM' qo g4 (fun s hs=>?_) (fun q hq=>?_) (hpb T1).1⟩
  ·have h3:=o.frS s hs;have h4:=o.lt s hs;omega
  ·cases hq;dsimp only;omega
theorem app_one{vot0:List Int}{M n:Nat}{L:Lg}{D:Dk}{S:List Sg}{op:Option Og}(o:LInv vot0 M L D S op)(hM':M+1<=wMany)(hidx:L.sn.idx+L.l.length+1<lgTop){Q:List Ent->Prop}(p:PosS S op L.sn Q)(hq:Q L.l){e:Ent}(hq2:Q (L.l++[e]))(g:GoodL L.sn (L.l++[e]))(h:Alv (n+20) D):
  ((L.w.append e.bytes D).2.2=0/\Alv n (L.w.append e.bytes D).2.1/\(∀ a,a % 4≠1->(L.w.append e.bytes D).2.1.sec a=D.sec a)/\∃ S1 op1,LInv vot0 (M+1) { L with w:=(L.w.append e.bytes D).1,l:=L.l++[e] } (L.w.append e.bytes D).2.1 S1 op1/\PosS S1 op1 L.sn Q) \/
   ((L.w.append e.bytes D).2.2=30/\(L.w.append e.bytes D).2.1.dead=true/\(∀ a,a % 4≠1->(L.w.append e.bytes D).2.1.sec a=D.sec a)/\WFound (L.w.append e.bytes D).2.1 L.fr (M+1) L.sn Q):=by
 have hfin:=o.vk.fin;have hb:=ent_bytes_le (g.2 e (by simp));have hnx:=o.next;have hfn:=o.frn;have htop:L.w.first+L.w.recs.length<wTop:=by unfold wTop;unfold lgTop at hidx;omega
 unfold Wl.append;rw[if_neg (by rw[o.wcode];simp),if_neg qo,if_neg qo]
 by_cases hn:wNeed L.w.op=true
 ·rw[if_pos hn];have ht0:L.l.take (L.w.first+L.w.recs.length-(L.sn.idx+1))=L.l:=List.take_of_length_le qo;obtain ⟨b0,b1⟩:=begin_one (n:=n+10) (i:=L.w.first+L.w.recs.length) o hM' qo p hq qo (Nat.le_refl _) (by rw[ht0];exact hq) h;rcases b1 with ⟨k,g1,g2,g3,g4,g5,g6,g7⟩|⟨g1,g2,g3⟩
  ·rw[if_neg (by rw[g4.code];simp)];rw[ht0,Nat.add_sub_cancel_left,List.take_length] at g7;have hv:((S++opL op)++opL (some ⟨L.w.next,L.w.first+L.w.recs.length,[],segT (L.w.first+L.w.recs.length) [],0⟩)).map Sg.v=(S++opL op).map Sg.v++[(L.w.first+L.w.recs.length,[])]:=by simp[opL,Sg.v]
   refine lay_one (n:=n) o qo hM' hidx g4 ?_ b0 ?_ ?_ ?_ (by rw[hv];exact g6) (by rw[hv,g2];exact g7) g5 hq2 g (k:=k) (by rw[g2]) qo g3 hb
   ·rw[g2];dsimp only;rw[List.map_append,<-o.old];simp[opL]
   ·intro s hs;rcases List.mem_append.1 hs with hs|hs
    ·exact o.frS s hs
    ·simp only[opL,List.mem_singleton] at hs;rw[hs];exact hfn
   ·rw[g2];dsimp only;omega
   ·rw[g2];dsimp only;omega
  ·rw[if_pos (by rw[g1];decide)];exact .inr ⟨g1,g2,b0,g3⟩
 ·rw[if_neg hn];cases hop:op with
  | none=>exact absurd (by rw[o.opn hop];rfl) hn
  | some q=>
   subst hop;obtain ⟨k,k1,_⟩:=o.ops q rfl
   have hf:k.full<=15:=by
    have h4:¬16<=k.full:=fun h5=>hn (by rw[k1];simpa[wNeed] using h5);omega
   exact lay_one (n:=n) o qo hM' hidx o.wi o.old (fun _ _=>I) o.frS hfn qo o.ok o.vk p hq2 g k1 hf (h.mono qo) hb
theorem trunc_one{vot0:List Int}{M n:Nat}{L:Lg}{D:Dk}{S:List Sg}{op:Option Og}(o:LInv vot0 M L D S op)(hM':M+1<=wMany)(hidx:L.sn.idx+L.l.length<lgTop){Q:List Ent->Prop}(p:PosS S op L.sn Q)(hq:Q L.l){i:Nat}(h1:L.sn.idx+1<=i)(h2:i<=L.sn.idx+L.l.length)(hq2:Q (L.l.take (i-(L.sn.idx+1))))(h:Alv (n+10) D):
  ((L.w.truncate i D).2.2=0/\Alv n (L.w.truncate i D).2.1/\(∀ a,a % 4≠1->(L.w.truncate i D).2.1.sec a=D.sec a)/\∃ S1 op1,LInv vot0 (M+1) { L with w:=(L.w.truncate i D).1,l:=L.l.take (i-(L.sn.idx+1)) } (L.w.truncate i D).2.1 S1 op1/\PosS S1 op1 L.sn Q) \/
   ((L.w.truncate i D).2.2=30/\(L.w.truncate i D).2.1.dead=true/\(∀ a,a % 4≠1->(L.w.truncate i D).2.1.sec a=D.sec a)/\WFound (L.w.truncate i D).2.1 L.fr (M+1) L.sn Q):=by
 have hfin:=o.vk.fin;have hnx:=o.next;have hfn:=o.frn;unfold Wl.truncate;rw[if_neg (by rw[o.wcode];simp),if_neg qo,if_neg qo];obtain ⟨b0,b1⟩:=begin_one (n:=n) (i:=i) o hM' qo p hq h1 qo hq2 h;dsimp only;rcases b1 with ⟨k,g1,g2,g3,g4,g5,g6,g7⟩|⟨g1,g2,g3⟩
 ·rw[if_pos g4.code];have hv:((S++opL op)++opL (some ⟨L.w.next,i,[],segT i [],0⟩)).map Sg.v=(S++opL op).map Sg.v++[(i,[])]:=by simp[opL,Sg.v]
  refine .inl ⟨g4.code,g3,b0,_,_,o.chg (W:={ (L.w.begin i D).1 with recs:=L.w.recs.take (i-L.w.first) }) ⟨g4.code,g4.seg,g4.opn,g4.ops,g4.lt⟩ ?_ b0 ?_ ?_ ?_ (by rw[hv];exact g6) (by rw[hv,g2];exact g7) (o.good.take _),g5⟩
  ·rw[g2];dsimp only;rw[List.map_append,<-o.old];simp[opL]
  ·intro s hs;rcases List.mem_append.1 hs with hs|hs
   ·exact o.frS s hs
   ·simp only[opL,List.mem_singleton] at hs;rw[hs];exact hfn
  ·rw[g2];dsimp only;omega
  ·rw[g2];dsimp only;omega
 ·exact .inr ⟨g1,g2,b0,g3⟩
end
section
def Cn(M:Nat)(L:Lg):Prop:=L.hard.num<=M/\L.head.num<=M/\L.place<=M
def Fnd(vot0:List Int)(M:Nat)(E:Dk)(A:List (Nat×Int))(P:Snp->List Ent->Prop):Prop:=∀ D',Cr E D'->0<=D'.room->∃ L E' S',lOpen D' vot0=(some L,E',0)/\(L.kt,L.kv)∈A/\P L.sn L.l/\LInv vot0 M L E' S' none/\Cn M L/\Liv 0 E'/\(E'.areas.map (·.1)).Nodup
theorem fnd_of{vot0:List Int}{M:Nat}{E:Dk}{A:List (Nat×Int)}{P:Snp->List Ent->Prop}(hv:(putConf vot0).isSome=true)(hh:∀ f',Pk (E.sec 0) f'->(sltF f').num<=M/\∃ kh∈A,rdHard (sltF f')=some kh)
  (he:∀ f',Pk (E.sec 4) f'->(sltF f').num<=M/\∃ sn place fr,place<=M/\HeadOk (sltF f') vot0 sn place fr/\((sltF f').num≠0->∀ g,Pk (E.sec (lgA4 place)) g->DatOk g sn.data)/\WFound E fr M sn (P sn)):Fnd vot0 M E A P:=by
 intro D' c hr;obtain ⟨h1,kh,h2,h3⟩:=hh _ (c.pk 0);obtain ⟨e1,sn,place,fr,e2,e3,e4,e5⟩:=he _ (c.pk 4);obtain ⟨L,E',S',k1,k2,k3,k4,k5,k6,k7,k8,k9,k10⟩:=lOpen_found c hr hv h3 e3 (fun h=>e4 h _ (c.pk _)) e5;refine ⟨L,E',S',k1,by rw[k3];exact h2,by rw[k2];exact k4,k5,⟨by rw[k8];exact h1,by rw[k9];exact e1,by rw[k10];exact e2⟩,k6,k7⟩
theorem DatOk.pk{f g:SF}{d:List UInt8}(h:DatOk f d)(p:Pk f g):DatOk g d:=by rw[h.fx.pk p];exact h
theorem LInv.hardP{vot0:List Int}{M M':Nat}{L:Lg}{D E:Dk}{S:List Sg}{op:Option Og}(o:LInv vot0 M L D S op)(cn:Cn M' L)(hs:E.sec 0=D.sec 0){A:List (Nat×Int)}(hA:(L.kt,L.kv)∈A):∀ f',Pk (E.sec 0) f'->(sltF f').num<=M'/\∃ kh∈A,rdHard (sltF f')=some kh:=by
 intro f' p;rw[hs] at p;rw[o.hardF.pk p,o.hardS];exact ⟨cn.1,_,hA,o.hardV⟩
theorem LInv.headP{vot0:List Int}{M M':Nat}{L:Lg}{D E:Dk}{S:List Sg}{op:Option Og}(o:LInv vot0 M L D S op)(cn:Cn M' L)(hs:E.sec 4=D.sec 4)(hs2:E.sec (lgA4 L.place)=D.sec (lgA4 L.place)){P:Snp->List Ent->Prop}(w:WFound E L.fr M' L.sn (P L.sn)):
  ∀ f',Pk (E.sec 4) f'->(sltF f').num<=M'/\∃ sn place fr,place<=M'/\HeadOk (sltF f') vot0 sn place fr/\((sltF f').num≠0->∀ g,Pk (E.sec (lgA4 place)) g->DatOk g sn.data)/\WFound E fr M' sn (P sn):=by
 intro f' p;rw[hs] at p;rw[o.headF.pk p,o.headS];exact ⟨cn.2.1,_,_,_,cn.2.2,o.headV,fun h g pg=>(o.dat h).pk (by rw[<-hs2];exact pg),w⟩
theorem LInv.fnd{vot0:List Int}{M M':Nat}{L:Lg}{D E:Dk}{S:List Sg}{op:Option Og}(o:LInv vot0 M L D S op)(hv:(putConf vot0).isSome=true)(cn:Cn M' L)(hs:∀ a,a % 4≠1->E.sec a=D.sec a){P:Snp->List Ent->Prop}(w:WFound E L.fr M' L.sn (P L.sn)){A:List (Nat×Int)}(hA:(L.kt,L.kv)∈A):Fnd vot0 M' E A P:=
 fnd_of hv (o.hardP cn (hs 0 (by decide)) hA) (o.headP cn (hs 4 (by decide)) (hs _ (by unfold lgA4;omega)) w)
def Rs(vot0:List Int)(M n:Nat)(L:Lg)(E:Dk)(r:Rl)(A:List (Nat×Int))(P:Snp->List Ent->Prop)(ok:Prop):Prop:=
 (ok/\Alv n E/\L.rl=r/\Cn M L/\∃ S op,LInv vot0 M L E S op/\PosS S op L.sn (P L.sn))\/(E.dead=true/\Fnd vot0 M E A P)
theorem setHard_run{vot0:List Int}{M n:Nat}{L:Lg}{D:Dk}{S:List Sg}{op:Option Og}(o:LInv vot0 M L D S op)(hv:(putConf vot0).isSome=true)(cn:Cn M L)(hM:M+1<=wMany)(hidx:L.sn.idx<=lgTop){P:Snp->List Ent->Prop}(p:PosS S op L.sn (P L.sn))(t:Nat)(v:Int)(ht:t<=mxU)(h:Alv (n+1) D):
  Rs vot0 (M+1) n (L.setHard D t v).1 (L.setHard D t v).2.1 (L.rl.setHard t v).1 [(L.kt,L.kv),((L.rl.setHard t v).1.kt,(L.rl.setHard t v).1.kv)] P ((L.setHard D t v).2.2=(L.rl.setHard t v).2):=by
 have cn1:Cn (M+1) L:=⟨by have:=cn.1;omega,by have:=cn.2.1;omega,by have:=cn.2.2;omega⟩;have ht':=ht;unfold mxU at ht';have hMw:=hM;unfold wMany at hMw;unfold Lg.setHard Rl.setHard;rw[if_neg (by rw[o.code];simp)]
 by_cases h1:v < -1\/7<=v
 ·rw[if_pos h1,if_pos (show v < -1\/6<v by omega)];exact .inl ⟨I,h.mono qo,I,cn1,S,op,o.up qo,p⟩
 ·rw[if_neg h1,if_neg (show ¬(v < -1\/6<v) by omega)]
  by_cases h2:t<L.kt
  ·rw[if_pos h2,if_pos (show t<L.rl.kt from h2)];exact .inl ⟨I,h.mono qo,I,cn1,S,op,o.up qo,p⟩
  ·rw[if_neg h2,if_neg (show ¬t<L.rl.kt from h2)]
   have hu:(uint t++uint (v+1).toNat).length<=48:=by
    rw[List.length_append];have h3:=uint10 (i:=t) qo;have h4:=uint10 (i:=(v+1).toNat) qo;omega
   obtain ⟨s1,s2⟩:=slot_save (n:=n) h 0 (S:=L.hard) o.hardF o.hardS hu (by have:=cn.1;omega);have hk:=(rw_save L.hard 0 D (uint t++uint (v+1).toNat)).keys;have hput:rdHard ⟨L.hard.num+1,uint t++uint (v+1).toNat⟩=some (t,v):=rdHard_put qo ht ⟨by omega,by omega⟩;generalize L.hard.save 0 D (uint t++uint (v+1).toNat)=R at s1 s2 hk;obtain ⟨H,E,c⟩:=R;dsimp only at s1 s2 hk ⊢
   have hseg:DSeg E S op:=o.seg.frame (fun k=>s1 _ (by unfold segA;omega)) fun a ha h1=>by
    rcases hk a ha with h2|h2
    ·exact h2
    ·simp only[List.mem_singleton] at h2;rw[h2] at h1;exact absurd h1 (by decide)
   have e4:E.sec 4=D.sec 4:=s1 4 (by decide);have ep:E.sec (lgA4 L.place)=D.sec (lgA4 L.place):=s1 _ (by unfold lgA4;omega);rcases s2 with ⟨g1,g2,g3,g4,g5⟩|⟨g1,g2,g3⟩
   ·rw[if_pos g1];refine .inl ⟨I,g3,I,⟨by dsimp only;rw[g2];dsimp only;have:=cn.1;omega,cn1.2⟩,S,op,?_,p⟩
    exact {
     code:=o.code
     wcode:=o.wcode
     old:=o.old
     seg:=hseg
     opn:=o.opn
     ops:=o.ops
     lt:=o.lt
     frS:=o.frS
     frn:=o.frn
     next:=by have:=o.next;dsimp only;omega
     ok:=o.ok
     val:=o.val
     hardF:=g4
     hardS:=g5.trans g2.symm
     hardV:=by dsimp only;rw[g2];exact hput
     headF:=by rw[e4];exact o.headF
     headS:=by rw[e4];exact o.headS
     headV:=o.headV
     dat:=by rw[ep];exact o.dat
     good:=o.good }
   ·rw[if_neg (by rw[g1];decide)];refine .inr ⟨g2,fnd_of hv (fun f' pf=>?_) (o.headP cn1 e4 ep (o.foundS qo hM hidx p hseg))⟩;rcases g3 f' pf with g|g
    ·rw[g];exact ⟨cn1.1,_,by simp,o.hardV⟩
    ·rw[g];exact ⟨by have:=cn.1;dsimp only;omega,_,by simp,hput⟩
theorem app_many{vot0:List Int}{Q:List Ent->Prop}:∀ (x:List Ent) (M n:Nat) (L:Lg) (D:Dk) (S:List Sg) (op:Option Og),LInv vot0 M L D S op->M+x.length<=wMany->L.sn.idx+L.l.length+x.length<lgTop->PosS S op L.sn Q->(∀ k,k<=x.length->Q (L.l++x.take k))->GoodL L.sn (L.l++x)->Alv (n+20*x.length) D ->
  ((Lg.app1 x L D).2.2=0/\Alv n (Lg.app1 x L D).2.1/\(∃ W,(Lg.app1 x L D).1={ L with w:=W,l:=L.l++x })/\∃ S1 op1,LInv vot0 (M+x.length) (Lg.app1 x L D).1 (Lg.app1 x L D).2.1 S1 op1/\PosS S1 op1 L.sn Q) \/
   ((Lg.app1 x L D).2.2=30/\(Lg.app1 x L D).2.1.dead=true/\(∀ a,a % 4≠1->(Lg.app1 x L D).2.1.sec a=D.sec a)/\WFound (Lg.app1 x L D).2.1 L.fr (M+x.length) L.sn Q)
 | [],M,n,L,D,S,op,o,_,_,p,_,_,h=>.inl ⟨rfl,h.mono qo,⟨L.w,by rw[List.append_nil];rfl⟩,S,op,o,p⟩
 | e::r,M,n,L,D,S,op,o,hM,hl,p,hq,g,h=>by
  simp only[List.length_cons] at hM hl h hq;have hq0:Q L.l:=by have:=hq 0 qo;simpa using this
  have hq1:Q (L.l++[e]):=by have:=hq 1 qo;simpa using this
  have hg1:GoodL L.sn (L.l++[e]):=by
   have:=g.take (L.l.length+1)
   rwa [List.take_append,List.take_of_length_le qo,Nat.add_sub_cancel_left,show (e::r).take 1=[e] from rfl] at this
  rw[app1_step];rcases app_one (n:=n+20*r.length) o qo qo p hq0 hq1 hg1 (h.mono qo) with ⟨g1,g2,g3,S1,op1,g4,g5⟩|⟨g1,g2,g3,g4⟩
  ·rw[if_neg (by rw[g1];simp)];have hap:L.l++e::r=(L.l++[e])++r:=by simp
   rcases app_many r (M+1) n { L with w:=(L.w.append e.bytes D).1,l:=L.l++[e] } _ S1 op1 g4 qo (by dsimp only;rw[List.length_append,List.length_singleton];omega) g5 (fun k hk=>by
    have:=hq (k+1) qo;dsimp only;rw[List.append_assoc];exact this) (by dsimp only;rw[<-hap];exact g) g2 with ⟨k1,k2,⟨W,k3⟩,S2,op2,k4,k5⟩|⟨k1,k2,k3,k4⟩
   ·refine .inl ⟨k1,k2,⟨W,by rw[k3];dsimp only;rw[hap]⟩,S2,op2,?_,k5⟩;rw[show M+(e::r).length=M+1+r.length by rw[List.length_cons];omega];exact k4
   ·refine .inr ⟨k1,k2,fun a ha=>by rw[k3 a ha,g3 a ha],?_⟩;rw[show M+(e::r).length=M+1+r.length by rw[List.length_cons];omega];exact k4
  ·rw[if_pos (by rw[g1];decide)];refine .inr ⟨g1,g2,g3,fun F c hr=>?_⟩;obtain ⟨S',W,E,l,w1,w2,w3⟩:=g4 F c hr;exact ⟨S',W,E,l,w1,⟨w2.op,w2.code,w2.old,w2.lt,w2.frn,by have:=w2.next;simp only[List.length_cons];omega,w2.seg,w2.vw⟩,w3⟩
end
section
theorem fol_top:∀ (x:List Ent) (i t:Nat),folR i t x=0->(∀ e∈x,e.idx<lgTop)->i<lgTop->i+x.length<lgTop
 | [],i,t,_,_,h=>h
 | e::x,i,t,hf,hx,h=>by
  have h1:=folR_ok hf;have h2:=fol_top x e.idx e.term h1.2.2 (fun a ha=>hx a (by simp[ha])) (hx e (by simp));rw[List.length_cons];omega
def cmn:List Ent->List Ent->Nat
 | a::l,b::s=>if a=b then cmn l s+1 else 0
 | _,_=>0
theorem cmn_le:∀ (l s:List Ent),cmn l s<=l.length/\cmn l s<=s.length
 | [],_=>⟨Nat.le_refl _,Nat.zero_le _⟩
 | a::l,[]=>⟨Nat.zero_le _,Nat.le_refl _⟩
 | a::l,b::s=>by
  unfold cmn;have:=cmn_le l s
  split
  ·simp only[List.length_cons];omega
  ·simp
theorem cmn_ne:∀ (l s:List Ent) (c:Nat),l[c]?≠s[c]?->cmn l s<=c
 | [],_,c,_=>Nat.zero_le c
 | a::l,[],c,_=>Nat.zero_le c
 | a::l,b::s,0,h=>by
  unfold cmn;rw[if_neg (by intro e;apply h;rw[e];rfl)];exact Nat.le_refl _
 | a::l,b::s,c+1,h=>by
  unfold cmn;have:=cmn_ne l s c (by simpa using h)
  split
  ·omega
  ·exact Nat.zero_le _
def Stp(r s:Rl)(sn:Snp)(l:List Ent):Prop:=(r.sn=s.sn/\sn=s.sn/\∃ k,cmn r.l s.l<=k/\k<=s.l.length/\l=s.l.take k)\/(r.sn≠s.sn/\sn=s.sn/\l=s.l)
theorem stp_app{r:Rl}{c:Nat}{y:List Ent}(hc:c<=r.l.length)(hy:c=r.l.length\/∃ e,y.head?=some e/\r.l[c]?≠some e)(k:Nat)(hk:k<=y.length):Stp r { r with l:=r.l.take c++y } r.sn (r.l.take c++y.take k):=by
 have hl:(r.l.take c).length=c:=by rw[List.length_take];omega
 refine .inl ⟨I,I,c+k,?_,?_,?_⟩
 ·have:cmn r.l (r.l.take c++y)<=c:=by
   rcases hy with rfl|⟨e,h1,h2⟩
   ·exact (cmn_le _ _).1
   ·refine cmn_ne _ _ _ ?_;rw[List.getElem?_append_right qo,hl,Nat.sub_self,<-List.head?_eq_getElem?,h1];exact h2
  dsimp only;omega
 ·dsimp only;rw[List.length_append,hl];omega
 ·dsimp only;have h1:(r.l.take c++y).take (c+k)=(r.l.take c).take (c+k)++y.take (c+k-(r.l.take c).length):=List.take_append;rw[h1,hl,Nat.add_sub_cancel_left,List.take_of_length_le (l:=r.l.take c) qo]
theorem skp_first{s:Snp}{l:List Ent}:∀ {x:List Ent} {b:Bool} {e:Ent} {r:List Ent} {B:Bool},skp s l x b=(e::r,B)->(trm s l e.idx).2=false\/(trm s l e.idx).1≠e.term
 | [],_,_,_,_,h=>by cases h
 | a::x,b,e,r,B,h=>by
  rw[skp_cons] at h
  split at h
  ·rename_i h1;cases h;exact h1
  ·exact skp_first h
theorem Rs.up{vot0:List Int}{M M' n m:Nat}{L:Lg}{E:Dk}{r:Rl}{A:List (Nat×Int)}{P:Snp->List Ent->Prop}{ok:Prop}(h:Rs vot0 M n L E r A P ok)(hM:M<=M')(hm:m<=n):Rs vot0 M' m L E r A P ok:=by
 rcases h with ⟨h1,h2,h3,h4,S,op,h5,h6⟩|⟨h1,h2⟩
 ·exact .inl ⟨h1,h2.mono hm,h3,⟨by have:=h4.1;omega,by have:=h4.2.1;omega,by have:=h4.2.2;omega⟩,S,op,h5.up hM,h6⟩
 ·refine .inr ⟨h1,fun D' c hr=>?_⟩;obtain ⟨L',E',S',k1,k2,k3,k4,k5,k6⟩:=h2 D' c hr;exact ⟨L',E',S',k1,k2,k3,k4.up hM,⟨by have:=k5.1;omega,by have:=k5.2.1;omega,by have:=k5.2.2;omega⟩,k6⟩
theorem good_app{sn:Snp}{l x:List Ent}(g:GoodL sn l)(hf:folR (sn.idx+l.length) (trm sn l (sn.idx+l.length)).1 x=0)(hx:∀ e∈x,entG e):GoodL sn (l++x):=by
 refine ⟨(folR_app _ _ _ _).2 ⟨g.1,?_⟩,fun e he=>?_⟩
 ·rw[trm_lastT (Nat.le_refl _),List.take_length] at hf;exact hf
 ·rcases List.mem_append.1 he with he|he
  ·exact g.2 e he
  ·exact hx e he
theorem lapp_run{vot0:List Int}{M n:Nat}{L:Lg}{D:Dk}{S:List Sg}{op:Option Og}(o:LInv vot0 M L D S op)(hv:(putConf vot0).isSome=true)(cn:Cn M L){A:List (Nat×Int)}(hA:(L.kt,L.kv)∈A){P:Snp->List Ent->Prop}(p:PosS S op L.sn (P L.sn))(x:List Ent)(hM:M+x.length<=wMany)(hl:L.sn.idx+L.l.length+x.length<lgTop)
  (hf:folR L.last (trm L.sn L.l L.last).1 x=0) (hx:∀ e∈x,entG e) (hq:∀ k,k<=x.length->P L.sn (L.l++x.take k)) (h:Alv (n+20*x.length) D):
  Rs vot0 (M+x.length) n (L.app1 x D).1 (L.app1 x D).2.1 { L.rl with l:=L.l++x } A P ((L.app1 x D).2.2=0):=by
 have cn1:Cn (M+x.length) L:=⟨by have:=cn.1;omega,by have:=cn.2.1;omega,by have:=cn.2.2;omega⟩;rcases app_many x M n L D S op o hM hl p hq (good_app o.good hf hx) h with ⟨g1,g2,⟨W,g3⟩,S1,op1,g4,g5⟩|⟨g1,g2,g3,g4⟩
 ·refine .inl ⟨g1,g2,by rw[g3];rfl,by rw[g3];exact cn1,S1,op1,g4,?_⟩;rw[show (Lg.app1 x L D).1.sn=L.sn by rw[g3]];exact g5
 ·exact .inr ⟨g2,o.fnd hv cn1 g3 g4 hA⟩
theorem append_run{vot0:List Int}{M n:Nat}{L:Lg}{D:Dk}{S:List Sg}{op:Option Og}(o:LInv vot0 M L D S op)(hv:(putConf vot0).isSome=true)(cn:Cn M L){A:List (Nat×Int)}(hA:(L.kt,L.kv)∈A){P:Snp->List Ent->Prop}(p:PosS S op L.sn (P L.sn))(x:List Ent)(hM:M+x.length<=wMany)(hl:L.sn.idx+L.l.length<lgTop)(hlow:∀ e∈x,e.idx<lgTop)
  (hx:∀ e∈x,e.idx<=mxU/\e.term<=mxU) (hq:∀ sn l,Stp L.rl (L.rl.append x).1 sn l->P sn l) (h:Alv (n+20*x.length) D):
  Rs vot0 (M+x.length) n (L.append x D).1 (L.append x D).2.1 (L.rl.append x).1 A P ((L.append x D).2.2=(L.rl.append x).2):=by
 have cn1:Cn (M+x.length) L:=⟨by have:=cn.1;omega,by have:=cn.2.1;omega,by have:=cn.2.2;omega⟩;unfold Rl.append at hq ⊢;unfold Lg.append;rw[if_neg (by rw[o.code];simp)]
 by_cases hf:fol L.last (trm L.sn L.l L.last).1 x=0
 ·have hnf:¬fol (L.rl.sn.idx+L.rl.l.length) (trm L.rl.sn L.rl.l (L.rl.sn.idx+L.rl.l.length)).1 x≠0:=by intro h2;exact h2 hf
  rw[if_neg hnf] at hq ⊢;rw[if_neg (by rw[hf];simp)];have hok:=fol_ok hf;have hfr:=fol_folR hf;refine lapp_run o hv cn hA p x hM (fol_top x _ _ hfr hlow hl) hfr (fun e he=>⟨hok e he,hx e he⟩) (fun k hk=>?_) h;have:=hq _ _ (stp_app (r:=L.rl) (c:=L.l.length) (y:=x) (Nat.le_refl _) (.inl rfl) k hk |> fun h=>by rw[show L.rl.l.take L.l.length=L.l from List.take_length] at h;exact h);exact this
 ·rw[if_pos hf,if_pos (show fol (L.rl.sn.idx+L.rl.l.length) (trm L.rl.sn L.rl.l (L.rl.sn.idx+L.rl.l.length)).1 x≠0 from hf)];exact .inl ⟨I,h.mono qo,I,cn1,S,op,o.up qo,p⟩
theorem merge3_run{vot0:List Int}{M n:Nat}{L:Lg}{D:Dk}{S:List Sg}{op:Option Og}(o:LInv vot0 M L D S op)(hv:(putConf vot0).isSome=true)(cn:Cn M L){A:List (Nat×Int)}(hA:(L.kt,L.kv)∈A){P:Snp->List Ent->Prop}(p:PosS S op L.sn (P L.sn))(x:List Ent)(last:Nat)(hM:M+x.length<=wMany)(hl:L.sn.idx+L.l.length+x.length<lgTop)
  (hf:folR L.last (trm L.sn L.l L.last).1 x=0) (hx:∀ e∈x,entG e) (hq:∀ k,k<=x.length->P L.sn (L.l++x.take k)) (h:Alv (n+20*x.length) D):
  Rs vot0 (M+x.length) n (L.merge3 x last D).1 (L.merge3 x last D).2.1 { L.rl with l:=L.l++x } A P ((L.merge3 x last D).2.2=(last,true,0)):=by
 have h1:=lapp_run (n:=n) o hv cn hA p x hM hl hf hx hq h
 have e1:L.append x D=L.app1 x D:=by
  unfold Lg.append;rw[if_neg (by rw[o.code];simp),if_neg (by rw[fol_zero (fun e he=>(hx e he).1) hf];simp)]
 unfold Lg.merge3;rw[e1]
 by_cases hc:(L.app1 x D).2.2=0
 ·rw[if_neg (by rw[hc];simp)];rcases h1 with ⟨_,g⟩|g
  ·exact .inl ⟨I,g⟩
  ·exact .inr g
 ·rw[if_pos hc];rcases h1 with ⟨g,_⟩|g
  ·exact absurd g hc
  ·exact .inr g
theorem merge2_run{vot0:List Int}{M n:Nat}{L:Lg}{D:Dk}{S:List Sg}{op:Option Og}(o:LInv vot0 M L D S op)(hv:(putConf vot0).isSome=true)(cn:Cn M L){A:List (Nat×Int)}(hA:(L.kt,L.kv)∈A){P:Snp->List Ent->Prop}(p:PosS S op L.sn (P L.sn))(hq0:P L.sn L.l)(i t:Nat)(hi:L.sn.idx<=i)(x:List Ent)(last:Nat)(hM:M+1+x.length<=wMany)(hl:L.sn.idx+L.l.length<lgTop)(hlow:∀ e∈x,e.idx<lgTop)
  (hx:∀ e∈x,entG e) (hf:folR i t x=0) (ht:trm L.sn L.l i=(t,true)) (hq:∀ sn l,Stp L.rl (L.rl.merge2 x last).1 sn l->P sn l) (h:Alv (n+10+20*x.length) D):
  Rs vot0 (M+1+x.length) n (L.merge2 x last D).1 (L.merge2 x last D).2.1 (L.rl.merge2 x last).1 A P ((L.merge2 x last D).2.2=(L.rl.merge2 x last).2):=by
 obtain ⟨⟨y,B⟩,hy⟩:∃ p,skp L.sn L.l x true=p:=⟨_,rfl⟩;have hy2:skp L.rl.sn L.rl.l x true=(y,B):=hy;have hsuf:=skp_suf L.sn L.l x true;rw[hy] at hsuf;dsimp only at hsuf;have hlen:=hsuf.length_le;cases y with
 | nil=>
  rw[merge2_nil hy,rmerge2_nil hy2];have h1:=merge3_run (n:=n) o hv cn hA p [] last (by simp;omega) (by simpa using hl) rfl (by simp) (fun k hk=>by simpa using hq0) (h.mono (by simp;omega));rw[List.append_nil] at h1;exact h1.up (by simp;omega) (Nat.le_refl _)
 | cons e r=>
  obtain ⟨u,g1,g2,g3,g4⟩:=skp_at L.sn L.l x i t true hf ht e r B hy;have g5:=trm_true (s:=L.sn) (l:=L.l) (i:=e.idx-1) (by rw[g2]);rw[merge2_cons hy,rmerge2_cons hy2];rw[rmerge2_cons hy2] at hq;have hyx:∀ a∈e::r,entG a:=fun a ha=>hx a (hsuf.subset ha);have hbase:e.idx-1+(e::r).length<lgTop:=fol_top (e::r) (e.idx-1) u g3 (fun a ha=>hlow a (hsuf.subset ha)) qo;have hlt:(L.l.take (e.idx-L.sn.idx-1)).length=e.idx-L.sn.idx-1:=by rw[List.length_take];omega
  cases hB:B with
  | true=>
   subst hB;have g6:=trm_true (s:=L.sn) (l:=L.l) (i:=e.idx) g4.symm
   have hne:L.l[e.idx-L.sn.idx-1]?≠some e:=by
    have h7:¬(trm L.sn L.l e.idx).1=e.term:=by
     intro hcon;have:=skp_first hy;rcases this with h8|h8
     ·rw[<-g4] at h8;cases h8
     ·exact h8 hcon
    intro hcon
    apply h7
    unfold trm;rw[if_neg qo,if_neg qo,hcon]
    rfl
   have hqq:∀ k,k<=(e::r).length->P L.sn (L.l.take (e.idx-L.sn.idx-1)++(e::r).take k):=fun k hk=>hq _ _ (stp_app (r:=L.rl) (c:=e.idx-L.sn.idx-1) (y:=e::r) (by show _<=L.l.length;omega) (.inr ⟨e,rfl,hne⟩) k hk);have hT:=trunc_one (n:=n+20*(e::r).length) o qo qo p hq0 (i:=e.idx) qo qo (by have:=hqq 0 qo;rw[List.take_zero,List.append_nil] at this;rw[show e.idx-(L.sn.idx+1)=e.idx-L.sn.idx-1 by omega];exact this) (h.mono qo)
   have hat:(lgAt L.sn L.l e.idx).getD 0=e.idx-L.sn.idx-1:=by
    unfold lgAt;rw[if_neg qo]
    rfl
   have hcut:L.cutAt e.idx (L.w.truncate e.idx D).1={ L with w:=(L.w.truncate e.idx D).1,l:=L.l.take (e.idx-L.sn.idx-1) }:=by unfold Lg.cutAt;rw[hat]
   rw[if_pos rfl];rcases hT with ⟨k1,k2,k3,S1,op1,k4,k5⟩|⟨k1,k2,k3,k4⟩
   ·rw[if_neg (by rw[k1];simp),hcut];rw[show e.idx-(L.sn.idx+1)=e.idx-L.sn.idx-1 by omega] at k4
    have hla:({ L with w:=(L.w.truncate e.idx D).1,l:=L.l.take (e.idx-L.sn.idx-1) }:Lg).last=e.idx-1:=by
     unfold Lg.last;dsimp only;rw[hlt];omega
    have h3:=merge3_run (n:=n) k4 hv ⟨by have:=cn.1;dsimp only;omega,by have:=cn.2.1;dsimp only;omega,by have:=cn.2.2;dsimp only;omega⟩ hA k5 (e::r) last qo (by dsimp only;rw[hlt];omega) (by
     rw[hla];dsimp only;rw[trm_take qo qo,g2];exact g3) hyx hqq k2
    exact h3.up qo<|Nat.le_refl _
   ·rw[if_pos (by rw[k1];decide)];refine .inr ⟨k2,?_⟩;have hfd:=o.fnd hv (M':=M+1) ⟨by have:=cn.1;omega,by have:=cn.2.1;omega,by have:=cn.2.2;omega⟩ k3 k4 hA;rcases Rs.up (n:=n) (m:=n) (M':=M+1+x.length) (L:=L) (r:=L.rl) (ok:=True) (.inr ⟨k2,hfd⟩) qo (Nat.le_refl _) with ⟨_,hh,_⟩|⟨_,hh⟩
    ·rw[hh.dead] at k2;cases k2
    ·exact hh
  | false=>
   subst hB
   have g6:e.idx=L.sn.idx+L.l.length+1:=by
    rcases Nat.lt_or_ge (L.sn.idx+L.l.length) e.idx with h7|h7
    ·omega
    ·exfalso
     have:(trm L.sn L.l e.idx).2=true:=by
      unfold trm;rw[if_neg qo,if_neg qo]
     rw[<-g4] at this;cases this
   have htk:L.rl.l.take (e.idx-L.rl.sn.idx-1)=L.l:=by
    show L.l.take (e.idx-L.sn.idx-1)=L.l;rw[show e.idx-L.sn.idx-1=L.l.length by omega,List.take_length]
   rw[htk] at hq ⊢;rw[if_neg (by simp)];have hla:L.last=e.idx-1:=by unfold Lg.last;omega
   have h3:=merge3_run (n:=n) o hv cn hA p (e::r) last qo qo (by rw[hla,g2];exact g3) hyx (fun k hk=>by
    have:=stp_app (r:=L.rl) (c:=L.l.length) (y:=e::r) (Nat.le_refl _) (.inl rfl) k hk;rw[show L.rl.l.take L.l.length=L.l from List.take_length] at this;exact hq _ _ this) (h.mono qo)
   exact h3.up qo<|Nat.le_refl _
end
section
theorem Cn.up{M M':Nat}{L:Lg}(h:Cn M L)(k:M<=M'):Cn M' L:=⟨Nat.le_trans h.1 k,Nat.le_trans h.2.1 k,Nat.le_trans h.2.2 k⟩
theorem merge1_run{vot0:List Int}{M n:Nat}{L:Lg}{D:Dk}{S:List Sg}{op:Option Og}(o:LInv vot0 M L D S op)(hv:(putConf vot0).isSome=true)(cn:Cn M L){A:List (Nat×Int)}(hA:(L.kt,L.kv)∈A){P:Snp->List Ent->Prop}(p:PosS S op L.sn (P L.sn))(hq0:P L.sn L.l)(i t:Nat)(hi:L.sn.idx<=i)(x:List Ent)(last:Nat)(hM:M+1+x.length<=wMany)(hl:L.sn.idx+L.l.length<lgTop)(hlow:∀ e∈x,e.idx<lgTop)
  (hx:∀ e∈x,entG e) (hf:folR i t x=0) (hq:∀ sn l,Stp L.rl (L.rl.merge1 i t x last).1 sn l->P sn l) (h:Alv (n+10+20*x.length) D):
  Rs vot0 (M+1+x.length) n (L.merge1 i t x last D).1 (L.merge1 i t x last D).2.1 (L.rl.merge1 i t x last).1 A P ((L.merge1 i t x last D).2.2=(L.rl.merge1 i t x last).2):=by
 unfold Rl.merge1 at hq ⊢;unfold Lg.merge1
 by_cases hc:(trm L.sn L.l i).2=false\/(trm L.sn L.l i).1≠t
 ·rw[if_pos hc,if_pos (show (trm L.rl.sn L.rl.l i).2=false\/(trm L.rl.sn L.rl.l i).1≠t from hc)];exact .inl ⟨I,h.mono qo,I,cn.up qo,S,op,o.up qo,p⟩
 ·rw[if_neg (show ¬((trm L.rl.sn L.rl.l i).2=false\/(trm L.rl.sn L.rl.l i).1≠t) from hc)] at hq ⊢;rw[if_neg hc];have hc:=not_or.1 hc;exact merge2_run o hv cn hA p hq0 i t hi x last hM hl hlow hx hf (Prod.ext (Decidable.not_not.1 hc.2) (by simpa using hc.1)) hq h
theorem merge_run{vot0:List Int}{M n:Nat}{L:Lg}{D:Dk}{S:List Sg}{op:Option Og}(o:LInv vot0 M L D S op)(hv:(putConf vot0).isSome=true)(cn:Cn M L){A:List (Nat×Int)}(hA:(L.kt,L.kv)∈A){P:Snp->List Ent->Prop}(p:PosS S op L.sn (P L.sn))(hq0:P L.sn L.l)(i t:Nat)(x:List Ent)(hM:M+1+x.length<=wMany)(hl:L.sn.idx+L.l.length<lgTop)(hlow:∀ e∈x,e.idx<lgTop)
  (hx:∀ e∈x,e.idx<=mxU/\e.term<=mxU) (hq:∀ sn l,Stp L.rl (L.rl.merge i t x).1 sn l->P sn l) (h:Alv (n+10+20*x.length) D):
  Rs vot0 (M+1+x.length) n (L.merge i t x D).1 (L.merge i t x D).2.1 (L.rl.merge i t x).1 A P ((L.merge i t x D).2.2=(L.rl.merge i t x).2):=by
 have h0:Alv n D/\L.rl=L.rl/\Cn (M+1+x.length) L/\∃ S op,LInv vot0 (M+1+x.length) L D S op/\PosS S op L.sn (P L.sn):=⟨h.mono qo,rfl,cn.up qo,S,op,o.up qo,p⟩;have hsn:L.rl.sn=L.sn:=rfl;unfold Rl.merge at hq ⊢;unfold Lg.merge;rw[hsn] at hq;rw[if_neg (by rw[o.code];simp),hsn]
 by_cases hf:fol i t x≠0
 ·rw[if_pos hf,if_pos hf];exact .inl ⟨I,h0⟩
 ·rw[if_neg hf] at hq;rw[if_neg hf,if_neg hf];have hf:=Decidable.not_not.1 hf;have hok:=fol_ok hf;have hfR:=fol_folR hf
  by_cases hi:i<L.sn.idx
  ·rw[if_pos hi] at hq;rw[if_pos hi,if_pos hi]
   by_cases h1:i+x.length<L.sn.idx
   ·rw[if_pos h1,if_pos h1];exact .inl ⟨I,h0⟩
   ·rw[if_neg h1] at hq;rw[if_neg h1,if_neg h1]
    by_cases h2:((x.drop (L.sn.idx-i)).head?.map fun e=>decide (e.term<L.sn.term))=some true
    ·rw[if_pos h2,if_pos h2];exact .inl ⟨I,h0⟩
    ·rw[if_neg h2] at hq;rw[if_neg h2,if_neg h2];have hdl:(x.drop (L.sn.idx-i)).length<=x.length:=by rw[List.length_drop];omega
     have hm:=merge1_run (n:=n) o hv cn hA p hq0 L.sn.idx L.sn.term (Nat.le_refl _) (x.drop (L.sn.idx-i)) (i+x.length) qo hl (fun e he=>hlow e (List.mem_of_mem_drop he)) (fun e he=>⟨hok e (List.mem_of_mem_drop he),hx e (List.mem_of_mem_drop he)⟩) (by
      cases hd:x.drop (L.sn.idx-i) with
      | nil=>rfl
      | cons e r=>
       have h3:=folR_drop x i t _ e r hfR hd;rw[hd] at h2;simp at h2;rw[folR_cons,if_neg qo];exact h3.2) hq (h.mono qo)
     exact hm.up qo<|Nat.le_refl _
  ·rw[if_neg hi] at hq;rw[if_neg hi,if_neg hi];exact merge1_run o hv cn hA p hq0 i t qo x _ hM hl hlow (fun e he=>⟨hok e he,hx e he⟩) hfR hq h
def Lst(op:Option Og):Prop:=∀ o,op=some o->o.t0=(segT o.idx o.recs).length
theorem pos_last{S:List Sg}{op:Option Og}{sn:Snp}{l:List Ent}(hl:Lst op)(ok:okS none ((S++opL op).map Sg.v))(g:GoodL sn l)(lv:LV sn (scanV none ((S++opL op).map Sg.v)) l):PosS S op sn (fun l'=>l'=l):=by
 intro t ht;cases op with
 | none=>
  have:t=none:=ht;subst this;rw[show S++opL none=S from List.append_nil S] at ok lv;rw[Option.toList_none,List.append_nil];exact ⟨ok,l,I,g,lv⟩
 | some o=>
  have h0:=hl o rfl;have hv:(S++opL (some o)).map Sg.v=S.map Sg.v++[(o.idx,o.recs)]:=by simp[opL,Sg.v]
  rw[hv] at ok lv;cases t with
  | none=>
   have ht:o.t0<(uint o.idx).length:=ht;rw[h0] at ht;unfold segT at ht;rw[List.length_append] at ht;omega
  | some t=>
   obtain ⟨i',rs⟩:=t;obtain ⟨e1,j,e2,e3,e4⟩:=ht;have:=e4 o.recs.length (Nat.le_refl _) (by rw[List.take_length,h0];exact Nat.le_refl _);obtain rfl:j=o.recs.length:=by omega
   rw[List.take_length] at e3;subst e1 e3;exact ⟨ok,l,I,g,lv⟩
theorem lsync_run{vot0:List Int}{M n:Nat}{L:Lg}{D:Dk}{S:List Sg}{op:Option Og}(o:LInv vot0 M L D S op)(h:Alv n D):
  ((L.w.sync D).1=L.w/\Alv n (L.w.sync D).2/\(∀ a,a % 4≠1->(L.w.sync D).2.sec a=D.sec a)/\∃ op',LInv vot0 M L (L.w.sync D).2 S op'/\Lst op'/\PosS S op' L.sn (fun l=>l=L.l)) \/
   ((L.w.sync D).1.code=30/\Died D (L.w.sync D).2):=by
 rcases wsync_run o.wi h with ⟨g1,g2,g3,g4,g5,g6⟩|g
 ·have e1:opL (op.map Og.lasts)=opL op:=by cases op <;> rfl
  have hlst:Lst (op.map Og.lasts):=by
   intro q hq;cases op with
   | none=>cases hq
   | some q'=>
    cases hq;obtain ⟨k,_,_,k3,_⟩:=o.ops q' rfl;show q'.T.length=_;rw[k3]
    rfl
  refine .inl ⟨g1,g2,g5,_,?_,hlst,pos_last hlst (by rw[e1];exact o.ok) o.good (by rw[e1];exact o.vk.lv)⟩;have:=o.chg (W:=L.w) (l:=L.l) (M':=M) g3 (by rw[e1];exact o.old) g5 (by rw[e1];exact o.frS) o.frn o.next (by rw[e1];exact o.ok) (by rw[e1];exact o.vk) o.good;exact this
 ·exact .inr g
theorem free_run{vot0:List Int}{M n:Nat}:∀ (f:Nat) (L:Lg) (D:Dk) (S:List Sg) (op:Option Og),LInv vot0 M L D S op->M<=wMany->L.sn.idx<=lgTop->L.w.first=L.sn.idx+1->Lst op->Alv n D ->
  (∀ a,a % 4≠1->(wfree (L.sn.idx+1) f L.w.old D).2.1.sec a=D.sec a) /\
  (((wfree (L.sn.idx+1) f L.w.old D).2.2=0/\Alv n (wfree (L.sn.idx+1) f L.w.old D).2.1/\∃ S',LInv vot0 M { L with w:={ L.w with old:=(wfree (L.sn.idx+1) f L.w.old D).1 } } (wfree (L.sn.idx+1) f L.w.old D).2.1 S' op) \/
   ((wfree (L.sn.idx+1) f L.w.old D).2.2=30/\(wfree (L.sn.idx+1) f L.w.old D).2.1.dead=true/\WFound (wfree (L.sn.idx+1) f L.w.old D).2.1 L.fr M L.sn (fun l=>l=L.l)))
 | 0,L,D,S,op,o,_,_,_,_,h=>⟨fun _ _=>rfl,.inl ⟨rfl,h,S,o⟩⟩
 | f+1,L,D,S,op,o,hM,hidx,hfst,hl,h=>by
  unfold Go.En.wfree
  by_cases hc:1<L.w.old.length/\wfreed L.w.old (L.sn.idx+1)=true
  ·rw[if_pos hc];obtain ⟨hc1,hc2⟩:=hc;have hlen:=congrArg List.length o.old;rw[List.length_map,List.length_append] at hlen;have hop1:(opL op).length<=1:=by cases op <;> simp[opL]
   cases S with
   | nil=>simp only[List.length_nil] at hlen;omega
   | cons s0 S=>
    have hold:=o.old;rw[List.cons_append,List.map_cons] at hold;have hh:(L.w.old.headD (0,0)).1=s0.num:=by rw[hold];rfl
    have hd:L.w.old.drop 1=(S++opL op).map fun s=>(s.num,s.idx):=by rw[hold];rfl
    rw[hh,hd];have hseg:=o.seg;have hasc:=List.pairwise_cons.1 hseg.asc;have hlt0:∀ q,op=some q->s0.num<q.num:=fun q hq=>(hseg.op q hq).1 s0 (by simp)
    obtain ⟨t,ht1,ht2⟩:∃ s∈(S++opL op).map Sg.v,s.1<=L.sn.idx+1:=by
     unfold wfreed at hc2;rw[hd,List.any_map,List.any_eq_true] at hc2;obtain ⟨s,h1,h2⟩:=hc2;exact ⟨s.v,List.mem_map.2 ⟨s,h1,I⟩,by simpa[Sg.v] using h2⟩
    have hok:=o.ok;have hvk:=o.vk;rw[List.cons_append,List.map_cons] at hok hvk;obtain ⟨ok2,a,b,ea,eb,hag⟩:=scan_drop ((S++opL op).map Sg.v) (stepV none s0.v) none (.inl rfl) hok.2.2 ⟨t,ht1,ht2⟩;rw[show scanV none (s0.v::(S++opL op).map Sg.v)=scanV (some (stepV none s0.v)) ((S++opL op).map Sg.v) from rfl,ea] at hvk
    have hvk2:Vk L.w.first L.w.recs L.sn L.l (scanV none ((S++opL op).map Sg.v)):=by
     rw[eb];obtain ⟨f1,r1⟩:=a;obtain ⟨f2,r2⟩:=b;obtain ⟨k1,k2,k3,k4⟩:=hag;obtain ⟨q1,q2,q3,q4,q5⟩:=hvk;dsimp only at k1 k2 k3 k4;refine ⟨by omega,q2,by omega,?_,?_⟩
     ·rw[q4,hfst,k4]
     ·rw[<-k4];exact q5
    have hkfree:∀ k∈(D.free (segA s0.num)).1.areas.map (·.1),k∈D.areas.map (·.1):=fun k hk=>by
     rcases (Rw.free (segA s0.num) (Rw.refl [] D)).keys k hk with g|g
     ·exact g
     ·simp at g
    rcases h.free (segA s0.num) with ⟨g1,g2,g3,g4⟩|⟨g1,g2,g3⟩
    ·rw[if_neg (by rw[g1];simp)]
     have hgone:segA s0.num∉(D.free (segA s0.num)).1.areas.map (·.1):=by
      unfold Dk.free;rw[if_neg (by rw[h.dead];decide)]
      split
      ·rename_i hdd;have:(D.free (segA s0.num)).2=30:=by unfold Dk.free;rw[if_neg (by rw[h.dead];decide),if_pos hdd]
       rw[this] at g1;cases g1
      ·show segA s0.num∉(mdel (segA s0.num) D.areas).map (·.1);have hx:=mget_mdel (segA s0.num) (segA s0.num) D.areas h.keys;rw[if_pos rfl] at hx;exact mget_none.1 hx
     have hs1:∀ a,a % 4≠1->(D.free (segA s0.num)).1.sec a=D.sec a:=fun a ha=>g4 a (fun e=>ha (by rw[e];unfold segA;omega))
     have hw:WI { L.w with old:=(S++opL op).map fun s=>(s.num,s.idx) } (D.free (segA s0.num)).1 S op:=by
      refine ⟨o.wcode,⟨fun a ha h1=>?_,hasc.2,fun s hs=>hseg.bd s (by simp[hs]),fun s hs=>?_,fun q hq=>?_⟩,o.opn,o.ops,fun s hs=>o.lt s (by rw[List.cons_append];exact List.mem_cons_of_mem _ hs)⟩
      ·rcases hseg.keys a (hkfree a ha) h1 with ⟨s,hs,e⟩|h2
       ·rcases List.mem_cons.1 hs with rfl|hs
        ·rw[e] at ha;exact absurd ha hgone
        ·exact .inl ⟨s,hs,e⟩
       ·exact .inr h2
      ·rw[g4 _ (segA_ne (by have:=hasc.1 s hs;omega))];exact hseg.cl s (by simp[hs])
      ·obtain ⟨q1,q2,q3,q4,q5⟩:=hseg.op q hq;exact ⟨fun s hs=>q1 s (by simp[hs]),q2,q3,by rw[g4 _ (segA_ne (by have:=hlt0 q hq;omega))];exact q4,q5⟩
     have ho2:=o.chg (M':=M) hw rfl hs1 (fun s hs=>o.frS s (by rw[List.cons_append];exact List.mem_cons_of_mem _ hs)) o.frn o.next ok2 hvk2 o.good;have hr:=free_run f _ _ S op ho2 hM hidx hfst hl g2;dsimp only at hr;exact ⟨fun a ha=>by rw[hr.1 a ha,hs1 a ha],hr.2⟩
    ·rw[if_pos (by rw[g1];decide)];exact ⟨fun a _=>g3 a,.inr ⟨g1,g2,o.foundS (Nat.le_refl _) hM hidx (pos_last hl o.ok o.good o.vk.lv) (Died.seg ⟨g2,g3,hkfree⟩ o.seg)⟩⟩
  ·rw[if_neg hc];exact ⟨fun _ _=>I,.inl ⟨I,h,S,o⟩⟩
end
section
theorem Vk.low{first:Nat}{recs:List Rec}{sn:Snp}{l:List Ent}{v:Vl}(h:Vk first recs sn l v)(hlt:first<sn.idx+1):Vk (sn.idx+1) (recs.drop (sn.idx+1-first)) sn l v:=by
 cases v with
 | none=>have:=h.2.1;omega
 | some x=>
  obtain ⟨f,r⟩:=x;obtain ⟨q1,q2,q3,q4,q5⟩:=h;refine ⟨by omega,Nat.le_refl _,q3,?_,q5⟩;rw[q4,List.drop_drop]
  congr 1
  omega
theorem wsync_dead{W:Wl}{D:Dk}(h:W.code≠0):W.sync D=(W,D):=by unfold Wl.sync;rw[if_pos h]
theorem compact1_run{vot0:List Int}{M n:Nat}{L:Lg}{D:Dk}{S:List Sg}{op:Option Og}(o:LInv vot0 M L D S op)(hM':M+1<=wMany)(hidx:L.sn.idx+L.l.length<lgTop)(hl:Lst op)(h:Alv (n+10) D):
  (∀ a,a % 4≠1->(L.w.compact1 (L.sn.idx+1) D).2.sec a=D.sec a)/\(((L.w.compact1 (L.sn.idx+1) D).1.first=L.w.first/\(L.w.compact1 (L.sn.idx+1) D).1.recs=L.w.recs/\Alv n (L.w.compact1 (L.sn.idx+1) D).2/\∃ S1 op1,LInv vot0 (M+1) { L with w:=(L.w.compact1 (L.sn.idx+1) D).1 } (L.w.compact1 (L.sn.idx+1) D).2 S1 op1/\PosS S1 op1 L.sn (fun l=>l=L.l)) \/
   ((L.w.compact1 (L.sn.idx+1) D).1.code=30/\(L.w.compact1 (L.sn.idx+1) D).2.dead=true/\WFound (L.w.compact1 (L.sn.idx+1) D).2 L.fr (M+1) L.sn (fun l=>l=L.l))):=by
 have hp:=pos_last hl o.ok o.good o.vk.lv;have hnx:=o.next;have hfn:=o.frn;unfold Wl.compact1
 by_cases he:L.sn.idx+1=L.w.first+L.w.recs.length
 ·rw[if_pos he];have hfin:=o.vk.fin;have hnil:L.l.length=0:=by omega
  have htk:L.l.take (L.sn.idx+1-(L.sn.idx+1))=L.l:=List.take_of_length_le qo;obtain ⟨b0,b1⟩:=begin_one (n:=n) (i:=L.sn.idx+1) o hM' qo hp rfl (Nat.le_refl _) qo htk h;refine ⟨b0,?_⟩;rcases b1 with ⟨k,g1,g2,g3,g4,g5,g6,g7⟩|⟨g1,g2,g3⟩
  ·rw[htk,List.take_of_length_le qo] at g7;have hv:((S++opL op)++opL (some ⟨L.w.next,L.sn.idx+1,[],segT (L.sn.idx+1) [],0⟩)).map Sg.v=(S++opL op).map Sg.v++[(L.sn.idx+1,[])]:=by simp[opL,Sg.v]
   refine .inl ⟨by rw[g2],by rw[g2],g3,_,_,?_,g5⟩
   have:=o.chg (M':=M+1) (l:=L.l) (W:=(L.w.begin (L.sn.idx+1) D).1) g4 (by
    rw[g2];dsimp only;rw[List.map_append,<-o.old];simp[opL]) b0 (fun s hs=>by
    rcases List.mem_append.1 hs with hs|hs
    ·exact o.frS s hs
    ·simp only[opL,List.mem_singleton] at hs;rw[hs];exact hfn) (by rw[g2];dsimp only;omega) (by rw[g2];dsimp only;omega) (by rw[hv];exact g6) (by rw[hv,g2];exact g7) o.good
   exact this
  ·exact .inr ⟨g1,g2,g3⟩
 ·rw[if_neg he];exact ⟨fun _ _=>I,.inl ⟨I,I,h.mono qo,S,op,o.up qo,hp⟩⟩
theorem compact_run{vot0:List Int}{M n:Nat}{L:Lg}{D:Dk}{S:List Sg}{op:Option Og}(o:LInv vot0 M L D S op)(hM':M+1<=wMany)(hidx:L.sn.idx+L.l.length<lgTop)(hlt:L.w.first<L.sn.idx+1)(hl:Lst op)(h:Alv (n+10) D):
  (∀ a,a % 4≠1->(L.w.compact (L.sn.idx+1) D).2.1.sec a=D.sec a)/\(((L.w.compact (L.sn.idx+1) D).2.2=0/\Alv n (L.w.compact (L.sn.idx+1) D).2.1/\∃ S1 op1,LInv vot0 (M+1) { L with w:=(L.w.compact (L.sn.idx+1) D).1 } (L.w.compact (L.sn.idx+1) D).2.1 S1 op1/\Lst op1) \/
   ((L.w.compact (L.sn.idx+1) D).2.1.dead=true/\WFound (L.w.compact (L.sn.idx+1) D).2.1 L.fr (M+1) L.sn (fun l=>l=L.l))):=by
 have hfin:=o.vk.fin;obtain ⟨c0,c1⟩:=compact1_run (n:=n) o hM' hidx hl h;unfold Wl.compact;rw[if_neg (by rw[o.wcode];simp),if_neg qo,if_neg qo];rcases c1 with ⟨e1,e2,c2,S1,op1,c3,c4⟩|⟨c2,c3,c4⟩
 ·rcases lsync_run c3 c2 with ⟨s1,s2,s3,op2,s4,s5,s6⟩|⟨s1,s2⟩
  ·have ew:(L.w.compact2 (L.sn.idx+1) D).1=(L.w.compact1 (L.sn.idx+1) D).1:=s1;have s2:Alv n (L.w.compact2 (L.sn.idx+1) D).2:=s2;have s3:∀ a,a % 4≠1->(L.w.compact2 (L.sn.idx+1) D).2.sec a=(L.w.compact1 (L.sn.idx+1) D).2.sec a:=s3;have s4:LInv vot0 (M+1) { L with w:=(L.w.compact1 (L.sn.idx+1) D).1 } (L.w.compact2 (L.sn.idx+1) D).2 S1 op2:=s4;rw[ew];have hwc:(L.w.compact1 (L.sn.idx+1) D).1.code=0:=s4.wcode;rw[if_neg (by rw[hwc];simp)];have hvk:=s4.vk;dsimp only at hvk;rw[e1,e2] at hvk;have ho2:=s4.chg (M':=M+1) (l:=L.l) (W:={ (L.w.compact1 (L.sn.idx+1) D).1 with first:=L.sn.idx+1,recs:=L.w.recs.drop (L.sn.idx+1-L.w.first) }) ⟨s4.wcode,s4.seg,s4.opn,s4.ops,s4.lt⟩ s4.old (fun _ _=>rfl) s4.frS s4.frn s4.next s4.ok (hvk.low hlt) s4.good;have hfr:=free_run ((L.w.compact1 (L.sn.idx+1) D).1.old.length+1) _ _ S1 op2 ho2 hM' (by dsimp only;omega) rfl s5 s2;dsimp only at hfr;obtain ⟨f0,f1⟩:=hfr;rcases f1 with ⟨k1,k2,S2,k3⟩|⟨k1,k2,k3⟩
   ·rw[if_neg (by rw[k1];simp)];exact ⟨fun a ha=>by dsimp only;rw[f0 a ha,s3 a ha,c0 a ha],.inl ⟨rfl,k2,S2,op2,k3,s5⟩⟩
   ·rw[if_pos (by rw[k1];decide)];exact ⟨fun a ha=>by dsimp only;rw[f0 a ha,s3 a ha,c0 a ha],.inr ⟨k2,k3⟩⟩
  ·have s1:(L.w.compact2 (L.sn.idx+1) D).1.code=30:=s1;have s2:Died (L.w.compact1 (L.sn.idx+1) D).2 (L.w.compact2 (L.sn.idx+1) D).2:=s2;rw[if_pos (by rw[s1];decide)];exact ⟨fun a ha=>by dsimp only;rw[s2.2.1 a,c0 a ha],.inr ⟨s2.1,c3.foundS (Nat.le_refl _) hM' (by dsimp only;omega) c4 (s2.seg c3.seg)⟩⟩
 ·have e2:L.w.compact2 (L.sn.idx+1) D=L.w.compact1 (L.sn.idx+1) D:=by
   unfold Wl.compact2;exact wsync_dead (by rw[c2];decide)
  rw[e2,if_pos (by rw[c2];decide)];exact ⟨c0,.inr ⟨c3,c4⟩⟩
theorem lgW_run(place:Nat)(data:List UInt8):∀ (f n m:Nat) (b:List UInt8) (D:Dk),b=data.drop (64*n)->b.length<f->n+(b.length+63) / 64<=65536->Alv (m+(b.length+63) / 64) D ->
  (∀ j:Nat,j<n->64*j<data.length->rdF (D.sec (lgA4 place)) j=some (padS ((data.drop (64*j)).take 64))) ->
  (∀ a,a≠((lgA4 place:Nat):Int)->(lgW place f n b D).1.sec a=D.sec a) /\
  (((lgW place f n b D).2=0/\Alv m (lgW place f n b D).1/\∀ j:Nat,64*j<data.length->rdF ((lgW place f n b D).1.sec (lgA4 place)) j=some (padS ((data.drop (64*j)).take 64)))\/((lgW place f n b D).2=30/\(lgW place f n b D).1.dead=true))
 | 0,_,_,_,_,_,hf,_,_,_=>by omega
 | f+1,n,m,b,D,hb,hf,hn,h,hw=>by
  rw[lgW_step];have hbl:b.length=data.length-64*n:=by rw[hb,List.length_drop]
  by_cases hb0:b=[]
  ·rw[if_pos hb0];rw[hb0,List.length_nil] at hbl;exact ⟨fun _ _=>I,.inl ⟨I,h.mono qo,fun j hj=>hw j qo hj⟩⟩
  ·rw[if_neg hb0];have hb1:0<b.length:=by cases b with|nil=>exact absurd rfl hb0|cons a l=>simp
   obtain ⟨w1,w2,w3⟩:=Alv.write (n:=m+(b.length-64+63) / 64) (h.mono qo) (lgA4 place) n (b.take 64) qo qo (by rw[List.length_take];omega);rcases w1 with ⟨g1,g2⟩|⟨g1,g2⟩
   ·rw[if_neg (by rw[g1];simp)]
    obtain ⟨r1,r2⟩:=lgW_run place data f (n+1) m (b.drop 64) _ (by rw[hb,List.drop_drop,show 64*n+64=64*(n+1) by omega]) (by rw[List.length_drop];omega) (by rw[List.length_drop];omega) (by rw[List.length_drop];exact g2) (fun j hj hj2=>by
     rw[w2];unfold rdF setF
     by_cases e:j=n
     ·subst e;rw[if_pos rfl,<-hb];simp[secW]
     ·rw[if_neg qo];exact hw j qo hj2)
    exact ⟨fun a ha=>by rw[r1 a ha,w3 a ha],r2⟩
   ·rw[if_pos (by rw[g1];decide)];exact ⟨w3,.inr ⟨g1,g2⟩⟩
end
section
theorem Rw.seg{A:List Int}{D E:Dk}(h:Rw A D E)(hA:∀ a∈A,a % 4≠1):∀ a∈E.areas.map (·.1),a % 4=1->a∈D.areas.map (·.1):=fun a ha h1=>by
 rcases h.keys a ha with h2|h2
 ·exact h2
 ·exact absurd h1<|hA a h2
theorem WFound.fr2{D E:Dk}{fr M:Nat}{sn:Snp}{Q:List Ent->Prop}(h:WFound D fr M sn Q)(hs:∀ a,a % 4=1->E.sec a=D.sec a)(hk:∀ a∈E.areas.map (·.1),a % 4=1->a∈D.areas.map (·.1)):WFound E fr M sn Q:=
 h.frame (fun n=>hs _ (by unfold segA;omega)) fun n hn=>hk _ hn (by unfold segA;omega)
theorem headN{vot0:List Int}{M:Nat}{E:Dk}{H:Slt}{s:Snp}{place fr:Nat}{P:Snp->List Ent->Prop}(hf:Fx (E.sec 4))(hs:sltF (E.sec 4)=H)(hok:HeadOk H vot0 s place fr)(hd:DatOk (E.sec (lgA4 place)) s.data)(hp:place<=M)(hn:H.num<=M)(w:WFound E fr M s (P s)):
  ∀ f',Pk (E.sec 4) f'->(sltF f').num<=M/\∃ sn place fr,place<=M/\HeadOk (sltF f') vot0 sn place fr/\((sltF f').num≠0->∀ g,Pk (E.sec (lgA4 place)) g->DatOk g sn.data)/\WFound E fr M sn (P sn):=by
 intro f' p;rw[hf.pk p,hs];exact ⟨hn,s,place,fr,hp,hok,fun _ g pg=>hd.pk pg,w⟩
structure SOk (s:Snp):Prop where
 idx:s.idx<lgTop
 term:s.term<=mxU
 data:s.data.length<=2097152
 vot:(putConf s.vot).isSome=true
theorem lay_run{vot0:List Int}{M n:Nat}{L:Lg}{D:Dk}{S:List Sg}{op:Option Og}(o:LInv vot0 M L D S op)(hv:(putConf vot0).isSome=true)(cn:Cn M L){A:List (Nat×Int)}(hA:(L.kt,L.kv)∈A){P:Snp->List Ent->Prop}(s:Snp)(hs:SOk s)(fr:Nat)(hM:M+1<=2000000)(hfr:fr<=M)
  (w0:WFound D L.fr (M+1) L.sn (P L.sn)) (w1:WFound D fr (M+1) s (P s)) (h:Alv (n+((s.data.length+63) / 64+1)) D):
  (∀ a,a % 4=1->(L.lay s fr D).2.1.sec a=D.sec a)/\(∀ a∈(L.lay s fr D).2.1.areas.map (·.1),a % 4=1->a∈D.areas.map (·.1)) /\
  (((L.lay s fr D).2.2=0/\Alv n (L.lay s fr D).2.1/\(L.lay s fr D).1={ L.laid s fr ⟨L.head.num+1,Lg.say s (L.place+1) fr⟩ with code:=0 }/\(L.lay s fr D).2.1.sec 0=D.sec 0/\Fx ((L.lay s fr D).2.1.sec 4)/\sltF ((L.lay s fr D).2.1.sec 4)=⟨L.head.num+1,Lg.say s (L.place+1) fr⟩/\DatOk ((L.lay s fr D).2.1.sec (lgA4 (L.place+1))) s.data) \/
   ((L.lay s fr D).2.2≠0/\(L.lay s fr D).2.1.dead=true/\Fnd vot0 (M+1) (L.lay s fr D).2.1 A P)):=by
 have cn1:=cn.up (show M<=M+1 by omega);have hp:=cn.2.2;have hh:=cn.2.1;have hpa:((lgA4 (L.place+1):Nat):Int) % 4=2:=by unfold lgA4;omega
 have hpb:((lgA4 L.place:Nat):Int) % 4=2:=by unfold lgA4;omega
 have hpc:((lgA4 L.place:Nat):Int)≠((lgA4 (L.place+1):Nat):Int):=by unfold lgA4;omega
 obtain ⟨v1,v2⟩:=lgW_run (L.place+1) s.data (s.data.length+1) 0 (n+1) s.data D rfl qo (by have:=hs.data;omega) (h.mono qo) (fun j hj=>by omega);have vk:=rw_lgW (L.place+1) (s.data.length+1) 0 s.data D;unfold Lg.lay;generalize lgW (L.place+1) (s.data.length+1) 0 s.data D=R1 at v1 v2 vk;obtain ⟨E1,c1⟩:=R1;dsimp only at v1 v2 vk ⊢;have k1:=vk.seg (fun a ha=>by simp only[List.mem_singleton] at ha;rw[ha];omega);have a1:∀ a,a % 4≠2->E1.sec a=D.sec a:=fun a ha=>v1 a (fun e=>by rw[e] at ha;omega);rcases v2 with ⟨x1,x2,x3⟩|⟨x1,x2⟩
 ·rw[if_neg (by rw[x1];simp)];unfold Lg.lay1;have yk:=(Rw.sync (lgA4 (L.place+1)) (Rw.refl [] E1)).seg (fun a ha=>by simp at ha);have y:=x2.sync (lgA4 (L.place+1));generalize E1.sync (lgA4 (L.place+1))=R2 at y yk;obtain ⟨E2,c2⟩:=R2;dsimp only at y yk ⊢;rcases y with ⟨y1,y2,y3,y4⟩|⟨y1,y2,y3⟩
  ·rw[if_neg (by rw[y1];simp)];have a2:∀ a,a % 4≠2->E2.sec a=D.sec a:=fun a ha=>by rw[y4 a (fun e=>by rw[e] at ha;omega),a1 a ha]
   have b2:E2.sec (lgA4 L.place)=D.sec (lgA4 L.place):=by rw[y4 _ hpc,v1 _ hpc]
   have d2:DatOk (E2.sec (lgA4 (L.place+1))) s.data:=⟨by rw[y3];exact sySF_fx _,fun j hj=>by rw[y3,rdF_syn];exact x3 j hj⟩;unfold Lg.lay2;have hsay:=say_len (fr:=fr) (place:=L.place+1) (by have:=hs.idx;unfold lgTop at this;unfold mxU;omega) hs.term qo qo hs.data hs.vot;have z:=slot_save (n:=n) (h:=y2.mono qo) 4 (S:=L.head) (v:=Lg.say s (L.place+1) fr) (by rw[a2 _ (by decide)];exact o.headF) (by rw[a2 _ (by decide)];exact o.headS) hsay qo;have zk:=(rw_save L.head 4 E2 (Lg.say s (L.place+1) fr)).seg (fun a ha=>by simp only[List.mem_singleton] at ha;rw[ha];decide);generalize L.head.save 4 E2 (Lg.say s (L.place+1) fr)=R3 at z zk;obtain ⟨H,E3,c3⟩:=R3;dsimp only at z zk ⊢;obtain ⟨z0,z⟩:=z;have hp4:((lgA4 L.place:Nat):Int)≠((4:Nat):Int):=by omega
   have hp5:((lgA4 (L.place+1):Nat):Int)≠((4:Nat):Int):=by omega
   have a3:∀ a,a % 4=1->E3.sec a=D.sec a:=fun a ha=>by rw[z0 a (by intro e;rw[e] at ha;omega),a2 a qo]
   have k3:∀ a∈E3.areas.map (·.1),a % 4=1->a∈D.areas.map (·.1):=fun a ha h1=>k1 a (yk a (zk a ha h1) h1) h1;have e30:E3.sec 0=D.sec 0:=by rw[z0 0 (by decide),a2 0 (by decide)]
   have d3:DatOk (E3.sec (lgA4 (L.place+1))) s.data:=by rw[z0 _ hp5];exact d2
   have hok:HeadOk ⟨L.head.num+1,Lg.say s (L.place+1) fr⟩ vot0 s (L.place+1) fr:=.inr ⟨by simp,rfl,by have:=hs.idx;omega,hs.term,by unfold lgTop;omega,hs.data,by unfold lgTop;omega,hs.vot⟩;rcases z with ⟨z1,z2,z3,z4,z5⟩|⟨z1,z2,z3⟩
   ·rw[if_neg (by rw[z1];simp)];unfold Lg.lay3;have u:=z3.free (lgA4 L.place);have uk:=(Rw.free (lgA4 L.place) (Rw.refl [] E3)).seg (fun a ha=>by simp at ha);generalize E3.free (lgA4 L.place)=R4 at u uk;obtain ⟨E4,c4⟩:=R4;dsimp only at u uk ⊢;have k4:∀ a∈E4.areas.map (·.1),a % 4=1->a∈D.areas.map (·.1):=fun a ha h1=>k3 a (uk a ha h1) h1;rcases u with ⟨u1,u2,u3,u4⟩|⟨u1,u2,u3⟩
    ·refine ⟨fun a ha=>by rw[u4 a (fun e=>by rw[e] at ha;omega),a3 a ha],k4,.inl ⟨u1,u2,by rw[u1,z2],by rw[u4 0 qo,e30],by rw[u4 4 qo];exact z4,by rw[u4 4 qo];exact z5,by rw[u4 _ (fun e=>hpc e.symm)];exact d3⟩⟩
    ·have a4:∀ a,a % 4=1->E4.sec a=D.sec a:=fun a ha=>by rw[u3 a,a3 a ha]
     refine ⟨a4,k4,.inr ⟨by rw[u1];decide,u2,fnd_of hv (o.hardP cn1 (by rw[u3 0,e30]) hA) (headN (by rw[u3 4];exact z4) (by rw[u3 4];exact z5) hok (by rw[u3];exact d3) qo (by dsimp only;omega) (w1.fr2 a4 k4))⟩⟩
   ·rw[if_pos (by rw[z1];decide)];refine ⟨a3,k3,.inr ⟨by dsimp only;rw[z1];decide,z2,fnd_of hv (o.hardP cn1 e30 hA) fun f' pf=>?_⟩⟩;rcases z3 f' pf with g|g
    ·rw[g];exact ⟨cn1.2.1,_,_,_,cn1.2.2,o.headV,fun hn g' pg=>(o.dat hn).pk (by rw[z0 _ hp4,b2] at pg;exact pg),w0.fr2 a3 k3⟩
    ·rw[g];exact ⟨by dsimp only;omega,_,_,_,by omega,hok,fun _ g' pg=>d3.pk pg,w1.fr2 a3 k3⟩
  ·rw[if_pos (by rw[y1];decide)];have a2:∀ a,a % 4≠2->E2.sec a=D.sec a:=fun a ha=>by rw[y3 a,a1 a ha]
   have k2:∀ a∈E2.areas.map (·.1),a % 4=1->a∈D.areas.map (·.1):=fun a ha h1=>k1 a (yk a ha h1) h1;exact ⟨fun a ha=>a2 a qo,k2,.inr ⟨by dsimp only;rw[y1];decide,y2,fnd_of hv (o.hardP cn1 (a2 0 (by decide)) hA) (o.headP cn1 (a2 4 (by decide)) (by rw[y3,v1 _ hpc]) (w0.fr2 (fun a ha=>a2 a qo) k2))⟩⟩
 ·rw[if_pos (by rw[x1];decide)];exact ⟨fun a ha=>a1 a qo,k1,.inr ⟨by dsimp only;rw[x1];decide,x2,fnd_of hv (o.hardP cn1 (a1 0 (by decide)) hA) (o.headP cn1 (a1 4 (by decide)) (v1 _ hpc) (w0.fr2 (fun a ha=>a1 a qo) k1))⟩⟩
end
section
def Rz(vot0:List Int)(M n:Nat)(L:Lg)(E:Dk)(r:Rl)(A:List (Nat×Int))(P:Snp->List Ent->Prop)(ok c:Prop):Prop:=
 (ok/\Alv n E/\L.rl=r/\Cn M L/\∃ S op,LInv vot0 M L E S op/\PosS S op L.sn (P L.sn)/\(c->PosS S op L.sn (fun l=>l=L.l)))\/(E.dead=true/\Fnd vot0 M E A P)
theorem Fnd.up{vot0:List Int}{M M':Nat}{E:Dk}{A:List (Nat×Int)}{P:Snp->List Ent->Prop}(h:Fnd vot0 M E A P)(hM:M<=M'):Fnd vot0 M' E A P:=fun D' c hr=>by
 obtain ⟨L',E',S',k1,k2,k3,k4,k5,k6⟩:=h D' c hr;exact ⟨L',E',S',k1,k2,k3,k4.up hM,k5.up hM,k6⟩
theorem Rz.up{vot0:List Int}{M M' n m:Nat}{L:Lg}{E:Dk}{r:Rl}{A:List (Nat×Int)}{P:Snp->List Ent->Prop}{ok c ok' c':Prop}(h:Rz vot0 M n L E r A P ok c)(hM:M<=M')(hm:m<=n)(hok:ok->ok')(hc:c'->c):Rz vot0 M' m L E r A P ok' c':=by
 rcases h with ⟨h1,h2,h3,h4,S,op,h5,h6,h7⟩|⟨h1,h2⟩
 ·exact .inl ⟨hok h1,h2.mono hm,h3,h4.up hM,S,op,h5.up hM,h6,fun h=>h7 (hc h)⟩
 ·exact .inr ⟨h1,h2.up hM⟩
theorem Rs.rz{vot0:List Int}{M M' n m:Nat}{L:Lg}{E:Dk}{r:Rl}{A:List (Nat×Int)}{P:Snp->List Ent->Prop}{ok ok' c:Prop}(h:Rs vot0 M n L E r A P ok)(hM:M<=M')(hm:m<=n)(hok:ok->ok')(hc:¬c):Rz vot0 M' m L E r A P ok' c:=by
 rcases h with ⟨h1,h2,h3,h4,S,op,h5,h6⟩|⟨h1,h2⟩
 ·exact .inl ⟨hok h1,h2.mono hm,h3,h4.up hM,S,op,h5.up hM,h6,fun h=>absurd h hc⟩
 ·exact .inr ⟨h1,h2.up hM⟩
theorem Lg.sync_eq{L:Lg}{D:Dk}(hc:L.code=0):L.sync D=({ L with w:=(L.w.sync D).1,code:=(L.w.sync D).1.code },(L.w.sync D).2,(L.w.sync D).1.code):=by
 unfold Lg.sync;rw[if_neg (by rw[hc];simp)]
theorem LInv.sync0{vot0:List Int}{M:Nat}{L:Lg}{D:Dk}{S:List Sg}{op:Option Og}(o:LInv vot0 M L D S op)(h:(L.w.sync D).1=L.w):L.sync D=(L,(L.w.sync D).2,0):=by
 rw[Lg.sync_eq o.code,h,o.wcode];have hc:=o.code;obtain ⟨w,hard,head,kt,kv,sn,place,fr,l,code⟩:=L;cases hc
 rfl
theorem sync_run{vot0:List Int}{M n:Nat}{L:Lg}{D:Dk}{S:List Sg}{op:Option Og}(o:LInv vot0 M L D S op)(hv:(putConf vot0).isSome=true)(cn:Cn M L){A:List (Nat×Int)}(hA:(L.kt,L.kv)∈A){P:Snp->List Ent->Prop}(p:PosS S op L.sn (P L.sn))(hq0:P L.sn L.l)(hM:M<=wMany)(hidx:L.sn.idx<=lgTop)(h:Alv n D):
  Rz vot0 M n (L.sync D).1 (L.sync D).2.1 L.rl A P ((L.sync D).2.2=0) True:=by
 rcases lsync_run o h with ⟨s1,s2,s3,op',s4,s5,s6⟩|⟨s1,s2⟩
 ·rw[o.sync0 s1];exact .inl ⟨I,s2,I,cn,S,op',s4,s6.mono (fun l hl=>by subst hl;exact hq0),fun _=>s6⟩
 ·rw[Lg.sync_eq o.code];exact .inr ⟨s2.1,o.fnd hv cn (fun a _=>s2.2.1 a) (o.foundS (Nat.le_refl _) hM hidx p (s2.seg o.seg)) hA⟩
theorem Vk.snap{first:Nat}{recs:List Rec}{sn s:Snp}{l:List Ent}{v:Vl}(h:Vk first recs sn l v)(h1:sn.idx<s.idx)(h2:s.idx<=sn.idx+l.length):Vk first recs s (l.drop (s.idx-sn.idx)) v:=by
 cases v with
 | none=>
  obtain ⟨_,_,rfl⟩:=h;simp only[List.length_nil] at h2;omega
 | some x=>
  have he:=h.endV;obtain ⟨f,r⟩:=x;obtain ⟨q1,q2,q3,q4,q5⟩:=h;dsimp only at he;refine ⟨q1,by omega,by omega,q4,?_⟩;rw[List.map_drop,<-q5,List.drop_drop]
  congr 1
  omega
theorem good_snap{sn s:Snp}{l:List Ent}(g:GoodL sn l)(h1:sn.idx<s.idx)(h2:s.idx<=sn.idx+l.length)(h3:(trm sn l s.idx).1=s.term):GoodL s (l.drop (s.idx-sn.idx)):=by
 refine ⟨?_,fun e he=>g.2 e (List.mem_of_mem_drop he)⟩;have h4:=folR_drop2 g.1 (k:=s.idx-sn.idx) qo;have h5:=trm_lastT (s:=sn) (l:=l) (k:=s.idx-sn.idx) qo;rw[show sn.idx+(s.idx-sn.idx)=s.idx by omega] at h4 h5;rw[h5] at h3;dsimp only at h3;rw[h3] at h4;exact h4
theorem LInv.newS{vot0:List Int}{M:Nat}{L:Lg}{D E:Dk}{S:List Sg}{op:Option Og}(o:LInv vot0 M L D S op){s:Snp}(h1:L.sn.idx<s.idx)(h2:s.idx<=L.sn.idx+L.l.length)(h3:(trm L.sn L.l s.idx).1=s.term){H:Slt}(hs:∀ a,a % 4=1->E.sec a=D.sec a)(hk:∀ a∈E.areas.map (·.1),a % 4=1->a∈D.areas.map (·.1))
  (e0:E.sec 0=D.sec 0) (f4:Fx (E.sec 4)) (s4:sltF (E.sec 4)=H) (hok:HeadOk H vot0 s (L.place+1) L.fr) (hd:DatOk (E.sec (lgA4 (L.place+1))) s.data):LInv vot0 M { L with head:=H,l:=L.l.drop (s.idx-L.sn.idx),place:=L.place+1,sn:=s,code:=0 } E S op where
 code:=rfl
 wcode:=o.wcode
 old:=o.old
 seg:=o.seg.frame (fun n=>hs _ (by unfold segA;omega)) hk
 opn:=o.opn
 ops:=o.ops
 lt:=o.lt
 frS:=o.frS
 frn:=o.frn
 next:=o.next
 ok:=o.ok
 val:=by
  have vk:=o.vk.snap h1 h2;cases hv:scanV none ((S++opL op).map Sg.v) with
  | none=>
   have h4:=o.vk;rw[hv] at h4;have:=congrArg List.length h4.2.2;simp only[List.length_nil] at this;omega
  | some x=>
   rw[hv] at vk;exact .inr ⟨x.1,x.2,I,vk⟩
 hardF:=by rw[e0];exact o.hardF
 hardS:=by rw[e0];exact o.hardS
 hardV:=o.hardV
 headF:=f4
 headS:=s4
 headV:=hok
 dat:=fun _=>hd
 good:=good_snap o.good h1 h2 h3
theorem save_run{vot0:List Int}{M n:Nat}{L:Lg}{D:Dk}{S:List Sg}{op:Option Og}(o:LInv vot0 M L D S op)(hv:(putConf vot0).isSome=true)(cn:Cn M L){A:List (Nat×Int)}(hA:(L.kt,L.kv)∈A){P:Snp->List Ent->Prop}(p:PosS S op L.sn (P L.sn))(hq0:P L.sn L.l)(s:Snp)(hst:s.term<=mxU)(hM:M+2<=2000000)(hidx:L.sn.idx+L.l.length<lgTop)
  (hq:∀ sn l,Stp L.rl (L.rl.save s).1 sn l->P sn l) (h:Alv (n+((s.data.length+63) / 64+11)) D):
  Rz vot0 (M+2) n (L.save s D).1 (L.save s D).2.1 (L.rl.save s).1 A P ((L.save s D).2.2=(L.rl.save s).2) ((L.rl.save s).2=0):=by
 have hMw:M+2<=wMany:=by unfold wMany;omega
 have hfits:L.fits s=L.rl.fits s:=by
  unfold Lg.fits Rl.fits;rw[if_neg (by rw[o.code];simp)]
  rfl
 unfold Rl.save at hq ⊢;unfold Lg.save;rw[hfits]
 by_cases hf:L.rl.fits s=0
 ·rw[if_neg (show ¬L.rl.fits s≠0 by rw[hf];simp)] at hq ⊢;rw[if_neg (show ¬L.rl.fits s≠0 by rw[hf];simp)];obtain ⟨hvt,hd,hlt,htop⟩:=rfits_ok hf;have hlt':L.sn.idx<s.idx:=hlt
  by_cases hh:lgHas L.sn L.l s=false
  ·rw[if_pos hh,if_pos (show lgHas L.rl.sn L.rl.l s=false from hh)];exact .inl ⟨I,h.mono qo,I,cn.up qo,S,op,o.up qo,p,fun hc=>absurd hc (show ¬((180:Int)=0) by decide)⟩
  ·rw[if_neg (show ¬lgHas L.rl.sn L.rl.l s=false from hh)] at hq ⊢;rw[if_neg hh];have hh':lgHas L.sn L.l s=true:=by simpa using hh
   obtain ⟨hin,hat⟩:=lgHas_in hh' hlt'
   have htr:(trm L.sn L.l s.idx).1=s.term:=by
    unfold lgHas at hh';simp only[Bool.and_eq_true,decide_eq_true_eq] at hh';exact hh'.2
   have hne:L.rl.sn≠s:=fun e=>by rw[<-e] at hlt;exact Nat.lt_irrefl _ hlt
   have hqs:P s (L.l.drop (s.idx-L.sn.idx)):=hq _ _ (.inr ⟨hne,rfl,rfl⟩);unfold Lg.save1;rcases lsync_run o h with ⟨s1,s2,s3,op',s4,s5,s6⟩|⟨s1,s2⟩
   ·rw[o.sync0 s1,if_neg (by simp)];dsimp only;generalize (L.w.sync D).2=E at s2 s3 s4;have hnx:=s4.next;have hfn:=s4.frn;have p1:PosS S op' L.sn (P L.sn):=s6.mono fun l hl=>by subst hl;exact hq0
    have vks:=s4.vk.snap hlt' hin;have gs:=good_snap s4.good hlt' hin htr;have w0:=s4.foundS (M':=M+1) qo qo qo p1 s4.seg
    have w1:WFound E L.fr (M+1) s (P s):=by
     refine wfound_seg s4.seg qo qo qo (fun x hx=>?_) (fun q hq=>?_) ((pos_last s5 s4.ok gs vks.lv).mono fun l hl=>by rw[hl];exact hqs)
     ·have h1:=s4.frS x (List.mem_append.2 (.inl hx));have h2:=s4.lt x (List.mem_append.2 (.inl hx));omega
     ·subst hq;have h1:=s4.frS ⟨q.num,q.idx,q.recs⟩ (by simp[opL]);have h2:=s4.lt ⟨q.num,q.idx,q.recs⟩ (by simp[opL]);dsimp only at h1 h2;omega
    obtain ⟨r1,r2,r3⟩:=lay_run (n:=n+10) s4 hv cn hA s ⟨htop,hst,hd,hvt⟩ L.fr qo qo w0 w1 (s2.mono qo);unfold Lg.save2;rcases r3 with ⟨x1,x2,x3,x4,x5,x6,x7⟩|⟨x1,x2,x3⟩
    ·rw[if_neg (by rw[x1];simp)];have hok:HeadOk ⟨L.head.num+1,Lg.say s (L.place+1) L.fr⟩ vot0 s (L.place+1) L.fr:=.inr ⟨by simp,rfl,by omega,hst,by have:=cn.2.2;unfold lgTop;omega,hd,by unfold lgTop;omega,hvt⟩
     have hL2:(L.lay s L.fr E).1={ L with head:=⟨L.head.num+1,Lg.say s (L.place+1) L.fr⟩,l:=L.l.drop (s.idx-L.sn.idx),place:=L.place+1,sn:=s,code:=0 }:=by
      rw[x3];unfold Lg.laid;rw[if_pos hh',hat]
     have o2:=(s4.newS hlt' hin htr r1 r2 x4 x5 x6 hok x7).up (show M<=M+1 by omega);rw[hL2];generalize (L.lay s L.fr E).2.1=E2 at x2 o2;have c2:Cn (M+1) { L with head:=⟨L.head.num+1,Lg.say s (L.place+1) L.fr⟩,l:=L.l.drop (s.idx-L.sn.idx),place:=L.place+1,sn:=s,code:=0 }:=⟨by have:=cn.1;dsimp only;omega,by have:=cn.2.1;dsimp only;omega,by have:=cn.2.2;dsimp only;omega⟩;have hfin:=s4.vk.fin;have hc:=compact_run (n:=n) o2 qo (by dsimp only;rw[List.length_drop];omega) (by dsimp only;omega) s5 x2;dsimp only at hc ⊢;obtain ⟨h0,hc⟩:=hc;rcases hc with ⟨k1,k2,S3,op3,k3,k4⟩|⟨k1,k2⟩
     ·rw[k1];have pl:=pos_last k4 k3.ok k3.good k3.vk.lv;exact .inl ⟨I,k2,I,c2.up qo,S3,op3,k3,pl.mono (fun l hl=>by rw[hl];exact hqs),fun _=>pl⟩
     ·exact .inr ⟨k1,o2.fnd hv (c2.up qo) h0 (WFound.imp k2 fun l hl=>by rw[hl];exact hqs) hA⟩
    ·rw[if_pos x1];exact .inr ⟨x2,x3.up qo⟩
   ·rw[if_pos (by rw[Lg.sync_eq o.code];dsimp only;rw[s1];decide),Lg.sync_eq o.code];exact .inr ⟨s2.1,o.fnd hv (cn.up qo) (fun a _=>s2.2.1 a) (o.foundS qo hMw qo p (s2.seg o.seg)) hA⟩
 ·rw[if_pos hf,if_pos hf];exact .inl ⟨I,h.mono qo,I,cn.up qo,S,op,o.up qo,p,fun hc=>absurd hc hf⟩
end
section
theorem wreset_run:∀ (l:List Int) (D:Dk) (n:Nat),Alv n D ->
  (∀ a,a % 4≠1->(wreset l D).1.sec a=D.sec a)/\(∀ a∈(wreset l D).1.areas.map (·.1),a∈D.areas.map (·.1)) /\
  (((wreset l D).2=0/\Alv n (wreset l D).1/\∀ a∈l,a % 4=1->a∉(wreset l D).1.areas.map (·.1))\/((wreset l D).2=30/\(wreset l D).1.dead=true))
 | [],D,n,h=>⟨fun _ _=>rfl,fun _ h=>h,.inl ⟨rfl,h,by simp⟩⟩
 | a::r,D,n,h=>by
  unfold wreset
  by_cases ha:a % 4=1
  ·rw[if_pos ha]
   have hk:∀ k∈(D.free a).1.areas.map (·.1),k∈D.areas.map (·.1):=fun k hk=>by
    rcases (Rw.free a (Rw.refl [] D)).keys k hk with g|g
    ·exact g
    ·simp at g
   rcases h.free a with ⟨g1,g2,g3,g4⟩|⟨g1,g2,g3⟩
   ·rw[if_pos g1];obtain ⟨r1,r2,r3⟩:=wreset_run r _ n g2
    have hgone:a∉(D.free a).1.areas.map (·.1):=by
     unfold Dk.free;rw[if_neg (by rw[h.dead];decide)]
     split
     ·rename_i hdd;have:(D.free a).2=30:=by unfold Dk.free;rw[if_neg (by rw[h.dead];decide),if_pos hdd]
      rw[this] at g1;cases g1
     ·show a∉(mdel a D.areas).map (·.1);have hx:=mget_mdel a a D.areas h.keys;rw[if_pos rfl] at hx;exact mget_none.1 hx
    refine ⟨fun b hb=>by rw[r1 b hb,g4 b (fun e=>hb (by rw[e];exact ha))],fun b hb=>hk b (r2 b hb),?_⟩;rcases r3 with ⟨q1,q2,q3⟩|q
    ·refine .inl ⟨q1,q2,fun b hb h1=>?_⟩;rcases List.mem_cons.1 hb with e|hb
     ·rw[e];exact fun hin=>hgone (r2 a hin)
     ·exact q3 b hb h1
    ·exact .inr q
   ·rw[if_neg (by rw[g1];decide)];exact ⟨fun b _=>g3 b,hk,.inr ⟨g1,g2⟩⟩
  ·rw[if_neg ha];obtain ⟨r1,r2,r3⟩:=wreset_run r D n h;refine ⟨r1,r2,?_⟩;rcases r3 with ⟨q1,q2,q3⟩|q
   ·refine .inl ⟨q1,q2,fun b hb h1=>?_⟩;rcases List.mem_cons.1 hb with e|hb
    ·rw[e] at h1;exact absurd h1 ha
    ·exact q3 b hb h1
   ·exact .inr q
theorem install_run{vot0:List Int}{M n:Nat}{L:Lg}{D:Dk}{S:List Sg}{op:Option Og}(o:LInv vot0 M L D S op)(hv:(putConf vot0).isSome=true)(cn:Cn M L){A:List (Nat×Int)}(hA:(L.kt,L.kv)∈A){P:Snp->List Ent->Prop}(p:PosS S op L.sn (P L.sn))(hq0:P L.sn L.l)(s:Snp)(hst:s.term<=mxU)(hM:M+2<=2000000)(hidx:L.sn.idx+L.l.length<lgTop)
  (hq:∀ sn l,Stp L.rl (L.rl.install s).1 sn l->P sn l) (h:Alv (n+((s.data.length+63) / 64+11)) D):
  Rz vot0 (M+2) n (L.install s D).1 (L.install s D).2.1 (L.rl.install s).1 A P ((L.install s D).2.2=(L.rl.install s).2) ((L.rl.install s).2=0):=by
 have hfits:L.fits s=L.rl.fits s:=by
  unfold Lg.fits Rl.fits;rw[if_neg (by rw[o.code];simp)]
  rfl
 unfold Rl.install at hq ⊢;unfold Lg.install;rw[hfits]
 by_cases hf:L.rl.fits s=0
 ·rw[if_neg (show ¬L.rl.fits s≠0 by rw[hf];simp)] at hq ⊢;rw[if_neg (show ¬L.rl.fits s≠0 by rw[hf];simp)];obtain ⟨hvt,hd,hlt,htop⟩:=rfits_ok hf;have hlt':L.sn.idx<s.idx:=hlt
  by_cases hh:lgHas L.sn L.l s=true
  ·rw[if_pos (show lgHas L.rl.sn L.rl.l s=true from hh)] at hq ⊢;rw[if_pos hh];exact save_run o hv cn hA p hq0 s hst hM hidx hq h
  ·rw[if_neg (show ¬lgHas L.rl.sn L.rl.l s=true from hh)] at hq ⊢;rw[if_neg hh];have hne:L.rl.sn≠s:=fun e=>by rw[<-e] at hlt;exact Nat.lt_irrefl _ hlt
   have hqs:P s []:=hq _ _ (.inr ⟨hne,rfl,rfl⟩);have hMw:M+2<=wMany:=by unfold wMany;omega
   have hnx:=o.next;have hplace:=cn.2.2
   have hkn:∀ n,segA n∈D.areas.map (·.1)->n<L.w.next:=fun n hn=>by
    rcases o.seg.keys _ hn (by unfold segA;omega) with ⟨x,hx,e⟩|⟨q,hq,e⟩
    ·have:=o.lt x (List.mem_append.2 (.inl hx));have:=segA_inj e;omega
    ·subst hq;have h2:=o.lt ⟨q.num,q.idx,q.recs⟩ (by simp[opL]);have:=segA_inj e;dsimp only at h2;omega
   have w0:=o.foundS (M':=M+1) qo qo qo p o.seg;have wv:∀ (E:Dk) (M':Nat),M<=M'->M'<=wMany->(∀ a∈E.areas.map (·.1),a % 4=1->a∈D.areas.map (·.1))->WFound E L.w.next M' s (P s):=fun E M' h1 h2 h3=>wfound_void qo h2 qo (fun n hn=>hkn n (h3 _ hn (by unfold segA;omega))) hqs;obtain ⟨r1,r2,r3⟩:=lay_run (n:=n+10) o hv cn hA s ⟨htop,hst,hd,hvt⟩ L.w.next qo hnx w0 (wv D (M+1) qo qo fun a ha _=>ha) (h.mono qo);unfold Lg.inst1;rcases r3 with ⟨x1,x2,x3,x4,x5,x6,x7⟩|⟨x1,x2,x3⟩
   ·rw[if_neg (by rw[x1];simp)];have hok:HeadOk ⟨L.head.num+1,Lg.say s (L.place+1) L.w.next⟩ vot0 s (L.place+1) L.w.next:=.inr ⟨by simp,rfl,by omega,hst,by unfold lgTop;omega,hd,by unfold lgTop;omega,hvt⟩
    have hL2:(L.lay s L.w.next D).1={ L with head:=⟨L.head.num+1,Lg.say s (L.place+1) L.w.next⟩,l:=[],place:=L.place+1,fr:=L.w.next,sn:=s,code:=0 }:=by
     rw[x3];unfold Lg.laid;rw[if_neg hh]
    rw[hL2];generalize (L.lay s L.w.next D).2.1=E2 at r1 r2 x2 x4 x5 x6 x7;dsimp only;obtain ⟨v1,v2,v3⟩:=wreset_run (areasL E2) E2 (n+10) x2;have ek:=fun a ha h1=>r2 a (v2 a ha) h1;unfold Wl.reset;rw[if_neg (by rw[o.wcode];simp),if_neg (by unfold lgTop at htop;unfold wTop;omega)];rcases v3 with ⟨y1,y2,y3⟩|⟨y1,y2⟩
    ·rw[if_neg (by rw[y1];simp)];have e0:(wreset (areasL E2) E2).1.sec 0=D.sec 0:=by rw[v1 0 (by decide),x4]
     have e4:(wreset (areasL E2) E2).1.sec 4=E2.sec 4:=v1 4 (by decide)
     have hli:LInv vot0 (M+2) { L with w:={ L.w with op:=none,old:=[],recs:=[],first:=s.idx+1 },head:=⟨L.head.num+1,Lg.say s (L.place+1) L.w.next⟩,l:=[],place:=L.place+1,fr:=L.w.next,sn:=s,code:=0 } (wreset (areasL E2) E2).1 [] none:={
      code:=rfl
      wcode:=o.wcode
      old:=rfl
      seg:=⟨fun a ha h1=>absurd ha (y3 a ((srtI_perm _).mem_iff.2 (v2 a ha)) h1),List.Pairwise.nil,by simp,by simp,fun q hq=>by cases hq⟩
      opn:=fun _=>rfl
      ops:=fun q hq=>by cases hq
      lt:=by simp[opL]
      frS:=by simp[opL]
      frn:=Nat.le_refl _
      next:=by dsimp only;omega
      ok:=trivial
      val:=.inl ⟨rfl,rfl,rfl,rfl⟩
      hardF:=by rw[e0];exact o.hardF
      hardS:=by rw[e0];exact o.hardS
      hardV:=o.hardV
      headF:=by rw[e4];exact x5
      headS:=by rw[e4];exact x6
      headV:=hok
      dat:=fun _=>by rw[v1 _ (by unfold lgA4;omega)];exact x7
      good:=⟨rfl,by simp⟩ }
     have pl:PosS [] none s (fun l=>l=[]):=fun t ht=>by
      have:t=none:=ht;subst this;exact ⟨trivial,[],I,⟨I,by simp⟩,I⟩
     exact .inl ⟨I,y2.mono qo,I,⟨by have:=cn.1;dsimp only;omega,by have:=cn.2.1;dsimp only;omega,by dsimp only;omega⟩,[],none,hli,pl.mono (fun l hl=>by rw[hl];exact hqs),fun _=>pl⟩
    ·rw[if_pos (by rw[y1];decide)];refine .inr ⟨y2,fnd_of hv (o.hardP (cn.up qo) (by dsimp only;rw[v1 0 (by decide),x4]) hA) (headN (by dsimp only;rw[v1 4 (by decide)];exact x5) (by dsimp only;rw[v1 4 (by decide)];exact x6) hok (by dsimp only;rw[v1 _ (by unfold lgA4;omega)];exact x7) qo (by have:=cn.2.1;dsimp only;omega) (wv _ _ qo hMw ek))⟩
   ·rw[if_pos x1];exact .inr ⟨x2,x3.up qo⟩
 ·rw[if_pos hf,if_pos hf];exact .inl ⟨I,h.mono qo,I,cn.up qo,S,op,o.up qo,p,fun hc=>absurd hc hf⟩
end
section
theorem doo_run{vot0:List Int}{M n m:Nat}{L:Lg}{D:Dk}{S:List Sg}{op:Option Og}(o:LInv vot0 M L D S op)(hv:(putConf vot0).isSome=true)(cn:Cn M L){A:List (Nat×Int)}{P:Snp->List Ent->Prop}(p:PosS S op L.sn (P L.sn))(hq0:P L.sn L.l)(q:ROp)(hp:q.bd m)(hl:q.low=true)(hM:M+102<=2000000)(hidx:L.sn.idx+L.l.length<lgTop)
  (hA:(L.kt,L.kv)∈A) (hA2:((L.rl.doo q).1.kt,(L.rl.doo q).1.kv)∈A) (hq:∀ sn l,Stp L.rl (L.rl.doo q).1 sn l->P sn l) (h:Alv (n+2100) D):
  Rz vot0 (M+102) n (L.doo D q).1 (L.doo D q).2.1 (L.rl.doo q).1 A P ((L.doo D q).2.2=(L.rl.doo q).2) ((q.kind=3\/q.kind=4\/q.kind=5)/\(L.rl.doo q).2.code=0):=by
 obtain ⟨h1,h2,h3⟩:=ROp.low_ok hl;have hx:∀ e∈q.x,e.idx<=mxU/\e.term<=mxU:=fun e he=>⟨(hp.ents e he).1,(hp.ents e he).2.1⟩;have hMw:M+102<=wMany:=by unfold wMany;omega
 unfold Rl.doo at hA2 hq ⊢;unfold Lg.doo
 by_cases e0:q.kind=0
 ·rw[if_pos e0] at hA2 hq ⊢;rw[if_pos e0];have g:=setHard_run (n:=n) o hv cn qo qo p q.ht q.hv hp.ht (h.mono qo);rcases g with g|⟨g1,g2⟩
  ·exact Rs.rz (A:=A) (.inl g) qo (Nat.le_refl _) (fun hh=>by dsimp only;rw[hh]) (by rw[e0];rintro ⟨h|h|h,_⟩ <;> cases h)
  ·refine .inr ⟨g1,fun D' c hr=>?_⟩;obtain ⟨L',E',S',k1,k2,k3,k4,k5,k6⟩:=g2 D' c hr;refine ⟨L',E',S',k1,?_,k3,k4.up qo,k5.up qo,k6⟩;simp only[List.mem_cons,List.not_mem_nil,or_false] at k2;rcases k2 with k2|k2
   ·rw[k2];exact hA
   ·rw[k2];exact hA2
 ·rw[if_neg e0] at hA2 hq ⊢;rw[if_neg e0]
  by_cases e1:q.kind=1
  ·rw[if_pos e1] at hq ⊢;rw[if_pos e1];exact (append_run (n:=n) o hv cn hA p q.x qo hidx h1 hx hq (h.mono qo)).rz qo (Nat.le_refl _) (fun hh=>by dsimp only;rw[hh]) (by rw[e1];rintro ⟨h|h|h,_⟩ <;> cases h)
  ·rw[if_neg e1] at hq ⊢;rw[if_neg e1]
   by_cases e2:q.kind=2
   ·rw[if_pos e2] at hq ⊢;rw[if_pos e2];exact (merge_run (n:=n) o hv cn hA p hq0 q.idx q.term q.x qo hidx h1 hx hq (h.mono qo)).rz qo (Nat.le_refl _) (fun hh=>by dsimp only;rw[hh]) (by rw[e2];rintro ⟨h|h|h,_⟩ <;> cases h)
   ·rw[if_neg e2] at hq ⊢;rw[if_neg e2]
    by_cases e3:q.kind=3
    ·rw[if_pos e3,if_neg (show ¬q.kind=4 by omega),if_neg (show ¬q.kind=5 by omega)];exact (sync_run (n:=n) o hv cn hA p hq0 qo qo (h.mono qo)).up qo (Nat.le_refl _) (fun hh=>by dsimp only;rw[hh]) (fun _=>trivial)
    ·rw[if_neg e3]
     by_cases e4:q.kind=4
     ·rw[if_pos e4] at hq ⊢;rw[if_pos e4];exact (save_run (n:=n) o hv cn hA p hq0 q.sn hp.st qo hidx hq (h.mono qo)).up qo (Nat.le_refl _) (fun hh=>by dsimp only;rw[hh]) (fun hh=>hh.2)
     ·rw[if_neg e4] at hq ⊢;rw[if_neg e4]
      by_cases e5:q.kind=5
      ·rw[if_pos e5] at hq ⊢;rw[if_pos e5];exact (install_run (n:=n) o hv cn hA p hq0 q.sn hp.st qo hidx hq (h.mono qo)).up qo (Nat.le_refl _) (fun hh=>by dsimp only;rw[hh]) (fun hh=>hh.2)
      ·rw[if_neg e5,if_neg e5];refine .inl ⟨I,h.mono qo,I,cn.up qo,S,op,o.up qo,p,fun hh=>?_⟩;rcases hh.1 with hh|hh|hh
       ·exact absurd hh e3
       ·exact absurd hh e4
       ·exact absurd hh e5
def Rl.top(r:Rl):Nat:=r.sn.idx+r.l.length
theorem Rl.doo_top{r:Rl}(p:ROp)(hl:p.low=true)(h:r.top<lgTop):(r.doo p).1.top<lgTop:=by
 obtain ⟨h1,h2,h3⟩:=ROp.low_ok hl
 have hsv:∀ s:Snp,(r.save s).1.top<lgTop:=by
  intro s;unfold Rl.save
  split
  ·exact h
  ·rename_i hf;obtain ⟨_,_,k1,k2⟩:=rfits_ok (Decidable.not_not.1 hf)
   split
   ·exact h
   ·rename_i hh;obtain ⟨k3,_⟩:=lgHas_in (by simpa using hh) k1;unfold Rl.top at h ⊢;dsimp only;rw[List.length_drop];omega
 have hm2:∀ (i t:Nat) (x:List Ent) (last:Nat),folR i t x=0->trm r.sn r.l i=(t,true)->(∀ e∈x,e.idx<lgTop)->(r.merge2 x last).1.top<lgTop:=by
  intro i t x last hf ht hx;unfold Rl.merge2
  split
  ·exact h
  ·rename_i e y hy;obtain ⟨u,g1,g2,g3,g4⟩:=skp_at r.sn r.l x i t true hf ht e y (skp r.sn r.l x true).2 (Prod.ext hy rfl);have g5:=trm_true (s:=r.sn) (l:=r.l) (i:=e.idx-1) (by rw[g2]);have hsuf:=skp_suf r.sn r.l x true;rw[hy] at hsuf;have hb:=fol_top (e::y) (e.idx-1) u g3 (fun a ha=>hx a (hsuf.subset ha)) (by unfold Rl.top at h;omega);unfold Rl.top;dsimp only;rw[List.length_append,List.length_take];omega
 have hm1:∀ (i t:Nat) (x:List Ent) (last:Nat),folR i t x=0->(∀ e∈x,e.idx<lgTop)->(r.merge1 i t x last).1.top<lgTop:=by
  intro i t x last hf hx;unfold Rl.merge1
  split
  ·exact h
  ·rename_i hc;have hc:=not_or.1 hc;exact hm2 i t x last hf (Prod.ext (Decidable.not_not.1 hc.2) (by simpa using hc.1)) hx
 unfold Rl.doo
 split
 ·unfold Rl.setHard;dsimp only
  split
  ·exact h
  ·split <;> exact h
 ·split
  ·unfold Rl.append;dsimp only
   split
   ·exact h
   ·rename_i hf;have:=fol_top p.x _ _ (fol_folR (Decidable.not_not.1 hf)) h1 h;unfold Rl.top;dsimp only;rw[List.length_append];omega
  ·split
   ·unfold Rl.merge;dsimp only
    split
    ·exact h
    ·rename_i hf;have hfR:=fol_folR (Decidable.not_not.1 hf)
     split
     ·split
      ·exact h
      ·split
       ·exact h
       ·rename_i h2;refine hm1 _ _ _ _ ?_ (fun e he=>h1 e (List.mem_of_mem_drop he));cases hd:p.x.drop (r.sn.idx-p.idx) with
        | nil=>rfl
        | cons e y=>
         have h3:=folR_drop p.x p.idx p.term _ e y hfR hd;rw[hd] at h2;simp at h2;rw[folR_cons,if_neg qo];exact h3.2
     ·exact hm1 _ _ _ _ hfR h1
   ·split
    ·exact hsv p.sn
    ·split
     ·unfold Rl.install;dsimp only
      split
      ·exact h
      ·rename_i hf;obtain ⟨_,_,k1,k2⟩:=rfits_ok (Decidable.not_not.1 hf)
       split
       ·exact hsv p.sn
       ·unfold Rl.top;dsimp only;rw[List.length_nil];omega
     ·exact h
end
section
def Sec0:Sec:=⟨[],false⟩
def fndS(s:Sec)(p:Int):Option (List UInt8):=
 if s.syn=true then s.vs[(max p 0).toNat % s.vs.length]?
 else if (max p 0).toNat % (s.vs.length+1)=0 then none else s.vs[(max p 0).toNat % (s.vs.length+1)-1]?
def usesP(s:Sec)(ps:List Int):Prop:=0<ps.length/\(s.syn=false\/1<s.vs.length)
instance (s:Sec) (ps:List Int):Decidable (usesP s ps):=by unfold usesP;exact inferInstance
def pckP(s:Sec)(ps:List Int):Int:=if usesP s ps then ps.headD 0 else 0
def pckR(s:Sec)(ps:List Int):List Int:=if usesP s ps then ps.drop 1 else ps
def crL(l:Ar):List Int->List Int->Ar->Int->Ar×List Int×Int
 | [],ps,m,room=>(m,ps,room)
 | n::r,ps,m,room=>
  match fndS ((mget n l).getD Sec0) (pckP ((mget n l).getD Sec0) ps) with
  | some v=>crL l r (pckR ((mget n l).getD Sec0) ps) (mset n ⟨[v],true⟩ m) room
  | none=>crL l r (pckR ((mget n l).getD Sec0) ps) m (room+1)
def crA(D:Dk):List Int->List Int->List (Int×Ar)->Int->List (Int×Ar)×Int
 | [],_,m,room=>(m,room)
 | a::r,ps,m,room=>
  crA D r (crL (D.ar a) (srtI ((D.ar a).map (·.1))) ps [] room).2.1 (if (crL (D.ar a) (srtI ((D.ar a).map (·.1))) ps [] room).1.length=0 then m else mset a (crL (D.ar a) (srtI ((D.ar a).map (·.1))) ps [] room).1 m) (crL (D.ar a) (srtI ((D.ar a).map (·.1))) ps [] room).2.2
def Dk.crash(D:Dk)(ps:List Int):Dk:=⟨(crA D (areasL D) ps [] (max D.room 0)).2,0,(crA D (areasL D) ps [] (max D.room 0)).1,-1,false⟩
theorem fndS_pk{s:Sec}(h:s.vs≠[])(p:Int):PkS (some s) ((fndS s p).map fun v=>⟨[v],true⟩):=by
 have hl:0<s.vs.length:=List.length_pos_iff.2 h;unfold PkS fndS;dsimp only
 by_cases hs:s.syn=true
 ·rw[if_pos hs];have hlt:(max p 0).toNat % s.vs.length<s.vs.length:=Nat.mod_lt _ hl;rw[List.getElem?_eq_getElem hlt];exact .inr ⟨_,List.getElem_mem hlt,I⟩
 ·rw[if_neg hs]
  by_cases h0:(max p 0).toNat % (s.vs.length+1)=0
  ·rw[if_pos h0];exact .inl ⟨by simpa using hs,I⟩
  ·rw[if_neg h0];have hlt:(max p 0).toNat % (s.vs.length+1)-1<s.vs.length:=by have:=Nat.mod_lt (max p 0).toNat (show 0<s.vs.length+1 by omega);omega
   rw[List.getElem?_eq_getElem hlt];exact .inr ⟨_,List.getElem_mem hlt,I⟩
theorem crL_run(l:Ar):∀ (ns:List Int) (ps:List Int) (m:Ar) (room:Int),ns.Nodup->(∀ n∈ns,mget n m=none)->(∀ n∈ns,∃ s,mget n l=some s/\s.vs≠[])->(m.map (·.1)).Nodup ->
  (∀ n∈ns,PkS (mget n l) (mget n (crL l ns ps m room).1))/\(∀ n,n∉ns->mget n (crL l ns ps m room).1=mget n m)/\((crL l ns ps m room).1.map (·.1)).Nodup/\room<=(crL l ns ps m room).2.2/\(crL l ns ps m room).2.2<=room+(ns.length:Int)/\(crL l ns ps m room).2.2+((crL l ns ps m room).1.length:Int)=room+(m.length:Int)+(ns.length:Int)
 | [],ps,m,room,_,_,_,hm=>⟨by simp,fun _ _=>rfl,hm,Int.le_refl _,by simp[crL],by simp[crL]⟩
 | n::r,ps,m,room,hn,hmn,hl,hm=>by
  have hn:=List.nodup_cons.1 hn;obtain ⟨s,hs,hv⟩:=hl n (by simp);have hpk:=fndS_pk hv (pckP ((mget n l).getD Sec0) ps);have e:(mget n l).getD Sec0=s:=by rw[hs];rfl
  unfold crL;rw[e] at hpk ⊢;cases hf:fndS s (pckP s ps) with
  | some v=>
   rw[hf] at hpk;dsimp only;have hset:(mset n (⟨[v],true⟩:Sec) m).length=m.length+1:=by rw[mset_length,hmn n (by simp)];rfl
   obtain ⟨r1,r2,r3,r4,r5,r6⟩:=crL_run l r (pckR s ps) (mset n ⟨[v],true⟩ m) room hn.2 (fun j hj=>by rw[mget_mset,if_neg (fun e=>hn.1 (by rw[<-e];exact hj))];exact hmn j (by simp[hj])) (fun j hj=>hl j (by simp[hj])) (mset_nodup hm);refine ⟨fun j hj=>?_,fun j hj=>?_,r3,r4,by simp only[List.length_cons];omega,by rw[r6,hset];simp only[List.length_cons];omega⟩
   ·rcases List.mem_cons.1 hj with rfl|hj
    ·rw[r2 _ hn.1,mget_mset,if_pos rfl,hs];exact hpk
    ·exact r1 j hj
   ·rw[r2 j (fun h=>hj (by simp[h])),mget_mset,if_neg (fun e=>hj (by simp[e]))]
  | none=>
   rw[hf] at hpk;dsimp only;obtain ⟨r1,r2,r3,r4,r5,r6⟩:=crL_run l r (pckR s ps) m (room+1) hn.2 (fun j hj=>hmn j (by simp[hj])) (fun j hj=>hl j (by simp[hj])) hm;refine ⟨fun j hj=>?_,fun j hj=>r2 j (fun h=>hj (by simp[h])),r3,by omega,by simp only[List.length_cons];omega,by rw[r6];simp only[List.length_cons];omega⟩;rcases List.mem_cons.1 hj with rfl|hj
   ·rw[r2 _ hn.1,hmn _ (by simp),hs];exact hpk
   ·exact r1 j hj
theorem crA_run{c:Nat}{D:Dk}(o:D.Ok c):∀ (ks:List Int) (ps:List Int) (m:List (Int×Ar)) (room:Int),ks.Nodup->(∀ a∈ks,mget a m=none)->(m.map (·.1)).Nodup->(∀ x∈m,x.2≠[]) ->
  (∀ a∈ks,∀ n,PkS (D.sec a n) (mget n ((mget a (crA D ks ps m room).1).getD [])))/\(∀ a,a∉ks->mget a (crA D ks ps m room).1=mget a m)/\((crA D ks ps m room).1.map (·.1)).Nodup/\(∀ x∈(crA D ks ps m room).1,x.2≠[])/\room<=(crA D ks ps m room).2/\∀ a∈(crA D ks ps m room).1.map (·.1),a∈ks\/a∈m.map (·.1)
 | [],ps,m,room,_,_,hm,hx=>⟨by simp,fun _ _=>rfl,hm,hx,Int.le_refl _,fun a ha=>.inr ha⟩
 | a::r,ps,m,room,hn,hma,hm,hx=>by
  have hn:=List.nodup_cons.1 hn
  have hnd:((D.ar a).map (·.1)).Nodup:=by
   unfold Dk.ar;cases hg:mget a D.areas with
   | none=>simp
   | some l=>exact (o.ns _ (mget_mem hg)).1
  have hvs:∀ n∈srtI ((D.ar a).map (·.1)),∃ s,mget n (D.ar a)=some s/\s.vs≠[]:=by
   intro n hn;have hn:=(srtI_perm _).mem_iff.1 hn;cases hg:mget n (D.ar a) with
   | none=>exact absurd hn (mget_none.1 hg)
   | some s=>
    refine ⟨s,I,?_⟩;have h1:=mget_mem hg;unfold Dk.ar at h1;cases hg2:mget a D.areas with
    | none=>rw[hg2] at h1;simp at h1
    | some l=>rw[hg2] at h1;exact (o.vs _ (mget_mem hg2) _ h1).1
  obtain ⟨q1,q2,q3,q4,q5,q6⟩:=crL_run (D.ar a) (srtI ((D.ar a).map (·.1))) ps [] room ((srtI_perm _).symm.nodup hnd) (fun _ _=>rfl) hvs (by simp);unfold crA;generalize crL (D.ar a) (srtI ((D.ar a).map (·.1))) ps [] room=R at q1 q2 q3 q4 q5 q6;obtain ⟨l,ps',room'⟩:=R;dsimp only at q1 q2 q3 q4 q5 q6 ⊢;obtain ⟨m',hm'⟩:∃ m',m'=if l.length=0 then m else mset a l m:=⟨_,rfl⟩;rw[<-hm']
  have hget:∀ b,mget b m'=if b=a/\l≠[] then some l else mget b m:=by
   intro b;rw[hm']
   by_cases h0:l.length=0
   ·rw[if_pos h0,if_neg (fun h=>h.2 (List.length_eq_zero_iff.1 h0))]
   ·rw[if_neg h0,mget_mset]
    by_cases e:b=a
    ·rw[if_pos e,if_pos ⟨e,fun h=>h0 (by rw[h];rfl)⟩]
    ·rw[if_neg e,if_neg (fun h=>e h.1)]
  have hnd':(m'.map (·.1)).Nodup:=by
   rw[hm']
   split
   ·exact hm
   ·exact mset_nodup hm
  have hne':∀ x∈m',x.2≠[]:=by
   intro x hxx;rw[hm'] at hxx
   split at hxx
   ·exact hx x hxx
   ·rename_i h0;rcases mset_mem hxx with rfl|h1
    ·exact fun h=>h0 (by dsimp only at h;rw[h];rfl)
    ·exact hx x h1
  have hkm:∀ b∈m'.map (·.1),b=a\/b∈m.map (·.1):=by
   intro b hb;rw[hm'] at hb
   split at hb
   ·exact .inr hb
   ·obtain ⟨x,hxx,rfl⟩:=List.mem_map.1 hb;rcases mset_mem hxx with rfl|h1
    ·exact .inl I
    ·exact .inr<|List.mem_map.2 ⟨x,h1,I⟩
  obtain ⟨r1,r2,r3,r4,r5,r6⟩:=crA_run o r ps' m' room' hn.2 (fun b hb=>by rw[hget,if_neg (fun h=>hn.1 (by rw[<-h.1];exact hb))];exact hma b (by simp[hb])) hnd' hne';refine ⟨fun b hb n=>?_,fun b hb=>?_,r3,r4,by omega,fun b hb=>?_⟩
  ·rcases List.mem_cons.1 hb with rfl|hb
   ·rw[r2 _ hn.1,hget]
    have hl:mget n ((if b=b/\l≠[] then some l else mget b m).getD [])=mget n l:=by
     by_cases h0:l=[]
     ·rw[if_neg (fun h=>h.2 h0),hma _ (by simp),h0];rfl
     ·rw[if_pos ⟨rfl,h0⟩];rfl
    rw[hl]
    by_cases hin:n∈srtI ((D.ar b).map (·.1))
    ·exact q1 n hin
    ·rw[q2 n hin];have:mget n (D.ar b)=none:=mget_none.2 (fun h=>hin ((srtI_perm _).mem_iff.2 h));unfold Dk.sec;rw[this]
     rfl
   ·exact r1 b hb n
  ·rw[r2 b (fun h=>hb (by simp[h])),hget,if_neg (fun h=>hb (by simp[h.1]))]
  ·rcases r6 b hb with h|h
   ·exact .inl (by simp[h])
   ·rcases hkm b h with h|h
    ·exact .inl (by simp[h])
    ·exact .inr h
theorem crash_cr{c:Nat}{D:Dk}(o:DOk c D)(ps:List Int):Cr D (D.crash ps)/\0<=(D.crash ps).room:=by
 obtain ⟨r1,r2,r3,r4,r5,r6⟩:=crA_run o.ok (areasL D) ps [] (max D.room 0) ((srtI_perm _).symm.nodup o.ok.keys) (fun _ _=>rfl) (by simp) (by simp)
 have hk:∀ k∈(D.crash ps).areas.map (·.1),k∈D.areas.map (·.1):=fun k hk=>by
  rcases r6 k hk with h|h
  ·exact (srtI_perm _).mem_iff.1 h
  ·simp at h
 refine ⟨⟨I,I,fun a n=>?_,hk,r3,fun a=>?_,fun k h=>(o.ar k (hk k h)).1⟩,by show 0<=(crA D (areasL D) ps [] (max D.room 0)).2;omega⟩
 ·by_cases ha:a∈areasL D
  ·exact r1 a ha n
  ·have h1:mget a D.areas=none:=mget_none.2 (fun h=>ha ((srtI_perm _).mem_iff.2 h));have h2:mget a (D.crash ps).areas=none:=by rw[show (D.crash ps).areas=(crA D (areasL D) ps [] (max D.room 0)).1 from rfl,r2 a ha];rfl
   unfold Dk.sec Dk.ar;rw[h1,h2]
   rfl
 ·constructor
  ·intro ha;cases hg:mget a (D.crash ps).areas with
   | none=>exact absurd ha (mget_none.1 hg)
   | some l=>
    have hne:=r4 _ (mget_mem hg);cases l with
    | nil=>exact absurd rfl hne
    | cons x l=>
     refine ⟨x.1,x.2,?_⟩;unfold Dk.sec Dk.ar;rw[hg];obtain ⟨n,s⟩:=x;simp[mget]
  ·rintro ⟨n,x,h⟩;unfold Dk.sec Dk.ar at h;cases hg:mget a (D.crash ps).areas with
   | none=>rw[hg] at h;simp[mget] at h
   | some l=>exact List.mem_map.2 ⟨_,mget_mem hg,rfl⟩
end
section
instance:DecidableEq Snp:=fun a b=>decidable_of_iff (a.idx=b.idx/\a.term=b.term/\a.vot=b.vot/\a.data=b.data) (by cases a;cases b;simp)
def stepsL(r s:Rl):List Rl:=if r.sn=s.sn then (List.range (s.l.length+1-cmn r.l s.l)).map (fun j=>{ s with l:=s.l.take (cmn r.l s.l+j) }) else [s]
theorem stp_mem{r s:Rl}{sn:Snp}{l:List Ent}(h:Stp r s sn l):∃ x∈stepsL r s,x.sn=sn/\x.l=l:=by
 unfold stepsL;rcases h with ⟨h1,h2,k,h3,h4,h5⟩|⟨h1,h2,h3⟩
 ·rw[if_pos h1];refine ⟨{ s with l:=s.l.take k },List.mem_map.2 ⟨k-cmn r.l s.l,List.mem_range.2 qo,?_⟩,h2.symm,h5.symm⟩;rw[show cmn r.l s.l+(k-cmn r.l s.l)=k by omega]
 ·rw[if_neg h1];exact ⟨s,by simp,h2.symm,h3.symm⟩
theorem steps_top{r s:Rl}(h:s.top<lgTop):∀ x∈stepsL r s,x.top<lgTop:=by
 intro x hx;unfold stepsL at hx
 split at hx
 ·obtain ⟨j,_,rfl⟩:=List.mem_map.1 hx;unfold Rl.top at h ⊢;dsimp only;rw[List.length_take];omega
 ·simp only[List.mem_singleton] at hx;rw[hx];exact h
theorem steps_self(r s:Rl):∃ x∈stepsL r s,x.sn=s.sn/\x.l=s.l:=by
 refine stp_mem ?_
 by_cases h:r.sn=s.sn
 ·exact .inl ⟨h,I,s.l.length,(cmn_le _ _).2,Nat.le_refl _,by rw[List.take_length]⟩
 ·exact .inr ⟨h,I,I⟩
def Was(was:List Rl)(sn:Snp)(l:List Ent):Prop:=∃ x∈was,x.sn=sn/\x.l=l
theorem Was.app{a b:List Rl}{sn:Snp}{l:List Ent}(h:Was a sn l):Was (a++b) sn l:=let ⟨x,h1,h2⟩:=h;⟨x,List.mem_append.2 (.inl h1),h2⟩
theorem Was.app2{a b:List Rl}{sn:Snp}{l:List Ent}(h:Was b sn l):Was (a++b) sn l:=let ⟨x,h1,h2⟩:=h;⟨x,List.mem_append.2 (.inr h1),h2⟩
structure CutI (vot0:List Int) (M n:Nat) (L:Lg) (D:Dk) (was:List Rl):Prop where
 alv:Alv n D
 cn:Cn M L
 inv:∃ S op,LInv vot0 M L D S op/\PosS S op L.sn (Was was L.sn)
 own:Was was L.sn L.l
 tops:∀ x∈was,x.top<lgTop
theorem CutI.top{vot0:List Int}{M n:Nat}{L:Lg}{D:Dk}{was:List Rl}(h:CutI vot0 M n L D was):L.rl.top<lgTop:=by
 obtain ⟨x,h1,h2,h3⟩:=h.own;have:=h.tops x h1;unfold Rl.top at this ⊢;rw[h2,h3] at this;exact this
theorem cut_step{vot0:List Int}(hv:(putConf vot0).isSome=true){M n m:Nat}{L:Lg}{D:Dk}{was:List Rl}(h:CutI vot0 M (n+2100) L D was)(hM:M+102<=2000000)(q:ROp)(hp:q.bd m)(hl:q.low=true):
  ((L.doo D q).2.1.dead=true/\Fnd vot0 (M+102) (L.doo D q).2.1 [(L.kt,L.kv),((L.rl.doo q).1.kt,(L.rl.doo q).1.kv)] (Was (was++stepsL L.rl (L.rl.doo q).1))/\∀ x∈was++stepsL L.rl (L.rl.doo q).1,x.top<lgTop) \/
   ((L.doo D q).2.1.dead=false/\(L.doo D q).2.2=(L.rl.doo q).2/\(L.doo D q).1.rl=(L.rl.doo q).1/\CutI vot0 (M+102) n (L.doo D q).1 (L.doo D q).2.1 (was++stepsL L.rl (L.rl.doo q).1) /\
    ((q.kind=3\/q.kind=4\/q.kind=5)/\(L.rl.doo q).2.code=0->CutI vot0 (M+102) n (L.doo D q).1 (L.doo D q).2.1 [(L.rl.doo q).1])):=by
 obtain ⟨S,op,o,p⟩:=h.inv;have htop:(L.rl.doo q).1.top<lgTop:=Rl.doo_top q hl h.top
 have htops:∀ x∈was++stepsL L.rl (L.rl.doo q).1,x.top<lgTop:=fun x hx=>by
  rcases List.mem_append.1 hx with hx|hx
  ·exact h.tops x hx
  ·exact steps_top htop x hx
 have hd:=doo_run (n:=n) o hv h.cn (A:=[(L.kt,L.kv),((L.rl.doo q).1.kt,(L.rl.doo q).1.kv)]) (P:=Was (was++stepsL L.rl (L.rl.doo q).1)) (p.mono fun l hl=>hl.app) h.own.app q hp hl hM h.top (by simp) (by simp) (fun sn l hs=>Was.app2 (stp_mem hs)) h.alv;rcases hd with ⟨h1,h2,h3,h4,S1,op1,h5,h6,h7⟩|⟨h1,h2⟩
 ·have hown:∀ w,Was w (L.rl.doo q).1.sn (L.rl.doo q).1.l->Was w (L.doo D q).1.sn (L.doo D q).1.l:=fun w hw=>by
   rw[<-h3] at hw;exact hw
  refine .inr ⟨h2.dead,h1,h3,⟨h2,h4,⟨S1,op1,h5,h6⟩,hown _ (Was.app2<|steps_self _ _),htops⟩,fun hc=>⟨h2,h4,⟨S1,op1,h5,(h7 hc).mono fun l hl=>?_⟩,hown _ ⟨_,by simp,I,I⟩,fun x hx=>?_⟩⟩
  ·exact ⟨(L.rl.doo q).1,by simp,by rw[<-h3];rfl,by rw[hl,<-h3];rfl⟩
  ·simp only[List.mem_singleton] at hx;rw[hx];exact htop
 ·exact .inl ⟨h1,h2,htops⟩
theorem cut_end{vot0:List Int}(hv:(putConf vot0).isSome=true){M n:Nat}{L:Lg}{D:Dk}{was:List Rl}(h:CutI vot0 M n L D was)(hM:M<=2000000):Fnd vot0 M D [(L.kt,L.kv)] (Was was):=by
 obtain ⟨S,op,o,p⟩:=h.inv;have ht:=h.top;have ht2:L.sn.idx+L.l.length<lgTop:=ht;exact o.fnd hv h.cn (fun _ _=>I) (o.foundS (Nat.le_refl _) (by unfold wMany;omega) qo p o.seg) (by simp)
theorem LInv.same{vot0:List Int}{M:Nat}{L:Lg}{D E:Dk}{S:List Sg}{op:Option Og}(o:LInv vot0 M L D S op)(h:E.areas=D.areas):LInv vot0 M L E S op:=by
 have hs:∀ a,E.sec a=D.sec a:=fun a=>by
  unfold Dk.sec Dk.ar;rw[h]
 exact {
  code:=o.code
  wcode:=o.wcode
  old:=o.old
  seg:=o.seg.frame (fun n=>hs _) fun a ha _=>by rw[<-h];exact ha
  opn:=o.opn
  ops:=o.ops
  lt:=o.lt
  frS:=o.frS
  frn:=o.frn
  next:=o.next
  ok:=o.ok
  val:=o.val
  hardF:=by rw[hs];exact o.hardF
  hardS:=by rw[hs];exact o.hardS
  hardV:=o.hardV
  headF:=by rw[hs];exact o.headF
  headS:=by rw[hs];exact o.headS
  headV:=o.headV
  dat:=by rw[hs];exact o.dat
  good:=o.good }
def Dk.arm(D:Dk)(i:Int):Dk:=if D.dead=true then D else { D with left:=max i (-1) }
theorem cut_begin{vot0:List Int}{M n:Nat}{L:Lg}{E:Dk}{S:List Sg}(o:LInv vot0 M L E S none)(cn:Cn M L)(hL:Liv 0 E)(hk:(E.areas.map (·.1)).Nodup)(hr:(n:Int)<=E.room)(ht:L.rl.top<lgTop)(i:Int):CutI vot0 M n L (E.arm i) [L.rl]:=by
 have hd:¬E.dead=true:=by rw[hL.dead];decide
 have e:E.arm i={ E with left:=max i (-1) }:=by unfold Dk.arm;rw[if_neg hd]
 refine ⟨by rw[e];exact ⟨by dsimp only;omega,hL.dead,hr,hk⟩,cn,⟨S,none,o.same (by rw[e]),?_⟩,⟨L.rl,by simp,rfl,rfl⟩,fun x hx=>?_⟩
 ·refine (pos_last (fun q hq=>by cases hq) o.ok o.good o.vk.lv).mono fun l hl=>?_;rw[hl];exact ⟨L.rl,by simp,I,I⟩
 ·simp only[List.mem_singleton] at hx;rw[hx];exact ht
theorem fnd_new{vot0:List Int}(hv:(putConf vot0).isSome=true){D:Dk}(h:D.areas=[]):Fnd vot0 0 D [(0,-1)] (fun sn l=>sn=⟨0,0,vot0,[]⟩/\l=[]):=by
 have hs:∀ a,D.sec a=fun _=>none:=fun a=>by
  funext n
  unfold Dk.sec Dk.ar;rw[h]
  rfl
 have hp:∀ a f',Pk (D.sec a) f'->f'=fun _=>none:=fun a f' p=>by
  rw[hs a] at p
  funext n
  exact p n
 have e0:sltF (fun _=>none)=⟨0,[]⟩:=rfl;refine fnd_of hv (fun f' p=>?_) fun f' p=>?_
 ·rw[hp 0 f' p,e0];exact ⟨Nat.le_refl _,_,by simp,I⟩
 ·rw[hp 4 f' p,e0];exact ⟨Nat.le_refl _,⟨0,0,vot0,[]⟩,0,0,Nat.le_refl _,.inl ⟨I,I,I,I⟩,fun h=>absurd I h,wfound_void (Nat.zero_le _) (Nat.zero_le _) (Nat.le_refl _) (fun n hn=>by rw[h] at hn;simp at hn) ⟨rfl,rfl⟩⟩
end
section
attribute [local irreducible] Code.wp wpList Calls
theorem armC{w0:World}{K:PH}{hs m:List PH}(b:Nat)(D:Dk)(hm:DskM K b D m)(i:Int)(hi : -9223372036854775808<=i/\i<=9223372036854775807):
  Ct Tryz.prog w0 49 [.pointer (some ⟨b,0,none⟩),.int .i64 i] K (m++hs) (fun v K' hs'=>K'=K/\∃ m',hs'=m'++hs/\DskM K b (D.arm i) m'/\v=.tuple #[]):=by
 obtain ⟨bo,ho,ins,rfl,hO,hI⟩:=hm;refine enter Tryz.func49 qk I I I (sq (rg (ldp hT 3 0 (v:=.bool D.dead) I I I (ar hT 0 (v':=.bool (!D.dead)) I I (fin hT 0 I (th (ifB I (fun e1=>?_) (fun e1=>?_))))))))
 ·have e:D.arm i={ D with left:=max i (-1) }:=by unfold Dk.arm;rw[if_neg (by intro h;rw[h] at e1;cases e1)]
  exact rg (ar hT 2 (v':=.int .i64 (max i (-1))) I (congrArg (Value.int .i64) (by split <;> omega)) (stp hT 2 0 rfl rfl rfl rfl (fin hT 0 rfl (end0 rfl ⟨rfl,_,rfl,⟨bo,ho,ins,by rw[e],hO,by rw[e];exact hI⟩,I⟩))))
 ·have e:D.arm i=D:=by unfold Dk.arm;rw[if_pos (by cases hd:D.dead with|true=>rfl|false=>rw[hd] at e1;cases e1)]
  exact sk (end0 I ⟨I,_,I,⟨bo,ho,ins,by rw[e],hO,by rw[e];exact hI⟩,I⟩)
theorem deadL{w0:World}{K h:PH}{hs:List PH}{lb db:Nat}{L:Lg}{D:Dk}(hL:LgH K lb db L D h):Ct Tryz.prog w0 51 [.pointer (some ⟨db,0,none⟩)] K (h::hs) (fun v K' hs'=>K'=K/\hs'=h::hs/\v=.bool D.dead):=
 lgKeep hL fun m hm=>by
  obtain ⟨wb,hb,eb,aV,cV,aD,cD,aL,cL,wh,hh,eh,gl,dh,rfl,h2,h3,h4,h5,h6,h7,h8⟩:=hm;exact Ct.keep 5 I (deadH db D h6)
theorem armH{w0:World}{K h:PH}{hs:List PH}(b:Nat)(D:Dk)(hm:DskH K b D h)(i:Int)(hi : -9223372036854775808<=i/\i<=9223372036854775807):Ct Tryz.prog w0 49 [.pointer (some ⟨b,0,none⟩),.int .i64 i] K (h::hs)
  (fun v K' hs'=>K'=K/\∃ h',hs'=h'::hs/\DskH K b (D.arm i) h'/\v=.tuple #[]):=by
 obtain ⟨m,rfl,d,hm⟩:=hm;refine Ct.bun d (armC b D hm i hi) ?_;rintro v K' hs' ⟨rfl,m',rfl,hm',rfl⟩;exact ⟨m',I,fun d'=>⟨I,_,I,⟨m',I,d',hm'⟩,I⟩⟩
theorem armL{w0:World}{K h:PH}{hs:List PH}{lb db:Nat}{L:Lg}{D:Dk}(hL:LgH K lb db L D h)(i:Int)(hi : -9223372036854775808<=i/\i<=9223372036854775807):
  Ct Tryz.prog w0 49 [.pointer (some ⟨db,0,none⟩),.int .i64 i] K (h::hs) (fun v K' hs'=>∃ h',hs'=h'::hs/\Le K K'/\LgH K' lb db L (D.arm i) h'/\v=.tuple #[]):=
 lgDo hL fun m hm=>by
  obtain ⟨wb,hb,eb,aV,cV,aD,cD,aL,cL,wh,hh,eh,gl,dh,rfl,h2,h3,h4,h5,h6,h7,h8⟩:=hm;refine (Ct.at (S:=fun v K' h'=>K'=K/\DskH K db (D.arm i) h'/\v=.tuple #[]) 5 I ((armH db D h6 i hi).mono ?_)).mono ?_
  ·rintro v K' hs' ⟨rfl,h',rfl,g1,rfl⟩;exact ⟨h',I,I,g1,I⟩
  ·rintro v K' hs' ⟨h',rfl,rfl,g1,rfl⟩;exact ⟨Le.refl _,_,I,⟨wb,hb,eb,aV,cV,aD,cD,aL,cL,wh,hh,eh,gl,h',I,h2,h3,h4,h5,g1,h7,h8⟩,I⟩
end
section
attribute [local irreducible] Code.wp wpList Calls
theorem maxV(p:Int):Value.int .i64 (if p<0 then 0 else p)=.int .i64 (((max p 0).toNat:Nat):Int):=congrArg (Value.int .i64) (by split <;> omega)
theorem secFoundC{w0:World}{K:PH}{hs:List PH}(s:Sec)(v:Value)(hv:SecR K v s)(hne:s.vs≠[])(hlen:s.vs.length<=1099511627776)(p:Int)(hp : -9223372036854775808<=p/\p<=9223372036854775807):
  Ct Tryz.prog w0 55 [v,.int .i64 p] K hs (fun u K' hs'=>K'=K/\hs'=hs/\u=.tuple #[.string ⟨((fndS s p).getD []).toArray⟩,.bool (fndS s p).isSome]):=by
 obtain ⟨ao,c,rfl,x⟩:=hv;obtain ⟨k,hk⟩:∃ k,s.vs.length=k+1:=⟨s.vs.length-1,by have:=List.length_pos_iff.2 hne;omega⟩
 have hget:∀ i,i<k+1->∃ b,s.vs[i]?=some b/\(tvv s.vs)[i]?=some (.string ⟨b.toArray⟩):=fun i hi=>by
  have h1:i<s.vs.length:=by omega
  exact ⟨s.vs[i],List.getElem?_eq_getElem h1,by unfold tvv;rw[List.getElem?_map,List.getElem?_eq_getElem h1];rfl⟩
 rw[hk] at x;rw[hk];refine enter Tryz.func55 qk I I I (sq (rg (bx hT 0 I fun b2=>fin hT 2 I (th (sq (rg (ldp hT 1 0 (v:=.slice ao (k+1) c) I I I (fin hT 2 I (th (sq (sq (rg (ldp hT 1 0 (v:=.bool s.syn) I I I ?_)))))))))))));cases hsy:s.syn with
 | true=>
  obtain ⟨j,hj⟩:∃ j,j=(max p 0).toNat % (k+1):=⟨_,rfl⟩;have hjl:j<k+1:=by rw[hj];exact Nat.mod_lt _ qo
  have hf:fndS s p=s.vs[j]?:=by unfold fndS;rw[if_pos hsy,hk,<-hj]
  obtain ⟨b,g1,g2⟩:=hget j hjl;rw[hf,g1];refine fin hT 1 I (th (ifF I (sk (th (sq (rg (ar hT 1 I (maxV p) (ar hT 1 I (u_rem .i64 (max p 0).toNat (k+1)) ?_))))))));rw[<-hj];refine fin hT 1 I (th (sq (sq (rg (ldp hT 1 0 (v:=.bool true) I I I (fin hT 1 I (th (ifF I (sk (th (sq (sq (rg (cmpS hT 1 I fun b25 h25=>fin hT 0 I (th (ifP h25 I (fun e2=>?_) (fun e2=>?_)))))))))))))))))
  ·exact absurd e2 qo
  ·exact sk<|th (sq<|rg (ldp hT 1 0 (v:=.slice ao (k+1) c) I I I (ix1 hT 1 j I qo I x g2 fun a29 hc29=>ld hT 0 I (.inl I) hc29<|fin hT 2 I (th<|rt (WQ.drop<|ret2 I I I ⟨I,I,I⟩)))))
 | false=>
  obtain ⟨j,hj⟩:∃ j,j=(max p 0).toNat % (k+1+1):=⟨_,rfl⟩;have hjl:j<k+1+1:=by rw[hj];exact Nat.mod_lt _ qo
  have hf:fndS s p=if j=0 then none else s.vs[j-1]?:=by unfold fndS;rw[if_neg (by rw[hsy];simp),hk,<-hj]
  rw[hf];refine fin hT 1 I (th (ifT I (rg (ar hT 1 I (v':=.int .i64 (k+1+1:Nat)) (i64w qo) (fin hT 1 I (th (sq (rg (ar hT 1 I (maxV p) (ar hT 1 I (u_rem .i64 (max p 0).toNat (k+1+1)) ?_))))))))));rw[<-hj];refine fin hT 1 I (th (sq (sq (rg (ldp hT 1 0 (v:=.bool false) I I I (fin hT 1 I (th (ifT I (rg (ar hT 1 I (v':=.int .i64 ((j:Int)-1)) (i64w qo) (fin hT 1 I (th (sq (sq (rg (cmpS hT 1 I fun b25 h25=>fin hT 0 I (th (ifP h25 I (fun e2=>?_) (fun e2=>?_)))))))))))))))))))
  ·rw[if_pos (show j=0 by omega)];exact sq (rg (fin hT 2 I (th (rt (rT (WQ.drop (ret2 I I I ⟨I,I,I⟩)))))))
  ·rw[if_neg (show ¬j=0 by omega)];obtain ⟨b,g1,g2⟩:=hget (j-1) qo;rw[g1];exact sk (th (sq (rg (ldp hT 1 0 (v:=.slice ao (k+1) c) I I I (ix1 hT 1 (j-1) I qo I x g2 fun a29 hc29=>ld hT 0 I (.inl I) hc29 (fin hT 2 I (th (rt (WQ.drop (ret2 I I I ⟨I,I,I⟩))))))))))
end
section
attribute [local irreducible] Code.wp wpList Calls
theorem eqHard2(k j:Nat)(v u:Int)(w:World):(Op.equalIn 10000 25 (.agg #[.int .u64 (k:Nat),.int .i64 v]) (.agg #[.int .u64 (j:Nat),.int .i64 u])).run Tryz.prog w=.ok (decide ((k,v)=(j,u))) w:=by
 have u3:=Tryz.underlying3;have a3:=Tryz.isAgg3;have z3:=Tryz.sizeOf3;have u4:=Tryz.underlying23;have a4:=Tryz.isAgg23;have z4:=Tryz.sizeOf23;have hS:Tryz.prog.underlying 25=some (.struct (Tryz.prog.fieldsOf 25)):=by kernel_rfl
 rw[show (10000:Nat)=9999+1 from rfl,run_equalIn_agg w 9999 25 _ _ hS qk];simp only[Program.fieldsOf,Tryz.underlying25]
 go_simp
 by_cases h1:k=j <;> by_cases h2:v=u <;> simp[h1,h2,Int.ofNat_inj]
def RlC(K:PH)(cs:List Value)(r:Rl):Prop:=RlS K r (.agg cs.toArray)
def HdC(cs:List Value)(h:Nat×Int):Prop:=cs=[.int .u64 h.1,.int .i64 h.2]
theorem RlC.le{K K':PH}(l:Le K K'){cs:List Value}{r:Rl}(h:RlC K cs r):RlC K' cs r:=RlS.le l h
theorem foundW{w0:World}{K h:PH}{hs:List PH}(lb db:Nat)(L:Lg)(D:Dk)(c:Nat)(hb:LBd c L)(hc:c<=1000000000)(hL:LgH K lb db L D h)(hlen:L.l.length<=1048576)(hLb:RBd 1048576 L.rl)(aw ah:Option Addr)(cw ch:Nat)(was:List Rl)(hard:List (Nat×Int))
  (xw:SlS 7 (RlC K) K aw was.length cw was) (xh:SlS 2 HdC K ah hard.length ch hard) (hw:∀ r∈was,RBd 1048576 r) (hwn:was.length<1099511627776) (hhn:hard.length<1099511627776):
  Ct Tryz.prog w0 29 [.pointer (some ⟨lb,0,none⟩),.slice aw was.length cw,.slice ah hard.length ch] K (h::hs)
   (fun v K' hs'=>∃ h',hs'=h'::hs/\h'=h/\Le K K'/\∃ b:Bool,v=.bool b/\(b=true↔(L.kt,L.kv)∈hard/\∃ r∈was,r.sn=L.sn/\r.l=L.l)):=by
 refine enter Tryz.func29 qk I I I (sq (rg (fin hT 1 I (th (sq (rg (cl hT 1 I (takenW lb db L D c hb hc hL hlen) ?_)))))));rintro v15 K1 hs15 ⟨h',rfl,hh,le,hR⟩;subst hh;obtain ⟨d,rfl,hR⟩:=hR.ad;refine al hT 0 (.agg #[.int .u64 0,.int .i64 0,.int .u64 0,.int .u64 0,.slice none 0 0,.slice none 0 0,.slice none 0 0]) I qk fun b7=>stS hT 0 0 I I qk I I (WL.hs (pt b7 (rlA L.rl d) 37::h'::hs) I (fin hT 0 I (th (sq (rg (fin hT 1 I (th (sq (sq (rg (fin hT 3 I (th (bk ?_)))))))))))))
 refine loop (σ:=Nat×Bool) (fun s=>[(1,.slice aw was.length cw),(7,.pointer (some ⟨b7,0,none⟩)),(8,.bool s.2),(16,.slice ah hard.length ch),(17,.int .i64 hard.length),(18,.int .i64 s.1)]) (fun _=>K1)
  (fun _=>pt b7 (rlA L.rl d) 37::h'::hs) (fun s=>s.1<=hard.length/\(s.2=true↔(L.kt,L.kv)∈hard.take s.1)) (fun s=>hard.length-s.1) (0,false)
  ⟨Nat.zero_le _,by simp⟩ ⟨rfl,rfl,rfl,rfl,rfl,rfl,trivial⟩ rfl rfl ?_
 rintro ⟨i,b⟩ ⟨hi,hbb⟩;dsimp only at *;refine sq (rg (cmpS hT 0 I fun b19 h19=>fin hT 0 I (th (sq (ifP h19 I (fun e1=>?_) (fun e1=>?_))))))
 ·have hi1:i<hard.length:=by omega
  obtain ⟨x,hx⟩:∃ x,hard[i]?=some x:=⟨_,List.getElem?_eq_getElem hi1⟩;have xh1:SlS 2 HdC K1 ah hard.length ch hard:=xh.le le fun _ _ h=>h;obtain ⟨a,rfl⟩:=xh1.addr qo (by decide);obtain ⟨cc,rfl,_,hco⟩:=xh1.cells hx;obtain ⟨vs,hvs⟩:=xh1.isS;refine sk (th (sq (bk (sq (rg (ixs hT 0 i I I hvs hi1 (by decide) fun a20 h20=>?_))))));cases h20;refine lds hT 0 [.int .u64 x.1,.int .i64 x.2] I qk (.inl I) hco (al hT 0 (.agg #[.int .u64 0,.int .i64 0]) I qk fun b10=>stS hT 0 0 I I qk I I (WL.hs (pt b10 #[.int .u64 x.1,.int .i64 x.2] 25::pt b7 (rlA L.rl d) 37::h'::hs) I (fin hT 0 I (th (rg ?_)))))
  refine' bjo (q:=x=(L.kt,L.kv)) hT 2 5 28 [8,22,23] hbb I I I I I I I (fun _=>?x2) (fun b28 h28=>?_)
  case x2=>
   exact ldS hT 0 0 I I qk (lds hT 1 [.int .u64 L.kt,.int .i64 L.kv] I qk (.inr ⟨1,I⟩) (cells_sub _ I) (eqs hT 0 I qk (fun w=>eqHard2 _ _ _ _ w) (fin hT 1 I (bjx (by obtain ⟨x1,x2⟩:=x;simp) rfl rfl rfl))))
  refine fin hT 1 I (bl (th (rg (ar hT 0 I (i64w qo) (fin hT 1 I (WQ.drop (again (x:=(i,b)) (i+1,b28) ⟨I,I,I,I,I,I,trivial⟩ I I ⟨by dsimp only;omega,?_⟩ (by dsimp only;omega))))))));dsimp only;rw[h28,List.take_add_one,hx,List.mem_append];simp[eq_comm]
 ·have hi2:i=hard.length:=by omega
  subst hi2;rw[List.take_length] at hbb;refine ex (xt (xt (xb (th (sq (rg (fin hT 1 I (th (sq (sq (rg (fin hT 3 I (th (bk ?_))))))))))))))
  refine loop (σ:=Nat×Bool) (fun s=>[(7,.pointer (some ⟨b7,0,none⟩)),(8,.bool b),(11,.bool s.2),(30,.slice aw was.length cw),(31,.int .i64 was.length),(32,.int .i64 s.1)]) (fun _=>K1)
   (fun _=>pt b7 (rlA L.rl d) 37::h'::hs) (fun s=>s.1<=was.length/\(s.2=true↔∃ r∈was.take s.1,r.sn=L.sn/\r.l=L.l)) (fun s=>was.length-s.1) (0,false)
   ⟨Nat.zero_le _,by simp⟩ ⟨rfl,rfl,rfl,rfl,rfl,rfl,trivial⟩ rfl rfl ?_
  rintro ⟨i,b2⟩ ⟨hi,hb2⟩;dsimp only at *;refine sq (rg (cmpS hT 0 I fun b33 h33=>fin hT 0 I (th (sq (ifP h33 I (fun e2=>?_) (fun e2=>?_))))))
  ·have hi1:i<was.length:=by omega
   obtain ⟨x,hx⟩:∃ x,was[i]?=some x:=⟨_,List.getElem?_eq_getElem hi1⟩;have xw1:SlS 7 (RlC K1) K1 aw was.length cw was:=xw.le le fun _ _ h=>h.le le;obtain ⟨a,rfl⟩:=xw1.addr qo (by decide);obtain ⟨cc,hcc,_,hco⟩:=xw1.cells hx;obtain ⟨dx,hdx,hRx⟩:=RlS.ad hcc;obtain rfl:cc=(rlA x dx).toList:=by cases hdx;rfl
   obtain ⟨vs,hvs⟩:=xw1.isS;refine sk (th (sq (bk (sq (rg (ixs hT 0 i I I hvs hi1 (by decide) fun a34 h34=>?_))))));cases h34;refine lds hT 0 (rlA x dx).toList I qk (.inl I) hco (al hT 0 (.agg #[.int .u64 0,.int .i64 0,.int .u64 0,.int .u64 0,.slice none 0 0,.slice none 0 0,.slice none 0 0]) I qk fun b13=>stS hT 0 0 I I qk I I (WL.hs (pt b13 (rlA x dx) 37::pt b7 (rlA L.rl d) 37::h'::hs) I (fin hT 0 I (th (rg ?_)))))
   refine' bjo (q:=x.sn=L.sn/\x.l=L.l) hT 2 4 41 [11,36,37] hb2 I I I I I I I (fun _=>?x3) (fun b41 h41=>?_)
   case x3=>
    refine ldS hT 0 0 I I qk (ldS hT 0 1 I I qk (cl hT 0 I (sameW x L.rl 1048576 (hw x (List.mem_of_getElem? hx)) hLb qo _ _ hRx hR) ?_));rintro v40 K40 hs40 ⟨rfl,rfl,b40,rfl,h40⟩;exact fin hT 1 I (bjx h40 I I I)
   refine fin hT 1 I (bl (th (rg (ar hT 0 I (i64w qo) (fin hT 1 I (WQ.drop (again (x:=(i,b2)) (i+1,b41) ⟨I,I,I,I,I,I,trivial⟩ I I ⟨by dsimp only;omega,?_⟩ (by dsimp only;omega))))))));dsimp only;rw[h41,List.take_add_one,hx]
   constructor
   ·rintro (⟨r,h1,h2⟩|h2)
    ·exact ⟨r,List.mem_append.2 (.inl h1),h2⟩
    ·exact ⟨x,by simp,h2⟩
   ·rintro ⟨r,h1,h2⟩;rcases List.mem_append.1 h1 with h1|h1
    ·exact .inl ⟨r,h1,h2⟩
    ·simp only[Option.toList_some,List.mem_singleton] at h1;rw[h1] at h2;exact .inr h2
  ·have hi2:i=was.length:=by omega
   subst hi2;rw[List.take_length] at hb2;refine ex (xt (xt (xb (th (sq (rg ?_))))))
   refine' bja hT 2 2 46 [8,43,44] hbb I I I I I I I (fun _=>?x4) (fun b46 h46=>?_)
   case x4=>exact fin hT 2 rfl (bjx hb2 rfl rfl rfl)
   exact fin hT 1 I<|th (rt<|WQ.drop (ret1 I I ⟨h',I,I,le,b46,I,h46⟩))
end
end Go.En
