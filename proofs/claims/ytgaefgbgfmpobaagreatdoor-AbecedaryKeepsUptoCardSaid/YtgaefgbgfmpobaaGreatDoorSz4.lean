/-
  Part 4.
-/
import Derived.Test.YtgaefgbgfmpobaaGreatDoorSz3
set_option linter.defProp false
set_option linter.unusedSectionVars false
set_option linter.unusedSimpArgs false
set_option linter.unusedVariables false
namespace Go.En
open Go.Proofs Go.Proofs.YtgaefgbgfmpobaaGreatDoor
open List renaming length -> ba
variable {P : Program} {w0 : World} {K : PH} {hs : List PH} {Q : Nat->Nat->Prop}
section
attribute [local irreducible] Code.wp wpList Calls
def mf{κ ν:Type}(enc:κ->Value)(encv:ν->Value)(h hi:PH)(b r:Nat)(m:List (κ×ν))(ks:List κ):Prop:=
 ∃ (es:Array MapEntry) (c since:Nat) (seen:Array Nat) (last:Nat),h=sg b (.map es c)/\es.toList.map (fun e=>(e.key,e.val))=m.map (fun x=>(enc x.1,encv x.2))/\(es.toList.map (·.born)).Pairwise (· < ·)/\(∀ e∈es.toList,e.born<c) /\
  hi=sg r (.mapIter (some b) since seen last)/\(∀ e∈es.toList,e.born<since)/\(∀ e∈es.toList,e.born<last)/\∀ (i:Nat) e x,es[i]?=some e->m[i]?=some x->(e.born∈seen↔x.1∈ks)
def vW{κ ν:Type}(enc:κ->Value)(encv:ν->Value)(h hi:PH)(b r:Nat)(m:List (κ×ν))(ks:List κ)(k:κ)(v:ν):Prop:=
 mf enc encv h hi b r m ks/\∃ (es:Array MapEntry) (c since:Nat) (seen:Array Nat) (q:Nat) (e:MapEntry),h=sg b (.map es c)/\(es.toList.map (·.born)).Pairwise (· < ·)/\hi=sg r (.mapIter (some b) since seen c)/\seen.back?=some e.born/\es[q]?=some e/\e.key=enc k/\e.val=encv v
section
variable {κ ν:Type} [DecidableEq κ] {enc:κ->Value} {encv:ν->Value} {h hi:PH} {b r:Nat} {m:List (κ×ν)} {ks:List κ}
omit [DecidableEq κ] in
theorem mf.map(x:mf enc encv h hi b r m ks):dG enc encv h b m:=by
 obtain ⟨es,c,since,seen,last,h1,h2,h3,h4,_⟩:=x;exact ⟨es,c,h1,h2,h3,h4⟩
omit [DecidableEq κ] in
theorem Jv{es:Array MapEntry}(h2:es.toList.map (fun e=>(e.key,e.val))=m.map (fun x=>(enc x.1,encv x.2))){i:Nat}{e:MapEntry}(he:es[i]?=some e):∃ x,m[i]?=some x/\e.key=enc x.1/\e.val=encv x.2:=by
 have h3:=congrArg (fun l=>l[i]?) h2
 grind
omit [DecidableEq κ] in
theorem Ju{es:Array MapEntry}(h2:es.toList.map (fun e=>(e.key,e.val))=m.map (fun x=>(enc x.1,encv x.2))){i:Nat}{x:κ×ν}(hx:m[i]?=some x):∃ e,es[i]?=some e:=by
 have h3:=congrArg List.length h2;simp only[aaP,abW] at h3;have h4:=(aas.1 hx).1
 simp_all
omit [DecidableEq κ] in
theorem Lo{w:World}(hI:mf enc encv h hi b r m ks)(hnd:(m.map (·.1)).Nodup)(hb:∀ b o,h b=some o->w.heap[b]?=some o)(hr:∀ b o,hi b=some o->w.heap[b]?=some o)(ty:Nat):
  (∃ k v w1 o,(w1=w\/w1=w.drew)/\(k,v)∈m/\k∉ks/\(Instr.next (SX r) false ty).run P w=.ok (.tuple #[.bool true,enc k,encv v]) (w1.putObj r o)/\vW enc encv h (sg r o) b r m (ks++[k]) k v) \/
  (∃ w1,(w1=w\/w1=w.drew)/\(Instr.next (SX r) false ty).run P w=.ok (.tuple #[.bool false]) w1/\∀ x∈m,x.1∈ks):=by
 obtain ⟨es,c,since,seen,last,rfl,h2,h3,h4,rfl,h5,h6,h7⟩:=hI;have hbm:w.heap[b]?=some (.map es c):=hb b _ ST;have hri:w.heap[r]?=some (.mapIter (some b) since seen last):=hr r _ ST
 have hset:∀ (w1:World) (o:Obj),(w1=w\/w1=w.drew)->(setObj r o).run P w1=.ok () (w1.putObj r o):=fun w1 o hw=>by
  rcases hw with rfl|rfl
  ·simp[setObj,Sem.run,hri,World.putObj]
  have hri2:w.drew.heap[r]?=some (.mapIter (some b) since seen last):=hri;simp[setObj,Sem.run,hri2,World.putObj]
 have hall:(!seen.isEmpty && !es.isEmpty && es.all (·.born>=last))=false:=by
  by_cases he:es.isEmpty=true
  ·simp[he]
  have hz:0<es.size:=by
   grind
  grind
 have hnew:(es.filter fun e=>!seen.contains e.born).filter (fun e=>decide (e.born>=since))=#[]:=by
  apply Array.filter_eq_empty_iff.2
  simp_all
 obtain ⟨left,hleft⟩:=bC (es.filter fun e=>!seen.contains e.born)
 have hold:left.filter (fun e=>decide (e.born<since))=left:=by
  apply Array.filter_eq_self.2
  simp_all
 obtain ⟨cand,hcand⟩:∃ cand:Array (Option MapEntry),cand=(if left.isEmpty then #[none] else #[])++(left++#[]).map some:=⟨_,rfl⟩
 have hsz:0<cand.size:=by
  rw[hcand]
  by_cases he:left.isEmpty=true
  all_goals grind
 obtain ⟨i,w1,hw1,hi1,hch⟩:∃ i w1,(w1=w\/w1=w.drew)/\i<cand.size/\(choose (.mapNext cand.size)).run P w=.ok i w1:=by
  by_cases hf:cand.size<=1
  ·exact ⟨0,w,.inl I,hsz,by simp[choose,Sem.run,Question.forced,hf]⟩
  refine ⟨(Question.mapNext cand.size).cut (w.tape w.drawn (.mapNext cand.size)),w.drew,.inr I,abz _ hsz,?_⟩;simp[choose,Sem.run,Question.forced,hf]
 have hgm:(getObj b).run P w1=.ok (.map es c) w1/\True:=⟨by rcases hw1 with rfl|rfl <;> exact kC hbm,trivial⟩;have hgo:(getObj r).run P w=.ok (.mapIter (some b) since seen last) w:=by simp[getObj,Sem.run,hri]
 have hrun:(Instr.next (.pointer (some ⟨r,0,none⟩)) false ty).run P w=(match cand[i]? with
   | some (some e)=>(do setObj r (.mapIter (some b) since (seen.push e.born) c);pure (.tuple #[.bool true,e.key,e.val]):Sem Value)
   | some none=>pure (.tuple #[.bool false])
   | none => stuck "Next: no such candidate").run P w1 := by
  unfold Instr.next;simp only[Sem.run_bind,hgo,Result.andThen,kC hbm,hall];have hnew2:left.filter (fun e=>decide (e.born>=since))=#[]:=by rw[hleft];exact hnew
  simp only[Bool.false_eq_true,if_false,<-hleft,hold,hnew2,<-hcand];rw[Sem.run_bind,hch]
  rfl
 have hlast:∀ e∈es.toList,e.born<c:=h4
 by_cases he:left.isEmpty=true
 ·right
  have hc1:cand=#[none]:=by
   simp_all
  refine ⟨w1,hw1,?_,fun x hx=>?_⟩
  ·rw[hrun];have:i=0:=by rw[hc1] at hi1;simpa using hi1
   subst this;rw[hc1]
   rfl
  obtain ⟨q,hq⟩:=aa1.1 hx;obtain ⟨e,hee⟩:=Ju h2 hq;refine (h7 q e x hee hq).1 ?_;have hem:e∈es:=Array.mem_of_getElem? hee
  have hno:e∉left:=by
   grind
  grind
 left
 have hc1:cand=left.map some:=by rw[hcand,aaa he];simp
 have hil:i<left.size:=by rw[hc1] at hi1;simpa using hi1
 have hci:cand[i]?=some (some left[i]):=by rw[hc1];simp[hil]
 obtain ⟨e0,he0⟩:=bC (left[i]);have hmem:e0∈left:=by rw[he0];simp
 rw[<-he0] at hci;rw[hleft,Array.mem_filter] at hmem;obtain ⟨q,hq⟩:=Array.mem_iff_getElem?.1 hmem.1;obtain ⟨x,hx,hk,hv⟩:=Jv h2 hq;have hxm:x∈m:=aap hx
 have hnks:x.1∉ks:=fun hc=>by
  grind
 refine ⟨x.1,x.2,w1,.mapIter (some b) since (seen.push e0.born) c,hw1,hxm,hnks,?_,⟨es,c,since,seen.push e0.born,c,I,h2,h3,h4,I,h5,h4,?_⟩,es,c,since,seen.push e0.born,q,e0,I,h3,I,ST,hq,hk,hv⟩
 ·rw[hrun,hci];simp only[Sem.run_bind,hset w1 _ hw1,Result.andThen];rw[hk,hv]
  rfl
 intro j e y hje hjy;rw[Array.mem_push,aal,aaK,h7 j e y hje hjy]
 by_cases hjq:j=q
 ·grind
 have hborn:e.born≠e0.born:=by
  have hp:=abd.1 h3;obtain ⟨hj1,hj2⟩:=acf.1 hje;obtain ⟨hq1,hq2⟩:=acf.1 hq;rcases Nat.lt_or_gt_of_ne hjq with h|h
  ·have:=hp j q (by simpa using hj1) (by simpa using hq1) h;simp[hj2,hq2] at this;omega
  have:=hp q j (by simpa using hq1) (by simpa using hj1) h;simp[hj2,hq2] at this;omega
 have hkey:y.1≠x.1:=by
  intro hc;have hp:=abd.1 hnd
  grind
 simp[hborn,hkey]
end
section rules
variable {P:Program} {T:br} {w0:World} {ops:Array Oper} {Q:Exit->Act->World->Prop} {rest rest':List Oper} {n:Nat} {l l':Sl} {K:PH} {hs:List PH}
variable {κ ν:Type} [DecidableEq κ] {enc:κ->Value} {encv:ν->Value} {h hi:PH} {b r:Nat} {m:List (κ×ν)} {ks:List κ}
def vo(T:br)(ops:Array Oper)(n k:Nat)(rest:List Oper)(l:Sl):Option (Nat×Oper×Nat×Value×List Oper×Sl):=
 match gB T ops n k rest l with
 | some (d,o,r,l')=>match o.op with
  | .range t x=>match ev l' x with
   | some u=>some (d,o,t,u,r,l')
   | _=>none
  | _=>none
 | none=>none
def B9{k d t:Nat}{o:Oper}{u:Value}(h:vo T ops n k rest l=some (d,o,t,u,rest',l')):gB T ops n k rest l=some (d,o,rest',l')/\∀ a,Ag n l' a->execOp a.eval o=(do let x <- Instr.range t u;pure (.value x)):=by
 unfold vo at h
 split at h
 ·rename_i d' o' r l2 ho
  split at h
  ·rename_i t' x hop
   split at h
   ·rename_i u' hx;simp only[aad,aai] at h;obtain ⟨rfl,rfl,rfl,rfl,rfl,rfl⟩:=h;exact ⟨ho,fun a ha=>by simp only[execOp,hop,ha.ev hx]⟩
   simp at h
  simp at h
 simp at h
def vm(T:br)(ops:Array Oper)(n k:Nat)(rest:List Oper)(l:Sl):Option (Nat×Oper×Value×Bool×List Oper×Sl):=
 match gB T ops n k rest l with
 | some (d,o,r,l')=>match o.op with
  | .next x s=>match ev l' x with
   | some u=>some (d,o,u,s,r,l')
   | _=>none
  | _=>none
 | none=>none
def B5{k d:Nat}{o:Oper}{u:Value}{s:Bool}(h:vm T ops n k rest l=some (d,o,u,s,rest',l')):gB T ops n k rest l=some (d,o,rest',l')/\∀ a,Ag n l' a->execOp a.eval o=(do let x <- Instr.next u s o.type;pure (.value x)):=by
 unfold vm at h
 split at h
 ·rename_i d' o' r l2 ho
  split at h
  ·rename_i x s' hop
   split at h
   ·rename_i u' hx;simp only[aad,aai] at h;obtain ⟨rfl,rfl,rfl,rfl,rfl,rfl⟩:=h;exact ⟨ho,fun a ha=>by simp only[execOp,hop,ha.ev hx]⟩
   simp at h
  simp at h
 simp at h
omit [DecidableEq κ] in
theorem HT[hT:TabOK P T](k:Nat){d t kt et:Nat}{o:Oper}(h0:vo T ops n k rest l=some (d,o,t,.map (some b),rest',l'))(hu:P.underlying t=some (.map kt et))(hin:In K hs h)(hm:dG enc encv h b m)
  (hk:∀ r hi,mf enc encv h hi b r m []->WL P w0 ops Q rest' n ((d,SX r)::l') K (hi::hs)):WL P w0 ops Q rest n l K hs:=by
 obtain ⟨h1,h2⟩:=B9 h0;refine pc k (R:=fun v K' hs'=>∃ r hi,mf enc encv h hi b r m []/\v=SX r/\K'=K/\hs'=hi::hs) h1 (fun a w ha hw=>?_) ?_
 ·obtain ⟨es,c,rfl,g2,g3,g4⟩:=hm;have hb:=hw.inn hin b (.map es c) ST;refine ⟨.pointer (some ⟨w.heap.size,0,none⟩),_,K,_,?_,hw.alloc (.mapIter (some b) c #[] c),w.heap.size,_,⟨es,c,c,#[],c,I,g2,g3,g4,I,g4,g4,ST⟩,I,I,I⟩;rw[h2 a ha];unfold Instr.range;simp[Sem.run_bind,run_underlying hu,Result.andThen,kC hb,newObj,Sem.run]
 rintro v K' hs' ⟨r,hi,g1,rfl,rfl,rfl⟩;exact hk r hi g1
def aY.putOr{w w1:World}(s:aY w0 w K hs)(hw:w1=w\/w1=w.drew):aY w0 w1 K hs:=by
 rcases hw with rfl|rfl
 ·exact s
 exact s.drew
omit [DecidableEq κ] in
theorem HU[hT:TabOK P T](k i:Nat){d:Nat}{o:Oper}(h0:vm T ops n k rest l=some (d,o,SX r,false,rest',l'))(hin:In K hs h)(hii:hs[i]?=some hi)(hI:mf enc encv h hi b r m ks)(hnd:(m.map (·.1)).Nodup)
  (more:∀ k v hi',(k,v)∈m->k∉ks->vW enc encv h hi' b r m (ks++[k]) k v->WL P w0 ops Q rest' n ((d,.tuple #[.bool true,enc k,encv v])::l') K (hs.set i hi'))
  (over:(∀ x∈m,x.1∈ks)->WL P w0 ops Q rest' n ((d,.tuple #[.bool false])::l') K hs):WL P w0 ops Q rest n l K hs:=by
 obtain ⟨h1,h2⟩:=B5 h0;refine pc k (R:=fun v K' hs'=>K'=K/\((∃ k x hi',(k,x)∈m/\k∉ks/\vW enc encv h hi' b r m (ks++[k]) k x/\v=.tuple #[.bool true,enc k,encv x]/\hs'=hs.set i hi')\/((∀ x∈m,x.1∈ks)/\v=.tuple #[.bool false]/\hs'=hs))) h1 (fun a w ha hw=>?_) ?_
 ·rcases Lo (P:=P) hI hnd (hw.inn hin) (hw.inn (.inr ⟨i,hii⟩)) o.type with ⟨k,v,w1,ob,hw1,g1,g2,g3,g4⟩|⟨w1,hw1,g1,g2⟩
  ·have s1:=hw.putOr hw1;obtain ⟨es,c,since,seen,last,_,_,_,_,hhi,_⟩:=id hI;rw[hhi] at hii;exact ⟨_,_,K,_,by rw[h2 a ha,Sem.run_bind,g3];rfl,s1.putObj hii ob,rfl,.inl ⟨k,v,_,g1,g2,g4,rfl,rfl⟩⟩
  exact ⟨_,w1,K,hs,by rw[h2 a ha,Sem.run_bind,g1];rfl,hw.putOr hw1,rfl,.inr ⟨g2,rfl,rfl⟩⟩
 rintro v K' hs' ⟨rfl,⟨k,x,hi',g1,g2,g3,rfl,rfl⟩|⟨g1,rfl,rfl⟩⟩
 ·exact more k x hi' g1 g2 g3
 exact over g1
def Rr[hT:TabOK P T](k:Nat){d t kt et:Nat}{o:Oper}(h0:vo T ops n k rest l=some (d,o,t,.map none,rest',l'))(hu:P.underlying t=some (.map kt et))
  (hk:∀ r,WL P w0 ops Q rest' n ((d,SX r)::l') K (sg r (.mapIter none 0 #[] 0)::hs)):WL P w0 ops Q rest n l K hs:=by
 obtain ⟨h1,h2⟩:=B9 h0;refine pc k (R:=fun v K' hs'=>∃ r,v=SX r/\K'=K/\hs'=sg r (.mapIter none 0 #[] 0)::hs) h1 (fun a w ha hw=>?_) ?_
 ·refine ⟨.pointer (some ⟨w.heap.size,0,none⟩),_,K,_,?_,hw.alloc (.mapIter none 0 #[] 0),w.heap.size,I,I,I⟩
  simp_all [run_underlying,Instr.range]
 rintro v K' hs' ⟨r,rfl,rfl,rfl⟩;exact hk r
def Rt[hT:TabOK P T](k:Nat){d r:Nat}{o:Oper}(h0:vm T ops n k rest l=some (d,o,SX r,false,rest',l'))(hin:In K hs (sg r (.mapIter none 0 #[] 0)))
  (hk:WL P w0 ops Q rest' n ((d,.tuple #[.bool false])::l') K hs):WL P w0 ops Q rest n l K hs:=by
 obtain ⟨h1,h2⟩:=B5 h0;refine nm k h1 (fun a w ha hw=>?_) hk;have hr:w.heap[r]?=some (.mapIter none 0 #[] 0):=hw.inn hin r (.mapIter none 0 #[] 0) ST;have hgo:(getObj r).run P w=.ok (.mapIter none 0 #[] 0) w:=by simp[getObj,Sem.run,hr]
 rw[h2 a ha];unfold Instr.next;simp[Sem.run_bind,hgo,Result.andThen]
def zp(T:br)(ops:Array Oper)(n k:Nat)(rest:List Oper)(l:Sl):Option (Nat×Oper×Value×List Oper×Sl):=
 match gB T ops n k rest l with
 | some (d,o,r,l')=>match o.op with
  | .entry x=>match ev l' x with
   | some u=>some (d,o,u,r,l')
   | _=>none
  | _=>none
 | none=>none
def Kv{k d:Nat}{o:Oper}{u:Value}(h:zp T ops n k rest l=some (d,o,u,rest',l')):gB T ops n k rest l=some (d,o,rest',l')/\∀ a,Ag n l' a->execOp a.eval o=(do let x <- Instr.entry u;pure (.value x)):=by
 unfold zp at h
 split at h
 ·rename_i d' o' r l2 ho
  split at h
  ·rename_i x hop
   split at h
   ·rename_i u' hx;simp only[aad,aai] at h;obtain ⟨rfl,rfl,rfl,rfl,rfl⟩:=h;exact ⟨ho,fun a ha=>by simp only[execOp,hop,ha.ev hx]⟩
   simp at h
  simp at h
 simp at h
omit [DecidableEq κ] in
theorem HW[hT:TabOK P T](k:Nat){d:Nat}{o:Oper}{kk:κ}{v:ν}(h0:zp T ops n k rest l=some (d,o,SX r,rest',l'))(hin:In K hs h)(hini:In K hs hi)(hS:vW enc encv h hi b r m ks kk v)
  (hk:WL P w0 ops Q rest' n ((d,.tuple #[enc kk,encv v])::l') K hs):WL P w0 ops Q rest n l K hs:=by
 obtain ⟨h1,h2⟩:=Kv h0;refine nm k h1 (fun a w ha hw=>?_) hk;obtain ⟨_,es,c,since,seen,q,e,rfl,h3,rfl,h4,h5,h6,h7⟩:=hS;have hb:w.heap[b]?=some (.map es c):=hw.inn hin b (.map es c) ST;have hr:w.heap[r]?=some (.mapIter (some b) since seen c):=hw.inn hini r (.mapIter (some b) since seen c) ST;have hgo:(getObj r).run P w=.ok (.mapIter (some b) since seen c) w:=by simp[getObj,Sem.run,hr]
 have hfind:es.find? (fun x=>x.born == e.born)=some e:=by
  grind [Array.find?_eq_some_iff_getElem,List.pairwise_iff_getElem]
 rw[h2 a ha];unfold Instr.entry;simp[Sem.run_bind,hgo,Result.andThen,h4,kC hb,hfind,h6,h7]
def Rs[hT:TabOK P T](k i:Nat){t kt et:Nat}{o:Oper}{v y:Value}(j:κ)(x:ν)(h0:vn T ops n k rest l=some (o,t,.map (some b),v,y,rest',l'))(hi0:hs[i]?=some h)(hu:P.underlying t=some (.map kt et))(hK:ga P kt enc)(hv:v=enc j)(hy:y=encv x)(hI:mf enc encv h hi b r m ks)
  (hex:(aK j m).isSome=true) (hk:∀ h',mf enc encv h' hi b r (cG j x m) ks->WL P w0 ops Q rest' n l' K (hs.set i h')):WL P w0 ops Q rest n l K hs:=by
 obtain ⟨h1,h2⟩:=B7 h0;subst hv hy;refine vQ k (R:=fun K' hs'=>∃ h',mf enc encv h' hi b r (cG j x m) ks/\K'=K/\hs'=hs.set i h') h1 (fun a w ha hw=>?_) ?_
 ·obtain ⟨es,c,since,seen,last,rfl,g2,g3,g4,g5,g6,g7,g8⟩:=hI;have g2':es.toList.map (fun e=>(e.key,e.val))=(m.map fun x=>(x.1,encv x.2)).map (fun x=>(enc x.1,x.2)):=by rw[g2];simp
  have hb:w.heap[b]?=some (.map es c):=hw.own i _ hi0 b _ ST;have hf:=hK.fnd j es.toList _ w g2';have e1:=ud (enc:=enc) (encv:=encv) j x c es.toList m g2;have e2:=wU (enc j) (encv x) c (fk j (m.map fun x=>(x.1,encv x.2)) 0) es.toList g3 g4;have hset:∀ o:Obj,(setObj b o).run P w=.ok () (w.putObj b o):=fun o=>by simp[setObj,Sem.run,hb,World.putObj]
  cases hk:fk j (m.map fun x=>(x.1,encv x.2)) 0 with
  | none=>
   have:=sL (encv:=encv) j m 0;rw[hk] at this;simp only[acb] at this;cases hm:aK j m with
   | none=>rw[hm] at hex;cases hex
   | some u=>rw[hm] at this;cases this
  | some z=>
   obtain ⟨q,z⟩:=z;rw[hk] at e1 e2;simp only[kQ] at e1 e2;have hkey:=yI (enc:=enc) j g2' hk;have hkey':((es[q]?).map (·.key)).getD (enc j)=enc j:=by rw[<-abM,hkey];rfl
   have hst:(Instr.keyThatStays (enc j) (enc j)).run P w=.ok (enc j) w:=by unfold Instr.keyThatStays;simp[hK.sam]
   have hmod:∀ (i:Nat) e,(es.modify q fun e=>{ e with key:=enc j,val:=encv x })[i]?=some e->∃ e',es[i]?=some e'/\e.born=e'.born:=by
    grind
   have hmem:∀ e∈(es.modify q fun e=>{ e with key:=enc j,val:=encv x }).toList,∃ e'∈es.toList,e.born=e'.born:=by
    intro e he;obtain ⟨i,hi⟩:=aa1.1 he
    grind
   refine ⟨w.putObj b (.map (es.modify q fun e=>{ e with key:=enc j,val:=encv x }) c),K,_,?_,hw.putObj hi0 _,sg b (.map (es.modify q fun e=>{ e with key:=enc j,val:=encv x }) c),
    ⟨es.modify q fun e=>{ e with key:=enc j,val:=encv x },c,since,seen,last,rfl,by rw[abw];exact e1,by rw[abw];exact e2.1,fun e he=>?_,g5,fun e he=>?_,fun e he=>?_,?_⟩,I,I⟩
   ·rw[h2 a ha];unfold Instr.mapUpdate;simp only[Sem.run_bind,run_underlying hu,Result.andThen,kC hb,Sem.run_pure,hK.chk,hf,hk,hkey',hst,hset]
   ·simp_all
   ·grind
   ·grind
   intro i e y he hy;obtain ⟨e',h5,h6⟩:=hmod i e he;have hkk:=tR j x m;rw[aab hex] at hkk;have h7:=congrArg (fun l=>l[i]?) hkk
   grind
 rintro K' hs' ⟨h',g1,rfl,rfl⟩;exact hk h' g1
end rules
section del
theorem EV{α β:Type}(f:α->β):∀ (l:List α) (j:Nat),(l.eraseIdx j).map f=(l.map f).eraseIdx j
 | [],_=>rfl
 | a::l,0=>rfl
 | a::l,j+1=>by simp[EV]
theorem DM{κ:Type}[DecidableEq κ](k:κ):∀ (m:List (κ×Value)),(fk k m 0=none/\eC k m=m)\/∃ j v,fk k m 0=some (j,v)/\eC k m=m.eraseIdx j
 | []=>.inl ⟨rfl,rfl⟩
 | (i,u)::m=>by
  by_cases e:k=i
  ·simp_all [fk,eC]
  rcases DM k m with ⟨h1,h2⟩|⟨j,v,h1,h2⟩
  ·left
   refine ⟨?_,by simp[eC,e,h2]⟩;simp only[fk,e,if_false];rw[px,h1];rfl
  right
  refine ⟨j+1,v,?_,by simp[eC,e,h2]⟩;simp only[fk,e,if_false];rw[px,h1]
  simp;omega
theorem xo{κ ν:Type}[DecidableEq κ](f:ν->Value)(k:κ):∀ (m:List (κ×ν)),eC k (m.map fun x=>(x.1,f x.2))=(eC k m).map fun x=>(x.1,f x.2)
 | []=>rfl
 | (i,u)::m=>by
  by_cases e:k=i
  all_goals simp_all [xo,eC]
def I6{κ ν:Type}[DecidableEq κ]{enc:κ->Value}{encv:ν->Value}{h:PH}{b:Nat}{m:List (κ×ν)}{t kt et i:Nat}(hu:P.underlying t=some (.map kt et))(hK:ga P kt enc)(hm:dG enc encv h b m){w:World}(s:aY w0 w K hs)(hi:hs[i]?=some h)(k:κ)(ts:Array TypeId)(hts:ts[0]?=some t)(ty:Nat):
  ∃ h' w',dG enc encv h' b (eC k m)/\(Builtin.delete_ ts ty #[.map (some b),enc k]).run P w=.ok (.tuple #[]) w'/\aY w0 w' K (hs.set i h'):=by
 obtain ⟨es,c,rfl,h2,h3,h4⟩:=hm;have h2':es.toList.map (fun e=>(e.key,e.val))=(m.map fun x=>(x.1,encv x.2)).map (fun x=>(enc x.1,x.2)):=by rw[h2];simp
 have hb:w.heap[b]?=some (.map es c):=s.own i _ hi b _ ST;have hf:=hK.fnd k es.toList _ w h2';have hset:∀ o:Obj,(setObj b o).run P w=.ok () (w.putObj b o):=fun o=>by simp[setObj,Sem.run,hb,World.putObj]
 unfold Builtin.delete_;rcases DM k (m.map fun x=>(x.1,encv x.2)) with ⟨g1,g2⟩|⟨j,v,g1,g2⟩
 ·rw[xo] at g2;refine ⟨sg b (.map es c),w.putObj b (.map es c),⟨es,c,I,?_,h3,h4⟩,?_,s.putObj hi _⟩
  ·rw[h2];have:=congrArg (fun l=>l.map fun x:κ×Value=>(enc x.1,x.2)) g2;simpa[Function.comp_def] using this.symm
  simp[hts,Sem.run_bind,run_underlying hu,Result.andThen,kC hb,hK.chk,hf,g1,hset]
 rw[xo] at g2;refine ⟨sg b (.map (es.eraseIdxIfInBounds j) c),w.putObj b (.map (es.eraseIdxIfInBounds j) c),⟨es.eraseIdxIfInBounds j,c,I,?_,?_,?_⟩,?_,s.putObj hi _⟩
 ·have:=congrArg (fun l=>l.map fun x:κ×Value=>(enc x.1,x.2)) g2
  grind [Array.toList_eraseIdxIfInBounds,EV,Function.comp_def]
 ·grind [Array.toList_eraseIdxIfInBounds]
 ·grind
 simp[hts,Sem.run_bind,run_underlying hu,Result.andThen,kC hb,hK.chk,hf,g1,hset]
end del
end
section
attribute [local irreducible] Code.wp wpList Calls
def sV(l:Sl)(o:Oper):Option (Nat×Addr×Option Int×Option Int):=
 match o.op with
 | .slice t x none none none=>match ev l x with
  | some (.pointer (some a))=>some (t,a,none,none)
  | _=>none
 | .slice t x (some lo) none none=>match ev l x,ev l lo with
  | some (.pointer (some a)),some (.int _ i)=>some (t,a,some i,none)
  | _,_=>none
 | .slice t x none (some hi) none=>match ev l x,ev l hi with
  | some (.pointer (some a)),some (.int _ i)=>some (t,a,none,some i)
  | _,_=>none
 | .slice t x (some lo) (some hi) none=>match ev l x,ev l lo,ev l hi with
  | some (.pointer (some a)),some (.int _ i),some (.int _ j)=>some (t,a,some i,some j)
  | _,_,_=>none
 | _=>none
def tN{w:World}{k:IntKind}{i:Int}{y:Nat}(c:BoundsCode)(H:Nat)(h:i=(H:Int))(hy:H<=y):(Instr.sliceBound (.int k i) y c).run P w=.ok H w:=by
 simp_all [Instr.sliceBound,asIntOf]
def xM{l:Sl}{n:Nat}{o:Oper}{t len e sz:Nat}{a:Addr}{lo hi:Option Int}(L N:Nat)(h1:sV l o=some (t,a,lo,hi))(hu:P.underlying t=some (.array len e))(he:(P.info? e).map (·.size)=some sz)
  (hL:lo.getD 0=(L:Int)) (hH:hi.getD len=((L+N:Nat):Int)) (hN:L+N<=len) (hlt:L<len):∀ A w,Ag n l A->(execOp A.eval o).run P w=.ok (.value (.slice (some (a.add (L*sz))) N (len-L))) w:=by
 intro A w ha;cases hii:P.info? e with
 | none=>rw[hii] at he;cases he
 | some ii=>
 rw[hii] at he;have hsz:ii.size=sz:=by simpa using he
 have hne:¬len=L:=qo
 have fin:∀ (lv hv:Option Value),(Instr.sliceBounds false len len lv hv none).run P w=.ok (L,L+N,len) w->(Instr.sliceAt t (.pointer (some a)) lv hv none).run P w=.ok (.slice (some (a.add (L*sz))) N (len-L)) w:=by
  simp_all [run_underlying,Instr.sliceAt,Instr.sureAddr,sizeOf,typeInfo]
 unfold sV at h1
 split at h1
 ·rename_i t' x hop
  split at h1
  ·rename_i a' hx;simp only[aad,aai] at h1;obtain ⟨rfl,rfl,rfl,rfl⟩:=h1;simp only[execOp,hop,ha.ev hx,acb];simp only[abm] at hL hH;rw[Sem.run_bind,fin none none (by unfold Instr.sliceBounds;simp;omega)]
   rfl
  simp at h1
 ·rename_i t' x lo' hop
  split at h1
  ·rename_i a' k i hx hlo;simp only[aad,aai] at h1;obtain ⟨rfl,rfl,rfl,rfl⟩:=h1;simp only[execOp,hop,ha.ev hx,ha.ev hlo,acb,aa2];simp only[abm,aaZ] at hL hH
   rw[Sem.run_bind,fin (some _) none (by
    have hb:(Instr.sliceBound (.int k i) len .sliceB).run P w=.ok L w:=tN _ L hL qo;unfold Instr.sliceBounds;simp[Sem.run_bind,Result.andThen,hb];omega)]
   rfl
  simp at h1
 ·rename_i t' x hi' hop
  split at h1
  ·rename_i a' k i hx hlo;simp only[aad,aai] at h1;obtain ⟨rfl,rfl,rfl,rfl⟩:=h1;simp only[execOp,hop,ha.ev hx,ha.ev hlo,acb,aa2];simp only[abm,aaZ] at hL hH;have hL0:L=0:=qo
   rw[Sem.run_bind,fin none (some _) (by
    have hb:(Instr.sliceBound (.int k i) len .sliceAlen).run P w=.ok (L+N) w:=tN _ (L+N) hH hN
    simp_all [Instr.sliceBounds])]
   rfl
  simp at h1
 ·rename_i t' x lo' hi' hop
  split at h1
  ·rename_i a' k i k2 j hx hlo hhi;simp only[aad,aai] at h1;obtain ⟨rfl,rfl,rfl,rfl⟩:=h1;simp only[execOp,hop,ha.ev hx,ha.ev hlo,ha.ev hhi,acb,aa2];simp only[aaZ] at hL hH
   rw[Sem.run_bind,fin (some _) (some _) (by
    have hb:(Instr.sliceBound (.int k2 j) len .sliceAlen).run P w=.ok (L+N) w:=tN _ (L+N) hH hN;have hb2:(Instr.sliceBound (.int k i) (L+N) .sliceB).run P w=.ok L w:=tN _ L hL qo
    simp_all [Instr.sliceBounds])]
   rfl
  simp at h1
 simp at h1
section rules
variable {P:Program} {T:br} {w0:World} {ops:Array Oper} {Q:Exit->Act->World->Prop} {rest rest':List Oper} {n:Nat} {l l':Sl} {K:PH} {hs:List PH}
def vN[hT:TabOK P T](k:Nat){d:Nat}{o:Oper}{t len e sz:Nat}{a:Addr}{lo hi:Option Int}(L N:Nat)(h0:gB T ops n k rest l=some (d,o,rest',l'))(h1:sV l' o=some (t,a,lo,hi))(hu:P.underlying t=some (.array len e))(he:(P.info? e).map (·.size)=some sz)
  (hL:lo.getD 0=(L:Int)) (hH:hi.getD len=((L+N:Nat):Int)) (hN:L+N<=len) (hlt:L<len) (hk:WL P w0 ops Q rest' n ((d,.slice (some (a.add (L*sz))) N (len-L))::l') K hs):WL P w0 ops Q rest n l K hs:=
 nm k h0 (fun A w ha _=>xM L N h1 hu he hL hH hN hlt A w ha) hk
def zq{plan plan':List Nat}{z:Nat}{listed listed':Array Bool}{K0:PH}{A:List PH}[hT:TabOK P T](hsel:Region.noSelect ops=true)(k:Nat){d:Nat}{o:Oper}{t len e sz:Nat}{a:Addr}{lo hi:Option Int}(L N:Nat)(h0:uZ T ops n z k plan listed l=some (d,o,plan',listed',l'))(h1:sV l' o=some (t,a,lo,hi))(hu:P.underlying t=some (.array len e))(he:(P.info? e).map (·.size)=some sz)
  (hL:lo.getD 0=(L:Int)) (hH:hi.getD len=((L+N:Nat):Int)) (hN:L+N<=len) (hlt:L<len) (hk:WA P w0 ops Q K0 A z plan' listed' n ((d,.slice (some (a.add (L*sz))) N (len-L))::l') K hs):WA P w0 ops Q K0 A z plan listed n l K hs:=
 Hv hsel k h0 (fun A w ha _=>xM L N h1 hu he hL hH hN hlt A w ha) hk
def pK(T:br)(ops:Array Oper)(n z k:Nat)(plan:List Nat)(L:Array Bool)(l:Sl):Option (Nat×Nat×Oper×List Nat×Array Bool×Sl):=
 match mN T ops n z k plan L l with
 | some (p,o,r,L',l')=>match Nat.beq (p % 2) 0,Nat.beq (p / 2) z,ib ops l' o.guard,o.dst with
  | true,false,some true,some d=>match Nat.blt d n with
   | true=>some (p,d,o,r,L'.setIfInBounds (p / 2) true,l')
   | false=>none
  | _,_,_,_=>none
 | none=>none
def sS{plan plan':List Nat}{z:Nat}{listed listed':Array Bool}{K0:PH}{A:List PH}[hT:TabOK P T](hsel:Region.noSelect ops=true)(k:Nat){p d:Nat}{o:Oper}{v:Value}(h0:pK T ops n z k plan listed l=some (p,d,o,plan',listed',l'))(hwf:cond (Nat.blt z ops.size) (Region.waitsFor .any ops z (p / 2)) true=true)
  (hv:∀ a w,Ag n l' a->fo K0 A w->(execOp a.eval o).run P w=.ok (.value v) w) (hk:WA P w0 ops Q K0 A z plan' listed' n ((d,v)::l') K hs):WA P w0 ops Q K0 A z plan listed n l K hs:=by
 unfold pK at h0
 split at h0
 ·rename_i p' o' r L' l2 hh
  split at h0
  ·rename_i dd hp hz hg hd
   split at h0
   ·rename_i hb;simp only[aad,aai] at h0;obtain ⟨rfl,rfl,rfl,rfl,rfl,rfl⟩:=h0;obtain ⟨g1,g2⟩:=mD hh;refine WA.pures hsel k g1 ?_;have hp2:p'=2*(p' / 2):=by have:=aaM hp;omega
    rw[hp2];refine WA.look g2 hsel hz hd hb (fun A' ha=>.inl ⟨jl ha hg,fun w hw=>?_⟩) hk;obtain ⟨L,hcl,hun,hst⟩:=hw;exact hv A' w ha (hst (qb hcl hun hwf))
   simp at h0
  simp at h0
 simp at h0
def QL{plan plan':List Nat}{z:Nat}{listed listed':Array Bool}{K0:PH}{A:List PH}[hT:TabOK P T](hsel:Region.noSelect ops=true)(k:Nat){p d:Nat}{o:Oper}{t len e sz:Nat}{a:Addr}{lo hi:Option Int}(L N:Nat)(h0:pK T ops n z k plan listed l=some (p,d,o,plan',listed',l'))(hwf:cond (Nat.blt z ops.size) (Region.waitsFor .any ops z (p / 2)) true=true)(h1:sV l' o=some (t,a,lo,hi))(hu:P.underlying t=some (.array len e))(he:(P.info? e).map (·.size)=some sz)
  (hL:lo.getD 0=(L:Int)) (hH:hi.getD len=((L+N:Nat):Int)) (hN:L+N<=len) (hlt:L<len) (hk:WA P w0 ops Q K0 A z plan' listed' n ((d,.slice (some (a.add (L*sz))) N (len-L))::l') K hs):WA P w0 ops Q K0 A z plan listed n l K hs:=
 sS hsel k h0 hwf (fun A w ha _=>xM L N h1 hu he hL hH hN hlt A w ha) hk
def Hw(l:Sl)(o:Oper):Option (Nat×Nat×(Option Addr×Nat×Nat)):=
 match o.op with
 | .convert t t' x=>match ev l x with
  | some (.slice ao m c)=>some (t,t',(ao,m,c))
  | _=>none
 | _=>none
def QS{plan plan':List Nat}{z:Nat}{listed listed':Array Bool}{K0:PH}{A:List PH}[hT:TabOK P T](hsel:Region.noSelect ops=true)(k:Nat){p d t t' m c:Nat}{o:Oper}{ao:Option Addr}{h:PH}(xs:List UInt8)(h0:pK T ops n z k plan listed l=some (p,d,o,plan',listed',l'))(hwf:cond (Nat.blt z ops.size) (Region.waitsFor .any ops z (p / 2)) true=true)(h1:Hw l' o=some (t,t',(ao,m,c)))(hm:In K0 A h)
  (x:aH h ao m c 1 (xs.map fun b=>Value.int .u8 b.toNat)) (hs':qN P t t'=true)
  (hk:WA P w0 ops Q K0 A z plan' listed' n ((d,str xs)::l') K hs):WA P w0 ops Q K0 A z plan listed n l K hs:=by
 refine sS hsel k h0 hwf (fun A' w ha hw=>?_) hk;unfold Hw at h1
 split at h1
 ·rename_i t1 t2 y hop
  split at h1
  ·rename_i ao' m' c' hx;simp only[aad,aai] at h1;obtain ⟨rfl,rfl,rfl,rfl,rfl⟩:=h1
   have h2:=BW (P:=P) (w:=w) (c:=c') hs' xs (by have:=x.1;simpa using this) (fun j u hj=>by
    obtain ⟨a,h3,h4⟩:=x.2.2 j u hj;exact ⟨a,h3,hw.cell hm h4⟩)
   simp only[execOp,hop,ha.ev hx];simp[h2]
  simp at h1
 simp at h1
def zj(l:Sl)(o:Oper):Option (Nat×Value×Value×Bool):=
 match o.op with
 | .lookup t x y ok=>match ev l x,ev l y with
  | some u,some v=>some (t,u,v,ok)
  | _,_=>none
 | _=>none
def Kh{l:Sl}{n:Nat}{o:Oper}{t:Nat}{u v:Value}{ok:Bool}(h:zj l o=some (t,u,v,ok)):∀ a,Ag n l a->execOp a.eval o=(do let x <- Instr.lookup t u v ok;pure (.value x)):=by
 intro a ha;unfold zj at h
 split at h
 ·rename_i t' x y ok' hop
  split at h
  ·rename_i u' v' hx hy;simp only[aad,aai] at h;obtain ⟨rfl,rfl,rfl,rfl⟩:=h;simp only[execOp,hop,ha.ev hx,ha.ev hy]
  simp at h
 simp at h
def G0{κ ν:Type}[DecidableEq κ]{enc:κ->Value}{encv:ν->Value}{h:PH}{b:Nat}{m:List (κ×ν)}{plan plan':List Nat}{z:Nat}{listed listed':Array Bool}{K0:PH}{A:List PH}[hT:TabOK P T](hsel:Region.noSelect ops=true)(k:Nat){p d t kt et:Nat}{o:Oper}{zv v:Value}{ok:Bool}(j:κ)(h0:pK T ops n z k plan listed l=some (p,d,o,plan',listed',l'))(hwf:cond (Nat.blt z ops.size) (Region.waitsFor .any ops z (p / 2)) true=true)(h1:zj l' o=some (t,.map (some b),v,ok))(hu:P.underlying t=some (.map kt et))(hz:(P.info? et).bind (·.zero)=some zv)(hK:ga P kt enc)(hv:v=enc j)(hin:In K0 A h)(hm:dG enc encv h b m)
  (hk:WA P w0 ops Q K0 A z plan' listed' n ((d,ro ok (match aK j m with|some v=>encv v|none=>zv) (aK j m).isSome)::l') K hs):WA P w0 ops Q K0 A z plan listed n l K hs:=by
 subst hv;refine sS hsel k h0 hwf (fun a w ha hw=>?_) hk;have:=wz (P:=P) hu hK hz hm (hw.inn hin) j ok;rw[Kh h1 a ha,Sem.run_bind,this]
 rfl
def vp(l:Sl)(o:Oper):Option (Nat×Value):=
 match o.op with
 | .call { callee:=.builtin .len,args,argTypes }=>match args.toList,argTypes.toList with
  | [x],[t]=>match ev l x with
   | some u=>some (t,u)
   | _=>none
  | _,_=>none
 | _=>none
def Ca{l:Sl}{n:Nat}{o:Oper}{t:Nat}{u:Value}(h:vp l o=some (t,u)){w:World}{N:Int}(hr:(Builtin.len_ #[t] o.type #[u]).run P w=.ok (.int .i64 N) w):∀ a,Ag n l a->(execOp a.eval o).run P w=.ok (.value (.int .i64 N)) w:=by
 intro a ha;unfold vp at h
 split at h
 ·rename_i args argTypes hop
  split at h
  ·rename_i x t' e1 e2
   split at h
   ·rename_i u' hx;simp only[aad,aai] at h;obtain ⟨rfl,rfl⟩:=h;have a1':args=#[x]:=by cases args;simp_all
    have a2':argTypes=#[t']:=by cases argTypes;simp_all
    subst a1' a2';simp only[execOp,hop];simp[resolve,invoke,builtin,ha.ev hx,hr]
   simp at h
  simp at h
 simp at h
def RG{κ ν:Type}[DecidableEq κ]{enc:κ->Value}{encv:ν->Value}{h:PH}{b:Nat}{m:List (κ×ν)}{plan plan':List Nat}{z:Nat}{listed listed':Array Bool}{K0:PH}{A:List PH}[hT:TabOK P T](hsel:Region.noSelect ops=true)(k:Nat){p d t kt et:Nat}{o:Oper}(h0:pK T ops n z k plan listed l=some (p,d,o,plan',listed',l'))(hwf:cond (Nat.blt z ops.size) (Region.waitsFor .any ops z (p / 2)) true=true)(h1:vp l' o=some (t,.map (some b)))(hu:P.underlying t=some (.map kt et))(hin:In K0 A h)(hm:dG enc encv h b m)
  (hk:WA P w0 ops Q K0 A z plan' listed' n ((d,.int .i64 (ba m:Int))::l') K hs):WA P w0 ops Q K0 A z plan listed n l K hs:=
 sS hsel k h0 hwf (fun a w ha hw=>Ca h1 (Bm hu hm (hw.inn hin)) a ha) hk
def QM{plan plan':List Nat}{z:Nat}{listed listed':Array Bool}{K0:PH}{A:List PH}[hT:TabOK P T](hsel:Region.noSelect ops=true)(k:Nat){p d t kt et:Nat}{o:Oper}(h0:pK T ops n z k plan listed l=some (p,d,o,plan',listed',l'))(hwf:cond (Nat.blt z ops.size) (Region.waitsFor .any ops z (p / 2)) true=true)(h1:vp l' o=some (t,.map none))(hu:P.underlying t=some (.map kt et))
  (hk:WA P w0 ops Q K0 A z plan' listed' n ((d,.int .i64 0)::l') K hs):WA P w0 ops Q K0 A z plan listed n l K hs:=
 sS hsel k h0 hwf (fun a w ha hw=>Ca h1 (by simp_all [run_underlying,Builtin.len_,goInt]) a ha) hk
def Hh(T:br)(ops:Array Oper)(n k:Nat)(rest:List Oper)(l:Sl):Option (Oper×Nat×Value×Value×List Oper×Sl):=
 match fc T ops n k rest l with
 | some (o,r,l')=>match o.dst,o.op with
  | none,.call { callee:=.builtin .delete,args,argTypes }=>match args.toList,argTypes.toList with
   | [x,y],[t,_]=>match ev l' x,ev l' y with
    | some u,some v=>some (o,t,u,v,r,l')
    | _,_=>none
   | _,_=>none
  | _,_=>none
 | none=>none
def HX{κ ν:Type}[DecidableEq κ]{enc:κ->Value}{encv:ν->Value}{h:PH}{b:Nat}{m:List (κ×ν)}[hT:TabOK P T](k i:Nat){t kt et:Nat}{o:Oper}{v:Value}(j:κ)(h0:Hh T ops n k rest l=some (o,t,.map (some b),v,rest',l'))(hi:hs[i]?=some h)(hu:P.underlying t=some (.map kt et))(hK:ga P kt enc)(hv:v=enc j)(hm:dG enc encv h b m)
  (hk:∀ h',dG enc encv h' b (eC j m)->WL P w0 ops Q rest' n l' K (hs.set i h')):WL P w0 ops Q rest n l K hs:=by
 unfold Hh at h0
 split at h0
 ·rename_i o' r l2 ho
  split at h0
  ·rename_i args argTypes hd hop
   split at h0
   ·rename_i x y t' t2 e1 e2
    split at h0
    ·rename_i u v' hx hy;simp only[aad,aai] at h0;obtain ⟨rfl,rfl,rfl,rfl,rfl,rfl⟩:=h0;subst hv;have a1':args=#[x,y]:=by cases args;simp_all
     have a2':argTypes=#[t',t2]:=by cases argTypes;simp_all
     subst a1' a2';refine WL.at' ho fun hg=>?_;intro a w ha hw;obtain ⟨h',w',g1,g2,g3⟩:=I6 (P:=P) hu hK hm hw hi j #[t',t2] rfl o'.type;have hw1:=jl ha hg;unfold wpList;rw[aab hw1];refine .inl ?_;unfold Oper.wp
     have hrun:(execOp a.eval o').run P w=.ok (.value (.tuple #[])) w':=by
      simp only[execOp,hop];simp[resolve,invoke,builtin,ha.ev hx,ha.ev hy,g2]
     rw[hrun];simp only[Oper.upon,hd,Act.put];exact hk h' g1 _ _ ha g3
    simp at h0
   simp at h0
  simp at h0
 simp at h0
end rules
section joink
variable {P:Program} {w0:World} {Q:Exit->Act->World->Prop} {n:Nat} {l:Sl} {K:PH} {hs:List PH}
def H9(w0:World){σ:Type}(F:σ->Sl)(HK:σ->PH)(H:σ->List PH)(J:σ->Prop)(n:Nat)(Q:Exit->Act->World->Prop):Exit->Act->World->Prop
 | .normal,a,w=>∃ s,J s/\Ag n (F s) a/\aY w0 w (HK s) (H s)
 | e,a,w=>Q e a w
def ti{σ:Type}{x y:Code}(F:σ->Sl)(HK:σ->PH)(H:σ->List PH)(J:σ->Prop)(h1:WC P w0 x (H9 w0 F HK H J n Q) n l K hs)(h2:∀ s,J s->WC P w0 y Q n (F s) (HK s) (H s)):WC P w0 (.seq x y) Q n l K hs:=
 sq fun a w ha hw=>Code.wp_mono (fun e a w h=>by
  cases e with
  | normal=>obtain ⟨s,hJ,ha,hw⟩:=h;exact h2 s hJ a w ha hw
  | _=>exact h) (h1 a w ha hw)
def mt{σ:Type}{F:σ->Sl}{HK:σ->PH}{H:σ->List PH}{J:σ->Prop}(s:σ)(hJ:J s)(hF:lh l (F s))(hK:K=HK s)(hH:hs=H s):WQ w0 (H9 w0 F HK H J n Q) .normal n l K hs:=
 fun a w ha hw=>⟨s,hJ,ha.sub hF,by rw[<-hK,<-hH];exact hw⟩
end joink
end
section
section
variable {P:Program} {w0:World} {fn:Func} {R:Value->PH->List PH->Prop} {n:Nat} {l:Sl} {K:PH} {hs:List PH}
def pF(i j m:Nat){t ty u tu b ty' b2 ty2:Nat}{c c2:Array Value}{fr fr2:Nat×Nat}(hr:fn.results=#[.cell t ty,.cell u tu])(hv:look l t=some (SX b))(hu:look l u=some (SX b2))(hi:hs[i]?=some (pt b c ty' fr))(hj:hs[j]?=some (pt b2 c2 ty2 fr2))(hm:jV P ty c.size=true)(hm2:jV P tu c2.size=true)
  (hk:R (.tuple #[.agg c,.agg c2]) K (hs.drop m)):WQ w0 (bodyPost P fn (fK w0 R)) .ret n l K hs:=
 fun _ w ha hw=>bodyPost_ret (v:=.tuple #[.agg c,.agg c2]) (by
  have h2:=rE (P:=P) (w:=w) (t:=ty) (a:=⟨b,0,none⟩) (cs:=c.toList) qo rfl (fun j v hv=>hw.cell (.inr ⟨i,hi⟩) (mI c.toList (fun j v h=>by simpa using h) j v hv));have e:c.toList.toArray=c:=by simp
  rw[e] at h2;have h3:=rE (P:=P) (w:=w) (t:=tu) (a:=⟨b2,0,none⟩) (cs:=c2.toList) qo rfl (fun i v hv=>hw.cell (.inr ⟨j,hj⟩) (mI c2.toList (fun j v h=>by simpa using h) i v hv));have e2:c2.toList.toArray=c2:=by simp
  rw[e2] at h3;simp[results,hr,ha.slot t _ hv,ha.slot u _ hu,asAddr,h2,h3]) ha.defers ⟨_,_,_,rfl,hk,hw.dropN m⟩
end
def uo(c:List Value)(y:d9)(h:kX c y):∀ u∈c,u.oneCell'=true:=by
 intro u hu;rw[h] at hu;simp[f0,dI] at hu;rcases hu with rfl|rfl|rfl|rfl <;> rfl
attribute [local irreducible] Code.wp wpList Calls
def Pz{w0:World}{K:PH}{hs:List PH}(aW aR:Option Addr)(cW cR:Nat)(W:List az)(rows:List d9)(c:bM)(x:bF 2 cC K aW (ba W) cW W)(y:bF 4 kX K aR (ba rows) cR rows)(hr:d7 W)(hr1:ba rows<=4096)(hs1:c.ses<=18446744073709551615)(hs2:c.seq<=18446744073709551615)(hl:ba c.word<1099511627776):
  aj w0 14 [.agg #[.slice aW (ba W) cW,.slice aR (ba rows) cR],.agg c.v] K hs
   (fun v K' hs'=>Le K K'/\hs'=hs/\∃ aW' cW' aR' cR',v=.tuple #[.agg #[.slice aW' (ba (dU W rows c).1) cW',.slice aR' (ba (dU W rows c).2.1) cR'],.agg (dI (dU W rows c).2.2).toArray]/\bF 2 cC K' aW' (ba (dU W rows c).1) cW' (dU W rows c).1/\bF 4 kX K' aR' (ba (dU W rows c).2.1) cR' (dU W rows c).2.1):=by
 obtain ⟨kind,ses,seq,word,wt⟩:=c;dsimp only at hs1 hs2 hl;obtain ⟨vs,yv⟩:=y.isS;refine dj Tryz.func14 ?_;refine ac9 (bx 0 I fun b2=>bx 0 I fun b3=>al 0 (.agg #[.slice none 0 0,.slice none 0 0]) I qk fun b4=>al 0 (.agg #[.int .i64 0,.int .u64 0,.int .i64 0]) I qk fun b5=>WL.hs (pt b5 (dI fq).toArray 54::pt b4 #[.slice none 0 0,.slice none 0 0] 48::pt b3 #[.int .i64 kind,.int .u64 (ses:Nat),.int .u64 (seq:Nat),str word,.int .i64 wt] 50::pt b2 #[.slice aW (ba W) cW,.slice aR (ba rows) cR] 48::hs) I (au ?_));refine aX 0 I (fun e2=>?_) (fun e2=>?_)
 ·refine au ?_;refine af 1 I fun b19 h19=>fin 0 I (th (ah h19 I (fun e4=>?_) (fun e4=>?_)))
  ·refine ac9 (dy 0 3 I I qk (bd 0 (.agg (dI ⟨152,0,0⟩).toArray) I (fun w=>by kernel_rfl) ?_));refine bJ 0 1 I I qk I I ?_;refine bJ 0 0 I I qk I I ?_;refine fin 0 I (adb (rT (rT (pF 1 0 4 I I I I I qk qk ?_))))
   have e:dU W rows ⟨kind,ses,seq,word,wt⟩=(W,rows,⟨152,0,0⟩):=by
    grind [dU]
   rw[e];exact ⟨Le.refl _,I,aW,cW,aR,cR,I,x,y⟩
  have e:dU W rows ⟨kind,ses,seq,word,wt⟩=(W,rows++[fO],⟨0,ba rows+1,0⟩):=by
   grind [dU]
  rw[e];refine sk (ac6 (lit 0 #[] I SU qk fun b22=>au ?_));have o0:ej 4 122 kX (pt b22 #[] 122) (some ⟨b22,0,none⟩) 0 0 []:=⟨[],rfl,⟨rfl,aac _,aag _,.inr ⟨b22,0,#[],rfl,rfl,rfl,rfl⟩⟩,trivial,ST⟩;refine zA 0 0 I I o0 (.inl I) y uo I SU (by show (0+ba rows)*32<=_;omega) (by simp only[maxLen];omega) fun ao25 c25 g25 o25=>?_;rw[aaD,aaL] at o25;rw[aaD];refine WL.hs (g25::pt b5 (dI fq).toArray 54::pt b4 #[.slice none 0 0,.slice none 0 0] 48::pt b3 #[.int .i64 kind,.int .u64 (ses:Nat),.int .u64 (seq:Nat),str word,.int .i64 wt] 50::pt b2 #[.slice aW (ba W) cW,.slice aR (ba rows) cR] 48::hs) I (au ?_);refine bI [pt b2 #[.slice aW (ba W) cW,.slice aR (ba rows) cR] 48] 15 [0,2,4,6,14,16,18,20,22,24,9,11,12,27,29] ST qk qk (au ?_);refine me qk 1 (.agg (f0 fO).toArray) I (fun w=>by kernel_rfl) (au ?_)
  refine bQ qk 1 I (v':=.int .i64 (ba rows+1:Nat)) (ac qo) (bQ qk 0 I (v':=.int .u64 (ba rows+1:Nat)) (cJ qo) (me qk 0 (.agg (dI ⟨0,ba rows+1,0⟩).toArray) I (fun w=>by kernel_rfl) (au ?_)));refine lit 0 (f0 fO).toArray I SU qk fun b30=>bp ST I (aG qk 0 I (jU 0 1 (f0 fO) fO I I I o25.slZ I I (uo _ fO I) I SU (by show (ba rows+1)*32<=_;omega) (by simp only[maxLen];omega) fun ao31 c31 g31 o31=>WL.hs (pt b30 (f0 fO).toArray 122::g31::pt b5 (dI fq).toArray 54::pt b4 #[.slice none 0 0,.slice none 0 0] 48::pt b3 #[.int .i64 kind,.int .u64 (ses:Nat),.int .u64 (seq:Nat),str word,.int .i64 wt] 50::pt b2 #[.slice aW (ba W) cW,.slice aR (ba rows) cR] 48::hs) rfl (bp ST rfl (me qk 0 (.agg #[.slice aW (ba W) cW,.slice ao31 (ba rows+1) c31]) rfl (fun w=>by kernel_rfl) (aG qk 0 rfl ?_)))))
  refine bJ 0 3 I I qk I I ?_;refine bp ST I (aG qk 0 I ?_);refine bJ 0 2 I I qk I I ?_;refine bp ST I (be qk 0 I (adb (rT (WQ.drop (WQ.frz fun K2 le2 le3=>pF 1 0 4 I I I I I qk qk ?_)))));have hlen:ba (rows++[fO])=ba rows+1:=by simp
  exact ⟨le2,I,aW,cW,ao31,c31,by rw[hlen],x.le le2 fun _ _ h=>h,by rw[hlen];exact o31.slS.le le3 fun _ _ h=>h⟩
 refine au ?_;refine af 0 I fun b41 h41=>?_
 refine' gu 1 4 46 [41,42] h41 I I I I I I I (fun _=>?x6) (fun b46 h46=>?_)
 case x6=>
  refine au ?_;exact af 0 I fun b45 h45=>fin 1 I (dk h45 I I I)
 refine fin 0 I<|th (ah h46 I (fun e8=>?_) (fun e8=>?_))
 ·refine ac9 (dy 0 3 I I qk (bd 0 (.agg (dI ⟨161,0,0⟩).toArray) I (fun w=>by kernel_rfl) ?_));refine bJ 0 1 I I qk I I ?_;refine bJ 0 0 I I qk I I ?_;refine fin 0 I (adb (rT (pF 1 0 4 I I I I I qk qk ?_)))
  have e:dU W rows ⟨kind,ses,seq,word,wt⟩=(W,rows,⟨161,0,0⟩):=by
   simp_all [dU]
  rw[e];exact ⟨Le.refl _,I,aW,cW,aR,cR,I,x,y⟩
 have d2:kind=2\/kind=3:=by
  omega
 have d1:¬¬(kind=2\/kind=3):=fun h=>h d2;refine au ?_;refine af 0 I fun b51 h51=>?_
 refine' eB 1 8 60 [51,52] h51 I I I I I I I (fun _=>?x10) (fun b60 h60=>?_)
 case x10=>
  refine au ?_;exact ar 1 I (cJ qo) (af 0 I fun b59 h59=>fin 1 I (dk h59 I I I))
 refine fin 0 I<|th (ah h60 I (fun e12=>?_) (fun e12=>?_))
 ·have hc:eA rows ses seq=(fq,false,150):=by unfold eA;rw[aab qo]
  refine ac9 (dy 0 3 I I qk (bd 0 (.agg (dI ⟨150,0,0⟩).toArray) I (fun w=>by kernel_rfl) ?_));refine bJ 0 1 I I qk I I ?_;refine bJ 0 0 I I qk I I ?_;refine fin 0 I (adb (rT (pF 1 0 4 I I I I I qk qk ?_)))
  have e:dU W rows ⟨kind,ses,seq,word,wt⟩=(W,rows,⟨150,0,0⟩):=by
   simp_all [dU]
  rw[e];exact ⟨Le.refl _,I,aW,cW,aR,cR,I,x,y⟩
 have hin:¬(ses=0\/ba rows<ses):=qo
 obtain ⟨r,hrr⟩:∃ r,rows[ses-1]?=some r:=⟨_,aae qo⟩;have hgd:rows.getD (ses-1) fO=r:=by rw[aaB,hrr];rfl
 refine sk (ac6 (bE 1 3 I I I (bE 1 2 I I I (ar 0 I (v':=.int .u64 (ses-1:Nat)) (by rw[cJ qo];congr 1;omega) (dz 0 (ses-1) rfl rfl yv qo SU fun a68 e68=>?_)))));subst e68;obtain ⟨cr,hcr,hcrl,hcrc⟩:=y.cells hrr;obtain rfl:=hcr;refine eD 0 (f0 r) I qk (.inl I) hcrc (al 0 (.agg #[.int .u64 0,.int .i64 0,.int .u64 0,.int .i64 0]) I qk fun b7=>?_);refine bJ 0 0 I I qk I I ?_;refine WL.hs (pt b7 (f0 r).toArray 122::pt b5 (dI fq).toArray 54::pt b4 #[.slice none 0 0,.slice none 0 0] 48::pt b3 #[.int .i64 kind,.int .u64 (ses:Nat),.int .u64 (seq:Nat),str word,.int .i64 wt] 50::pt b2 #[.slice aW (ba W) cW,.slice (some a68) (ba rows) cR] 48::hs) I (fin 0 I (ac5 (bE 1 3 I I I (af 0 I fun b72 h72=>?_))))
 refine' eB 1 6 79 [72,73] h72 I I I I I I I (fun _=>?x14) (fun b79 h79=>?_)
 case x14=>
  exact bE 1 3 I I I<|bE 1 0 (v:=.int .u64 r.seq) I I I (af 0 I fun b78 h78=>fin 1 I<|dk h78 I I I)
 refine fin 0 I<|th (ah h79 I (fun e16=>?_) (fun e16=>?_))
 ·have hc:eA rows ses seq=(fq,false,151):=by simp_all [eA]
  refine ac9 (dy 0 4 I I qk (bd 0 (.agg (dI ⟨151,0,0⟩).toArray) I (fun w=>by kernel_rfl) ?_));refine bJ 0 2 I I qk I I ?_;refine bJ 0 1 I I qk I I ?_;refine fin 0 I (adb (rT (pF 2 1 5 I I I I I qk qk ?_)))
  have e:dU W rows ⟨kind,ses,seq,word,wt⟩=(W,rows,⟨151,0,0⟩):=by
   simp_all [dU]
  rw[e];exact ⟨Le.refl _,I,aW,cW,some a68,cR,I,x,y⟩
 refine sk<|ac5<|bE 1 3 I I I (bE 1 0 (v:=.int .u64 r.seq) I I I (af 0 I fun b86 h86=>fin 0 I<|th (ah h86 I (fun e18=>?_) (fun e18=>?_))))
 ·have hc:eA rows ses seq=(r.ans,true,0):=by grind [eA]
  have e:dU W rows ⟨kind,ses,seq,word,wt⟩=(W,rows,r.ans):=by
   simp_all [dU]
  rw[e];refine sq (bI [pt b7 (f0 r).toArray 122,pt b2 #[.slice aW (ba W) cW,.slice (some a68) (ba rows) cR] 48] 5 [0,2,4,7,9] ST qk qk (ja qk 0 1 I qk I qk (ip qk 1 (dI r.ans) I qk qk (.inr ⟨0,I⟩) (BA _ I) (aG qk 0 I ?_))));refine bJ 0 2 I I qk I I ?_;refine bp ST I (aG qk 0 I ?_);refine bJ 0 1 I I qk I I ?_;exact bp ST I (be qk 0 I (adb (rT (pF 2 1 5 I I I I I qk qk (⟨Le.refl _,I,aW,cW,some a68,cR,I,x,y⟩)))))
 have hc:eA rows ses seq=(fq,false,0):=by grind [eA]
 obtain ⟨f,hf⟩:=bC (if kind=2 then er W word wt else eG W word)
 have e:dU W rows ⟨kind,ses,seq,word,wt⟩=(f.1,rows.set (ses-1) ⟨seq,⟨f.2.2,0,f.2.1⟩⟩,⟨f.2.2,0,f.2.1⟩):=by
  grind [dU]
 rw[e];refine WC.drop (sk (ac6 (bE 1 3 I I I (bE 1 2 I I I (cl 0 I (LC aW cW W word x hr hl) ?_)))));rintro v95 K95 hs95 ⟨le95,rfl,aW1,cW1,rfl,xR⟩
 refine fin 7 I (th (ti (σ:=PH×Option Addr×Nat) (fun s=>[(2,SX b2),(3,SX b3),(4,SX b4),(5,SX b5),(8,.slice s.2.1 (ba f.1) s.2.2),(9,.int .i64 f.2.1),(10,.int .i64 f.2.2)]) (fun s=>s.1)
  (fun s=>pt b5 (dI fq).toArray 54::pt b4 #[.slice none 0 0,.slice none 0 0] 48::pt b3 #[.int .i64 kind,.int .u64 (ses:Nat),.int .u64 (seq:Nat),str word,.int .i64 wt] 50::pt b2 #[.slice aW (ba W) cW,.slice (some a68) (ba rows) cR] 48::hs) (fun s=>Le K s.1/\bF 2 cC s.1 s.2.1 (ba f.1) s.2.2 f.1) ?_ ?_))
 ·refine ac9 (bE 1 2 I I I (af 0 I fun b101 h101=>fin 0 I<|th (ah h101 I (fun e20=>?_) (fun e20=>?_))))
  ·obtain rfl:f=er W word wt:=by rw[hf,aab e20]
   refine rg (bE 1 3 I I I (bE 1 2 I I I (bE 1 2 I I I (cl 0 I (P3 aW cW W word wt (x.le le95 fun _ _ h=>h) hr hl) ?_))));rintro v109 K109 hs109 ⟨le109,rfl,aW2,cW2,rfl,xS⟩;exact fin 7 I (mt (K109,aW2,cW2) ⟨le95.trans le109,xS⟩ sb I I)
  obtain rfl:f=eG W word:=by rw[hf,aaa e20]
  exact sk<|mt (K95,aW1,cW1) ⟨le95,xR⟩ sb I I
 rintro ⟨K3,aW3,cW3⟩ ⟨le3,x3⟩;dsimp only at *;have y3:=y.le le3 fun _ _ h=>h;refine ac9 (bd 2 (.agg (dI ⟨f.2.2,0,f.2.1⟩).toArray) I (fun w=>by kernel_rfl) (al 0 (.agg #[.int .i64 0,.int .u64 0,.int .i64 0]) I qk fun b11=>?_));refine bJ 0 0 I I qk I I ?_;refine WL.hs (pt b11 (dI ⟨f.2.2,0,f.2.1⟩).toArray 54::pt b5 (dI fq).toArray 54::pt b4 #[.slice none 0 0,.slice none 0 0] 48::pt b3 #[.int .i64 kind,.int .u64 (ses:Nat),.int .u64 (seq:Nat),str word,.int .i64 wt] 50::pt b2 #[.slice aW (ba W) cW,.slice (some a68) (ba rows) cR] 48::hs) I (fin 0 I (ac6 (lit 0 #[] I SU qk fun b116=>bE 1 5 I I I ?_)));have o0:ej 4 122 kX (pt b116 #[] 122) (some ⟨b116,0,none⟩) 0 0 []:=⟨[],rfl,⟨rfl,aac _,aag _,.inr ⟨b116,0,#[],rfl,rfl,rfl,rfl⟩⟩,trivial,ST⟩;refine zA 0 0 I I o0 (.inl I) y3 uo I SU (by show (0+ba rows)*32<=_;omega) (by simp only[maxLen];omega) fun ao119 c119 g119 o119=>?_
 rw[aaD,aaL] at o119;rw[aaD];have oz:=o119.slZ;have oS:=oz.slS;obtain ⟨ws,wv⟩:=oS.isS;obtain ⟨gb,off,cur,rfl,rfl,hcs,hcap,hset⟩:=oz.pts (show 0<ba rows by omega);have o2:=hset (ses-1) (f0 ⟨seq,⟨f.2.2,0,f.2.1⟩⟩) ⟨seq,⟨f.2.2,0,f.2.1⟩⟩ qo rfl rfl;have hcs2:cur.size=off+c119*4:=hcs;refine WL.hs (pt gb cur 122::pt b11 (dI ⟨f.2.2,0,f.2.1⟩).toArray 54::pt b5 (dI fq).toArray 54::pt b4 #[.slice none 0 0,.slice none 0 0] 48::pt b3 #[.int .i64 kind,.int .u64 (ses:Nat),.int .u64 (seq:Nat),str word,.int .i64 wt] 50::pt b2 #[.slice aW (ba W) cW,.slice (some a68) (ba rows) cR] 48::hs) I (fin 1 I (ac6 (bE 2 4 I I I (ar 0 I (v':=.int .u64 (ses-1:Nat)) (by rw[cJ qo];congr 1;omega) (bE 1 4 rfl rfl rfl (dy 0 1 rfl rfl qk (bd 0 (.agg (f0 ⟨seq,⟨f.2.2,0,f.2.1⟩⟩).toArray) rfl (fun w=>by kernel_rfl) (dz 0 (ses-1) rfl rfl wv qo SU fun a128 e128=>?_))))))))
 cases e128;simp only[bz];refine sts 0 0 I I qk (by simp[f0,dI];omega) (uo _ _ rfl) (fin 0 rfl (th (sq (bI [pt b11 (dI ⟨f.2.2,0,f.2.1⟩).toArray 54] 6 [0,2,4,6,9,11] ST qk qk (me qk 2 (.agg #[.slice aW3 (ba f.1) cW3,.slice (some ⟨gb,off,none⟩) (ba rows) c119]) rfl (fun w=>by kernel_rfl) (ja qk 0 0 rfl qk rfl qk (aG qk 0 rfl ?_)))))));refine bJ 0 3 I I qk I I ?_;refine bp ST I (aG qk 0 I ?_);refine bJ 0 2 I I qk I I ?_;refine bp ST I (be qk 0 I (adb (WQ.frz fun K4 dm le5=>pF 2 1 5 I I I I I qk qk ?_)));have hlen:ba (rows.set (ses-1) ⟨seq,⟨f.2.2,0,f.2.1⟩⟩)=ba rows:=by simp
 exact ⟨le3.trans dm,I,aW3,cW3,some ⟨gb,off,none⟩,c119,by rw[hlen],x3.le dm fun _ _ h=>h,by rw[hlen];exact o2.slS.le le5 fun _ _ h=>h⟩
end
section
attribute [local irreducible] Code.wp wpList Calls
def Pw{h1 h2:PH}(a1 a2:Option Addr)(c1 c2:Nat)(l1 l2:List UInt8)(m1:In K hs h1)(m2:In K hs h2)(x1:aH h1 a1 (ba l1) c1 1 (bv l1))(x2:aH h2 a2 (ba l2) c2 1 (bv l2))(hl:ba l1<1099511627776):
  aj w0 123 [.slice a1 (ba l1) c1,.slice a2 (ba l2) c2] K hs (fun v K' hs'=>K'=K/\hs'=hs/\∃ b:Bool,v=.bool b/\(b=true↔l1=l2)):=by
 refine bH Tryz.func123 ?_;refine aX 4 I (fun e2=>?_) (fun e2=>?_)
 ·refine au ?_;exact ay I I ⟨I,I,false,I,by simp;intro h;subst h;exact e2 I⟩
 refine au ?_;have hll:ba l1=ba l2:=qo
 refine au ?_;refine loop (σ:=Nat) (fun i=>[(0,.slice a1 (ba l1) c1),(1,.slice a2 (ba l2) c2),(12,.int .i64 (ba l1:Nat)),(13,.int .i64 (i:Nat))]) (fun _=>K) (fun _=>hs) (fun i=>i<=ba l1/\l1.take i=l2.take i) (fun i=>ba l1-i) 0 ⟨aag _,I⟩ ⟨I,I,I,I,trivial⟩ I I ?_;rintro i ⟨hi,he⟩;refine ac9 (aX 0 I (fun e4=>?_) (fun e4=>?_))
 ·refine au ?_;have hi1:i<ba l1:=qo
  refine au ?_;have hi2:i<ba l2:=qo
  obtain ⟨a1,rfl⟩:=x1.addr hi1 SU;obtain ⟨a2,rfl⟩:=x2.addr hi2 SU;obtain ⟨a1',ha1,hc1⟩:=x1.2.2 i _ (qD hi1);obtain ⟨a2',ha2,hc2⟩:=x2.2.2 i _ (qD hi2);cases ha1;cases ha2;refine au ?_;refine bI hs 9 [0,2,4,6,8,10,12,14,16] ST qk qk (bh qk 2 i I I hi1 (lc qk 0 I m1 (by simpa using hc1) (bh qk 2 i I I hi2 (lc qk 0 I m2 (by simpa using hc2) (gE qk 0 (((l1[i].toNat:Nat):Int)≠(l2[i].toNat:Nat)) I ST fun b24 h24=>au ?_)))));refine ah h24 I (fun e5=>?_) (fun e5=>?_)
  ·refine au ?_;exact ay I I ⟨I,I,false,I,by simp;intro h;subst h;exact e5 I⟩
  refine sk (ac7 (ar 0 I (ac qo) (fin 1 I ?_)));exact bc (x:=i) (i+1) sb I I ⟨qo,by rw[mC l1 i hi1,mC l2 i hi2,he,UInt8.toNat_inj.1 (abP.1 (Decidable.not_not.1 e5))]⟩ qo
 refine au ?_;obtain rfl:i=ba l1:=qo
 refine au ?_;exact ay I I ⟨I,I,true,I,by grind⟩
def p0:MA:=⟨none,0,none,0,none,0⟩
theorem HL.zero(K:PH):HL K fQ.zero p0:=⟨ve.nil _ _ _,aH.nil _ _ _ _,aH.nil _ _ _ _⟩
end
section
attribute [local irreducible] Code.wp wpList Calls
def q0:MA:=⟨none,0,none,0,none,0⟩
end
section
attribute [local irreducible] Code.wp wpList Calls
section drop1
variable {P:Program} {w0:World} {ops:Array Oper} {Q:Exit->Act->World->Prop} {rest:List Oper} {n:Nat} {l:Sl} {K h x:PH} {hs:List PH} {c:Code} {e:Exit}
end drop1
section joink
variable {P:Program} {w0:World} {Q:Exit->Act->World->Prop} {n:Nat} {l:Sl} {K:PH} {hs:List PH}
def JK(w0:World){σ:Type}(F:σ->Sl)(HK:σ->PH)(H:σ->List PH)(J:σ->Prop)(n:Nat)(Q:Exit->Act->World->Prop):Exit->Act->World->Prop
 | .normal,a,w=>∃ s,J s/\Ag n (F s) a/\aY w0 w (HK s) (H s)
 | e,a,w=>Q e a w
def H1{σ:Type}{x y:Code}(F:σ->Sl)(HK:σ->PH)(H:σ->List PH)(J:σ->Prop)(h1:WC P w0 x (JK w0 F HK H J n Q) n l K hs)(h2:∀ s,J s->WC P w0 y Q n (F s) (HK s) (H s)):WC P w0 (.seq x y) Q n l K hs:=
 sq fun a w ha hw=>Code.wp_mono (fun e a w h=>by
  cases e with
  | normal=>obtain ⟨s,hJ,ha,hw⟩:=h;exact h2 s hJ a w ha hw
  | _=>exact h) (h1 a w ha hw)
def vU{σ:Type}{F:σ->Sl}{HK:σ->PH}{H:σ->List PH}{J:σ->Prop}(s:σ)(hJ:J s)(hF:lh l (F s))(hK:K=HK s)(hH:hs=H s):WQ w0 (JK w0 F HK H J n Q) .normal n l K hs:=
 fun a w ha hw=>⟨s,hJ,ha.sub hF,by rw[<-hK,<-hH];exact hw⟩
end joink
end
section
def nK(cs:List Value)(c:bM):Prop:=cs=c.v.toList
attribute [local irreducible] Code.wp wpList Calls
theorem Fq{α:Type}{R:List Value->α->Prop}:∀ {css:List (List Value)} {xs:List α},j4 R css xs->eO R css xs
 | [],[],_=>trivial
 | _::_,_::_,g=>⟨g.1,Fq g.2⟩
 | [],_::_,g=>g.elim
 | _::_,[],g=>g.elim
theorem Fo{α:Type}{n:Nat}{R:List Value->α->Prop}(h:∀ c x,R c x->ba c=n):∀ {css:List (List Value)} {xs:List α},j4 R css xs->∀ d∈css,ba d=n
 | [],[],_=>by simp
 | c::cs,x::xs,g=>by
  intro d hd;rcases aau.1 hd with rfl|hd
  ·exact h _ _ g.1
  exact Fo h g.2 d hd
 | [],_::_,g=>g.elim
 | _::_,[],g=>g.elim
end
section
open Go.En Go.ChangeShapes Go.WideShapes Go.ChangeAt Go.RowKit Go.Deep
set_option maxRecDepth 100000
section opens
variable {H:Type} {enc:TypeId×Value->H} {W:World}
abbrev Aw:Type:=Int×Int×Int×List UInt8×Int×Unit
def qI(x:Aw):bM:=⟨x.1,x.2.1.toNat,x.2.2.1.toNat,x.2.2.2.1,x.2.2.2.2.1⟩
def zc(c:bM):Prop:=c.ses<=18446744073709551615/\c.seq<=18446744073709551615/\ba c.word<1099511627776
def PE{cs:List Value}{x:Aw}(hR:vJ cs x)(hB:qZ x<=1048576):nK cs (qI x)/\zc (qI x):=by
 obtain ⟨k,s,q,w,t,u⟩:=x;obtain ⟨c1,c2,e1,h1,c3,c4,e2,h2,c5,c6,e3,h3,c7,c8,e4,h4,c9,c10,e5,h5,h6⟩:=hR;obtain ⟨rfl,_⟩:=FV h1;obtain ⟨rfl,hs⟩:=FU h2;obtain ⟨rfl,hq⟩:=FU h3;obtain rfl:c7=[str w]:=h4;obtain ⟨rfl,_⟩:=FV h5;obtain rfl:c10=[]:=h6;have hmx:aC=18446744073709551615:=rfl;refine ⟨by rw[show cs=_ from e1,e2,e3,e4,e5];rfl,by show s.toNat<=_;dsimp only at hs ⊢;omega,by show q.toNat<=_;dsimp only at hq ⊢;omega,?_⟩;show ba w<_;simp only[qZ] at hB;omega
theorem CE:∀ {css:List (List Value)} {xs:List Aw},j4 vJ css xs->iF qZ xs<=1048576->j4 nK css (xs.map qI)/\∀ c∈xs.map qI,zc c
 | [],[],_,_=>⟨trivial,ST⟩
 | c::cs,x::xs,⟨h1,h2⟩,hB=>by
  simp only[iF] at hB;obtain ⟨g1,g2⟩:=PE h1 qo;obtain ⟨k1,k2⟩:=CE h2 qo;refine ⟨⟨g1,k1⟩,fun y hy=>?_⟩
  grind
 | [],_::_,g,_=>g.elim
 | _::_,[],g,_=>g.elim
def KA:gx enc Tryz.prog W 22 1 (H7 W 5 vJ) (fun xs=>iF qZ xs+1):=gx.slice Tryz.underlying22 qk Mk
def J8{base:Nat}{v:Value}{d:DataW H}{ps:List MemPlace}(hval:Value.okWide Tryz.prog W .any base 22 v)(h:DataW.Trod enc Tryz.prog W 0 (fun _=>true) true 22 v d ps)(hB:Rows.uptoBulk d<=1048576):
  ∃ ao cap,∃ cs:List bM,v=.slice ao (ba cs) cap/\bF 5 nK (hp W) ao (ba cs) cap cs/\(∀ c∈cs,zc c)/\ba cs<1099511627776:=by
 obtain ⟨a0,len,cap0,rfl⟩:=okWide_slice Tryz.underlying22 hval;obtain ⟨xs,hR,hm⟩:=(KA (enc:=enc) (W:=W)).arg h;have hge:=EG qZ (fun _=>by simp) xs;obtain ⟨ao,cap,css,e,x,h2⟩:=hR;obtain ⟨g1,g2⟩:=CE h2 qo;simp[Value.cells] at e;obtain ⟨rfl,rfl,rfl⟩:=e;have e2:ba xs=ba (xs.map qI):=by simp
 rw[e2] at x ⊢;refine ⟨a0,cap0,xs.map qI,I,⟨css,I,x,Fq g1,Fo (fun c x hc=>by obtain rfl:=hc;rfl) g1⟩,g2,qo⟩
end opens
end
section
def MR{κ α:Type}(R:Value->α->Prop):List (κ×Value)->List (κ×α)->Prop
 | [],[]=>True
 | (k,v)::r,(j,x)::q=>k=j/\R v x/\MR R r q
 | _,_=>False
section
variable {κ α:Type} {R R':Value->α->Prop}
theorem MR.imp(h:∀ v x,R v x->R' v x):∀ {a:List (κ×Value)} {b:List (κ×α)},MR R a b->MR R' a b
 | [],[],g=>g
 | (k,v)::r,(j,x)::q,g=>⟨g.1,h v x g.2.1,MR.imp h g.2.2⟩
 | [],_::_,g=>g.elim
 | _::_,[],g=>g.elim
theorem MR.keys:∀ {a:List (κ×Value)} {b:List (κ×α)},MR R a b->a.map (·.1)=b.map (·.1)
 | [],[],_=>rfl
 | (k,v)::r,(j,x)::q,g=>by simp[g.1,MR.keys g.2.2]
 | [],_::_,g=>g.elim
 | _::_,[],g=>g.elim
def MR.len{a:List (κ×Value)}{b:List (κ×α)}(g:MR R a b):ba a=ba b:=by have:=congrArg List.length g.keys;simpa using this
theorem MR.mem{k:κ}{v:Value}:∀ {a:List (κ×Value)} {b:List (κ×α)},MR R a b->(k,v)∈a->∃ x,(k,x)∈b/\R v x
 | (j,u)::r,(i,y)::q,g,hm=>by
  obtain ⟨rfl,h2,g2⟩:=g;rcases aau.1 hm with hm|hm
  ·simp_all
  obtain ⟨x,h3,h4⟩:=MR.mem g2 hm;exact ⟨x,by simp[h3],h4⟩
 | [],_,_,hm=>by simp at hm
 | _::_,[],g,_=>g.elim
variable [DecidableEq κ]
theorem MR.get(k:κ):∀ {a:List (κ×Value)} {b:List (κ×α)},MR R a b->(aK k a=none/\aK k b=none)\/∃ v x,aK k a=some v/\aK k b=some x/\R v x
 | [],[],_=>.inl ⟨rfl,rfl⟩
 | (j,v)::r,(i,x)::q,g=>by
  obtain ⟨rfl,h,g2⟩:=g
  by_cases e:k=j
  ·exact .inr ⟨v,x,by simp[aK,e],by simp[aK,e],h⟩
  rcases MR.get k g2 with ⟨h1,h2⟩|⟨u,y,h1,h2,h3⟩
  ·exact .inl ⟨by simp[aK,e,h1],by simp[aK,e,h2]⟩
  exact .inr ⟨u,y,by simp[aK,e,h1],by simp[aK,e,h2],h3⟩
 | [],_::_,g=>g.elim
 | _::_,[],g=>g.elim
theorem MR.set{k:κ}{v:Value}{x:α}(h:R v x):∀ {a:List (κ×Value)} {b:List (κ×α)},MR R a b->MR R (cG k v a) (cG k x b)
 | [],[],_=>⟨rfl,h,trivial⟩
 | (j,u)::r,(i,y)::q,g=>by
  obtain ⟨rfl,h2,g2⟩:=g
  by_cases e:k=j
  ·simp only[cG,e,if_true];exact ⟨I,h,g2⟩
  simp only[cG,e,if_false];exact ⟨I,h2,MR.set h g2⟩
 | [],_::_,g=>g.elim
 | _::_,[],g=>g.elim
end
structure fg where
 vs:List (List UInt8)
 syn:Bool
abbrev Ar:=List (Int×fg)
structure Dk where
 room:Int
 steps:Int
 areas:List (Int×Ar)
 left:Int
 dead:Bool
def fE(b:List UInt8):List UInt8:=b++List.replicate (64-ba b) 0
def Dk.stp(D:Dk):Dk:={ D with steps:=D.steps+1,dead:=decide (D.left=0),left:=if D.left>0 then D.left-1 else D.left }
def Dk.ar(D:Dk)(a:Int):Ar:=(aK a D.areas).getD []
def Dk.sec(D:Dk)(a n:Int):Option fg:=aK n (D.ar a)
def io(s:Option fg)(b:List UInt8):fg:=⟨(s.getD ⟨[],false⟩).vs++[fE b],(s.getD ⟨[],false⟩).syn⟩
def Dk.laid(D:Dk)(a n:Int)(b:List UInt8):Dk:=
 { D with room:=if (D.sec a n).isSome=true then D.room else D.room-1,areas:=cG a (cG n (io (D.sec a n) b) (D.ar a)) D.areas }
def Dk.write(D:Dk)(a n:Int)(b:List UInt8):Dk×Int:=
 if D.dead=true then (D,30) else if n<0\/65536<=n\/64<ba b then (D,31) else if (D.sec a n).isSome=false/\D.room=0 then (D,32)
 else ((D.laid a n b).stp,if (D.laid a n b).stp.dead=true then 30 else 0)
def kM(s:fg):fg:=⟨[s.vs.getLastD []],true⟩
def Dk.synA(D:Dk)(a:Int):List (Int×Ar):=
 match aK a D.areas with
 | some l=>cG a (l.map fun x=>(x.1,kM x.2)) D.areas
 | none=>D.areas
def Dk.sync(D:Dk)(a:Int):Dk×Int:=
 if D.dead=true then (D,30) else if D.stp.dead=true then (D.stp,30)
 else ({ D.stp with areas:=D.synA a },0)
def Dk.free(D:Dk)(a:Int):Dk×Int:=
 if D.dead=true then (D,30) else if D.stp.dead=true then (D.stp,30)
 else ({ D.stp with room:=D.room+(ba (D.ar a):Int),areas:=eC a D.areas },0)
def Dk.read(D:Dk)(a n:Int):Option (List UInt8):=(D.sec a n).map fun s=>s.vs.getLastD []
structure Dk.Ok (c:Nat) (D:Dk):Prop where
 keys:(D.areas.map (·.1)).Nodup
 ns:∀ x∈D.areas,(x.2.map (·.1)).Nodup/\ba x.2<=c
 vs:∀ x∈D.areas,∀ y∈x.2,y.2.vs≠[]/\ba y.2.vs<=c/\∀ b∈y.2.vs,ba b=64
 room:0<=D.room/\D.room<=1099511627776
 steps:0<=D.steps/\D.steps<=c
 left : -1<=D.left/\D.left<=9223372036854775807
 at_:∀ x∈D.areas,∀ y∈x.2,0<=y.1/\y.1<65536
section
variable {κ ν:Type} [DecidableEq κ]
theorem j7{k:κ}{v:ν}{x:κ×ν}:∀ {m:List (κ×ν)},x∈cG k v m->x=(k,v)\/x∈m
 | [],h=>by simp[cG] at h;exact .inl h
 | (j,u)::m,h=>by
  by_cases e:k=j
  ·grind [cG]
  simp only[cG,e,if_false,aau] at h;rcases h with h|h
  ·exact .inr (by simp[h])
  rcases j7 h with h|h
  ·exact .inl h
  exact .inr (by simp[h])
theorem qd{k:κ}{v:ν}{m:List (κ×ν)}(h:(m.map (·.1)).Nodup):((cG k v m).map (·.1)).Nodup:=by
 rw[tR]
 split
 ·exact h
 rename_i hn;rw[abR];refine ⟨h,ST,?_⟩;intro a ha b hb;simp only[aaK] at hb;subst hb;intro e
 simp_all [iC]
theorem nC{k:κ}:∀ (m:List (κ×ν)),(eC k m).Sublist m
 | []=>by simp[eC]
 | (j,u)::m=>by
  by_cases e:k=j
  ·simp only[eC,e,if_true]
   first|exact List.sublist_cons_self _ _|exact (nC m).trans (List.sublist_cons_self _ _)
  simp only[eC,e,if_false];exact (nC m).cons_cons _
end
def xj{b:List UInt8}(h:ba b<=64):ba (fE b)=64:=by simp[fE];omega
def Dk.ar_mem{D:Dk}{a:Int}(x:Int×fg)(h:x∈D.ar a):∃ l,(a,l)∈D.areas/\D.ar a=l:=by
 unfold Dk.ar at h ⊢;cases hg:aK a D.areas with
 | none=>rw[hg] at h;simp at h
 | some l=>exact ⟨l,iY hg,rfl⟩
def Dk.Ok.arNodup{c:Nat}{D:Dk}(o:D.Ok c)(a:Int):((D.ar a).map (·.1)).Nodup/\ba (D.ar a)<=c:=by
 unfold Dk.ar;cases hg:aK a D.areas with
 | none=>simp
 | some l=>exact o.ns _ (iY hg)
def Dk.Ok.secOk{c:Nat}{D:Dk}(o:D.Ok c){a n:Int}{s:fg}(h:D.sec a n=some s):s.vs≠[]/\ba s.vs<=c/\∀ b∈s.vs,ba b=64:=by
 have hm:=iY h;obtain ⟨l,h1,h2⟩:=Dk.ar_mem _ hm;rw[h2] at hm;exact o.vs _ h1 _ hm
def Dk.Ok.up{c d:Nat}{D:Dk}(o:D.Ok c)(h:c<=d):D.Ok d:=
 ⟨o.keys,fun x hx=>⟨(o.ns x hx).1,aat (o.ns x hx).2 h⟩,fun x hx y hy=>⟨(o.vs x hx y hy).1,aat (o.vs x hx y hy).2.1 h,(o.vs x hx y hy).2.2⟩,o.room,⟨o.steps.1,by have:=o.steps.2;omega⟩,o.left,o.at_⟩
def CP{x:Int}(h : -1<=x/\x<=9223372036854775807): -1<=(if x>0 then x-1 else x)/\(if x>0 then x-1 else x)<=9223372036854775807:=by
 omega
theorem Dk.Ok.stp{c:Nat}{D:Dk}(o:D.Ok c):D.stp.Ok (c+1):=
 ⟨o.keys,fun x hx=>⟨(o.ns x hx).1,aat (o.ns x hx).2 (aaN c)⟩,fun x hx y hy=>⟨(o.vs x hx y hy).1,aat (o.vs x hx y hy).2.1 (aaN c),(o.vs x hx y hy).2.2⟩,o.room,⟨by have:=o.steps.1;simp only[Dk.stp];omega,by have:=o.steps.2;simp only[Dk.stp];omega⟩,CP o.left,o.at_⟩
theorem Dk.Ok.write{c:Nat}{D:Dk}(o:D.Ok c)(a n:Int)(b:List UInt8):(D.write a n b).1.Ok (c+1):=by
 unfold Dk.write
 split
 ·exact o.up<|aaN c
 split
 ·exact o.up<|aaN c
 rename_i hform
 split
 ·exact o.up<|aaN c
 rename_i hfull;have hn:0<=n/\n<65536/\ba b<=64:=qo
 have hsec:(io (D.sec a n) b).vs≠[]/\ba (io (D.sec a n) b).vs<=c+1/\∀ d∈(io (D.sec a n) b).vs,ba d=64:=by
  unfold io;cases hs:D.sec a n with
  | none=>
   simp_all [xj]
  | some s=>
   obtain ⟨h1,h2,h3⟩:=o.secOk hs;simp only[aaZ];refine ⟨ST,by simp;omega,?_⟩;intro d hd;rcases aal.1 hd with hd|hd
   all_goals simp_all [xj]
 have hrm:0<=(D.laid a n b).room/\(D.laid a n b).room<=1099511627776:=by
  have:=o.room
  grind [Dk.laid]
 obtain ⟨hnd,hlc⟩:=o.arNodup a;refine ⟨?_,?_,?_,hrm,⟨by have:=o.steps.1;simp only[Dk.stp,Dk.laid];omega,by have:=o.steps.2;simp only[Dk.stp,Dk.laid];omega⟩,CP o.left,?_⟩
 ·exact qd o.keys
 ·intro x hx;rcases j7 hx with rfl|hx
  ·grind [qd,rI]
  exact ⟨(o.ns x hx).1,aat (o.ns x hx).2 (aaN c)⟩
 ·intro x hx y hy;rcases j7 hx with rfl|hx
  ·rcases j7 hy with rfl|hy
   ·exact hsec
   obtain ⟨l,h1,h2⟩:=Dk.ar_mem _ hy;rw[h2] at hy;obtain ⟨h3,h4,h5⟩:=o.vs _ h1 _ hy
   grind
  obtain ⟨h3,h4,h5⟩:=o.vs _ hx _ hy
  grind
 intro x hx y hy;rcases j7 hx with rfl|hx
 ·rcases j7 hy with rfl|hy
  ·omega
  obtain ⟨l,h1,h2⟩:=Dk.ar_mem _ hy;rw[h2] at hy;exact o.at_ _ h1 _ hy
 exact o.at_ _ hx _ hy
theorem Dk.Ok.sync{c:Nat}{D:Dk}(o:D.Ok c)(a:Int):(D.sync a).1.Ok (c+1):=by
 unfold Dk.sync
 split
 ·exact o.up<|aaN c
 split
 ·exact o.stp
 have os:=o.stp;unfold Dk.synA;cases hg:aK a D.areas with
 | none=>exact os
 | some l=>
  have hl:=iY hg;refine ⟨qd o.keys,?_,?_,os.room,os.steps,os.left,?_⟩
  ·intro x hx;rcases j7 hx with rfl|hx
   ·have h1:=(o.ns _ hl)
    grind
   exact os.ns x hx
  ·intro x hx y hy;rcases j7 hx with rfl|hx
   ·obtain ⟨z,hz,rfl⟩:=aak.1 hy;obtain ⟨h3,h4,h5⟩:=o.vs _ hl _ hz
    simp_all [acu,kM]
   exact os.vs x hx y hy
  intro x hx y hy;rcases j7 hx with rfl|hx
  ·obtain ⟨z,hz,rfl⟩:=aak.1 hy;exact o.at_ (a,l) hl z hz
  exact o.at_ _ hx _ hy
theorem Dk.Ok.free{c:Nat}{D:Dk}(o:D.Ok c)(a:Int)(hr:D.room+(ba (D.ar a):Int)<=1099511627776):(D.free a).1.Ok (c+1):=by
 unfold Dk.free
 split
 ·exact o.up<|aaN c
 split
 ·exact o.stp
 have os:=o.stp;have hs:=nC (k:=a) D.areas;exact ⟨(hs.map _).nodup o.keys,fun x hx=>os.ns x (hs.subset hx),fun x hx=>os.vs x (hs.subset hx),⟨by have:=o.room;dsimp only;omega,hr⟩,os.steps,os.left,fun x hx=>o.at_ x (hs.subset hx)⟩
end
section
def kU(l:List (List UInt8)):List Value:=l.map str
def lw(K:PH)(v:Value)(s:fg):Prop:=∃ ao c,v=.agg #[.slice ao (ba s.vs) c,.bool s.syn]/\aH K ao (ba s.vs) c 1 (kU s.vs)
def vC(n:Int):Value:=.int .u64 n
def oP(n:Int):Value:=.int .i64 n
def s8(b:Nat):Value:=.map (some b)
def cK(D:Dk)(bo:Nat):Array Value:=#[.int .i64 D.room,.int .i64 D.steps,.map (some bo),.int .i64 D.left,.bool D.dead]
abbrev lF:=List (Int×Nat×PH)
def fY(K:PH):lF->List (Int×Ar)->Prop
 | [],[]=>True
 | x::r,y::q=>x.1=y.1/\(∃ mv,dG oP id x.2.2 x.2.1 mv/\MR (lw K) mv y.2)/\fY K r q
 | _,_=>False
theorem lw.le{K K':PH}(l:Le K K'){v:Value}{s:fg}(h:lw K v s):lw K' v s:=let ⟨a,c,h1,h2⟩:=h;⟨a,c,h1,h2.le l⟩
theorem fY.le{K K':PH}(l:Le K K'):∀ {i:lF} {q:List (Int×Ar)},fY K i q->fY K' i q
 | [],[],h=>h
 | x::r,y::q,⟨h1,⟨mv,h2,h3⟩,h4⟩=>⟨h1,⟨mv,h2,h3.imp fun _ _ h=>h.le l⟩,fY.le l h4⟩
 | [],_::_,h=>h.elim
 | _::_,[],h=>h.elim
theorem Gb{K:PH}{a:Int}:∀ {i:lF} {q:List (Int×Ar)} {l:Ar},fY K i q->aK a q=some l->∃ i1 bi hi mv i2 q1 q2,i=i1++(a,bi,hi)::i2/\q=q1++(a,l)::q2/\a∉q1.map (·.1)/\fY K i1 q1/\fY K i2 q2/\dG oP id hi bi mv/\MR (lw K) mv l
 | [],[],_,_,h=>by cases h
 | x::r,y::q,l,⟨h1,⟨mv,h2,h3⟩,h4⟩,h=>by
  obtain ⟨y1,y2⟩:=y;obtain ⟨x1,x2,x3⟩:=x;dsimp only at h1 h2 h3;subst h1
  by_cases e:a=x1
  ·subst e;simp only[aK,if_true,aad] at h;subst h;exact ⟨[],x2,x3,mv,r,[],q,I,I,ST,trivial,h4,h2,h3⟩
  simp only[aK,e,if_false] at h;obtain ⟨i1,bi,hi,mv',i2,q1,q2,g1,g2,g3,g4,g5,g6,g7⟩:=Gb h4 h;exact ⟨(x1,x2,x3)::i1,bi,hi,mv',i2,(x1,y2)::q1,q2,by rw[g1];rfl,by rw[g2];rfl,by simp[e];simpa using g3,⟨rfl,⟨mv,h2,h3⟩,g4⟩,g5,g6,g7⟩
 | [],_::_,_,h,_=>h.elim
 | _::_,[],_,h,_=>h.elim
theorem pB{K:PH}:∀ {i:lF} {q:List (Int×Ar)},fY K i q->i.map (·.1)=q.map (·.1)
 | [],[],_=>rfl
 | x::r,y::q,⟨h1,_,h4⟩=>by simp[h1,pB h4]
 | [],_::_,h=>h.elim
 | _::_,[],h=>h.elim
theorem fY.app{K:PH}:∀ {i j:lF} {q r:List (Int×Ar)},fY K i q->fY K j r->fY K (i++j) (q++r)
 | [],_,[],_,_,h=>h
 | x::i,_,y::q,_,⟨h1,h2,h3⟩,h=>⟨h1,h2,fY.app h3 h⟩
 | [],_,_::_,_,h,_=>h.elim
 | _::_,_,[],_,h,_=>h.elim
theorem x9{κ ν:Type}[DecidableEq κ]{k:κ}{u v:ν}{q2:List (κ×ν)}:∀ {q1:List (κ×ν)},k∉q1.map (·.1)->cG k v (q1++(k,u)::q2)=q1++(k,v)::q2
 | [],_=>by simp[cG]
 | (j,w)::q1,h=>by
  simp only[aao,aau,not_or] at h;simp only[aaz,cG,h.1,if_false];rw[x9 h.2]
theorem yb{κ ν:Type}[DecidableEq κ]{k:κ}{u:ν}{q2:List (κ×ν)}:∀ {q1:List (κ×ν)},k∉q1.map (·.1)->eC k (q1++(k,u)::q2)=q1++q2
 | [],_=>by simp[eC]
 | (j,w)::q1,h=>by
  simp only[aao,aau,not_or] at h;simp only[aaz,eC,h.1,if_false];rw[yb h.2]
theorem ya{κ ν:Type}[DecidableEq κ]{k:κ}{u:ν}{q2:List (κ×ν)}:∀ {q1:List (κ×ν)},k∉q1.map (·.1)->aK k (q1++(k,u)::q2)=some u
 | [],_=>by simp[aK]
 | (j,w)::q1,h=>by
  simp only[aao,aau,not_or] at h;simp only[aaz,aK,h.1,if_false];exact ya h.2
theorem sd{κ ν:Type}[DecidableEq κ]{k:κ}{v:ν}:∀ {q:List (κ×ν)},aK k q=none->cG k v q=q++[(k,v)]
 | [],_=>rfl
 | (j,w)::q,h=>by
  by_cases e:k=j
  ·simp[aK,e] at h
  simp only[aK,e,if_false] at h;simp only[cG,e,if_false,aaz];rw[sd h]
def fv(i:lF):List (Int×Nat):=i.map fun x=>(x.1,x.2.1)
def cm(i:lF):List PH:=i.map (·.2.2)
attribute [local irreducible] Code.wp wpList Calls
def iO(K:PH)(b:Nat)(D:Dk)(m:List PH):Prop:=∃ bo ho ins,m=pt b (cK D bo) 62::ho::cm ins/\dG vC s8 ho bo (fv ins)/\fY K ins D.areas
theorem iO.le{K K':PH}(l:Le K K'){b:Nat}{D:Dk}{m:List PH}(h:iO K b D m):iO K' b D m:=let ⟨bo,ho,ins,h1,h2,h3⟩:=h;⟨bo,ho,ins,h1,h2,h3.le l⟩
def Gv(ao:Option Addr)(n c:Nat)(hn:n<=c):aj w0 144 [.slice ao n c] K hs (fun v K' hs'=>K'=K/\hs'=hs/\v=.slice (ez ao n 0 1) n n):=by
 refine bH Tryz.func144 ?_;refine G7 5 0 n n I I ST I qo hn (au ?_);exact ay I I ⟨I,I,I⟩
def i9:ga Tryz.prog 37 vC:=yH Tryz.underlying37
def mZ:ga Tryz.prog 3 oP:=yH Tryz.underlying3
def yL(b bo:Nat)(D:Dk)(h1:0<=D.steps/\D.steps<=1099511627776)(h2 : -1<=D.left/\D.left<=9223372036854775807):
  aj w0 65 [SX b] K (pt b (cK D bo) 62::hs) (fun v K' hs'=>K'=K/\hs'=pt b (cK D.stp bo) 62::hs/\v=.bool D.stp.dead):=by
 refine bH Tryz.func65 ?_;refine ar 0 I (ac qo) (au ?_);refine ar 0 I (v':=.bool (decide (D.left=0))) (congrArg Value.bool (by rw[abT];simp)) (stp 2 0 rfl rfl rfl rfl (fin 0 rfl (th (jn (σ:=Unit) (fun _=>[(0,SX b)]) (fun _=>pt b (cK D.stp bo) 62::hs) (fun _=>True) ?_ ?_))))
 ·refine au ?_;refine af 0 I fun b22 h22=>fin 0 I (th (ah h22 I (fun e1=>?_) (fun e1=>?_)))
  ·refine au ?_;exact ar 0 I (ac qo) (stp 2 0 I I I I (fin 0 I (jx () trivial sb I (by simp only[cK,Dk.stp,aab e1];rfl))))
  exact sk (jx () trivial sb I (by simp only[cK,Dk.stp,aaa e1];rfl))
 rintro - -;refine au ?_;exact ay I I ⟨I,I,I⟩
end
section
def In.tail{x:PH}(l:List PH)(hm:In K hs x):In K (l++hs) x:=by
 induction l with
 | nil=>exact hm
 | cons a l ih=>exact ih.cons
def Ib(K:PH)(D:Dk)(a:Int)(ins:lF)(hs:List PH)(bi:Option Nat)(h:PH)(tl:List PH):Prop:=
 (aK a D.areas=none/\bi=none/\h=em/\tl=cm ins++hs) \/
 ∃ b i1 mv i2 q1 q2,bi=some b/\ins=i1++(a,b,h)::i2/\D.areas=q1++(a,D.ar a)::q2/\a∉q1.map (·.1)/\fY K i1 q1/\fY K i2 q2/\dG oP id h b mv/\MR (lw K) mv (D.ar a)/\tl=cm i1++(cm i2++hs)
theorem qf(i:lF):(fv i).map (·.1)=i.map (·.1):=by simp[fv]
def rV{D:Dk}{a:Int}{ins:lF}(hI:fY K ins D.areas){bi:Option Nat}{h:PH}{tl:List PH}(x:Ib K D a ins hs bi h tl):aK a (fv ins)=bi:=by
 rcases x with ⟨h1,h2,_⟩|⟨b,i1,mv,i2,q1,q2,h1,h2,h3,h4,h5,h6,_⟩
 ·rw[h2,iC,qf,pB hI];exact iC.1 h1
 rw[h1,h2];have:a∉(fv i1).map (·.1):=by rw[qf,pB h5];exact h4
 unfold fv at this ⊢;rw[aba,aao];generalize (i1.map fun x:Int×Nat×PH=>(x.1,x.2.1))=z at this ⊢
 induction z with
 | nil=>simp[aK]
 | cons y z ih=>
  simp only[aao,aau,not_or] at this;simp only[aaz,aK,this.1,if_false];exact ih this.2
def tn{D:Dk}{ins:lF}(hI:fY K ins D.areas)(a:Int)(hs:List PH):∃ bi h tl,Ib K D a ins hs bi h tl/\∀ P O:PH,(bi=none->(P::O::(cm ins++hs))=(P::O::tl))/\(bi≠none->(P::O::(cm ins++hs)).Perm (h::P::O::tl)):=by
 cases hg:aK a D.areas with
 | none=>exact ⟨none,em,_,.inl ⟨hg,rfl,rfl,rfl⟩,fun P O=>⟨fun _=>rfl,fun h=>absurd rfl h⟩⟩
 | some l=>
  obtain ⟨i1,bi,hi,mv,i2,q1,q2,g1,g2,g3,g4,g5,g6,g7⟩:=Gb hI hg;have hl:D.ar a=l:=by unfold Dk.ar;rw[hg];rfl
  refine ⟨some bi,hi,cm i1++(cm i2++hs),.inr ⟨bi,i1,mv,i2,q1,q2,I,g1,by rw[hl];exact g2,g3,g4,g5,g6,by rw[hl];exact g7,I⟩,fun P O=>⟨fun h=>(by cases h),fun _=>?_⟩⟩;rw[g1];unfold cm;rw[aba,aao,aax,aaz];have p:(i1.map (·.2.2)++hi::(i2.map (·.2.2)++hs)).Perm (hi::(i1.map (·.2.2)++(i2.map (·.2.2)++hs))):=aaI;exact ((p.cons O).trans (aaq hi O _)).cons P |>.trans (aaq hi P _)
def RJ(k:Nat)(bs:List UInt8):(List.take 0 (Array.replicate k (Value.int .u8 0)).toList++List.take (ba bs*1) (bv bs)++List.drop (0+ba bs*1) (Array.replicate k (Value.int .u8 0)).toList).toArray=(bv (bs++List.replicate (k-ba bs) 0)).toArray:=by
 have h1:List.take (ba bs*1) (bv bs)=bv bs:=aar (by simp[bv]);rw[h1];simp[bv]
def QV(bs:List UInt8):(List.take 0 (Array.replicate 64 (Value.int .u8 0)).toList++List.take (ba bs*1) (bv bs)++List.drop (0+ba bs*1) (Array.replicate 64 (Value.int .u8 0)).toList).toArray=(bv (fE bs)).toArray:=RJ 64 bs
attribute [local irreducible] Code.wp wpList Calls
def Om{hv:PH}{m:List PH}(b:Nat)(D:Dk)(c:Nat)(o:D.Ok c)(hc:c<=1099511627)(hm:iO K b D m)(area n:Int)(ha:0<=area/\area<=18446744073709551615)(ao:Option Addr)(cap:Nat)(bs:List UInt8)(hin:In K hs hv)(x:aH hv ao (ba bs) cap 1 (bv bs)):
  aj w0 102 [SX b,.int .u64 area,.int .i64 n,.slice ao (ba bs) cap] K (m++hs)
   (fun v K' hs'=>Le K K'/\∃ m',hs'=m'++hs/\iO K' b (D.write area n bs).1 m'/\v=.int .i64 (D.write area n bs).2):=by
 obtain ⟨bo,ho,ins,rfl,hO,hI⟩:=hm;obtain ⟨bi,hA,tl,hAr,hperm⟩:=tn hI area hs;have hmo:=rV hI hAr;obtain ⟨old,hold⟩:=bC ((D.sec area n).getD ⟨[],false⟩);have hro:=o.room;refine dj Tryz.func102 ?_;refine ac9 ?_
 refine fin 1 I (th (jn (σ:=Option Addr×Nat×Nat) (fun s=>[(0,SX b),(1,.int .u64 area),(2,.int .i64 n),(3,.slice ao (ba bs) cap),(8,.int .i64 0),(9,.pointer (some ⟨s.2.2,0,none⟩)),(10,.bool (D.sec area n).isSome)])
  (fun s=>pt s.2.2 #[.slice s.1 (ba old.vs) s.2.1,.bool old.syn] 119::hA::pt b (cK D bo) 62::ho::tl) (fun s=>aH K s.1 (ba old.vs) s.2.1 1 (kU old.vs)) ?_ ?_))
 ·cases hbi:bi with
  | none=>
   rw[hbi] at hmo hAr;rw[show ((pt b (cK D bo) 62::ho::cm ins)++hs)=(pt b (cK D bo) 62::ho::tl) from (hperm _ _).1 hbi];rcases hAr with ⟨g1,_,rfl,g3⟩|⟨b',_,_,_,_,_,g1,_⟩
   ·have hs0:D.sec area n=none:=by unfold Dk.sec Dk.ar;rw[g1];rfl
    rw[hs0] at hold;refine rg (WL.em (au ?_));refine jJ 1 (z:=.map none) area I Tryz.underlying60 qk i9 I (.inr ⟨2,I⟩) hO ?_;rw[hmo];refine HY 1 (z:=.agg #[.slice none 0 0,.bool false]) n I Tryz.underlying112 qk mZ I (al 3 (.agg #[.slice none 0 0,.bool false]) I qk fun b9=>?_);refine bJ 0 0 I I qk I I ?_;refine fin 1 I ?_;rw[show old=⟨[],false⟩ from hold];exact jx (none,0,b9) (aH.nil _ _ _ _) ⟨I,I,I,I,I,I,by rw[hs0];rfl,trivial⟩ rfl rfl
   cases g1
  | some bi=>
   rw[hbi] at hmo hAr;rcases hAr with ⟨_,g1,_⟩|⟨b',i1,mv,i2,q1,q2,g1,g2,g3,g4,g5,g6,hMv,hMR,g9⟩
   ·cases g1
   cases g1;refine WC.perm ((hperm _ _).2 (by rw[hbi];simp)) ?_;have hsec:D.sec area n=aK n (D.ar area):=rfl;rcases MR.get n hMR with ⟨h1,h2⟩|⟨v,s,h1,h2,aoV,cV,rfl,h3⟩
   ·rw[hsec,h2] at hold;refine au ?_;refine jJ 1 (z:=.map none) area I Tryz.underlying60 qk i9 I (.inr ⟨2,I⟩) hO ?_;rw[hmo];refine jJ 1 (z:=.agg #[.slice none 0 0,.bool false]) n I Tryz.underlying112 qk mZ I (.inr ⟨0,I⟩) hMv ?_;rw[h1];refine al 3 (.agg #[.slice none 0 0,.bool false]) I qk fun b9=>?_;refine bJ 0 0 I I qk I I ?_;refine fin 1 I ?_;rw[show old=⟨[],false⟩ from hold];exact jx (none,0,b9) (aH.nil _ _ _ _) ⟨I,I,I,I,I,I,by rw[hsec,h2];rfl,trivial⟩ rfl rfl
   rw[hsec,h2] at hold;refine au ?_;refine jJ 1 (z:=.map none) area I Tryz.underlying60 qk i9 I (.inr ⟨2,I⟩) hO ?_;rw[hmo];refine jJ 1 (z:=.agg #[.slice none 0 0,.bool false]) n I Tryz.underlying112 qk mZ I (.inr ⟨0,I⟩) hMv ?_;rw[h1];refine al 3 (.agg #[.slice none 0 0,.bool false]) I qk fun b9=>?_;refine bJ 0 0 I I qk I I ?_;refine fin 1 I ?_;rw[show old=s from hold];exact jx (aoV,cV,b9) h3 ⟨I,I,I,I,I,I,by rw[hsec,h2];rfl,trivial⟩ rfl rfl
 rintro ⟨aoV,cV,b9⟩ hV;dsimp only at *
 have back:∀ (P O:PH),bi=none/\hA=em/\(P::O::tl)=(P::O::(cm ins++hs))\/(hA::P::O::tl).Perm (P::O::(cm ins++hs)):=fun P O=>by
  cases hbi:bi with
  | none=>
   left
   rcases hAr with ⟨_,_,g2,g3⟩|⟨b',_,_,_,_,_,g1,_⟩
   ·exact ⟨I,g2,by rw[g3]⟩
   rw[hbi] at g1;cases g1
  | some z=>exact .inr ((hperm P O).2 (by rw[hbi];simp)).symm
 have giveup:∀ {fn:Func} {R:Value->PH->List PH->Prop} {l:Sl},WQ w0 (bodyPost Tryz.prog fn (fK w0 R)) .ret 93 l K (pt b (cK D bo) 62::ho::(cm ins++hs))->WQ w0 (bodyPost Tryz.prog fn (fK w0 R)) .ret 93 l K (pt b9 #[.slice aoV (ba old.vs) cV,.bool old.syn] 119::hA::pt b (cK D bo) 62::ho::tl):=fun {fn R l} h=>by
  refine WQ.drop ?_;rcases back (pt b (cK D bo) 62) ho with ⟨_,_,e⟩|p
  ·rw[e];exact WQ.drop h
  exact WQ.perm p h
 refine jn (σ:=Unit) (fun _=>[(0,SX b),(1,.int .u64 area),(2,.int .i64 n),(3,.slice ao (ba bs) cap),(9,SX b9),(10,.bool (D.sec area n).isSome)]) (fun _=>pt b9 #[.slice aoV (ba old.vs) cV,.bool old.syn] 119::hA::pt b (cK D bo) 62::ho::tl) (fun _=>¬D.dead=true/\¬(n<0\/65536<=n\/64<ba bs)/\¬((D.sec area n).isSome=false/\D.room=0)) ?_ ?_
 ·refine bk (ac9 (bE 3 2 (v:=.bool D.dead) I I I ?_));cases hdead:D.dead with
  | true=>
   refine au ?_;refine jr (giveup ?_);have e:D.write area n bs=(D,30):=by unfold Dk.write;rw[aab hdead]
   rw[e];exact ay I I ⟨Le.refl _,_,I,⟨bo,ho,ins,I,hO,hI⟩,I⟩
  | false=>
   refine fin 1 I (th (dt I ?_));have hd0:¬D.dead=true:=by rw[hdead];simp
   refine ac9 (aX 1 I (fun h2=>?_) (fun h2=>?_))
   ·refine au ?_;refine jr (giveup ?_);have e:D.write area n bs=(D,31):=by unfold Dk.write;rw[aaa hd0,aab (.inl h2)]
    rw[e];exact ay I I ⟨Le.refl _,_,I,⟨bo,ho,ins,I,hO,hI⟩,I⟩
   refine aX 2 I (fun h3=>?_) (fun h3=>?_)
   ·refine au ?_;refine jr (giveup ?_);have e:D.write area n bs=(D,31):=by unfold Dk.write;rw[aaa hd0,aab (.inr (.inl qo))]
    rw[e];exact ay I I ⟨Le.refl _,_,I,⟨bo,ho,ins,I,hO,hI⟩,I⟩
   refine aX 4 I (fun h4=>?_) (fun h4=>?_)
   ·refine au ?_;refine jr (giveup ?_);have e:D.write area n bs=(D,31):=by unfold Dk.write;rw[aaa hd0,aab (.inr (.inr qo))]
    rw[e];exact ay I I ⟨Le.refl _,_,I,⟨bo,ho,ins,I,hO,hI⟩,I⟩
   have hnf:¬(n<0\/65536<=n\/64<ba bs):=qo
   refine fin 2 I<|th (dt I ?_)
   by_cases hfull:(D.sec area n).isSome=false/\D.room=0
   ·refine ac9 ?_;rw[hfull.1];refine au ?_;refine aX 0 I (fun h5=>au ?_) (fun h5=>absurd hfull.2 h5);refine jr (giveup ?_);have e:D.write area n bs=(D,32):=by unfold Dk.write;rw[aaa hd0,aaa hnf,aab hfull]
    rw[e];exact ay I I ⟨Le.refl _,_,I,⟨bo,ho,ins,I,hO,hI⟩,I⟩
   refine ac9 ?_;have hg:¬D.dead=true/\¬(n<0\/65536<=n\/64<ba bs)/\¬((D.sec area n).isSome=false/\D.room=0):=⟨hd0,hnf,hfull⟩;cases hse:(D.sec area n).isSome with
   | true=>
    refine fin 10 I (th (dt I (sk (bl ?_))));exact jx () (by rw[hse,hdead] at hg;exact hg) sb I I
   | false=>
    refine au ?_;refine aX 0 I (fun h5=>absurd ⟨hse,h5⟩ hfull) (fun h5=>fin 2 I (th (dt I (sk (bl ?_)))));exact jx () (by rw[hse,hdead] at hg;exact hg) sb I I
 rintro-⟨hd0,hnf,hfull⟩;have e:D.write area n bs=((D.laid area n bs).stp,if (D.laid area n bs).stp.dead=true then 30 else 0):=by unfold Dk.write;rw[aaa hd0,aaa hnf,aaa hfull]
 rw[e];obtain ⟨D1,hD1⟩:∃ D1:Dk,D1={ D with room:=if (D.sec area n).isSome=true then D.room else D.room-1 }:=⟨_,rfl⟩;refine jn (σ:=Unit) (fun _=>[(0,SX b),(1,.int .u64 area),(2,.int .i64 n),(3,.slice ao (ba bs) cap),(9,SX b9),(10,.bool (D.sec area n).isSome)]) (fun _=>pt b9 #[.slice aoV (ba old.vs) cV,.bool old.syn] 119::hA::pt b (cK D1 bo) 62::ho::tl) (fun _=>True) ?_ ?_
 ·refine ac9 ?_;cases hse:(D.sec area n).isSome with
  | true=>
   refine fin 2 I (th (dt I (sk ?_)));exact jx () trivial sb I (by rw[hD1,aab hse])
  | false=>
   have hr0:0<D.room:=by
    have:¬D.room=0:=fun h=>hfull ⟨hse,h⟩;omega
   refine au ?_;refine ar 0 I (ac qo) (stp 2 2 I I I I (fin 0 I ?_));exact jx () trivial sb I (by rw[hD1,aaa (by rw[hse];simp)];rfl)
 rintro - -
 refine jn (σ:=PH×PH×List PH) (fun _=>[(0,SX b),(1,.int .u64 area),(2,.int .i64 n),(3,.slice ao (ba bs) cap),(9,SX b9),(10,.bool (D.sec area n).isSome)]) (fun s=>pt b9 #[.slice aoV (ba old.vs) cV,.bool old.syn] 119::s.1::pt b (cK D1 bo) 62::s.2.1::s.2.2)
  (fun s=>∃ i1 bi mv i2 q1 q2,dG oP id s.1 bi mv/\MR (lw K) mv (D.ar area)/\dG vC s8 s.2.1 bo (fv (i1++(area,bi,s.1)::i2))/\fY K i1 q1/\fY K i2 q2/\area∉q1.map (·.1)/\(∀ l,cG area l D.areas=q1++(area,l)::q2)/\s.2.2=cm i1++(cm i2++hs)) ?_ ?_
 ·refine au ?_;refine jJ 1 (z:=.map none) area I Tryz.underlying60 qk i9 I (.inr ⟨3,I⟩) hO ?_;rw[hmo];cases hbi:bi with
  | none=>
   rw[hbi] at hmo hAr;rcases hAr with ⟨g1,_,rfl,rfl⟩|⟨b',_,_,_,_,_,g1,_⟩
   ·refine eE 0 True I ST fun b65 h65=>fin 0 I (th (ah h65 I (fun _=>au ?_) (fun h=>absurd trivial h)));refine rk 1 I fun bm=>rj 0 4 area bm I I Tryz.underlying60 i9 I I hO fun ho' hO'=>fin 0 I (WQ.perm (ig _ 2 _ I) (WQ.drop (WQ.perm (aaq _ _ _) (jx (sg bm (.map #[] 0),ho',cm ins++hs) ⟨ins,bm,[],[],D.areas,[],dG.empty _ _,?_,?_,hI,trivial,iC.1 g1,fun l=>by rw[sd g1],I⟩ ⟨I,I,I,I,I,I,trivial⟩ I I))))
    ·unfold Dk.ar;rw[g1];trivial
    rw[sd hmo] at hO';simpa[fv] using hO'
   cases g1
  | some bi=>
   rw[hbi] at hmo hAr;rcases hAr with ⟨_,g1,_⟩|⟨b',i1,mv,i2,q1,q2,g1,g2,g3,g4,g5,g6,hMv,hMR,g9⟩
   ·cases g1
   cases g1;refine eE 0 False I (by simp[s8]) fun b65 h65=>fin 0 I (th (ah h65 I (fun h=>h.elim) (fun _=>sk (jx (hA,ho,tl) ⟨i1,bi,mv,i2,q1,q2,hMv,hMR,by rw[<-g2];exact hO,g5,g6,g4,fun l=>?_,g9⟩ sb I I))));rw[g3];exact x9 g4
 rintro ⟨hA1,ho1,tl1⟩ ⟨i1,bi1,mv,i2,q1,q2,hMv,hMR,hO1,g5,g6,g4,hset,rfl⟩;dsimp only at *;have hb64:ba bs<=64:=qo
 have hk:ba old.vs<=c:=by
  cases hs0:D.sec area n with
  | none=>rw[hold,hs0];simp
  | some s=>rw[hold,hs0];exact (o.secOk hs0).2.1
 have hnone:aoV=none->ba old.vs=0:=fun h=>by
  rcases abq (ba old.vs) with h2|h2
  ·exact h2
  obtain ⟨a,ha⟩:=hV.addr h2 SU;rw[h] at ha;cases ha
 have xC:aH K (ez aoV (ba old.vs) 0 1) (ba old.vs) (ba old.vs) 1 (kU old.vs):=by rw[qA];exact ⟨hV.1,aac _,hV.2.2⟩
 refine ac9 (al 0 (.agg (Array.replicate 64 (.int .u8 0))) I qk fun b11=>au ?_);refine vN 0 (sz:=1) 0 64 I I Tryz.underlying224 qk I I (aac _) SU ?_;simp only[bz,abr,aa7];refine zQ 1 0 (ba bs) I I I (In.tail (_::_::_::_::_::cm i1) (In.tail (cm i2) hin)) x qo (fun u hu=>iZ bs u (aaR hu)) (by show 0+ba bs*1<=64;omega) ?_;refine WL.hs (pt b11 (bv (fE bs)).toArray 224::pt b9 #[.slice aoV (ba old.vs) cV,.bool old.syn] 119::hA1::pt b (cK D1 bo) 62::ho1::(cm i1++(cm i2++hs))) (congrArg (fun z=>pt b11 z 224::pt b9 #[.slice aoV (ba old.vs) cV,.bool old.syn] 119::hA1::pt b (cK D1 bo) 62::ho1::(cm i1++(cm i2++hs))) (QV bs)) ?_
 have xW:aH (pt b11 (bv (fE bs)).toArray 224) (some ⟨b11,0,none⟩) 64 64 1 ((fE bs).map fun b=>Value.int .u8 b.toNat):=by
  have:=(aZ.ofPt (b:=b11) (c:=(bv (fE bs)).toArray) (e:=224) (n:=64) (size:=1) (by simp[bv,xj hb64]) (by simp[maxLen])).isS;simpa[bv] using this
 refine fin 0 I (th (ti (σ:=PH×Option Addr×Nat) (fun _=>[(0,SX b),(1,.int .u64 area),(2,.int .i64 n),(9,SX b9)]) (fun s=>s.1) (fun s=>pt b9 #[.slice s.2.1 (ba old.vs+1) s.2.2,.bool old.syn] 119::hA1::pt b (cK D1 bo) 62::ho1::(cm i1++(cm i2++hs)))
  (fun s=>Le K s.1/\aH s.1 s.2.1 (ba old.vs+1) s.2.2 1 (kU (old.vs++[fE bs]))) ?_ ?_))
 ·refine jH [1,0] 8 [0,2,6,8,5,11,13,14,17] ?_;refine au ?_;refine QL qk 0 (sz:=1) 0 64 I qk I Tryz.underlying224 qk I I (aac _) SU ?_;simp only[bz,abr,aa7];refine QS qk 0 (fE bs) I qk I (.inr ⟨1,I⟩) xW qk (u0 5 qk 0 [5,13,14,17] I qk ?_ ?_)
  ·refine cl 0 I (Gv aoV (ba old.vs) cV hV.2.1) ?_;rintro v77 K77 hs77 ⟨rfl,rfl,rfl⟩;exact bp ST I (aG qk 0 I (lit 0 #[str (fE bs)] I SU qk fun b80=>bp ST I (aG qk 0 I (zz 0 I (.inl I) xC (by rw[qA];exact hnone) (.inr ⟨0,I⟩) (aZ.ofPt (b:=b80) (c:=#[str (fE bs)]) (e:=9) (n:=1) (size:=1) I (by simp[maxLen])).isS I SU qo (by show (ba old.vs+1)*16<=_;omega) (by simp only[maxLen];omega) fun ao81 c81 g81 o81=>WL.frz fun K2 le2 l2=>WL.drop (fF ST le2 (aG qk 1 rfl (stp 0 1 rfl rfl rfl rfl (di (.inl qk) (be qk 0 rfl (WQ.drop (mt (K2,ao81,c81) ⟨le2,by simpa[kU] using o81.isS.le l2⟩ sb rfl rfl)))))))))))
  refine lit 0 #[str (fE bs)] I SU qk fun b80=>bp ST I (aG qk 0 I (cl 0 I (Gv aoV (ba old.vs) cV hV.2.1) ?_));rintro v77 K77 hs77 ⟨rfl,rfl,rfl⟩;exact bp ST I (aG qk 0 I (zz 0 I (.inl I) xC (by rw[qA];exact hnone) (.inr ⟨0,I⟩) (aZ.ofPt (b:=b80) (c:=#[str (fE bs)]) (e:=9) (n:=1) (size:=1) I (by simp[maxLen])).isS I SU qo (by show (ba old.vs+1)*16<=_;omega) (by simp only[maxLen];omega) fun ao81 c81 g81 o81=>WL.frz fun K2 le2 l2=>WL.drop (fF ST le2 (aG qk 1 rfl (stp 0 1 rfl rfl rfl rfl (di (.inl qk) (be qk 0 rfl (WQ.drop (mt (K2,ao81,c81) ⟨le2,by simpa[kU] using o81.isS.le l2⟩ sb rfl rfl)))))))))
 rintro ⟨K2,ao81,c81⟩ ⟨le2,x81⟩;dsimp only at *
 have hsec2:lw K2 (.agg #[.slice ao81 (ba old.vs+1) c81,.bool old.syn]) (io (D.sec area n) bs):=by
  refine ⟨ao81,c81,?_,?_⟩
  ·unfold io;rw[<-hold];simp
  unfold io;rw[<-hold];simpa using x81
 refine sq (bI [pt b (cK D1 bo) 62,ho1,pt b9 #[.slice ao81 (ba old.vs+1) c81,.bool old.syn] 119] 9 [0,2,4,6,8,10,12,14,17] ST qk qk (au ?_));refine vE qk 1 (zv:=.map none) area I Tryz.underlying60 qk i9 I (.inr ⟨1,I⟩) hO1 ?_
 have hmo1:aK area (fv (i1++(area,bi1,hA1)::i2))=some bi1:=by
  have h0:area∉(fv i1).map (·.1):=by rw[qf,pB g5];exact g4
  have:=ya (u:=bi1) (q2:=fv i2) h0;simpa[fv] using this
 rw[hmo1];refine ja qk 1 2 I qk I qk (aG qk 0 I (rj 0 1 n (.agg #[.slice ao81 (ba old.vs+1) c81,.bool old.syn]) I I Tryz.underlying112 mZ I I hMv fun hA2 hMv2=>bp ST I (be qk 0 I (th (WC.drop (WC.perm (aaq _ _ _) (sq (ac9 ?_))))))));have e1:cK D1 bo=cK (D.laid area n bs) bo:=by rw[hD1];rfl
 refine WL.hs (pt b (cK (D.laid area n bs) bo) 62::hA2::ho1::(cm i1++(cm i2++hs))) (by rw[e1]) (cl 1 I (yL b bo (D.laid area n bs) (by have:=o.steps;simp only[Dk.laid];omega) o.left) ?_);rintro v92 K92 hs92 ⟨rfl,rfl,rfl⟩
 have fin:∀ {fn:Func} {R:Value->PH->List PH->Prop} {l:Sl},(∀ m',iO K92 b (D.laid area n bs).stp m'->WQ w0 (bodyPost Tryz.prog fn (fK w0 R)) .ret 93 l K92 (m'++hs))->WQ w0 (bodyPost Tryz.prog fn (fK w0 R)) .ret 93 l K92 (pt b (cK (D.laid area n bs).stp bo) 62::hA2::ho1::(cm i1++(cm i2++hs))):=fun {fn R l} h=>by
  have hm':iO K92 b (D.laid area n bs).stp (pt b (cK (D.laid area n bs).stp bo) 62::ho1::cm (i1++(area,bi1,hA2)::i2)):=by
   refine ⟨bo,ho1,i1++(area,bi1,hA2)::i2,I,by simpa[fv] using hO1,?_⟩;show fY K92 _ (cG area (cG n (io (D.sec area n) bs) (D.ar area)) D.areas);rw[hset];exact (g5.le le2).app ⟨I,⟨_,hMv2,MR.set hsec2 (hMR.imp fun _ _ h=>h.le le2)⟩,g6.le le2⟩
  refine WQ.perm ?_ (h _ hm');unfold cm;rw[aba,aao,aaz,aaz,aax,aaz];exact ((aaq ho1 hA2 _).trans (List.perm_middle.symm.cons ho1)).cons _
 cases hst:(D.laid area n bs).stp.dead with
 | true=>
  exact WL.perm (List.Perm.refl _)<|En.fin 0 I (th<|dY I (ac9 (En.fin 1 I<|adb<|rT (fin fun m' hm'=>ay I I ⟨le2,m',I,hm',I⟩))))
 | false=>
  exact En.fin 0 I<|th (dt I<|sk (ac6<|En.fin 1 I (adb (fin fun m' hm'=>ay I I ⟨le2,m',I,hm',I⟩))))
end
section
theorem wM{κ ν:Type}[DecidableEq κ]{k:κ}:∀ {q:List (κ×ν)},aK k q=none->eC k q=q
 | [],_=>rfl
 | (j,w)::q,h=>by
  by_cases e:k=j
  ·simp[aK,e] at h
  simp only[aK,e,if_false] at h;simp only[eC,e,if_false];rw[wM h]
attribute [local irreducible] Code.wp wpList Calls
def gr(r:Int):Dk:=⟨r,0,[],-1,false⟩
def PB{r:Int}(h:0<=r/\r<=1099511627776):(gr r).Ok 0:=⟨by simp[gr],by simp[gr],by simp[gr],h,by simp[gr],by simp[gr],by simp[gr]⟩
def GL(r:Int)(hr:0<=r/\r<=1099511627776):aj w0 4 [.int .i64 r] K hs
  (fun v K' hs'=>K'=K/\∃ b m,hs'=m++hs/\iO K b (gr r) m/\v=SX b):=by
 refine bH Tryz.func4 ?_;refine ar 1 I (v':=.int .i64 r) (by rw[show (if r<0 then (0:Int) else r)=r from by rw[aaa qo]]) (rk 0 I fun bm=>bd 0 (.agg (cK (gr r) bm)) I (fun w=>by kernel_rfl) (bx 0 I fun b7=>au ?_));exact ay I I ⟨I,b7,_,I,⟨bm,_,[],I,dG.empty _ _,trivial⟩,I⟩
def QR{m:List PH}(b:Nat)(D:Dk)(hm:iO K b D m):aj w0 53 [SX b] K (m++hs)
  (fun v K' hs'=>K'=K/\hs'=m++hs/\v=.bool D.dead):=by
 obtain ⟨bo,ho,ins,rfl,hO,hI⟩:=hm;refine dj Tryz.func53 ?_;refine ac9 (fin 1 I (ac6 (bE 3 0 (v:=.bool D.dead) I I I (au ?_))));exact ay I I ⟨I,I,I⟩
def OP{m:List PH}(b:Nat)(D:Dk)(c:Nat)(o:D.Ok c)(hc:c<=1099511627)(hm:iO K b D m)(area n:Int):
  aj w0 62 [SX b,.int .u64 area,.int .i64 n] K (m++hs)
   (fun v K' hs'=>Le K K'/\hs'=m++hs/\((D.read area n=none/\v=.tuple #[.slice none 0 0,.bool false]) \/
    ∃ bs ao cap,D.read area n=some bs/\ba bs=64/\v=.tuple #[.slice ao (ba bs) cap,.bool true]/\aH K' ao (ba bs) cap 1 (bv bs))):=by
 obtain ⟨bo,ho,ins,rfl,hO,hI⟩:=hm;obtain ⟨bi,hA,tl,hAr,hperm⟩:=tn hI area hs;have hmo:=rV hI hAr;refine dj Tryz.func62 ?_;refine ac9 (fin 2 I (th ?_));cases hbi:bi with
 | none=>
  rw[hbi] at hmo hAr;rcases hAr with ⟨g1,_,rfl,g3⟩|⟨b',_,_,_,_,_,g1,_⟩
  ·have hs0:D.read area n=none:=by unfold Dk.read Dk.sec Dk.ar;rw[g1];rfl
   refine au ?_;refine jJ 1 (z:=.map none) area I Tryz.underlying60 qk i9 I (.inr ⟨1,I⟩) hO ?_;rw[hmo];refine HY 1 (z:=.agg #[.slice none 0 0,.bool false]) n I Tryz.underlying112 qk mZ I (al 3 (.agg #[.slice none 0 0,.bool false]) I qk fun b9=>?_);refine bJ 0 0 I I qk I I ?_;exact fin 1 I (ac5 (fin 2 I (th (dY I (ac9 (fin 2 I (adb (rT (WQ.drop (bL I I I ⟨Le.refl _,I,.inl ⟨hs0,I⟩⟩))))))))))
  cases g1
 | some bi=>
  rw[hbi] at hmo hAr;rcases hAr with ⟨_,g1,_⟩|⟨b',i1,mv,i2,q1,q2,g1,g2,g3,g4,g5,g6,hMv,hMR,g9⟩
  ·cases g1
  cases g1;have hp:=(hperm (pt b (cK D bo) 62) ho).2 (by rw[hbi];simp);refine WC.perm hp ?_;have hsec:D.sec area n=aK n (D.ar area):=rfl;rcases MR.get n hMR with ⟨h1,h2⟩|⟨v,s,h1,h2,aoV,cV,rfl,h3⟩
  ·have hs0:D.read area n=none:=by unfold Dk.read;rw[hsec,h2];rfl
   refine au ?_;refine jJ 1 (z:=.map none) area I Tryz.underlying60 qk i9 I (.inr ⟨2,I⟩) hO ?_;rw[hmo];refine jJ 1 (z:=.agg #[.slice none 0 0,.bool false]) n I Tryz.underlying112 qk mZ I (.inr ⟨0,I⟩) hMv ?_;rw[h1];refine al 3 (.agg #[.slice none 0 0,.bool false]) I qk fun b9=>?_;refine bJ 0 0 I I qk I I ?_;exact fin 1 I (ac5 (fin 2 I (th (dY I (ac9 (fin 2 I (adb (rT (WQ.drop (WQ.perm hp.symm (bL I I I ⟨Le.refl _,I,.inl ⟨hs0,I⟩⟩)))))))))))
  obtain ⟨k1,k2,k3⟩:=o.secOk (show D.sec area n=some s by rw[hsec,h2])
  have hlen:0<ba s.vs:=by
   rcases abq (ba s.vs) with h|h
   ·exact absurd (aaX h) k1
   exact h
  have hs0:D.read area n=some (s.vs.getLastD []):=by unfold Dk.read;rw[hsec,h2];rfl
  have hget:(kU s.vs)[ba s.vs-1]?=some (str (s.vs.getLastD [])):=by
   unfold kU;rw[aa4,abF,List.getLast?_eq_getElem?];rw[aae qo]
   rfl
  have hl64:ba (s.vs.getLastD [])=64:=by
   rw[abF,acu k1];exact k3 _ (List.getLast_mem k1)
  refine au ?_;refine jJ 1 (z:=.map none) area I Tryz.underlying60 qk i9 I (.inr ⟨2,I⟩) hO ?_;rw[hmo];refine jJ 1 (z:=.agg #[.slice none 0 0,.bool false]) n I Tryz.underlying112 qk mZ I (.inr ⟨0,I⟩) hMv ?_;rw[h1];refine al 3 (.agg #[.slice none 0 0,.bool false]) I qk fun b9=>?_;refine bJ 0 0 I I qk I I ?_;exact fin 1 I (ac5 (fin 2 I (th (dt I (sk (ac6 (bE 1 0 I I I (bE 1 0 I I I (ar 1 I (ac qo) (fe 0 (ba s.vs-1) I qo I h3 hget fun a29 hc29=>ld 0 I (.inl I) hc29 (tk 0 I qk fun b31 c31 g31 x31=>WL.frz fun K2 le2 l2=>fin 2 I (adb (WQ.drop (WQ.perm hp.symm (bL I I I ⟨le2,I,.inr ⟨_,_,c31,hs0,hl64,I,x31.le l2⟩⟩)))))))))))))))
def QF{m:List PH}(b:Nat)(D:Dk)(c:Nat)(o:D.Ok c)(hc:c<=1099511627)(hm:iO K b D m)(area:Int):
  aj w0 25 [SX b,.int .u64 area] K (m++hs)
   (fun v K' hs'=>K'=K/\∃ m',hs'=m'++hs/\iO K b (D.free area).1 m'/\v=.int .i64 (D.free area).2):=by
 obtain ⟨bo,ho,ins,rfl,hO,hI⟩:=hm;have hr:=o.room;have har:=(o.arNodup area).2;refine dj Tryz.func25 ?_;refine ac9 (fin 1 I (ac5 (bE 3 0 (v:=.bool D.dead) I I I ?_)));cases hd:D.dead with
 | true=>
  have e:D.free area=(D,30):=by unfold Dk.free;rw[aab hd]
  rw[e];refine au ?_;exact ay I I ⟨I,_,I,⟨bo,ho,ins,I,hO,hI⟩,I⟩
 | false=>
  refine cl 2 I (yL b bo D (by have:=o.steps;omega) o.left) ?_;rintro v11 K11 hs11 ⟨rfl,rfl,rfl⟩;cases hst:D.stp.dead with
  | true=>
   have e:D.free area=(D.stp,30):=by unfold Dk.free;rw[aaa (by rw[hd];simp),aab hst]
   rw[e];refine au ?_;exact ay I I ⟨I,pt b (cK D.stp bo) 62::ho::cm ins,I,⟨bo,ho,ins,I,hO,hI⟩,I⟩
  | false=>
   have e:D.free area=({ D.stp with room:=D.room+(ba (D.ar area):Int),areas:=eC area D.areas },0):=by unfold Dk.free;rw[aaa (by rw[hd];simp),aaa (by rw[hst];simp)]
   rw[e];refine fin 1 I (th (dt I (sk (th ?_))));obtain ⟨bi,hA,tl,hAr,hperm⟩:=tn hI area hs;have hmo:=rV hI hAr;cases hbi:bi with
   | none=>
    rw[hbi] at hmo hAr;rcases hAr with ⟨g1,_,rfl,g3⟩|⟨b',_,_,_,_,_,g1,_⟩
    ·have hl0:D.ar area=[]:=by unfold Dk.ar;rw[g1];rfl
     refine sq (bI [pt b (cK D.stp bo) 62,ho] 14 [0,2,4,6,8,10,12,14,16,18,20,22,24,26,29] ST qk qk (dC qk 3 0 (v:=.int .i64 D.room) I qk I I (au ?_)));refine G0 qk 1 (zv:=.map none) area I qk I Tryz.underlying60 qk i9 I (.inr ⟨1,I⟩) hO ?_;rw[hmo];refine QM qk 0 I qk I Tryz.underlying112 (bQ qk 0 I (v':=.int .i64 (D.room+(ba (D.ar area):Int))) (by rw[hl0];exact ac (by simp;omega)) (au ?_));refine HX 1 1 area I I Tryz.underlying60 i9 I hO fun ho' hO'=>au ?_;rw[wM hmo] at hO';refine ay I I ⟨I,pt b (cK { D.stp with room:=D.room+(ba (D.ar area):Int),areas:=eC area D.areas } bo) 62::ho'::cm ins,I,⟨bo,ho',ins,I,hO',?_⟩,I⟩;show fY K11 ins (eC area D.areas);rw[wM g1];exact hI
    cases g1
   | some bi=>
    rw[hbi] at hmo hAr;rcases hAr with ⟨_,g1,_⟩|⟨b',i1,mv,i2,q1,q2,g1,g2,g3,g4,g5,g6,hMv,hMR,rfl⟩
    ·cases g1
    cases g1;have hp:=(hperm (pt b (cK D.stp bo) 62) ho).2 (by rw[hbi];simp);refine WC.perm hp (sq (jH [1,2,0] 14 [0,2,4,6,8,10,12,14,16,18,20,22,24,26,29] ?_));refine dC qk 3 0 (v:=.int .i64 D.room) I qk I I (au ?_);refine G0 qk 1 (zv:=.map none) area I qk I Tryz.underlying60 qk i9 I (.inr ⟨1,I⟩) hO ?_;rw[hmo];refine RG qk 0 I qk I Tryz.underlying112 (.inr ⟨2,I⟩) hMv ?_;rw[hMR.len];refine bQ qk 0 I (v':=.int .i64 (D.room+(ba (D.ar area):Int))) (ac qo) (aG qk 2 I (stp 0 1 I I I I (di (.inl qk) (be qk 0 I (th (WC.drop (ac9 (au ?_))))))));refine HX 1 1 area I I Tryz.underlying60 i9 I hO fun ho' hO'=>au ?_;refine ay I I ⟨I,pt b (cK { D.stp with room:=D.room+(ba (D.ar area):Int),areas:=eC area D.areas } bo) 62::ho'::cm (i1++i2),by simp[cm];rfl,⟨bo,ho',i1++i2,rfl,?_,?_⟩,rfl⟩
    ·rw[g2] at hO';have h0:area∉(fv i1).map (·.1):=by rw[qf,pB g5];exact g4
     have:=yb (u:=bi) (q2:=fv i2) h0;have h3:fv (i1++(area,bi,hA)::i2)=fv i1++(area,bi)::fv i2:=by simp[fv]
     rw[h3,this] at hO';simpa[fv] using hO'
    show fY K11 (i1++i2) (eC area D.areas);rw[g3,yb g4];exact g5.app g6
end
section
def il(ks:List Int)(x:Int×fg):Int×fg:=if x.1∈ks then (x.1,kM x.2) else x
def t5(ks:List Int)(x:Int×fg):(il ks x).1=x.1:=by unfold il;split <;> rfl
def JM(ks:List Int)(l:Ar):(l.map (il ks)).map (·.1)=l.map (·.1):=by
 rw[aa5];exact abC fun x _=>t5 ks x
def A4{ks:List Int}{k:Int}{x:Int×fg}(h:x.1≠k):il (ks++[k]) x=il ks x:=by
 unfold il
 by_cases e:x.1∈ks
 ·rw[aab e,aab (by simp[e])]
 rw[aaa e,aaa (by simp[e,h])]
theorem EE{k:Int}{s:fg}{ks:List Int}(hk:k∉ks):∀ {l:Ar},(l.map (·.1)).Nodup->(k,s)∈l.map (il ks)->cG k (kM s) (l.map (il ks))=l.map (il (ks++[k]))
 | [],_,h=>by simp at h
 | (j,t)::l,hnd,h=>by
  simp only[aao,abk] at hnd
  by_cases e:k=j
  ·subst e;have hf:il ks (k,t)=(k,t):=by unfold il;rw[aaa hk]
   have hf2:il (ks++[k]) (k,t)=(k,kM t):=by unfold il;rw[aab ST]
   have hst:s=t:=by
    rw[aao,aau,hf] at h;rcases h with h|h
    ·exact (aai _ _ _ _ ▸ h).2
    exfalso
    obtain ⟨x,hx,hxe⟩:=aak.1 h;have:x.1=k:=by rw[<-t5 ks x,hxe]
    exact hnd.1<|aak.2 ⟨x,hx,this⟩
   subst hst;rw[aao,hf,aao,hf2];simp only[cG,if_true]
   congr 1
   exact abC fun x hx=>(A4 (fun h=>hnd.1<|aak.2 ⟨x,hx,h⟩)).symm
  have hj:(il ks (j,t)).1=j:=t5 ks _
  have h2:(k,s)∈l.map (il ks):=by
   rw[aao,aau] at h;rcases h with h|h
   ·exact absurd (by rw[<-h] at hj;exact hj) e
   exact h
  rw[aao,aao,A4 (by exact fun h=>e h.symm)];cases hq:il ks (j,t) with
  | mk a b=>
   rw[hq] at hj;dsimp only at hj;subst hj;simp only[cG,e,if_false];rw[EE hk hnd.2 h2]
def M1{ks:List Int}{l:Ar}(h:∀ x∈l,x.1∈ks):l.map (il ks)=l.map fun x=>(x.1,kM x.2):=
 abC fun x hx=>by unfold il;rw[aab (h x hx)]
def oh:Ar->List Int->Nat
 | [],_=>0
 | x::l,ks=>(if x.1∈ks then 0 else 1)+oh l ks
theorem EB(ks:List Int)(k:Int):∀ l:Ar,oh l (ks++[k])<=oh l ks
 | []=>aac _
 | x::l=>by
  have:=EB ks k l;simp only[oh]
  by_cases e:x.1∈ks
  ·rw[aab e,aab (by simp[e])];omega
  rw[aaa e];split <;> omega
theorem EA{ks:List Int}{k:Int}(hk:k∉ks):∀ {l:Ar},k∈l.map (·.1)->oh l (ks++[k])<oh l ks
 | [],h=>by simp at h
 | x::l,h=>by
  simp only[oh]
  by_cases e:x.1=k
  ·have:=EB ks k l;rw[aab (by simp[e]),aaa (by rw[e];exact hk)];omega
  have h2:k∈l.map (·.1):=by
   rw[aao,aau] at h;rcases h with h|h
   ·exact absurd h.symm e
   exact h
  have:=EA hk h2
  by_cases e1:x.1∈ks
  ·rw[aab e1,aab (by simp[e1])];omega
  rw[aaa e1,aaa (by simp[e1,e])];omega
attribute [local irreducible] Code.wp wpList Calls
def PZ{m:List PH}(b:Nat)(D:Dk)(c:Nat)(o:D.Ok c)(hc:c<=1099511627)(hm:iO K b D m)(area:Int):
  aj w0 103 [SX b,.int .u64 area] K (m++hs)
   (fun v K' hs'=>K'=K/\∃ m',hs'=m'++hs/\iO K b (D.sync area).1 m'/\v=.int .i64 (D.sync area).2):=by
 obtain ⟨bo,ho,ins,rfl,hO,hI⟩:=hm;have hr:=o.room;refine dj Tryz.func103 ?_;refine ac9 (fin 1 I (ac5 (bE 3 0 (v:=.bool D.dead) I I I ?_)));cases hd:D.dead with
 | true=>
  have e:D.sync area=(D,30):=by unfold Dk.sync;rw[aab hd]
  rw[e];refine au ?_;exact ay I I ⟨I,_,I,⟨bo,ho,ins,I,hO,hI⟩,I⟩
 | false=>
  refine cl 2 I (yL b bo D (by have:=o.steps;omega) o.left) ?_;rintro v11 K11 hs11 ⟨rfl,rfl,rfl⟩;cases hst:D.stp.dead with
  | true=>
   have e:D.sync area=(D.stp,30):=by unfold Dk.sync;rw[aaa (by rw[hd];simp),aab hst]
   rw[e];refine au ?_;exact ay I I ⟨I,pt b (cK D.stp bo) 62::ho::cm ins,I,⟨bo,ho,ins,I,hO,hI⟩,I⟩
  | false=>
   have e:D.sync area=({ D.stp with areas:=D.synA area },0):=by unfold Dk.sync;rw[aaa (by rw[hd];simp),aaa (by rw[hst];simp)]
   rw[e];refine fin 1 I (th (dt I (sk (th ?_))));obtain ⟨bi,hA,tl,hAr,hperm⟩:=tn hI area hs;have hmo:=rV hI hAr;cases hbi:bi with
   | none=>
    rw[hbi] at hmo hAr;rcases hAr with ⟨g1,_,rfl,g3⟩|⟨b',_,_,_,_,_,g1,_⟩
    ·refine au ?_;refine jJ 1 (z:=.map none) area I Tryz.underlying60 qk i9 I (.inr ⟨1,I⟩) hO ?_;rw[hmo];refine Rr 0 I Tryz.underlying112 fun r=>au ?_;refine loop (σ:=Unit) (fun _=>[(21,SX r)]) (fun _=>K11) (fun _=>sg r (.mapIter none 0 #[] 0)::pt b (cK D.stp bo) 62::ho::(cm ins++hs)) (fun _=>True) (fun _=>0) () trivial sb I I ?_;rintro - -;refine ac9 (Rt 0 I (.inr ⟨0,I⟩) (fin 1 I (th (sq (dt I (ex (xt (xt (xb (ac6 (fin 1 I (adb (WQ.drop (ay I I ⟨I,pt b (cK D.stp bo) 62::ho::cm ins,I,⟨bo,ho,ins,I,hO,?_⟩,I⟩))))))))))))));show fY K11 ins (D.synA area);unfold Dk.synA;rw[g1];exact hI
    cases g1
   | some bi=>
    rw[hbi] at hmo hAr;rcases hAr with ⟨_,g1,_⟩|⟨b',i1,mv,i2,q1,q2,g1,g2,g3,g4,g5,g6,hMv,hMR,rfl⟩
    ·cases g1
    cases g1;have hp:=(hperm (pt b (cK D.stp bo) 62) ho).2 (by rw[hbi];simp);have hnd:=(o.arNodup area).1;have hga:aK area D.areas=some (D.ar area):=by rw[g3];exact ya g4
    refine WC.perm hp (au ?_);refine jJ 1 (z:=.map none) area I Tryz.underlying60 qk i9 I (.inr ⟨2,I⟩) hO ?_;rw[hmo];refine HT 0 I Tryz.underlying112 (.inr ⟨0,I⟩) hMv fun r hi hI0=>au ?_
    refine loop (σ:=PH×PH×List (Int×Value)×List Int) (fun _=>[(0,SX b),(1,.int .u64 area),(21,SX r)]) (fun _=>K11)
     (fun s=>s.1::s.2.1::pt b (cK D.stp bo) 62::ho::(cm i1++(cm i2++hs))) (fun s=>mf oP id s.2.1 s.1 bi r s.2.2.1 s.2.2.2/\MR (lw K11) s.2.2.1 ((D.ar area).map (il s.2.2.2))) (fun s=>oh (D.ar area) s.2.2.2)
     (hi,hA,mv,[]) ⟨hI0,by rw[show (D.ar area).map (il [])=D.ar area from by rw[abC (g:=id) (fun x _=>by simp[il])];simp];exact hMR⟩ sb I I ?_
    rintro ⟨hi,hA,mv,ks⟩ ⟨hJ,hR⟩;dsimp only at *;have hkeys:mv.map (·.1)=(D.ar area).map (·.1):=by rw[hR.keys,JM]
    refine ac9 (HU 0 0 I (.inr ⟨1,I⟩) I hJ (by rw[hkeys];exact hnd) (fun k v hi' hmem hnk hS=>?_) (fun hall=>?_))
    ·obtain ⟨s,hsm,ao,cv,rfl,hV⟩:=hR.mem hmem;have hkm:k∈(D.ar area).map (·.1):=by rw[<-hkeys];exact aak.2 ⟨_,hmem,I⟩
     have hs2:(k,s)∈D.ar area:=by
      obtain ⟨x,hx,hxe⟩:=aak.1 hsm;have hx1:x.1=k:=by rw[<-t5 ks x,hxe]
      have:il ks x=x:=by unfold il;rw[aaa (by rw[hx1];exact hnk)]
      rw[this] at hxe;rw[<-hxe];exact hx
     obtain ⟨l0,hl1,hl2⟩:=Dk.ar_mem _ hs2;rw[hl2] at hs2;obtain ⟨v1,v2,_⟩:=o.vs _ hl1 _ hs2
     replace v2:ba s.vs<=c:=v2
     replace v1:s.vs≠[]:=v1
     have hlen:0<ba s.vs:=by
      rcases abq (ba s.vs) with h|h
      ·exact absurd (aaX h) v1
      exact h
     have hlast:((kU s.vs).drop ((ba s.vs-1)*1)).take (1*1)=kU [s.vs.getLastD []]:=by
      unfold kU
      have kZ:s.vs.drop (ba s.vs-1)=[s.vs.getLast v1]:=by
       rw[aaF qo,List.getLast_eq_getElem,abh qo]
      rw[aah,aah,<-List.map_drop,<-List.map_take,kZ];rw[abF,acu v1]
      rfl
     have hcut:=hV.cut (ba s.vs-1) 1 qo hlast;refine au ?_;refine HW 0 I (.inr ⟨1,I⟩) (.inr ⟨0,I⟩) hS (al 2 (.agg #[.slice none 0 0,.bool false]) I qk fun b6=>?_);refine bJ 1 0 I I qk I I ?_;refine fin 0 I (th (jH [3,4,0] 16 [0,2,4,6,8,10,12,14,16,18,20,22,24,26,28,31] ?_));refine au ?_;refine vE qk 1 (zv:=.map none) area I Tryz.underlying60 qk i9 I (.inr ⟨1,I⟩) hO ?_;rw[hmo];refine au ?_;refine bQ qk 1 I (v':=.int .i64 (ba s.vs-1:Nat)) (by rw[show ((ba s.vs:Nat):Int)-1=((ba s.vs-1:Nat):Int) from qo];exact ac qo) (q9 qk 0 (ba s.vs-1) 1 I I I (by simp;omega) (by have:=hV.2.1;omega) (me qk 0 (.agg #[.slice (ez ao cv (ba s.vs-1) 1) 1 (cv-(ba s.vs-1)),.bool true]) rfl (fun w=>by kernel_rfl) (au ?_)));refine Rs 0 2 k (.agg #[.slice (ez ao cv (ba s.vs-1) 1) 1 (cv-(ba s.vs-1)),.bool true]) I I Tryz.underlying112 mZ I I hS.1 ?_ fun hA2 hJ2=>?_
     ·cases hg:aK k mv with
      | some u=>rfl
      | none=>exact absurd (aak.2 ⟨_,hmem,rfl⟩) (iC.1 hg)
     refine bp ST I (be qk 0 I (bl (WQ.drop (bc (x:=(hi,hA,mv,ks)) (hi',hA2,cG k _ mv,ks++[k]) ⟨I,I,I,trivial⟩ I I ⟨hJ2,?_⟩ (EA hnk hkm)))));dsimp only;rw[<-EE hnk hnd hsm];exact hR.set ⟨_,_,I,hcut⟩
    refine fin 1 I<|th (sq<|dt I (ex<|xt (xt<|xb (ac6<|fin 1 I (adb (WQ.drop ?_))))))
    have hall2:∀ x∈D.ar area,x.1∈ks:=fun x hx=>by
     have:x.1∈mv.map (·.1):=by rw[hkeys];exact aak.2 ⟨x,hx,I⟩
     obtain ⟨y,hy,hye⟩:=aak.1 this;rw[<-hye];exact hall y hy
    have hm':iO K11 b { D.stp with areas:=D.synA area } (pt b (cK D.stp bo) 62::ho::cm (i1++(area,bi,hA)::i2)):=by
     refine ⟨bo,ho,i1++(area,bi,hA)::i2,I,?_,?_⟩
     ·rw[g2] at hO;simpa[fv] using hO
     show fY K11 _ (D.synA area);unfold Dk.synA;rw[hga];dsimp only
     rw[show cG area ((D.ar area).map fun x=>(x.1,kM x.2)) D.areas=q1++(area,(D.ar area).map fun x=>(x.1,kM x.2))::q2 from by
      conv=>lhs;rw[g3]
      exact x9 g4]
     rw[M1 hall2] at hR;exact g5.app ⟨I,⟨_,hJ.map,hR⟩,g6⟩
    refine WQ.perm ?_ (ay I I ⟨I,_,I,hm',I⟩);unfold cm;rw[aba,aao,aaz,aaz,aax,aaz];exact ((aaq (pt b (cK D.stp bo) 62) hA _).trans (((aaq ho hA _).trans (List.perm_middle.symm.cons ho)).cons _))
end
section
def swp(i j:Nat)(xs:List Nat):List Nat:=(xs.set i (xs.getD j 0)).set j (xs.getD i 0)
def n5(i j:Nat)(xs:List Nat):ba (swp i j xs)=ba xs:=by simp[swp]
def EF{i j:Nat}{xs:List Nat}(hi:i<ba xs)(hj:j<ba xs)(k:Nat):(swp i j xs)[k]?=if k=j then some (xs.getD i 0) else if k=i then some (xs.getD j 0) else xs[k]?:=by
 unfold swp;rw[List.getElem?_set]
 by_cases e1:j=k
 ·rw[aab e1,aab e1.symm,aab (by simpa using hj)]
 rw[aaa e1,aaa (Ne.symm e1),List.getElem?_set]
 by_cases e2:i=k
 ·rw[aab e2,aab e2.symm,aab qo]
 rw[aaa e2,aaa (Ne.symm e2)]
structure cz (a b:Nat) (xs ys:List Nat):Prop where
 len:ba ys=ba xs
 out:∀ i,i<a\/b<=i->ys[i]?=xs[i]?
 perm:ys.Perm xs
theorem cz.refl(a b:Nat)(xs:List Nat):cz a b xs xs:=⟨rfl,fun _ _=>rfl,List.Perm.refl _⟩
theorem cz.trans{a b:Nat}{xs ys zs:List Nat}(h:cz a b xs ys)(g:cz a b ys zs):cz a b xs zs:=
 ⟨g.len.trans h.len,fun i hi=>(g.out i hi).trans (h.out i hi),g.perm.trans h.perm⟩
def cz.wide{a b c d:Nat}{xs ys:List Nat}(h:cz a b xs ys)(h1:c<=a)(h2:b<=d):cz c d xs ys:=
 ⟨h.len,fun i hi=>h.out i qo,h.perm⟩
def KY{i j:Nat}{xs:List Nat}(hi:i<ba xs)(hj:j<ba xs):(swp i j xs).Perm xs:=by
 rw[List.perm_iff_count];intro v;unfold swp;have hgi:xs.getD i 0=xs[i]:=by rw[aaB,aae hi];rfl
 have hgj:xs.getD j 0=xs[j]:=by rw[aaB,aae hj];rfl
 rw[hgi,hgj,List.count_set (by simpa using hj),List.count_set hi]
 by_cases e:i=j
 ·subst e
  simp
  by_cases h:xs[i]=v
  ·have:0<List.count v xs:=List.count_pos_iff.2 (by rw[<-h];exact acn hi);simp[h];omega
  simp[h]
 have h3:(xs.set i xs[j])[j]'(by simpa using hj)=xs[j]:=by rw[List.getElem_set_ne (fun h=>e h)]
 rw[h3]
 have c1:(if (xs[i] == v)=true then 1 else 0)<=List.count v xs:=by
  split
  ·rename_i h;have h:=eq_of_beq h;exact List.count_pos_iff.2 (by rw[<-h];exact acn hi)
  exact aag _
 omega
theorem cz.swp{a b i j:Nat}{xs:List Nat}(h1:a<=i/\i<b)(h2:a<=j/\j<b)(hb:b<=ba xs):cz a b xs (swp i j xs):=
 ⟨n5 i j xs,fun k hk=>by rw[EF qo qo,aaa qo,aaa qo],KY qo qo⟩
def dZ(a b:Nat)(xs:List Nat):Prop:=∀ i j,a<=i->i<j->j<b->xs.getD i 0<=xs.getD j 0
def kT(l:List Nat):List Value:=l.map fun x=>Value.int .u64 (x:Nat)
abbrev kI(kd:Bool):IntKind:=match kd with|true=>.u64|false=>.i64
abbrev sf(kd:Bool)(a b:Nat):Nat:=match kd with|true=>a|false=>b
def kY(kd:Bool)(l:List Nat):List Value:=l.map fun x=>Value.int (kI kd) ((x:Nat):Int)
def fX(kd:Bool)(n:Int):Value:=.int (kI kd) n
def kA(kd:Bool)(pre:List Value)(xs:List Nat)(post:List Value):Array Value:=(pre++kY kd xs++post).toArray
def cI{kd:Bool}{pre:List Value}{xs:List Nat}{post:List Value}{i:Nat}(h:i<ba xs):(kA kd pre xs post)[ba pre+i]?=some (.int (kI kd) ((xs.getD i 0:Nat):Int)):=by
 unfold kA;rw[List.getElem?_toArray,aax,aa9 qo,abx,aa3 (by simpa[kY] using h)];simp[kY,h,aaB]
def fB{kd:Bool}{pre:List Value}{xs:List Nat}{post:List Value}{i v:Nat}(h:i<ba xs):(kA kd pre xs post).setIfInBounds (ba pre+i) (.int (kI kd) ((v:Nat):Int))=kA kd pre (xs.set i v) post:=by
 unfold kA;rw[List.setIfInBounds_toArray,aax,acr _ _ qo,abx,List.set_append_left _ _ (by simpa[kY] using h)];simp[kY]
def O6{kd:Bool}{g e:Nat}{pre:List Value}{xs:List Nat}{post:List Value}{cap:Nat}(hc:ba xs<=cap):aH (pt g (kA kd pre xs post) e) (some ⟨g,ba pre,none⟩) (ba xs) cap 1 (kY kd xs):=by
 refine ⟨by simp[kY],hc,fun j u hu=>⟨_,I,?_⟩⟩
 have hj:j<ba xs:=by
  have:=(aas.1 hu).1;simpa[kY] using this
 rw[bz];refine bR.pt ?_;rw[cI hj];simp[kY,hj] at hu;rw[<-hu];simp[aaB,hj]
end
section
def lz(a i j:Nat)(xs:List Nat):Prop:=∀ p q,a<=p->p<q->q<=i->q≠j->xs.getD p 0<=xs.getD q 0
def lz.start{a i:Nat}{xs:List Nat}(h:dZ a i xs):lz a i i xs:=fun p q h1 h2 h3 h4=>h p q h1 h2 qo
def lz.done{a i:Nat}{xs:List Nat}(h:lz a i a xs):dZ a (i+1) xs:=fun p q h1 h2 h3=>h p q h1 h2 qo qo
def lz.stop{a i j:Nat}{xs:List Nat}(h:lz a i j xs)(hj:a<j)(hle:xs.getD (j-1) 0<=xs.getD j 0):dZ a (i+1) xs:=fun p q h1 h2 h3=>by
 by_cases e:q=j
 ·subst e
  by_cases e2:p=q-1
  ·subst e2;exact hle
  exact aat (h p (q-1) h1 qo qo qo) hle
 exact h p q h1 h2 qo e
def lI{i j:Nat}{xs:List Nat}(hi:i<ba xs)(hj:j<ba xs)(k:Nat):(swp i j xs).getD k 0=if k=j then xs.getD i 0 else if k=i then xs.getD j 0 else xs.getD k 0:=by
 rw[aaB,EF hi hj]
 split
 ·rfl
 split
 ·rfl
 rw[aaB]
def lz.swap{a i j:Nat}{xs:List Nat}(h:lz a i j xs)(hj:a<j)(hi:j<=i)(hl:i<ba xs)(hlt:xs.getD j 0<xs.getD (j-1) 0):lz a i (j-1) (swp j (j-1) xs):=fun p q h1 h2 h3 h4=>by
 rw[lI qo qo,lI qo qo];rw[aaa h4]
 by_cases e1:q=j
 ·rw[aab e1]
  by_cases e2:p=j-1
  ·rw[aab e2];omega
  rw[aaa e2,aaa qo];exact h p (j-1) h1 qo qo qo
 rw[aaa e1]
 by_cases e2:p=j-1
 ·rw[aab e2];exact h j q qo qo h3 e1
 rw[aaa e2]
 by_cases e3:p=j
 ·rw[aab e3];exact h (j-1) q qo qo h3 e1
 rw[aaa e3];exact h p q h1 h2 h3 e1
def dZ.zero(a:Nat)(xs:List Nat):dZ a (a+1) xs:=fun i j h1 h2 h3=>by omega
attribute [local irreducible] Code.wp wpList Calls
def Rq(kd:Bool)(x:Nat):aj w0 (sf kd 221 211) [.int (kI kd) ((x:Nat):Int)] K hs (fun v K' hs'=>K'=K/\hs'=hs/\v=.bool false):=by
 cases kd
 let kd:Bool:=false
 rewrite [show sf false=sf kd from rfl]
 try rewrite [show kI false=kI kd from rfl]
 refine enter Tryz.func211 qk I I I ?_
 rotate_left
 let kd:Bool:=true
 rewrite [show sf true=sf kd from rfl]
 try rewrite [show kI true=kI kd from rfl]
 refine enter Tryz.func221 qk I I I ?_
 rotate_left
 all_goals
  exact ac9 (fin 1 I<|ac6 (aX 2 I (fun h=>absurd I h) (fun h=>fin 1 I<|adb<|ay I I ⟨I,I,I⟩)))
def kJ(kd:Bool)(x y:Nat):aj w0 (sf kd 198 181) [.int (kI kd) ((x:Nat):Int),.int (kI kd) ((y:Nat):Int)] K hs (fun v K' hs'=>K'=K/\hs'=hs/\v=.bool (decide (x<y))):=by
 cases kd
 let kd:Bool:=false
 rewrite [show sf false=sf kd from rfl]
 try rewrite [show kI false=kI kd from rfl]
 refine enter Tryz.func181 qk I I I ?_
 rotate_left
 let kd:Bool:=true
 rewrite [show sf true=sf kd from rfl]
 try rewrite [show kI true=kI kd from rfl]
 refine enter Tryz.func198 qk I I I ?_
 rotate_left
 all_goals
  refine ac9 (fin 1 I (ac6 (cl 1 I (Rq kd x) ?_)));rintro v6 K6 hs6 ⟨rfl,rfl,rfl⟩
  by_cases h:x<y
  ·refine aX 8 I (fun h15=>fin 2 I (adb ?_)) (fun h15=>absurd qo h15);exact ay I I ⟨I,I,by rw[decide_eq_true h]⟩
  refine aX 8 I (fun h15=>absurd h15 qo) (fun h15=>fin 2 I (adb ?_));exact ay I I ⟨I,I,by rw[decide_eq_false h]⟩
def RA(kd:Bool)(g cap:Nat)(pre post:List Value)(xs:List Nat)(a b:Nat)(hab:a<=b)(hb:b<=ba xs)(hc:ba xs<=cap)(hl:ba xs<=1099511627776):
  aj w0 (sf kd 192 175) [.slice (some ⟨g,ba pre,none⟩) (ba xs) cap,.int .i64 (a:Nat),.int .i64 (b:Nat)] K (pt g (kA kd pre xs post) (sf kd 37 3)::hs)
   (fun v K' hs'=>K'=K/\∃ ys,hs'=pt g (kA kd pre ys post) (sf kd 37 3)::hs/\cz a b xs ys/\dZ a b ys):=by
 cases kd
 let kd:Bool:=false
 rewrite [show sf false=sf kd from rfl]
 try rewrite [show kA false=kA kd from rfl]
 refine enter Tryz.func175 qk I I I ?_
 rotate_left
 let kd:Bool:=true
 rewrite [show sf true=sf kd from rfl]
 try rewrite [show kA true=kA kd from rfl]
 refine enter Tryz.func192 qk I I I ?_
 rotate_left
 all_goals
  refine ac9 (ar 1 I (ac (x:=((a+1:Nat):Int)) qo)<|fin 1 I (th<|bk ?_))
  refine loop (σ:=Nat×List Nat) (fun s=>[(0,.slice (some ⟨g,ba pre,none⟩) (ba xs) cap),(1,.int .i64 (a:Nat)),(2,.int .i64 (b:Nat)),(6,.int .i64 s.1)]) (fun _=>K) (fun s=>pt g (kA kd pre s.2 post) (sf kd 37 3)::hs)
   (fun s=>a+1<=s.1/\(s.1<=b\/s.1=a+1)/\cz a b xs s.2/\dZ a s.1 s.2) (fun s=>b-s.1) (a+1,xs) ⟨aac _,.inr rfl,cz.refl _ _ _,dZ.zero _ _⟩ ⟨rfl,rfl,rfl,rfl,trivial⟩ rfl rfl ?_
  rintro ⟨i,ys⟩ ⟨hi1,hi2,hP,hS⟩;dsimp only at *;refine sq (ac9 (af 2 I fun b12 h12=>fin 0 I (th (ah h12 I (fun e2=>?_) (fun e2=>?_)))))
  ·have hib:i<b:=qo
   refine sk<|th (sq<|bk (ac9 (fin 2 I<|th (bk ?_))))
   refine loop (σ:=Nat×List Nat) (fun s=>[(0,.slice (some ⟨g,ba pre,none⟩) (ba xs) cap),(1,.int .i64 (a:Nat)),(2,.int .i64 (b:Nat)),(6,.int .i64 (i:Nat)),(7,.int .i64 s.1)]) (fun _=>K) (fun s=>pt g (kA kd pre s.2 post) (sf kd 37 3)::hs)
    (fun s=>a<=s.1/\s.1<=i/\cz a b xs s.2/\lz a i s.1 s.2) (fun s=>s.1) (i,ys) ⟨qo,aac _,hP,lz.start hS⟩ ⟨rfl,rfl,rfl,rfl,rfl,trivial⟩ rfl rfl ?_
   rintro ⟨j,zs⟩ ⟨hj1,hj2,hQ,hV⟩;dsimp only at *;have hzl:ba zs=ba xs:=hQ.len;refine sq (sq (bI [pt g (kA kd pre zs post) (sf kd 37 3)] 15 [0,2,4,6,8,10,12,14,16,18,20,22,24,27,28] ST qk qk (gD qk 2 (a<j) I ST (fun h3=>?_) (fun h3=>?_))))
   ·refine bh qk 3 j I I qo ?_;simp only[bz,aah];refine dF qk 0 0 I I (cI qo) (bQ qk 2 I (v':=.int .i64 (j-1:Nat)) (by rw[show ((j:Nat):Int)-1=((j-1:Nat):Int) from qo];exact ac qo) (bh qk 0 (j-1) I I qo ?_));simp only[bz,aah];refine dF qk 0 0 I I (cI qo) (aG qk 0 I (cl 0 I (kJ kd (zs.getD j 0) (zs.getD (j-1) 0)) ?_));rintro v29 K29 hs29 ⟨rfl,rfl,rfl⟩;refine bp ST I ?_
    by_cases hlt:zs.getD j 0<zs.getD (j-1) 0
    ·rw[decide_eq_true hlt];refine be qk 1 I (th (dY I ?_));have hgj:(kA kd pre zs post)[ba pre+j]?=some (.int (kI kd) ((zs.getD j 0:Nat):Int)):=cI qo;have hgj1:(kA kd pre zs post)[ba pre+(j-1)]?=some (.int (kI kd) ((zs.getD (j-1) 0:Nat):Int)):=cI qo;have hgj2:(kA kd pre (zs.set j (zs.getD (j-1) 0)) post)[ba pre+(j-1)]?=some (.int (kI kd) (((zs.set j (zs.getD (j-1) 0)).getD (j-1) 0:Nat):Int)):=cI (by rw[aay];omega);refine sk (th (sq (bk (bI [pt g (kA kd pre zs post) (sf kd 37 3)] 15 [0,2,4,6,8,10,12,14,16,18,20,22,24,26,28,31,32,35] ST qk qk (bQ qk 4 I (v':=.int .i64 (j-1:Nat)) (by rw[show ((j:Nat):Int)-1=((j-1:Nat):Int) from qo];exact ac qo) (bQ qk 2 I (v':=.int .i64 (j-1:Nat)) (by rw[show ((j:Nat):Int)-1=((j-1:Nat):Int) from qo];exact ac qo) (bh qk 0 (j-1) I I qo ?_)))))))
     simp only[bz,aah];refine dC qk 0 0 I qk I hgj1 (bh qk 2 j I I qo ?_);simp only[bz,aah];refine dC qk 0 0 I qk I hgj (bh qk 0 j I I qo ?_);simp only[bz,aah];refine aG qk 0 I (stp 0 0 I I hgj I (di (.inl qk) (bh qk 0 (j-1) I I qo ?_)));simp only[bz,aah];refine aG qk 0 I ?_;refine WL.hs (pt g (kA kd pre (zs.set j (zs.getD (j-1) 0)) post) (sf kd 37 3)::hs) (congrArg (fun z=>pt g z (sf kd 37 3)::hs) (fB qo)) (stp 0 0 I I hgj2 I (di (.inl qk) (be qk 0 I (ac7 (ar 1 I (v':=.int .i64 (j-1:Nat)) (by rw[show ((j:Nat):Int)-1=((j-1:Nat):Int) from qo];exact ac qo) (fin 1 I ?_))))));exact bc (x:=(j,zs)) (j-1,swp j (j-1) zs) ⟨I,I,I,I,I,trivial⟩ I (congrArg (fun z=>pt g z (sf kd 37 3)::hs) (fB (by rw[aay];omega))) ⟨qo,qo,hQ.trans (cz.swp ⟨qo,qo⟩ ⟨qo,qo⟩ qo),hV.swap h3 hj2 qo hlt⟩ ax
    rw[decide_eq_false hlt];have hdone:dZ a (i+1) zs:=hV.stop h3 qo;exact be qk 1 I (th (dt I (ex (xt (xt (xb (ac7 (ar 1 I (ac (x:=((i+1:Nat):Int)) qo) (fin 1 I (bc (x:=(i,ys)) (i+1,zs) sb I I ⟨qo,.inl qo,hQ,hdone⟩ ax))))))))))
   obtain rfl:j=a:=qo
   have hdone:dZ j (i+1) zs:=hV.done;exact aG qk 10 I (WL.pures 1 I (bp ST I (be qk 1 I (th (dt I (ex (xt (xt (xb (ac7 (ar 1 I (ac (x:=((i+1:Nat):Int)) qo) (fin 1 I (bc (x:=(i,ys)) (i+1,zs) sb I I ⟨qo,.inl qo,hQ,hdone⟩ ax)))))))))))))
  refine ex (xt (xt (xb (gW I ⟨I,ys,I,hP,?_⟩))));intro p q h1 h2 h3;exact hS p q h1 h2 qo
end
section
attribute [local irreducible] Code.wp wpList Calls
def yP(kd:Bool)(g cap s:Nat)(pre post:List Value)(xs:List Nat)(a b:Nat)(n:Nat)(ha:a<ba xs)(hb:b<ba xs)(hc:ba xs<=cap)(hl:ba xs<=1099511627776)(hn:n<=1000):
  aj w0 (sf kd 228 224) [.slice (some ⟨g,ba pre,none⟩) (ba xs) cap,.int .i64 (a:Nat),.int .i64 (b:Nat),SX s] K (pt s #[.int .i64 (n:Nat)] 3::pt g (kA kd pre xs post) (sf kd 37 3)::hs)
   (fun v K' hs'=>K'=K/\∃ x y m:Nat,hs'=pt s #[.int .i64 (m:Nat)] 3::pt g (kA kd pre xs post) (sf kd 37 3)::hs/\v=.tuple #[.int .i64 (x:Nat),.int .i64 (y:Nat)]/\(x=a/\y=b\/x=b/\y=a)/\n<=m/\m<=n+1):=by
 cases kd
 let kd:Bool:=false
 rewrite [show sf false=sf kd from rfl]
 try rewrite [show kA false=kA kd from rfl]
 refine enter Tryz.func224 qk I I I ?_
 rotate_left
 let kd:Bool:=true
 rewrite [show sf true=sf kd from rfl]
 try rewrite [show kA true=kA kd from rfl]
 refine enter Tryz.func228 qk I I I ?_
 rotate_left
 all_goals
  refine ac9 (fin 2 I (th (sq (sq (bI [pt g (kA kd pre xs post) (sf kd 37 3)] 9 [0,2,4,6,8,10,12,14,17] ST qk qk (bh qk 2 b I I qo ?_))))));simp only[bz,aah];refine dF qk 0 0 I I (cI hb) (bh qk 2 a I I qo ?_);simp only[bz,aah];refine dF qk 0 0 I I (cI ha) (aG qk 0 I (cl 0 I (kJ kd (xs.getD b 0) (xs.getD a 0)) ?_));rintro v18 K18 hs18 ⟨rfl,rfl,rfl⟩;refine bp ST I ?_
  by_cases hlt:xs.getD b 0<xs.getD a 0
  ·rw[decide_eq_true hlt];exact be qk 0 I (th (dY I (ac9 (bE 2 0 I I I (ar 0 I (ac (x:=((n+1:Nat):Int)) qo) (stp 1 0 I I I I (fin 0 I (ac6 (fin 4 I (adb (rT (bL I I I ⟨I,b,a,n+1,I,I,.inr ⟨I,I⟩,qo,aac _⟩))))))))))))
  rw[decide_eq_false hlt];exact be qk 0 I (th (dt I (sk (ac6 (fin 4 I (adb (bL I I I ⟨I,a,b,n,I,I,.inl ⟨I,I⟩,aac _,aaN _⟩)))))))
def Hg(kd:Bool)(g cap s:Nat)(pre post:List Value)(xs:List Nat)(a b c lo hi:Nat)(n:Nat)(ha:lo<=a/\a<hi)(hb:lo<=b/\b<hi)(hcc:lo<=c/\c<hi)(hh:hi<=ba xs)(hc:ba xs<=cap)(hl:ba xs<=1099511627776)(hn:n<=900):
  aj w0 (sf kd 220 210) [.slice (some ⟨g,ba pre,none⟩) (ba xs) cap,.int .i64 (a:Nat),.int .i64 (b:Nat),.int .i64 (c:Nat),SX s] K (pt s #[.int .i64 (n:Nat)] 3::pt g (kA kd pre xs post) (sf kd 37 3)::hs)
   (fun v K' hs'=>K'=K/\∃ x m:Nat,hs'=pt s #[.int .i64 (m:Nat)] 3::pt g (kA kd pre xs post) (sf kd 37 3)::hs/\v=.int .i64 (x:Nat)/\(lo<=x/\x<hi)/\n<=m/\m<=n+3):=by
 cases kd
 let kd:Bool:=false
 rewrite [show sf false=sf kd from rfl]
 try rewrite [show kA false=kA kd from rfl]
 refine enter Tryz.func210 qk I I I ?_
 rotate_left
 let kd:Bool:=true
 rewrite [show sf true=sf kd from rfl]
 try rewrite [show kA true=kA kd from rfl]
 refine enter Tryz.func220 qk I I I ?_
 rotate_left
 all_goals
  refine ac9 (fin 1 I (ac6 (cl 4 I (yP kd g cap s pre post xs a b n qo qo hc hl qo) ?_)));rintro v16 K16 hs16 ⟨rfl,x1,y1,m1,rfl,rfl,h1,h2,h3⟩;refine fin 5 I (ac6 (cl 4 I (yP kd g cap s pre post xs y1 c m1 qo qo hc hl qo) ?_));rintro v24 K24 hs24 ⟨rfl,x2,y2,m2,rfl,rfl,h4,h5,h6⟩;refine fin 5 I (ac6 (cl 4 I (yP kd g cap s pre post xs x1 x2 m2 qo qo hc hl qo) ?_));rintro v32 K32 hs32 ⟨rfl,x3,y3,m3,rfl,rfl,h7,h8,h9⟩;exact fin 5 I (ac6 (fin 2 I (adb (ay I I ⟨I,y3,m3,I,I,qo,qo,qo⟩))))
def yS(kd:Bool)(g cap s:Nat)(pre post:List Value)(xs:List Nat)(a lo hi:Nat)(n:Nat)(ha:lo+1<=a/\a+1<hi)(hh:hi<=ba xs)(hc:ba xs<=cap)(hl:ba xs<=1099511627776)(hn:n<=900):
  aj w0 (sf kd 219 209) [.slice (some ⟨g,ba pre,none⟩) (ba xs) cap,.int .i64 (a:Nat),SX s] K (pt s #[.int .i64 (n:Nat)] 3::pt g (kA kd pre xs post) (sf kd 37 3)::hs)
   (fun v K' hs'=>K'=K/\∃ x m:Nat,hs'=pt s #[.int .i64 (m:Nat)] 3::pt g (kA kd pre xs post) (sf kd 37 3)::hs/\v=.int .i64 (x:Nat)/\(lo<=x/\x<hi)/\n<=m/\m<=n+3):=by
 cases kd
 let kd:Bool:=false
 rewrite [show sf false=sf kd from rfl]
 try rewrite [show kA false=kA kd from rfl]
 refine enter Tryz.func209 qk I I I ?_
 rotate_left
 let kd:Bool:=true
 rewrite [show sf true=sf kd from rfl]
 try rewrite [show kA true=kA kd from rfl]
 refine enter Tryz.func219 qk I I I ?_
 rotate_left
 all_goals
  refine ac9 (fin 1 I (ac6 (ar 2 I (v':=.int .i64 (a-1:Nat)) (by rw[show ((a:Nat):Int)-1=((a-1:Nat):Int) from qo];exact ac qo) (ar 2 I (ac (x:=((a+1:Nat):Int)) qo) (cl 1 I (Hg kd g cap s pre post xs (a-1) a (a+1) lo hi n qo qo qo hh hc hl hn) ?_)))));rintro v14 K14 hs14 ⟨rfl,x,m,rfl,rfl,h1,h2,h3⟩;exact fin 1 I (adb (ay I I ⟨I,x,m,I,I,h1,h2,h3⟩))
end
section
attribute [local irreducible] Code.wp wpList Calls
def pP(n m:Nat)(h:n<9223372036854775808):Value.int .i64 (IntKind.i64.wrap (((n:Nat):Int).tdiv ((m:Nat):Int)))=.int .i64 (n / m:Nat):=by
 have h2:((n:Nat):Int).tdiv ((m:Nat):Int)=((n / m:Nat):Int):=by rw[ack]
 rw[h2];have h3:n / m<=n:=acl n m;generalize n / m=z at h3 ⊢;exact ac qo
def Q9(kd:Bool)(g cap:Nat)(pre post:List Value)(xs:List Nat)(a b:Nat)(hab:a+8<=b)(hb:b<=ba xs)(hc:ba xs<=cap)(hl:ba xs<=1099511627776):
  aj w0 (sf kd 195 178) [.slice (some ⟨g,ba pre,none⟩) (ba xs) cap,.int .i64 (a:Nat),.int .i64 (b:Nat)] K (pt g (kA kd pre xs post) (sf kd 37 3)::hs)
   (fun v K' hs'=>K'=K/\hs'=pt g (kA kd pre xs post) (sf kd 37 3)::hs/\∃ x h:Nat,v=.tuple #[.int .i64 (x:Nat),.int .i64 (h:Nat)]/\(a<=x/\x<b)/\h<=2):=by
 cases kd
 let kd:Bool:=false
 rewrite [show sf false=sf kd from rfl]
 try rewrite [show kA false=kA kd from rfl]
 refine enter Tryz.func178 qk I I I ?_
 rotate_left
 let kd:Bool:=true
 rewrite [show sf true=sf kd from rfl]
 try rewrite [show kA true=kA kd from rfl]
 refine enter Tryz.func195 qk I I I ?_
 rotate_left
 all_goals
  refine ac9 (fin 2 I (ac6 (ar 2 I (v':=.int .i64 (b-a:Nat)) (by rw[show ((b:Nat):Int)-((a:Nat):Int)=((b-a:Nat):Int) from qo];exact ac qo) (fin 1 I (ac6 (al 0 (.int .i64 0) I qk fun b9=>fin 0 I (ac6 ?_)))))));obtain ⟨q,hq⟩:=bC ((b-a) / 4);have hq1:4*q<=b-a/\2<=q:=qo
  refine ar 2 I (v':=.int .i64 (q:Nat)) (by rw[hq];exact pP (b-a) 4 qo) (ar 0 I (ac (x:=((q*1:Nat):Int)) qo) (ar 0 I (ac (x:=((a+q*1:Nat):Int)) qo) (fin 1 I (ac6 (ar 2 I (v':=.int .i64 (q:Nat)) (by rw[hq];exact pP (b-a) 4 qo) (ar 0 I (ac (x:=((q*2:Nat):Int)) qo) (ar 0 I (ac (x:=((a+q*2:Nat):Int)) qo) (fin 1 I (ac6 (ar 2 I (v':=.int .i64 (q:Nat)) (by rw[hq];exact pP (b-a) 4 qo) (ar 0 I (ac (x:=((q*3:Nat):Int)) qo) (ar 0 I (ac (x:=((a+q*3:Nat):Int)) qo) (fin 1 I (ac5 (aX 1 I (fun h32=>fin 0 I (th (dY I ?_))) (fun h32=>absurd qo h32))))))))))))))))
  refine jn (σ:=Nat×Nat×Nat×Nat) (fun s=>[(0,.slice (some ⟨g,ba pre,none⟩) (ba xs) cap),(9,SX b9),(10,.int .i64 s.1),(11,.int .i64 s.2.1),(12,.int .i64 s.2.2.1)])
   (fun s=>pt b9 #[.int .i64 s.2.2.2] 3::pt g (kA kd pre xs post) (sf kd 37 3)::hs) (fun s=>(a<=s.1/\s.1<b)/\(a<=s.2.1/\s.2.1<b)/\(a<=s.2.2.1/\s.2.2.1<b)/\s.2.2.2<=9) ?_ ?_
  ·refine ac9 (af 1 I fun b34 h34=>fin 0 I<|th (ah h34 I (fun e4=>?_) (fun e4=>?_)))
   ·refine ac9 (cl 2 I (yS kd g cap b9 pre post xs (a+q*1) a b 0 qo hb hc hl qo) ?_);rintro v37 K37 hs37 ⟨rfl,x1,m1,rfl,rfl,h1,h2,h3⟩;refine fin 1 I (ac6 (cl 2 I (yS kd g cap b9 pre post xs (a+q*2) a b m1 qo hb hc hl qo) ?_));rintro v40 K40 hs40 ⟨rfl,x2,m2,rfl,rfl,h4,h5,h6⟩;refine fin 1 I (ac8 (cl 2 I (yS kd g cap b9 pre post xs (a+q*3) a b m2 qo hb hc hl qo) ?_));rintro v43 K43 hs43 ⟨rfl,x3,m3,rfl,rfl,h7,h8,h9⟩;exact fin 1 I (jx (x1,x2,x3,m3) ⟨h1,h4,h7,ax⟩ sb rfl rfl)
   exact sk (jx (a+q*1,a+q*2,a+q*3,0) ⟨ax,ax,ax,ax⟩ sb rfl rfl)
  rintro ⟨i,j,k,n⟩ ⟨hi,hj,hk,hn⟩;dsimp only at *;refine rg (cl 4 I (Hg kd g cap b9 pre post xs i j k a b n hi hj hk hb hc hl qo) ?_);rintro v48 K48 hs48 ⟨rfl,x,m,rfl,rfl,h1,h2,h3⟩;refine fin 1 I (ac6 (bE 0 0 I I I (fin 0 I (th (bk (ac9 (af 0 I fun b52 h52=>fin 1 I (th (ah h52 I (fun e6=>?_) (fun e6=>?_))))))))))
  ·exact ac9 (fin 3 I<|adb<|rB (WQ.drop<|bL I I I ⟨I,I,x,1,I,h1,SU⟩))
  refine ac9 (af 0 I fun b55 h55=>fin 1 I<|th (ah h55 I (fun e8=>?_) (fun e8=>?_)))
  ·exact ac9 (fin 3 I<|adb<|rB (WQ.drop<|bL I I I ⟨I,I,x,2,I,h1,SU⟩))
  exact ac9 (fin 3 I<|adb<|rB (WQ.drop<|bL I I I ⟨I,I,x,0,I,h1,SU⟩))
end
section
attribute [local irreducible] Code.wp wpList Calls
def P9(kd:Bool)(g cap:Nat)(pre post:List Value)(xs:List Nat)(a b:Nat)(hab:a<b)(hb:b<=ba xs)(hc:ba xs<=cap)(hl:ba xs<=1099511627776):
  aj w0 (sf kd 196 179) [.slice (some ⟨g,ba pre,none⟩) (ba xs) cap,.int .i64 (a:Nat),.int .i64 (b:Nat)] K (pt g (kA kd pre xs post) (sf kd 37 3)::hs)
   (fun v K' hs'=>K'=K/\∃ ys,hs'=pt g (kA kd pre ys post) (sf kd 37 3)::hs/\cz a b xs ys):=by
 cases kd
 let kd:Bool:=false
 rewrite [show sf false=sf kd from rfl]
 try rewrite [show kA false=kA kd from rfl]
 refine enter Tryz.func179 qk I I I ?_
 rotate_left
 let kd:Bool:=true
 rewrite [show sf true=sf kd from rfl]
 try rewrite [show kA true=kA kd from rfl]
 refine enter Tryz.func196 qk I I I ?_
 rotate_left
 all_goals
  refine ac9 (fin 2 I (ac6 (ar 1 I (v':=.int .i64 (b-1:Nat)) (by rw[show ((b:Nat):Int)-1=((b-1:Nat):Int) from qo];exact ac qo) (fin 1 I (th (bk ?_))))))
  refine loop (σ:=Nat×Nat×List Nat) (fun s=>[(0,.slice (some ⟨g,ba pre,none⟩) (ba xs) cap),(6,.int .i64 s.1),(7,.int .i64 s.2.1)]) (fun _=>K) (fun s=>pt g (kA kd pre s.2.2 post) (sf kd 37 3)::hs)
   (fun s=>a<=s.1/\s.1<=b/\s.2.1<b/\cz a b xs s.2.2) (fun s=>b-s.1) (a,b-1,xs) ⟨aac _,ax,ax,cz.refl _ _ _⟩ ⟨rfl,rfl,rfl,trivial⟩ rfl rfl ?_
  rintro ⟨i,j,ys⟩ ⟨hi1,hi2,hj,hP⟩;dsimp only at *;have hyl:ba ys=ba xs:=hP.len;refine sq (ac9 (af 2 I fun b13 h13=>fin 0 I (th (ah h13 I (fun e2=>?_) (fun e2=>?_)))))
  ·have hij:i<j:=qo
   have hgi:(kA kd pre ys post)[ba pre+i]?=some (.int (kI kd) ((ys.getD i 0:Nat):Int)):=cI qo;have hgj:(kA kd pre ys post)[ba pre+j]?=some (.int (kI kd) ((ys.getD j 0:Nat):Int)):=cI qo;have hgj2:(kA kd pre (ys.set i (ys.getD j 0)) post)[ba pre+j]?=some (.int (kI kd) (((ys.set i (ys.getD j 0)).getD j 0:Nat):Int)):=cI (by rw[aay];omega);refine sk (th (bk (sq (bI [pt g (kA kd pre ys post) (sf kd 37 3)] 13 [0,2,4,6,8,10,12,14,16,18,20,22,24,27,28,31] ST qk qk (bh qk 6 j I I qo ?_)))));simp only[bz,aah];refine dC qk 0 0 I qk I hgj (bh qk 2 i I I qo ?_);simp only[bz,aah];refine dC qk 0 0 I qk I hgi (bh qk 0 i I I qo ?_);simp only[bz,aah];refine aG qk 0 I (stp 0 0 I I hgi I (di (.inl qk) (bh qk 0 j I I qo ?_)))
   simp only[bz,aah];refine aG qk 0 I ?_;refine WL.hs (pt g (kA kd pre (ys.set i (ys.getD j 0)) post) (sf kd 37 3)::hs) (congrArg (fun z=>pt g z (sf kd 37 3)::hs) (fB qo)) (stp 0 0 I I hgj2 I (di (.inl qk) (be qk 0 I (ac6 (ar 1 I (ac (x:=((i+1:Nat):Int)) qo) (fin 1 I (ac8 (ar 1 I (v':=.int .i64 (j-1:Nat)) (by rw[show ((j:Nat):Int)-1=((j-1:Nat):Int) from qo];exact ac qo) (fin 1 I (bl ?_))))))))));exact bc (x:=(i,j,ys)) (i+1,j-1,swp i j ys) ⟨I,I,I,trivial⟩ I (congrArg (fun z=>pt g z (sf kd 37 3)::hs) (fB (by rw[aay];omega))) ⟨ax,ax,ax,hP.trans (cz.swp ⟨qo,qo⟩ ⟨qo,qo⟩ qo)⟩ ax
  exact ex<|xt (xt<|xb (gW I ⟨I,ys,I,hP⟩))
end
section
def jM(f lo hi:Nat)(ex:Nat->Prop)(xs:List Nat):Prop:=∀ i c,lo<=i->¬ex i->(c=2*i+1\/c=2*i+2)->c<hi->xs.getD (f+c) 0<=xs.getD (f+i) 0
def mr(f lo hi r:Nat)(xs:List Nat):Prop:=
 jM f lo hi (fun i=>i=r) xs/\∀ p c,lo<=p->(r=2*p+1\/r=2*p+2)->(c=2*r+1\/c=2*r+2)->c<hi->xs.getD (f+c) 0<=xs.getD (f+p) 0
def mr.start{f lo hi:Nat}{xs:List Nat}(h:jM f (lo+1) hi (fun _=>False) xs):mr f lo hi lo xs:=
 ⟨fun i c h1 h2 h3 h4=>h i c qo ST h3 h4,fun p c h1 h2=>by omega⟩
def mr.leaf{f lo hi r:Nat}{xs:List Nat}(h:mr f lo hi r xs)(hr:hi<=2*r+1):jM f lo hi (fun _=>False) xs:=fun i c h1 _ h3 h4=>by
 by_cases e:i=r
 ·omega
 exact h.1 i c h1 e h3 h4
def mr.stop{f lo hi r k:Nat}{xs:List Nat}(h:mr f lo hi r xs)(hk:∀ c,(c=2*r+1\/c=2*r+2)->c<hi->xs.getD (f+c) 0<=xs.getD (f+k) 0)(hle:xs.getD (f+k) 0<=xs.getD (f+r) 0):jM f lo hi (fun _=>False) xs:=fun i c h1 _ h3 h4=>by
 by_cases e:i=r
 ·subst e;exact aat (hk c h3 h4) hle
 exact h.1 i c h1 e h3 h4
def mr.sink{f lo hi r k:Nat}{xs:List Nat}(h:mr f lo hi r xs)(hlo:lo<=r)(hk0:k=2*r+1\/k=2*r+2)(hkh:k<hi)(hl:f+hi<=ba xs)(hk:∀ c,(c=2*r+1\/c=2*r+2)->c<hi->xs.getD (f+c) 0<=xs.getD (f+k) 0)(hlt:xs.getD (f+r) 0<xs.getD (f+k) 0):mr f lo hi k (swp (f+r) (f+k) xs):=by
 have hg:∀ z,(swp (f+r) (f+k) xs).getD (f+z) 0=if z=k then xs.getD (f+r) 0 else if z=r then xs.getD (f+k) 0 else xs.getD (f+z) 0:=by
  intro z;rw[lI qo qo]
  simp
 constructor
 ·intro i c h1 h2 h3 h4;rw[hg,hg];rw[aaa h2]
  by_cases e2:i=r
  ·grind
  rw[aaa e2]
  by_cases e1:c=k
  ·omega
  rw[aaa e1]
  by_cases e3:c=r
  ·rw[aab e3];exact h.2 i k h1 qo hk0 hkh
  rw[aaa e3];exact h.1 i c h1 e2 h3 h4
 intro p c h1 h2 h3 h4;have hp:p=r:=qo
 subst hp;rw[hg,hg,aaa qo,aaa qo,aaa qo,aab rfl];exact h.1 k c qo qo h3 h4
end
section
attribute [local irreducible] Code.wp wpList Calls
def GH(kd:Bool)(g cap:Nat)(pre post:List Value)(xs:List Nat)(lo hi f:Nat)(hb:f+hi<=ba xs)(hc:ba xs<=cap)(hl:ba xs<=1099511627776)(hlo:lo<=hi)(hp:jM f (lo+1) hi (fun _=>False) xs):
  aj w0 (sf kd 218 206) [.slice (some ⟨g,ba pre,none⟩) (ba xs) cap,.int .i64 (lo:Nat),.int .i64 (hi:Nat),.int .i64 (f:Nat)] K (pt g (kA kd pre xs post) (sf kd 37 3)::hs)
   (fun v K' hs'=>K'=K/\∃ ys,hs'=pt g (kA kd pre ys post) (sf kd 37 3)::hs/\cz (f+lo) (f+hi) xs ys/\jM f lo hi (fun _=>False) ys):=by
 cases kd
 let kd:Bool:=false
 rewrite [show sf false=sf kd from rfl]
 try rewrite [show kA false=kA kd from rfl]
 refine enter Tryz.func206 qk I I I ?_
 rotate_left
 let kd:Bool:=true
 rewrite [show sf true=sf kd from rfl]
 try rewrite [show kA true=kA kd from rfl]
 refine enter Tryz.func218 qk I I I ?_
 rotate_left
 all_goals
  refine ac9 (fin 2 I<|th (bk ?_))
  refine loop (σ:=Nat×List Nat) (fun s=>[(0,.slice (some ⟨g,ba pre,none⟩) (ba xs) cap),(2,.int .i64 (hi:Nat)),(3,.int .i64 (f:Nat)),(8,.int .i64 s.1)]) (fun _=>K) (fun s=>pt g (kA kd pre s.2 post) (sf kd 37 3)::hs)
   (fun s=>lo<=s.1/\s.1<=hi/\cz (f+lo) (f+hi) xs s.2/\mr f lo hi s.1 s.2) (fun s=>hi-s.1) (lo,xs) ⟨aac _,hlo,cz.refl _ _ _,mr.start hp⟩ ⟨rfl,rfl,rfl,rfl,trivial⟩ rfl rfl ?_
  rintro ⟨r,ys⟩ ⟨hr1,hr2,hP,hS⟩;dsimp only at *;have hyl:ba ys=ba xs:=hP.len;refine bk (ac9 (ar 1 I (ac (x:=((2*r:Nat):Int)) qo) (ar 0 I (ac (x:=((2*r+1:Nat):Int)) qo) (fin 1 I (ac5 (af 2 I fun b16 h16=>fin 0 I (th (ah h16 I (fun e2=>?_) (fun e2=>?_)))))))))
  ·exact ex<|xt (xn I<|xt (xb<|gW I ⟨I,ys,I,hP,hS.leaf qo⟩))
  have hch:2*r+1<hi:=qo
  refine sk<|th ?_
  refine jn (σ:=Nat) (fun k=>[(0,.slice (some ⟨g,ba pre,none⟩) (ba xs) cap),(2,.int .i64 (hi:Nat)),(3,.int .i64 (f:Nat)),(8,.int .i64 (r:Nat)),(9,.int .i64 (k:Nat))]) (fun _=>pt g (kA kd pre ys post) (sf kd 37 3)::hs)
   (fun k=>(k=2*r+1\/k=2*r+2)/\k<hi/\∀ c,(c=2*r+1\/c=2*r+2)->c<hi->ys.getD (f+c) 0<=ys.getD (f+k) 0) ?_ ?_
  ·refine sq (bI [pt g (kA kd pre ys post) (sf kd 37 3)] 20 [0,2,4,6,8,10,12,14,16,18,20,22,24,26,28,30,32,34,37,38] ST qk qk (bQ qk 1 I (ac (x:=((2*r+1+1:Nat):Int)) qo) (gD qk 1 (2*r+1+1<hi) I (by simp;omega) (fun h3=>?_) (fun h3=>?_))))
   ·refine bQ qk 4 I (ac (x:=((f+(2*r+1):Nat):Int)) qo) (bh qk 0 (f+(2*r+1)) I I qo ?_);simp only[bz,aah];refine dF qk 0 0 I I (cI qo) (bQ qk 3 I (ac (x:=((f+(2*r+1):Nat):Int)) qo) (bQ qk 0 I (ac (x:=((f+(2*r+1)+1:Nat):Int)) qo) (bh qk 0 (f+(2*r+1)+1) I I qo ?_)));simp only[bz,aah];refine dF qk 0 0 I I (cI qo) (aG qk 0 I (cl 0 I (kJ kd (ys.getD (f+(2*r+1)) 0) (ys.getD (f+(2*r+1)+1) 0)) ?_));rintro v35 K35 hs35 ⟨rfl,rfl,rfl⟩;refine bp ST I ?_
    by_cases hlt:ys.getD (f+(2*r+1)) 0<ys.getD (f+(2*r+1)+1) 0
    ·rw[decide_eq_true hlt];refine be qk 1 I (th (dY I (rg (ar 1 I (ac (x:=((2*r+1+1:Nat):Int)) qo) (fin 1 I (jx (2*r+1+1) ⟨.inr I,h3,fun c h4 h5=>?_⟩ sb I I))))));rcases h4 with rfl|rfl
     ·exact acv hlt
     exact aac _
    rw[decide_eq_false hlt];refine be qk 1 I (th (dt I (sk (jx (2*r+1) ⟨.inl I,hch,fun c h4 h5=>?_⟩ sb I I))));rcases h4 with rfl|rfl
    ·exact aac _
    exact abs hlt
   refine aG qk 14 I (WL.pures 1 I (bp ST I (be qk 1 I (th (dt I (sk (jx (2*r+1) ⟨.inl I,hch,fun c h4 h5=>?_⟩ sb I I)))))));have:c=2*r+1:=qo
   rw[this];exact aac _
  rintro k ⟨hk1,hk2,hk3⟩;have hrl:f+r<ba ys:=qo
  have hkl:f+k<ba ys:=qo
  have hgr:(kA kd pre ys post)[ba pre+(f+r)]?=some (.int (kI kd) ((ys.getD (f+r) 0:Nat):Int)):=cI hrl;have hgk:(kA kd pre ys post)[ba pre+(f+k)]?=some (.int (kI kd) ((ys.getD (f+k) 0:Nat):Int)):=cI hkl;have hgk2:(kA kd pre (ys.set (f+r) (ys.getD (f+k) 0)) post)[ba pre+(f+k)]?=some (.int (kI kd) (((ys.set (f+r) (ys.getD (f+k) 0)).getD (f+k) 0:Nat):Int)):=cI (by rw[aay];exact hkl);refine sq (sq (bI [pt g (kA kd pre ys post) (sf kd 37 3)] 14 [0,2,4,6,8,10,12,14,16,18,20,22,25,26] ST qk qk (bQ qk 3 I (ac (x:=((f+r:Nat):Int)) qo) (bh qk 0 (f+r) I I qo ?_))));simp only[bz,aah];refine dF qk 0 0 I I hgr (bQ qk 3 I (ac (x:=((f+k:Nat):Int)) qo) (bh qk 0 (f+k) I I qo ?_));simp only[bz,aah];refine dF qk 0 0 I I hgk (aG qk 0 I (cl 0 I (kJ kd (ys.getD (f+r) 0) (ys.getD (f+k) 0)) ?_))
  rintro v51 K51 hs51 ⟨rfl,rfl,rfl⟩;refine bp ST I ?_
  by_cases hlt:ys.getD (f+r) 0<ys.getD (f+k) 0
  ·rw[decide_eq_true hlt];refine be qk 1 I (th (dt I (sk (th (sq (bI [pt g (kA kd pre ys post) (sf kd 37 3)] 21 [0,2,4,6,8,10,12,14,16,18,20,22,24,26,28,30,32,34,36,38,40,43,44,47] ST qk qk (bQ qk 3 I (ac (x:=((f+r:Nat):Int)) qo) (bQ qk 3 I (ac (x:=((f+k:Nat):Int)) qo) (bQ qk 3 I (ac (x:=((f+k:Nat):Int)) qo) (bh qk 0 (f+k) I I qo ?_))))))))));simp only[bz,aah];refine dC qk 0 0 I qk I hgk (bQ qk 3 I (ac (x:=((f+r:Nat):Int)) qo) (bh qk 0 (f+r) I I qo ?_));simp only[bz,aah];refine dC qk 0 0 I qk I hgr (bh qk 0 (f+r) I I qo ?_);simp only[bz,aah];refine aG qk 0 I (stp 0 0 I I hgr I (di (.inl qk) (bh qk 0 (f+k) I I qo ?_)))
   simp only[bz,aah];refine aG qk 0 I ?_;refine WL.hs (pt g (kA kd pre (ys.set (f+r) (ys.getD (f+k) 0)) post) (sf kd 37 3)::hs) (congrArg (fun z=>pt g z (sf kd 37 3)::hs) (fB hrl)) (stp 0 0 I I hgk2 I (di (.inl qk) (be qk 0 I (ac8 (fin 2 I (bl ?_))))));exact bc (x:=(r,ys)) (k,swp (f+r) (f+k) ys) ⟨I,I,I,I,trivial⟩ I (congrArg (fun z=>pt g z (sf kd 37 3)::hs) (fB (by rw[aay];exact hkl))) ⟨ax,ax,hP.trans (cz.swp ⟨qo,qo⟩ ⟨qo,qo⟩ qo),hS.sink hr1 hk1 hk2 qo hk3 hlt⟩ ax
  rw[decide_eq_false hlt];exact be qk 1 I (th (dY I (rt (rT (rB (rT (rB (pO I ⟨I,ys,I,hP,hS.stop hk3 qo⟩))))))))
end
section
theorem jM.max{f n:Nat}{xs:List Nat}(h:jM f 0 n (fun _=>False) xs):∀ c,c<n->xs.getD (f+c) 0<=xs.getD (f+0) 0
 | 0,_=>aac _
 | c+1,hc=>by
  have hp:c / 2<c+1:=qo
  have h1:=h (c / 2) (c+1) (aag _) ST qo hc;have h2:=jM.max h (c / 2) qo;exact aat h1 h2
def jM.none{f lo hi:Nat}{xs:List Nat}(h:hi<=2*lo+1):jM f lo hi (fun _=>False) xs:=fun i c h1 _ h3 h4=>by omega
theorem OC{a b:Nat}(xs:List Nat)(hab:a<=b):xs=xs.take a++((xs.drop a).take (b-a)++xs.drop b):=by
 have h1:xs.drop b=(xs.drop a).drop (b-a):=by rw[aaO];congr 1;omega
 grind [List.take_append_drop]
def cz.seg{a b:Nat}{xs ys:List Nat}(h:cz a b xs ys)(hab:a<=b):((ys.drop a).take (b-a)).Perm ((xs.drop a).take (b-a)):=by
 have e1:ys.take a=xs.take a:=by
  apply abi
  intro i
  by_cases hi:i<a
  ·rw[abn hi,abn hi,h.out i (.inl hi)]
  grind
 have e2:ys.drop b=xs.drop b:=by
  apply abi
  intro i;rw[abu,abu,h.out (b+i) (.inr qo)]
 have hp:=h.perm
 grind [OC,List.perm_append_right_iff,List.perm_append_left_iff]
def cz.mem{a b:Nat}{xs ys:List Nat}(h:cz a b xs ys)(hb:b<=ba xs){p:Nat}(h1:a<=p)(h2:p<b):∃ q,a<=q/\q<b/\ys.getD p 0=xs.getD q 0:=by
 have hs:=h.seg qo;have hyl:=h.len
 have hm:ys.getD p 0∈(ys.drop a).take (b-a):=by
  rw[aa1];refine ⟨p-a,?_⟩
  grind
 obtain ⟨i,hi⟩:=aa1.1 (hs.mem_iff.1 hm);have hil:=(aas.1 hi).1;simp only[aam,aan] at hil;rw[abn qo,abu] at hi;exact ⟨a+i,qo,qo,by simp_all⟩
def mB(f n hi:Nat)(xs:List Nat):Prop:=jM f 0 n (fun _=>False) xs/\∀ p q,n<=q->q<hi->p<q->xs.getD (f+p) 0<=xs.getD (f+q) 0
def mB.swap{f i hi:Nat}{xs:List Nat}(h:mB f (i+1) hi xs)(hh:i<hi)(hl:f+hi<=ba xs):jM f (0+1) i (fun _=>False) (swp f (f+i) xs):=fun j c h1 h2 h3 h4=>by
 rw[lI qo qo,lI qo qo,aaa qo,aaa qo,aaa qo,aaa qo];exact h.1 j c (aag _) ST h3 qo
def mB.step{f i hi:Nat}{xs zs:List Nat}(h:mB f (i+1) hi xs)(hh:i<hi)(hl:f+hi<=ba xs)(hP:cz (f+0) (f+i) (swp f (f+i) xs) zs)(hz:jM f 0 i (fun _=>False) zs):mB f i hi zs:=by
 refine ⟨hz,fun p q h1 h2 h3=>?_⟩;have hsl:=n5 f (f+i) xs
 have hz1:∀ z,i<=z->z<hi->zs.getD (f+z) 0=(swp f (f+i) xs).getD (f+z) 0:=fun z g1 g2=>by
  rw[aaB,hP.out (f+z) (.inr qo),aaB]
 have hs:∀ z,z<hi->(swp f (f+i) xs).getD (f+z) 0=if z=i then xs.getD f 0 else if z=0 then xs.getD (f+i) 0 else xs.getD (f+z) 0:=fun z g=>by
  rw[lI qo qo]
  simp
 have hlow:∀ z,z<i->∃ y,y<=i/\zs.getD (f+z) 0=xs.getD (f+y) 0:=fun z g=>by
  obtain ⟨w,w1,w2,w3⟩:=hP.mem qo (p:=f+z) qo qo;rw[w3,show w=f+(w-f) from qo,hs (w-f) qo]
  grind
 have hmax:∀ y,y<=i->xs.getD (f+y) 0<=xs.getD f 0:=fun y g=>h.1.max y qo;have hbig:∀ y q,y<=i->i<q->q<hi->xs.getD (f+y) 0<=xs.getD (f+q) 0:=fun y q g1 g2 g3=>h.2 y q qo g3 qo;rw[hz1 q h1 h2,hs q h2]
 by_cases e:q=i
 ·grind
 rw[aaa e,aaa qo]
 by_cases e1:p<i
 ·obtain ⟨y,g1,g2⟩:=hlow p e1;rw[g2];exact hbig y q g1 qo h2
 rw[hz1 p qo qo,hs p qo]
 by_cases e2:p=i
 ·rw[aab e2];exact hbig 0 q (aag _) qo h2
 rw[aaa e2,aaa qo];exact h.2 p q qo h2 h3
def mB.start{f hi:Nat}{xs:List Nat}(h:jM f 0 hi (fun _=>False) xs):mB f hi hi xs:=⟨h,fun p q h1 h2=>by omega⟩
def mB.done{a b:Nat}{xs:List Nat}(h:mB a 0 (b-a) xs):dZ a b xs:=fun i j h1 h2 h3=>by
 have:=h.2 (i-a) (j-a) (aag _) qo qo
 grind
end
section
attribute [local irreducible] Code.wp wpList Calls
def QA(kd:Bool)(g cap:Nat)(pre post:List Value)(xs:List Nat)(a b:Nat)(hab:a<b)(hb:b<=ba xs)(hc:ba xs<=cap)(hl:ba xs<=1099511627776):
  aj w0 (sf kd 193 176) [.slice (some ⟨g,ba pre,none⟩) (ba xs) cap,.int .i64 (a:Nat),.int .i64 (b:Nat)] K (pt g (kA kd pre xs post) (sf kd 37 3)::hs)
   (fun v K' hs'=>K'=K/\∃ ys,hs'=pt g (kA kd pre ys post) (sf kd 37 3)::hs/\cz a b xs ys/\dZ a b ys):=by
 cases kd
 let kd:Bool:=false
 rewrite [show sf false=sf kd from rfl]
 try rewrite [show kA false=kA kd from rfl]
 rotate_left
 let kd:Bool:=true
 rewrite [show sf true=sf kd from rfl]
 try rewrite [show kA true=kA kd from rfl]
 rotate_left
 all_goals
  obtain ⟨hi,hhi⟩:=bC (b-a)
 refine enter Tryz.func176 qk I I I ?_
 rotate_left
 refine enter Tryz.func193 qk I I I ?_
 rotate_left
 all_goals
  refine ac9 (fin 2 I (ac6 (fin 1 I (ac6 (ar 2 I (v':=.int .i64 (hi:Nat)) (by rw[show ((b:Nat):Int)-((a:Nat):Int)=((hi:Nat):Int) from qo];exact ac qo) (fin 1 I (ac5 (ar 1 I (v':=.int .i64 (hi-1:Nat)) (by rw[show ((hi:Nat):Int)-1=((hi-1:Nat):Int) from qo];exact ac qo) (ar 0 I (v':=.int .i64 ((((hi-1) / 2+1:Nat):Int)-1)) (by rw[show ((((hi-1) / 2+1:Nat):Int)-1)=(((hi-1) / 2:Nat):Int) from qo];exact pP (hi-1) 2 qo) (fin 1 I (th (bk ?_))))))))))))
  refine loop (σ:=Nat×List Nat) (fun s=>[(0,.slice (some ⟨g,ba pre,none⟩) (ba xs) cap),(6,.int .i64 (a:Nat)),(7,.int .i64 0),(8,.int .i64 (hi:Nat)),(9,.int .i64 (((s.1:Nat):Int)-1))]) (fun _=>K) (fun s=>pt g (kA kd pre s.2 post) (sf kd 37 3)::hs)
   (fun s=>s.1<=hi/\cz a b xs s.2/\jM a s.1 hi (fun _=>False) s.2) (fun s=>s.1) ((hi-1) / 2+1,xs) ⟨ax,cz.refl _ _ _,jM.none qo⟩ ⟨rfl,rfl,rfl,rfl,rfl,trivial⟩ rfl rfl ?_
  rintro ⟨n,ys⟩ ⟨hn,hP,hH⟩;dsimp only at *;have hyl:ba ys=ba xs:=hP.len;refine sq (ac9 (af 1 I fun b19 h19=>fin 0 I (th (ah h19 I (fun e2=>?_) (fun e2=>?_)))))
  ·obtain ⟨k,rfl⟩:∃ k,n=k+1:=⟨n-1,qo⟩;rw[show ((k+1:Nat):Int)-1=((k:Nat):Int) from qo];refine sk (th (sq (bk (rg ?_))));have hs1:=GH kd (w0:=w0) (K:=K) (hs:=hs) g cap pre post ys k hi a qo qo qo qo hH;rw[hyl] at hs1;refine cl 4 I hs1 ?_;rintro v26 K26 hs26 ⟨rfl,zs,rfl,hQ,hH2⟩;exact fin 0 I (ac7 (ar 1 I (ac qo) (fin 1 I (bc (x:=(k+1,ys)) (k,zs) sb I I ⟨ax,hP.trans (hQ.wide qo qo),hH2⟩ ax))))
  obtain rfl:n=0:=qo
  refine ex<|xt (xt<|xb (ac6<|ar 1 I (ac qo) (fin 1 I<|th (bk ?_))))
  refine loop (σ:=Nat×List Nat) (fun s=>[(0,.slice (some ⟨g,ba pre,none⟩) (ba xs) cap),(6,.int .i64 (a:Nat)),(7,.int .i64 0),(10,.int .i64 (((s.1:Nat):Int)-1))]) (fun _=>K) (fun s=>pt g (kA kd pre s.2 post) (sf kd 37 3)::hs)
   (fun s=>s.1<=hi/\cz a b xs s.2/\mB a s.1 hi s.2) (fun s=>s.1) (hi,ys) ⟨aac _,hP,mB.start hH⟩ ⟨rfl,rfl,rfl,rfl,trivial⟩ rfl rfl ?_
  rintro ⟨n,zs⟩ ⟨hn2,hQ,hI⟩;dsimp only at *;have hzl:ba zs=ba xs:=hQ.len;refine sq (ac9 (af 1 I fun b30 h30=>fin 0 I (th (ah h30 I (fun e4=>?_) (fun e4=>?_)))))
  ·obtain ⟨k,rfl⟩:∃ k,n=k+1:=⟨n-1,qo⟩;rw[show ((k+1:Nat):Int)-1=((k:Nat):Int) from qo];have hg0:(kA kd pre zs post)[ba pre+a]?=some (.int (kI kd) ((zs.getD a 0:Nat):Int)):=cI qo;have hgk:(kA kd pre zs post)[ba pre+(a+k)]?=some (.int (kI kd) ((zs.getD (a+k) 0:Nat):Int)):=cI qo;have hgk2:(kA kd pre (zs.set a (zs.getD (a+k) 0)) post)[ba pre+(a+k)]?=some (.int (kI kd) (((zs.set a (zs.getD (a+k) 0)).getD (a+k) 0:Nat):Int)):=cI (by rw[aay];omega);refine sk (th (sq (bk (sq (bI [pt g (kA kd pre zs post) (sf kd 37 3)] 17 [0,2,4,6,8,10,12,14,16,18,20,22,24,26,28,30,32,35,36,39] ST qk qk (bQ qk 5 I (ac (x:=((a+k:Nat):Int)) qo) (bQ qk 3 I (ac (x:=((a+k:Nat):Int)) qo) (bh qk 0 (a+k) I I qo ?_))))))));simp only[bz,aah]
   refine dC qk 0 0 I qk I hgk (bh qk 2 a I I qo ?_);simp only[bz,aah];refine dC qk 0 0 I qk I hg0 (bh qk 0 a I I qo ?_);simp only[bz,aah];refine aG qk 0 I (stp 0 0 I I hg0 I (di (.inl qk) (bh qk 0 (a+k) I I qo ?_)));simp only[bz,aah];refine aG qk 0 I ?_;refine WL.hs (pt g (kA kd pre (zs.set a (zs.getD (a+k) 0)) post) (sf kd 37 3)::hs) (congrArg (fun z=>pt g z (sf kd 37 3)::hs) (fB qo)) (stp 0 0 I I hgk2 I ?_);refine WL.hs (pt g (kA kd pre (swp a (a+k) zs) post) (sf kd 37 3)::hs) (congrArg (fun z=>pt g z (sf kd 37 3)::hs) (fB (by rw[aay];omega))) (di (.inl qk) (be qk 0 rfl (ac8 ?_)));have hs1:=GH kd (w0:=w0) (K:=K) (hs:=hs) g cap pre post (swp a (a+k) zs) 0 k a (by rw[n5];omega) (by rw[n5];omega) (by rw[n5];omega) (aag _) (hI.swap qo qo)
   rw[n5,hzl] at hs1;refine cl 4 I hs1 ?_;rintro v55 K55 hs55 ⟨rfl,us,rfl,hU,hH2⟩;exact fin 0 I (ac7 (ar 1 I (ac qo) (fin 1 I (bc (x:=(k+1,zs)) (k,us) sb I I ⟨ax,(hQ.trans (cz.swp ⟨qo,qo⟩ ⟨qo,qo⟩ qo)).trans (hU.wide qo qo),hI.step qo qo hU hH2⟩ ax))))
  obtain rfl:n=0:=qo
  refine ex (xt (xt (xb ?_)));subst hhi;exact gW I ⟨I,zs,I,hQ,hI.done⟩
end
section
structure fG (P Q:Nat->Nat->Prop) (a b i j:Nat) (xs:List Nat):Prop where
 i1:a+1<=i
 ij:i<=j+1
 jb:j+1<=b
 lo:∀ p,a+1<=p->p<i->P (xs.getD p 0) (xs.getD a 0)
 hi:∀ p,j<p->p<b->Q (xs.getD p 0) (xs.getD a 0)
def fG.start(P Q:Nat->Nat->Prop){a b:Nat}{xs:List Nat}(h:a<b):fG P Q a b (a+1) (b-1) xs:=
 ⟨aac _,qo,qo,fun p h1 h2=>by omega,fun p h1 h2=>by omega⟩
def fG.up{P:Nat->Nat->Prop}{a b i j:Nat}{xs:List Nat}(h:fG P Q a b i j xs)(hij:i<=j)(hp:P (xs.getD i 0) (xs.getD a 0)):fG P Q a b (i+1) j xs:=
 ⟨by have:=h.i1;omega,qo,h.jb,fun p h1 h2=>by
  by_cases e:p=i
  ·rw[e];exact hp
  exact h.lo p h1 qo,h.hi⟩
def fG.down{P:Nat->Nat->Prop}{a b i j:Nat}{xs:List Nat}(h:fG P Q a b i j xs)(hij:i<=j)(hq:Q (xs.getD j 0) (xs.getD a 0)):fG P Q a b i (j-1) xs:=
 ⟨h.i1,qo,by have:=h.jb;omega,h.lo,fun p h1 h2=>by
  by_cases e:p=j
  ·rw[e];exact hq
  exact h.hi p qo h2⟩
def fG.swap{P:Nat->Nat->Prop}{a b i j:Nat}{xs:List Nat}(h:fG P Q a b i j xs)(hij:i<j)(hl:b<=ba xs)(hp:P (xs.getD j 0) (xs.getD a 0))(hq:Q (xs.getD i 0) (xs.getD a 0)):fG P Q a b (i+1) (j-1) (swp i j xs):=by
 have h1:=h.i1;have h2:=h.jb;have hg:∀ k,(swp i j xs).getD k 0=if k=j then xs.getD i 0 else if k=i then xs.getD j 0 else xs.getD k 0:=lI qo qo;have ha:(swp i j xs).getD a 0=xs.getD a 0:=by grind
 refine ⟨qo,qo,qo,fun p h3 h4=>?_,fun p h3 h4=>?_⟩
 ·rw[ha,hg,aaa qo]
  by_cases e:p=i
  ·rw[aab e];exact hp
  rw[aaa e];exact h.lo p h3 qo
 rw[ha,hg]
 by_cases e:p=j
 ·rw[aab e];exact hq
 rw[aaa e,aaa qo];exact h.hi p qo h4
def fG.last{P:Nat->Nat->Prop}{a b j:Nat}{xs:List Nat}(h:fG P Q a b (j+1) j xs)(hl:b<=ba xs):
  (∀ p,a<=p->p<j->P ((swp j a xs).getD p 0) ((swp j a xs).getD j 0))/\∀ p,j<p->p<b->Q ((swp j a xs).getD p 0) ((swp j a xs).getD j 0):=by
 have h1:=h.i1;have h2:=h.jb;have hg:∀ k,(swp j a xs).getD k 0=if k=a then xs.getD j 0 else if k=j then xs.getD a 0 else xs.getD k 0:=lI qo qo
 have hj:(swp j a xs).getD j 0=xs.getD a 0:=by
  simp_all
 refine ⟨fun p h3 h4=>?_,fun p h3 h4=>?_⟩
 ·rw[hj,hg]
  by_cases e:p=a
  ·rw[aab e];exact h.lo j qo qo
  rw[aaa e,aaa qo];exact h.lo p qo qo
 rw[hj,hg,aaa qo,aaa qo];exact h.hi p h3 h4
def dZ.join{a b m:Nat}{xs:List Nat}(h1:dZ a m xs)(h2:dZ (m+1) b xs)(hlo:∀ p,a<=p->p<m->xs.getD p 0<=xs.getD m 0)(hhi:∀ p,m<p->p<b->xs.getD m 0<=xs.getD p 0):dZ a b xs:=fun i j g1 g2 g3=>by
 by_cases e1:j<m
 ·exact h1 i j g1 g2 e1
 by_cases e2:j=m
 ·subst e2;exact hlo i g1 g2
 by_cases e3:i=m
 ·subst e3;exact hhi j qo g3
 by_cases e4:i<m
 ·grind
 exact h2 i j qo g2 g3
end
section
attribute [local irreducible] Code.wp wpList Calls
def Qm(kd:Bool)(g cap:Nat)(pre post:List Value)(xs:List Nat)(a b pv:Nat)(hab:a<b)(hpv:a<=pv/\pv<b)(hb:b<=ba xs)(hc:ba xs<=cap)(hl:ba xs<=1099511627776):
  aj w0 (sf kd 199 182) [.slice (some ⟨g,ba pre,none⟩) (ba xs) cap,.int .i64 (a:Nat),.int .i64 (b:Nat),.int .i64 (pv:Nat)] K (pt g (kA kd pre xs post) (sf kd 37 3)::hs)
   (fun v K' hs'=>K'=K/\∃ ys,∃ i:Nat,hs'=pt g (kA kd pre ys post) (sf kd 37 3)::hs/\v=.int .i64 (i:Nat)/\cz a b xs ys/\a+1<=i/\i<=b/\(∀ p,a+1<=p->p<i->ys.getD p 0<=ys.getD a 0)/\(∀ p,i<=p->p<b->ys.getD a 0<ys.getD p 0)/\ys.getD a 0=xs.getD pv 0):=by
 cases kd
 let kd:Bool:=false
 rewrite [show sf false=sf kd from rfl]
 try rewrite [show kA false=kA kd from rfl]
 refine enter Tryz.func182 qk I I I ?_
 rotate_left
 let kd:Bool:=true
 rewrite [show sf true=sf kd from rfl]
 try rewrite [show kA true=kA kd from rfl]
 refine enter Tryz.func199 qk I I I ?_
 rotate_left
 all_goals
  refine ac9 ?_;have hgi:(kA kd pre xs post)[ba pre+a]?=some (.int (kI kd) ((xs.getD a 0:Nat):Int)):=cI qo;have hgj:(kA kd pre xs post)[ba pre+pv]?=some (.int (kI kd) ((xs.getD pv 0:Nat):Int)):=cI qo;have hgj2:(kA kd pre (xs.set a (xs.getD pv 0)) post)[ba pre+pv]?=some (.int (kI kd) (((xs.set a (xs.getD pv 0)).getD pv 0:Nat):Int)):=cI (by rw[aay];omega);refine fin 1 I (th (sq (bI [pt g (kA kd pre xs post) (sf kd 37 3)] 13 [0,2,4,6,8,10,12,14,16,18,20,22,24,27,28,31] ST qk qk (bh qk 6 pv I I qo ?_))));simp only[bz,aah];refine dC qk 0 0 I qk I hgj (bh qk 2 a I I qo ?_);simp only[bz,aah];refine dC qk 0 0 I qk I hgi (bh qk 0 a I I qo ?_);simp only[bz,aah];refine aG qk 0 I (stp 0 0 I I hgi I (di (.inl qk) (bh qk 0 pv I I qo ?_)))
  simp only[bz,aah];refine aG qk 0 I ?_;refine WL.hs (pt g (kA kd pre (xs.set a (xs.getD pv 0)) post) (sf kd 37 3)::hs) (congrArg (fun z=>pt g z (sf kd 37 3)::hs) (fB qo)) (stp 0 0 I I hgj2 I ?_);refine WL.hs (pt g (kA kd pre (swp a pv xs) post) (sf kd 37 3)::hs) (congrArg (fun z=>pt g z (sf kd 37 3)::hs) (fB (by rw[aay];omega))) (di (.inl qk) (be qk 0 rfl (ac6 ?_)));have hswl:=n5 a pv xs
  have hva:(swp a pv xs).getD a 0=xs.getD pv 0:=by
   rw[lI qo qo]
   by_cases e:a=pv
   ·rw[aab e,e]
   rw[aaa e,aab rfl]
  refine ar 1 I (ac (x:=((a+1:Nat):Int)) qo) (ar 1 I (v':=.int .i64 (b-1:Nat)) (by rw[show ((b:Nat):Int)-1=((b-1:Nat):Int) from qo];exact ac qo) (fin 2 I (th (sq (bk ?_)))))
  refine loop (σ:=Nat×Nat×List Nat) (fun s=>[(0,.slice (some ⟨g,ba pre,none⟩) (ba xs) cap),(1,.int .i64 (a:Nat)),(9,.int .i64 s.1),(10,.int .i64 s.2.1)]) (fun _=>K) (fun s=>pt g (kA kd pre s.2.2 post) (sf kd 37 3)::hs)
   (fun s=>cz a b xs s.2.2/\fG (fun x y=>x<=y) (fun x y=>y<x) a b s.1 s.2.1 s.2.2/\s.2.2.getD a 0=xs.getD pv 0) (fun s=>s.2.1+1-s.1) (a+1,b-1,swp a pv xs) ⟨cz.swp ⟨qo,qo⟩ ⟨qo,qo⟩ hb,fG.start _ _ hab,hva⟩ ⟨rfl,rfl,rfl,rfl,trivial⟩ rfl rfl ?_
  rintro ⟨i0,j0,ys⟩ ⟨hP,hI0,hv0⟩;dsimp only at *;have hyl:ba ys=ba xs:=hP.len;refine bk (jn (σ:=Nat) (fun i=>[(0,.slice (some ⟨g,ba pre,none⟩) (ba xs) cap),(1,.int .i64 (a:Nat)),(9,.int .i64 (i:Nat)),(10,.int .i64 (j0:Nat))]) (fun _=>pt g (kA kd pre ys post) (sf kd 37 3)::hs) (fun i=>i0<=i/\fG (fun x y=>x<=y) (fun x y=>y<x) a b i j0 ys/\(i<=j0->ys.getD a 0<ys.getD i 0)) ?_ ?_)
  ·refine bk (loop (σ:=Nat) (fun i=>[(0,.slice (some ⟨g,ba pre,none⟩) (ba xs) cap),(1,.int .i64 (a:Nat)),(9,.int .i64 (i:Nat)),(10,.int .i64 (j0:Nat))]) (fun _=>K) (fun _=>pt g (kA kd pre ys post) (sf kd 37 3)::hs) (fun i=>i0<=i/\fG (fun x y=>x<=y) (fun x y=>y<x) a b i j0 ys) (fun i=>j0+1-i) i0 ⟨aac _,hI0⟩ ⟨I,I,I,I,trivial⟩ I I ?_);rintro i ⟨hi0,hI⟩;have q1:=hI.i1;have q2:=hI.ij;have q3:=hI.jb;refine sq (sq (bI [pt g (kA kd pre ys post) (sf kd 37 3)] 15 [0,2,4,6,8,10,12,14,16,18,20,22,25,26,28] ST qk qk (gD qk 2 (i<=j0) I ST (fun h1=>?_) (fun h1=>?_))))
   ·refine bh qk 3 a I I qo ?_;simp only[bz,aah];refine dF qk 0 0 I I (cI qo) (bh qk 2 i I I qo ?_);simp only[bz,aah];refine dF qk 0 0 I I (cI qo) (aG qk 0 I (cl 0 I (kJ kd (ys.getD a 0) (ys.getD i 0)) ?_));rintro v41 K41 hs41 ⟨rfl,rfl,rfl⟩;refine bp ST I ?_
    by_cases hlt:ys.getD a 0<ys.getD i 0
    ·rw[decide_eq_true hlt];exact be qk 2 I (th (dt I (ex (xt (xt (xb (jx i ⟨hi0,hI,fun _=>hlt⟩ sb I I)))))))
    rw[decide_eq_false hlt];exact be qk 2 I (th (dY I (sk (th (bk (rg (ar 1 I (ac (x:=((i+1:Nat):Int)) qo) (fin 1 I (bl (bc (x:=i) (i+1) sb I I ⟨qo,hI.up h1 (abs hlt)⟩ qo))))))))))
   exact aG qk 9 I<|WL.pures 1 I (bp ST I<|be qk 2 I (th<|dt I (ex<|xt (xt<|xb (jx i ⟨hi0,hI,fun h=>absurd h h1⟩ sb I I)))))
  rintro i ⟨hi0,hI,hq⟩;refine jn (σ:=Nat) (fun j=>[(0,.slice (some ⟨g,ba pre,none⟩) (ba xs) cap),(1,.int .i64 (a:Nat)),(9,.int .i64 (i:Nat)),(10,.int .i64 (j:Nat))]) (fun _=>pt g (kA kd pre ys post) (sf kd 37 3)::hs) (fun j=>j<=j0/\fG (fun x y=>x<=y) (fun x y=>y<x) a b i j ys/\(i<=j->ys.getD a 0<ys.getD i 0)/\(i<=j->ys.getD j 0<=ys.getD a 0)) ?_ ?_
  ·refine bk (loop (σ:=Nat) (fun j=>[(0,.slice (some ⟨g,ba pre,none⟩) (ba xs) cap),(1,.int .i64 (a:Nat)),(9,.int .i64 (i:Nat)),(10,.int .i64 (j:Nat))]) (fun _=>K) (fun _=>pt g (kA kd pre ys post) (sf kd 37 3)::hs) (fun j=>j<=j0/\fG (fun x y=>x<=y) (fun x y=>y<x) a b i j ys) (fun j=>j+1-i) j0 ⟨aac _,hI⟩ ⟨I,I,I,I,trivial⟩ I I ?_);rintro j ⟨hj0,hJ⟩;have q1:=hJ.i1;have q2:=hJ.ij;have q3:=hJ.jb;refine sq (sq (bI [pt g (kA kd pre ys post) (sf kd 37 3)] 14 [0,2,4,6,8,10,12,14,16,18,20,22,25,26] ST qk qk (gD qk 2 (i<=j) I ST (fun h1=>?_) (fun h1=>?_))))
   ·refine bh qk 3 a I I qo ?_;simp only[bz,aah];refine dF qk 0 0 I I (cI qo) (bh qk 2 j I I qo ?_);simp only[bz,aah];refine dF qk 0 0 I I (cI qo) (aG qk 0 I (cl 0 I (kJ kd (ys.getD a 0) (ys.getD j 0)) ?_));rintro v58 K58 hs58 ⟨rfl,rfl,rfl⟩;refine bp ST I ?_
    by_cases hlt:ys.getD a 0<ys.getD j 0
    ·rw[decide_eq_true hlt];exact be qk 1 I (th (dY I (sk (th (bk (rg (ar 1 I (v':=.int .i64 (j-1:Nat)) (by rw[show ((j:Nat):Int)-1=((j-1:Nat):Int) from qo];exact ac qo) (fin 1 I (bl (bc (x:=j) (j-1) sb I I ⟨qo,hJ.down h1 hlt⟩ qo))))))))))
    rw[decide_eq_false hlt];exact be qk 1 I (th (dt I (ex (xt (xt (xb (jx j ⟨hj0,hJ,fun h=>hq qo,fun _=>abs hlt⟩ sb I I)))))))
   exact aG qk 9 I<|WL.pures 1 I (bp ST I<|be qk 1 I (th<|dt I (ex<|xt (xt<|xb (jx j ⟨hj0,hJ,fun h=>absurd h h1,fun h=>absurd h h1⟩ sb I I)))))
  rintro j ⟨hj0,hJ,hqi,hqj⟩;have q1:=hJ.i1;have q2:=hJ.ij;have q3:=hJ.jb;refine sq (ac9 (af 2 I fun b64 h64=>fin 0 I (th (ah h64 I (fun e6=>?_) (fun e6=>?_)))))
  ·obtain rfl:i=j+1:=qo
   exact ex<|xt (xn I<|xt (xb<|ac6 (fin 2 I<|adb<|ay I I ⟨I,ys,j+1,I,I,hP,qo,qo,hJ.lo,fun p g1 g2=>hJ.hi p qo g2,hv0⟩)))
  have hij:i<j:=by
   rcases aaU i j with h|h
   ·exact h
   have h1:=hqi qo;have h2:=hqj qo;have:i=j:=qo
   subst this;omega
  have hgi:(kA kd pre ys post)[ba pre+i]?=some (.int (kI kd) ((ys.getD i 0:Nat):Int)):=cI qo;have hgj:(kA kd pre ys post)[ba pre+j]?=some (.int (kI kd) ((ys.getD j 0:Nat):Int)):=cI qo;have hgj2:(kA kd pre (ys.set i (ys.getD j 0)) post)[ba pre+j]?=some (.int (kI kd) (((ys.set i (ys.getD j 0)).getD j 0:Nat):Int)):=cI (by rw[aay];omega);refine sk (th (sq (bI [pt g (kA kd pre ys post) (sf kd 37 3)] 13 [0,2,4,6,8,10,12,14,16,18,20,22,24,27,28,31] ST qk qk (bh qk 6 j I I qo ?_))));simp only[bz,aah];refine dC qk 0 0 I qk I hgj (bh qk 2 i I I qo ?_);simp only[bz,aah];refine dC qk 0 0 I qk I hgi (bh qk 0 i I I qo ?_);simp only[bz,aah];refine aG qk 0 I (stp 0 0 I I hgi I (di (.inl qk) (bh qk 0 j I I qo ?_)))
  simp only[bz,aah];refine aG qk 0 I ?_;refine WL.hs (pt g (kA kd pre (ys.set i (ys.getD j 0)) post) (sf kd 37 3)::hs) (congrArg (fun z=>pt g z (sf kd 37 3)::hs) (fB qo)) (stp 0 0 I I hgj2 I ?_);refine WL.hs (pt g (kA kd pre (swp i j ys) post) (sf kd 37 3)::hs) (congrArg (fun z=>pt g z (sf kd 37 3)::hs) (fB (by rw[aay];omega))) (di (.inl qk) (be qk 0 rfl (ac6 (ar 1 rfl (ac (x:=((i+1:Nat):Int)) qo) (fin 1 rfl (ac8 (ar 1 rfl (v':=.int .i64 (j-1:Nat)) (by rw[show ((j:Nat):Int)-1=((j-1:Nat):Int) from qo];exact ac qo) (fin 1 I (bl ?_)))))))));exact bc (x:=(i0,j0,ys)) (i+1,j-1,swp i j ys) sb I I ⟨hP.trans (cz.swp ⟨qo,qo⟩ ⟨qo,qo⟩ qo),hJ.swap hij qo (hqj qo) (hqi qo),by rw[lI qo qo,aaa qo,aaa qo];exact hv0⟩ ax
end
section
def ji(a b:Nat)(xs:List Nat):Prop:=∀ p q,p<a->a<=q->q<b->xs.getD p 0<=xs.getD q 0
def cz.outD{a b:Nat}{xs ys:List Nat}(h:cz a b xs ys){i:Nat}(hi:i<a\/b<=i):ys.getD i 0=xs.getD i 0:=by
 rw[aaB,h.out i hi,aaB]
def ji.zero(b:Nat)(xs:List Nat):ji 0 b xs:=fun p q h=>by omega
theorem ji.perm{a b:Nat}{xs ys:List Nat}(h:ji a b xs)(hP:cz a b xs ys)(hb:b<=ba xs):ji a b ys:=fun p q h1 h2 h3=>by
 obtain ⟨r,r1,r2,r3⟩:=hP.mem hb h2 h3;rw[hP.outD (.inl h1),r3];exact h p r h1 r1 r2
def ji.cut{a b m:Nat}{xs:List Nat}(h:ji a b xs)(hm:m<=b):ji a m xs:=fun p q h1 h2 h3=>h p q h1 h2 qo
def dZ.same{a b:Nat}{xs ys:List Nat}(h:dZ a b xs)(he:∀ p,a<=p->p<b->ys.getD p 0=xs.getD p 0):dZ a b ys:=fun i j h1 h2 h3=>by
 rw[he i h1 qo,he j qo h3];exact h i j h1 h2 h3
def jh(a b c d:Nat)(xs:List Nat):Prop:=∀ zs,cz c d xs zs->dZ c d zs->dZ a b zs
def jh.self(a b:Nat)(xs:List Nat):jh a b a b xs:=fun _ _ h=>h
def jh.step{a b c d:Nat}{xs ys:List Nat}(h:jh a b c d xs)(hP:cz c d xs ys):jh a b c d ys:=fun zs h1 h2=>h zs (hP.trans h1) h2
structure mA (c d m:Nat) (ys:List Nat):Prop where
 m1:c<=m
 m2:m<d
 lo:∀ p,c<=p->p<m->ys.getD p 0<=ys.getD m 0
 hi:∀ p,m<p->p<d->ys.getD m 0<=ys.getD p 0
def mA.left{c d m:Nat}{ys zs:List Nat}(h:mA c d m ys)(hP:cz c m ys zs)(hd:d<=ba ys):mA c d m zs:=by
 have h2:=h.m2;refine ⟨h.m1,h.m2,fun p p1 p2=>?_,fun p p1 p2=>?_⟩
 ·obtain ⟨q,q1,q2,q3⟩:=hP.mem qo p1 p2;rw[q3,hP.outD (.inr (aac _))];exact h.lo q q1 q2
 rw[hP.outD (.inr (aac _)),hP.outD (i:=p) (.inr qo)];exact h.hi p p1 p2
def mA.right{c d m:Nat}{ys zs:List Nat}(h:mA c d m ys)(hP:cz (m+1) d ys zs)(hd:d<=ba ys):mA c d m zs:=by
 have h2:=h.m2;refine ⟨h.m1,h.m2,fun p p1 p2=>?_,fun p p1 p2=>?_⟩
 ·rw[hP.outD (i:=p) (.inl qo),hP.outD (.inl (acQ _))];exact h.lo p p1 p2
 obtain ⟨q,q1,q2,q3⟩:=hP.mem hd qo p2;rw[q3,hP.outD (.inl (acQ _))];exact h.hi q qo q2
def mA.loB{c d m:Nat}{ys:List Nat}(h:mA c d m ys)(hl:ji c d ys):ji (m+1) d ys:=fun p q h1 h2 h3=>by
 have g1:=h.m1
 by_cases e:p<c
 ·exact hl p q e qo h3
 by_cases e2:p=m
 ·rw[e2];exact h.hi q qo h3
 exact aat (h.lo p qo qo)<|h.hi q qo h3
theorem jh.left{a b c d m:Nat}{ys zs:List Nat}(h:jh a b c d ys)(hA:mA c d m ys)(hd:d<=ba ys)(hP:cz c m ys zs)(hS:dZ c m zs):jh a b (m+1) d zs:=fun us h1 h2=>by
 have g1:=hA.m1;have g2:=hA.m2;have hA2:=(hA.left hP hd).right h1 (by rw[hP.len];exact hd);refine h us ((hP.wide (aac _) qo).trans (h1.wide qo (aac _))) (dZ.join (m:=m) (hS.same fun p p1 p2=>h1.outD (.inl qo)) h2 hA2.lo hA2.hi)
theorem jh.right{a b c d m:Nat}{ys zs:List Nat}(h:jh a b c d ys)(hA:mA c d m ys)(hd:d<=ba ys)(hP:cz (m+1) d ys zs)(hS:dZ (m+1) d zs):jh a b c m zs:=fun us h1 h2=>by
 have g1:=hA.m1;have g2:=hA.m2;have hA2:=(hA.right hP hd).left h1 (by rw[hP.len];exact hd);refine h us ((hP.wide qo (aac _)).trans (h1.wide (aac _) qo)) (dZ.join (m:=m) h2 (hS.same fun p p1 p2=>h1.outD (.inr qo)) hA2.lo hA2.hi)
def jh.equal{a b c d i:Nat}{ys:List Nat}(h:jh a b c d ys)(hc:0<c)(hci:c+1<=i)(hid:i<=d)(hd:d<=ba ys)(hl:ji c d ys)(hle:ys.getD c 0<=ys.getD (c-1) 0)(h1:∀ p,c+1<=p->p<i->ys.getD p 0<=ys.getD c 0)(h2:∀ p,i<=p->p<d->ys.getD c 0<ys.getD p 0):
  jh a b i d ys/\ji i d ys:=by
 have heq:∀ p,c<=p->p<i->ys.getD p 0=ys.getD c 0:=fun p p1 p2=>by
  by_cases e:p=c
  ·rw[e]
  have:=h1 p qo p2;have:=hl (c-1) p qo p1 qo;omega
 refine ⟨fun us g1 g2=>h us (g1.wide qo<|aac _) fun p q q1 q2 q3=>?_,fun p q q1 q2 q3=>?_⟩
 ·by_cases e1:q<i
  ·rw[g1.outD (i:=p) (.inl qo),g1.outD (i:=q) (.inl qo),heq p q1 qo,heq q qo e1];omega
  by_cases e2:p<i
  ·obtain ⟨r,r1,r2,r3⟩:=g1.mem hd (by omega:i<=q) q3;rw[g1.outD (i:=p) (.inl e2),heq p q1 e2,r3];exact acv (h2 r r1 r2)
  exact g2 p q qo q2 q3
 by_cases e:p<c
 ·exact hl p q e qo q3
 grind
def dZ.one{a b:Nat}{xs:List Nat}(h:b<=a+1):dZ a b xs:=fun i j h1 h2 h3=>by omega
def dZ.snoc{a b:Nat}{xs:List Nat}(h:dZ a b xs)(hab:a<b)(hle:xs.getD (b-1) 0<=xs.getD b 0):dZ a (b+1) xs:=fun i j h1 h2 h3=>by
 by_cases e:j=b
 ·rw[e]
  by_cases e2:i=b-1
  ·rw[e2];exact hle
  exact aat (h i (b-1) h1 qo qo) hle
 exact h i j h1 h2 qo
end
section
attribute [local irreducible] Code.wp wpList Calls
def Ro(kd:Bool)(g cap:Nat)(pre post:List Value)(xs:List Nat)(a b pv:Nat)(hab:a<b)(hpv:a<=pv/\pv<b)(hb:b<=ba xs)(hc:ba xs<=cap)(hl:ba xs<=1099511627776):
  aj w0 (sf kd 200 183) [.slice (some ⟨g,ba pre,none⟩) (ba xs) cap,.int .i64 (a:Nat),.int .i64 (b:Nat),.int .i64 (pv:Nat)] K (pt g (kA kd pre xs post) (sf kd 37 3)::hs)
   (fun v K' hs'=>K'=K/\∃ ys,∃ m:Nat,∃ t:Bool,hs'=pt g (kA kd pre ys post) (sf kd 37 3)::hs/\v=.tuple #[.int .i64 (m:Nat),.bool t]/\cz a b xs ys/\mA a b m ys):=by
 cases kd
 let kd:Bool:=false
 rewrite [show sf false=sf kd from rfl]
 try rewrite [show kA false=kA kd from rfl]
 refine enter Tryz.func183 qk I I I ?_
 rotate_left
 let kd:Bool:=true
 rewrite [show sf true=sf kd from rfl]
 try rewrite [show kA true=kA kd from rfl]
 refine enter Tryz.func200 qk I I I ?_
 rotate_left
 all_goals
  refine ac9 (fin 2 I (th (sq ?_)));have hgi:(kA kd pre xs post)[ba pre+a]?=some (.int (kI kd) ((xs.getD a 0:Nat):Int)):=cI qo;have hgj:(kA kd pre xs post)[ba pre+pv]?=some (.int (kI kd) ((xs.getD pv 0:Nat):Int)):=cI qo;have hgj2:(kA kd pre (xs.set a (xs.getD pv 0)) post)[ba pre+pv]?=some (.int (kI kd) (((xs.set a (xs.getD pv 0)).getD pv 0:Nat):Int)):=cI (by rw[aay];omega);refine bI [pt g (kA kd pre xs post) (sf kd 37 3)] 13 [0,2,4,6,8,10,12,14,16,18,20,22,24,27,28,31] ST qk qk (bh qk 6 pv I I qo ?_);simp only[bz,aah];refine dC qk 0 0 I qk I hgj (bh qk 2 a I I qo ?_);simp only[bz,aah];refine dC qk 0 0 I qk I hgi (bh qk 0 a I I qo ?_);simp only[bz,aah];refine aG qk 0 I (stp 0 0 I I hgi I (di (.inl qk) (bh qk 0 pv I I qo ?_)))
  simp only[bz,aah];refine aG qk 0 I ?_;refine WL.hs (pt g (kA kd pre (xs.set a (xs.getD pv 0)) post) (sf kd 37 3)::hs) (congrArg (fun z=>pt g z (sf kd 37 3)::hs) (fB qo)) (stp 0 0 I I hgj2 I ?_);refine WL.hs (pt g (kA kd pre (swp a pv xs) post) (sf kd 37 3)::hs) (congrArg (fun z=>pt g z (sf kd 37 3)::hs) (fB (by rw[aay];omega))) (di (.inl qk) (be qk 0 rfl (ac6 ?_)));have hswl:=n5 a pv xs;have hP0:cz a b xs (swp a pv xs):=cz.swp ⟨qo,qo⟩ ⟨qo,qo⟩ hb;refine ar 1 I (ac (x:=((a+1:Nat):Int)) qo) (ar 1 I (v':=.int .i64 (b-1:Nat)) (by rw[show ((b:Nat):Int)-1=((b-1:Nat):Int) from qo];exact ac qo) ?_);obtain ⟨ys,hys⟩:=bC (swp a pv xs);rw[<-hys] at hswl hP0 ⊢;clear hys;have hyl:ba ys=ba xs:=hswl;refine fin 2 I (th (jn (σ:=Nat) (fun i=>[(0,.slice (some ⟨g,ba pre,none⟩) (ba xs) cap),(1,.int .i64 (a:Nat)),(10,.int .i64 (i:Nat)),(11,.int .i64 (((b-1):Nat):Int))]) (fun _=>pt g (kA kd pre ys post) (sf kd 37 3)::hs) (fun i=>(a+1)<=i/\fG (fun x y=>x<y) (fun x y=>y<=x) a b i (b-1) ys/\(i<=(b-1)->ys.getD a 0<=ys.getD i 0)) ?_ ?_))
  ·refine bk (loop (σ:=Nat) (fun i=>[(0,.slice (some ⟨g,ba pre,none⟩) (ba xs) cap),(1,.int .i64 (a:Nat)),(10,.int .i64 (i:Nat)),(11,.int .i64 (((b-1):Nat):Int))]) (fun _=>K) (fun _=>pt g (kA kd pre ys post) (sf kd 37 3)::hs) (fun i=>(a+1)<=i/\fG (fun x y=>x<y) (fun x y=>y<=x) a b i (b-1) ys) (fun i=>(b-1)+1-i) (a+1) ⟨aac _,fG.start _ _ hab⟩ ⟨I,I,I,I,trivial⟩ I I ?_);rintro i ⟨hi0,hI⟩;have q1:=hI.i1;have q2:=hI.ij;have q3:=hI.jb;refine sq (sq (bI [pt g (kA kd pre ys post) (sf kd 37 3)] 14 [0,2,4,6,8,10,12,14,16,18,20,22,25,26] ST qk qk (gD qk 2 (i<=(b-1)) I ST (fun h1=>?_) (fun h1=>?_))))
   ·refine bh qk 3 i I I qo ?_;simp only[bz,aah];refine dF qk 0 0 I I (cI qo) (bh qk 2 a I I qo ?_);simp only[bz,aah];refine dF qk 0 0 I I (cI qo) (aG qk 0 I (cl 0 I (kJ kd (ys.getD i 0) (ys.getD a 0)) ?_));rintro v41 K41 hs41 ⟨rfl,rfl,rfl⟩;refine bp ST I ?_
    by_cases hlt:ys.getD i 0<ys.getD a 0
    ·rw[decide_eq_true hlt];exact be qk 1 I (th (dY I (sk (th (bk (rg (ar 1 I (ac (x:=((i+1:Nat):Int)) qo) (fin 1 I (bl (bc (x:=i) (i+1) sb I I ⟨qo,hI.up h1 hlt⟩ qo))))))))))
    rw[decide_eq_false hlt];exact be qk 1 I (th (dt I (ex (xt (xt (xb (jx i ⟨hi0,hI,fun _=>abs hlt⟩ sb I I)))))))
   exact aG qk 9 I<|WL.pures 1 I (bp ST I<|be qk 1 I (th<|dt I (ex<|xt (xt<|xb (jx i ⟨hi0,hI,fun h=>absurd h h1⟩ sb I I)))))
  rintro i ⟨hi0,hI,hq⟩;refine jn (σ:=Nat) (fun j=>[(0,.slice (some ⟨g,ba pre,none⟩) (ba xs) cap),(1,.int .i64 (a:Nat)),(10,.int .i64 (i:Nat)),(11,.int .i64 (j:Nat))]) (fun _=>pt g (kA kd pre ys post) (sf kd 37 3)::hs) (fun j=>j<=(b-1)/\fG (fun x y=>x<y) (fun x y=>y<=x) a b i j ys/\(i<=j->ys.getD a 0<=ys.getD i 0)/\(i<=j->ys.getD j 0<ys.getD a 0)) ?_ ?_
  ·refine bk (loop (σ:=Nat) (fun j=>[(0,.slice (some ⟨g,ba pre,none⟩) (ba xs) cap),(1,.int .i64 (a:Nat)),(10,.int .i64 (i:Nat)),(11,.int .i64 (j:Nat))]) (fun _=>K) (fun _=>pt g (kA kd pre ys post) (sf kd 37 3)::hs) (fun j=>j<=(b-1)/\fG (fun x y=>x<y) (fun x y=>y<=x) a b i j ys) (fun j=>j+1-i) ((b-1)) ⟨aac _,hI⟩ ⟨I,I,I,I,trivial⟩ I I ?_);rintro j ⟨hj0,hJ⟩;have q1:=hJ.i1;have q2:=hJ.ij;have q3:=hJ.jb;refine sq (sq (bI [pt g (kA kd pre ys post) (sf kd 37 3)] 15 [0,2,4,6,8,10,12,14,16,18,20,22,25,26,28] ST qk qk (gD qk 2 (i<=j) I ST (fun h1=>?_) (fun h1=>?_))))
   ·refine bh qk 3 j I I qo ?_;simp only[bz,aah];refine dF qk 0 0 I I (cI qo) (bh qk 2 a I I qo ?_);simp only[bz,aah];refine dF qk 0 0 I I (cI qo) (aG qk 0 I (cl 0 I (kJ kd (ys.getD j 0) (ys.getD a 0)) ?_));rintro v58 K58 hs58 ⟨rfl,rfl,rfl⟩;refine bp ST I ?_
    by_cases hlt:ys.getD j 0<ys.getD a 0
    ·rw[decide_eq_true hlt];exact be qk 2 I (th (dt I (ex (xt (xt (xb (jx j ⟨hj0,hJ,fun h=>hq qo,fun _=>hlt⟩ sb I I)))))))
    rw[decide_eq_false hlt];exact be qk 2 I (th (dY I (sk (th (bk (rg (ar 1 I (v':=.int .i64 (j-1:Nat)) (by rw[show ((j:Nat):Int)-1=((j-1:Nat):Int) from qo];exact ac qo) (fin 1 I (bl (bc (x:=j) (j-1) sb I I ⟨qo,hJ.down h1 (abs hlt)⟩ qo))))))))))
   exact aG qk 9 I<|WL.pures 1 I (bp ST I<|be qk 2 I (th<|dt I (ex<|xt (xt<|xb (jx j ⟨hj0,hJ,fun h=>absurd h h1,fun h=>absurd h h1⟩ sb I I)))))
  rintro j ⟨hj0,hJ,hqi,hqj⟩;have q1:=hJ.i1;have q2:=hJ.ij;have q3:=hJ.jb;refine sq (ac9 (af 2 I fun b65 h65=>fin 0 I (th (ah h65 I (fun e6=>?_) (fun e6=>?_)))))
  ·obtain rfl:i=j+1:=qo
   have hgi:(kA kd pre ys post)[ba pre+j]?=some (.int (kI kd) ((ys.getD j 0:Nat):Int)):=cI qo;have hgj:(kA kd pre ys post)[ba pre+a]?=some (.int (kI kd) ((ys.getD a 0:Nat):Int)):=cI qo;have hgj2:(kA kd pre (ys.set j (ys.getD a 0)) post)[ba pre+a]?=some (.int (kI kd) (((ys.set j (ys.getD a 0)).getD a 0:Nat):Int)):=cI (by rw[aay];omega);refine sq (bI [pt g (kA kd pre ys post) (sf kd 37 3)] 13 [0,2,4,6,8,10,12,14,16,18,20,22,24,27,28,31] ST qk qk (bh qk 6 a I I qo ?_));simp only[bz,aah];refine dC qk 0 0 I qk I hgj (bh qk 2 j I I qo ?_);simp only[bz,aah];refine dC qk 0 0 I qk I hgi (bh qk 0 j I I qo ?_);simp only[bz,aah];refine aG qk 0 I (stp 0 0 I I hgi I (di (.inl qk) (bh qk 0 a I I qo ?_)))
   simp only[bz,aah];refine aG qk 0 I ?_;refine WL.hs (pt g (kA kd pre (ys.set j (ys.getD a 0)) post) (sf kd 37 3)::hs) (congrArg (fun z=>pt g z (sf kd 37 3)::hs) (fB qo)) (stp 0 0 I I hgj2 I ?_);refine WL.hs (pt g (kA kd pre (swp j a ys) post) (sf kd 37 3)::hs) (congrArg (fun z=>pt g z (sf kd 37 3)::hs) (fB (by rw[aay];omega))) (di (.inl qk) (be qk 0 rfl (ac6 (fin 3 rfl (adb ?_)))));have hA:=hJ.last qo;exact bL I I I ⟨I,swp j a ys,j,true,I,I,hP0.trans (cz.swp ⟨qo,qo⟩ ⟨qo,qo⟩ qo),⟨qo,qo,fun p p1 p2=>acv (hA.1 p p1 p2),hA.2⟩⟩
  have hij:i<j:=by
   rcases aaU i j with h|h
   ·exact h
   have h1:=hqi qo;have h2:=hqj qo;have:i=j:=qo
   subst this;omega
  have hgi:(kA kd pre ys post)[ba pre+i]?=some (.int (kI kd) ((ys.getD i 0:Nat):Int)):=cI qo;have hgj:(kA kd pre ys post)[ba pre+j]?=some (.int (kI kd) ((ys.getD j 0:Nat):Int)):=cI qo;have hgj2:(kA kd pre (ys.set i (ys.getD j 0)) post)[ba pre+j]?=some (.int (kI kd) (((ys.set i (ys.getD j 0)).getD j 0:Nat):Int)):=cI (by rw[aay];omega);refine sk (th (sq (bI [pt g (kA kd pre ys post) (sf kd 37 3)] 13 [0,2,4,6,8,10,12,14,16,18,20,22,24,27,28,31] ST qk qk (bh qk 6 j I I qo ?_))));simp only[bz,aah];refine dC qk 0 0 I qk I hgj (bh qk 2 i I I qo ?_);simp only[bz,aah];refine dC qk 0 0 I qk I hgi (bh qk 0 i I I qo ?_);simp only[bz,aah];refine aG qk 0 I (stp 0 0 I I hgi I (di (.inl qk) (bh qk 0 j I I qo ?_)))
  simp only[bz,aah];refine aG qk 0 I ?_;refine WL.hs (pt g (kA kd pre (ys.set i (ys.getD j 0)) post) (sf kd 37 3)::hs) (congrArg (fun z=>pt g z (sf kd 37 3)::hs) (fB qo)) (stp 0 0 I I hgj2 I ?_);refine WL.hs (pt g (kA kd pre (swp i j ys) post) (sf kd 37 3)::hs) (congrArg (fun z=>pt g z (sf kd 37 3)::hs) (fB (by rw[aay];omega))) (di (.inl qk) (be qk 0 rfl (ac6 (ar 1 rfl (ac (x:=((i+1:Nat):Int)) qo) (fin 1 rfl (ac6 (ar 1 rfl (v':=.int .i64 (j-1:Nat)) (by rw[show ((j:Nat):Int)-1=((j-1:Nat):Int) from qo];exact ac qo) ?_)))))));have hJ2:=hJ.swap hij qo (hqj qo) (hqi qo);have hP2:cz a b xs (swp i j ys):=hP0.trans (cz.swp ⟨qo,qo⟩ ⟨qo,qo⟩ qo);refine fin 1 I (th (jn (σ:=Nat×List Nat) (fun s=>[(0,.slice (some ⟨g,ba pre,none⟩) (ba xs) cap),(1,.int .i64 (a:Nat)),(10,.int .i64 (s.1+1:Nat)),(11,.int .i64 s.1)]) (fun s=>pt g (kA kd pre s.2 post) (sf kd 37 3)::hs) (fun s=>cz a b xs s.2/\fG (fun x y=>x<y) (fun x y=>y<=x) a b (s.1+1) s.1 s.2) ?_ ?_))
  ·refine bk ?_
   refine loop (σ:=Nat×Nat×List Nat) (fun s=>[(0,.slice (some ⟨g,ba pre,none⟩) (ba xs) cap),(1,.int .i64 (a:Nat)),(10,.int .i64 s.1),(11,.int .i64 s.2.1)]) (fun _=>K) (fun s=>pt g (kA kd pre s.2.2 post) (sf kd 37 3)::hs)
    (fun s=>cz a b xs s.2.2/\fG (fun x y=>x<y) (fun x y=>y<=x) a b s.1 s.2.1 s.2.2) (fun s=>s.2.1+1-s.1) (i+1,j-1,swp i j ys) ⟨hP2,hJ2⟩ sb rfl rfl ?_
   clear hJ2 hP2 hij hgj2 hgj hgi e6 hqj hqi q3 q2 q1 hJ hj0 hq hI hi0;clear h65 b65 j i hyl hP0 hswl ys;rintro ⟨i0,j0,ys⟩ ⟨hP,hI0⟩;dsimp only at *;have hyl:ba ys=ba xs:=hP.len;refine bk (jn (σ:=Nat) (fun i=>[(0,.slice (some ⟨g,ba pre,none⟩) (ba xs) cap),(1,.int .i64 (a:Nat)),(10,.int .i64 (i:Nat)),(11,.int .i64 (j0:Nat))]) (fun _=>pt g (kA kd pre ys post) (sf kd 37 3)::hs) (fun i=>i0<=i/\fG (fun x y=>x<y) (fun x y=>y<=x) a b i j0 ys/\(i<=j0->ys.getD a 0<=ys.getD i 0)) ?_ ?_)
   ·refine bk (loop (σ:=Nat) (fun i=>[(0,.slice (some ⟨g,ba pre,none⟩) (ba xs) cap),(1,.int .i64 (a:Nat)),(10,.int .i64 (i:Nat)),(11,.int .i64 (j0:Nat))]) (fun _=>K) (fun _=>pt g (kA kd pre ys post) (sf kd 37 3)::hs) (fun i=>i0<=i/\fG (fun x y=>x<y) (fun x y=>y<=x) a b i j0 ys) (fun i=>j0+1-i) i0 ⟨aac _,hI0⟩ ⟨I,I,I,I,trivial⟩ I I ?_);rintro i ⟨hi0,hI⟩;have q1:=hI.i1;have q2:=hI.ij;have q3:=hI.jb;refine sq (sq (bI [pt g (kA kd pre ys post) (sf kd 37 3)] 14 [0,2,4,6,8,10,12,14,16,18,20,22,25,26] ST qk qk (gD qk 2 (i<=j0) I ST (fun h1=>?_) (fun h1=>?_))))
    ·refine bh qk 3 i I I qo ?_;simp only[bz,aah];refine dF qk 0 0 I I (cI qo) (bh qk 2 a I I qo ?_);simp only[bz,aah];refine dF qk 0 0 I I (cI qo) (aG qk 0 I (cl 0 I (kJ kd (ys.getD i 0) (ys.getD a 0)) ?_));rintro v41 K41 hs41 ⟨rfl,rfl,rfl⟩;refine bp ST I ?_
     by_cases hlt:ys.getD i 0<ys.getD a 0
     ·rw[decide_eq_true hlt];exact be qk 1 I (th (dY I (sk (th (bk (rg (ar 1 I (ac (x:=((i+1:Nat):Int)) qo) (fin 1 I (bl (bc (x:=i) (i+1) sb I I ⟨qo,hI.up h1 hlt⟩ qo))))))))))
     rw[decide_eq_false hlt];exact be qk 1 I (th (dt I (ex (xt (xt (xb (jx i ⟨hi0,hI,fun _=>abs hlt⟩ sb I I)))))))
    exact aG qk 9 I<|WL.pures 1 I (bp ST I<|be qk 1 I (th<|dt I (ex<|xt (xt<|xb (jx i ⟨hi0,hI,fun h=>absurd h h1⟩ sb I I)))))
   rintro i ⟨hi0,hI,hq⟩;refine jn (σ:=Nat) (fun j=>[(0,.slice (some ⟨g,ba pre,none⟩) (ba xs) cap),(1,.int .i64 (a:Nat)),(10,.int .i64 (i:Nat)),(11,.int .i64 (j:Nat))]) (fun _=>pt g (kA kd pre ys post) (sf kd 37 3)::hs) (fun j=>j<=j0/\fG (fun x y=>x<y) (fun x y=>y<=x) a b i j ys/\(i<=j->ys.getD a 0<=ys.getD i 0)/\(i<=j->ys.getD j 0<ys.getD a 0)) ?_ ?_
   ·refine bk (loop (σ:=Nat) (fun j=>[(0,.slice (some ⟨g,ba pre,none⟩) (ba xs) cap),(1,.int .i64 (a:Nat)),(10,.int .i64 (i:Nat)),(11,.int .i64 (j:Nat))]) (fun _=>K) (fun _=>pt g (kA kd pre ys post) (sf kd 37 3)::hs) (fun j=>j<=j0/\fG (fun x y=>x<y) (fun x y=>y<=x) a b i j ys) (fun j=>j+1-i) (j0) ⟨aac _,hI⟩ ⟨I,I,I,I,trivial⟩ I I ?_);rintro j ⟨hj0,hJ⟩;have q1:=hJ.i1;have q2:=hJ.ij;have q3:=hJ.jb;refine sq (sq (bI [pt g (kA kd pre ys post) (sf kd 37 3)] 15 [0,2,4,6,8,10,12,14,16,18,20,22,25,26,28] ST qk qk (gD qk 2 (i<=j) I ST (fun h1=>?_) (fun h1=>?_))))
    ·refine bh qk 3 j I I qo ?_;simp only[bz,aah];refine dF qk 0 0 I I (cI qo) (bh qk 2 a I I qo ?_);simp only[bz,aah];refine dF qk 0 0 I I (cI qo) (aG qk 0 I (cl 0 I (kJ kd (ys.getD j 0) (ys.getD a 0)) ?_));rintro v58 K58 hs58 ⟨rfl,rfl,rfl⟩;refine bp ST I ?_
     by_cases hlt:ys.getD j 0<ys.getD a 0
     ·rw[decide_eq_true hlt];exact be qk 2 I (th (dt I (ex (xt (xt (xb (jx j ⟨hj0,hJ,fun h=>hq qo,fun _=>hlt⟩ sb I I)))))))
     rw[decide_eq_false hlt];exact be qk 2 I (th (dY I (sk (th (bk (rg (ar 1 I (v':=.int .i64 (j-1:Nat)) (by rw[show ((j:Nat):Int)-1=((j-1:Nat):Int) from qo];exact ac qo) (fin 1 I (bl (bc (x:=j) (j-1) sb I I ⟨qo,hJ.down h1 (abs hlt)⟩ qo))))))))))
    exact aG qk 9 I<|WL.pures 1 I (bp ST I<|be qk 2 I (th<|dt I (ex<|xt (xt<|xb (jx j ⟨hj0,hJ,fun h=>absurd h h1,fun h=>absurd h h1⟩ sb I I)))))
   rintro j ⟨hj0,hJ,hqi,hqj⟩;have q1:=hJ.i1;have q2:=hJ.ij;have q3:=hJ.jb;refine sq (ac9 (af 2 I fun b134 h134=>fin 0 I (th (ah h134 I (fun e6=>?_) (fun e6=>?_)))))
   ·obtain rfl:i=j+1:=qo
    exact ex<|xt (xn I<|xt (xb<|jx (j,ys) ⟨hP,hJ⟩ sb I I))
   have hij:i<j:=by
    rcases aaU i j with h|h
    ·exact h
    have h1:=hqi qo;have h2:=hqj qo;have:i=j:=qo
    subst this;omega
   have hgi:(kA kd pre ys post)[ba pre+i]?=some (.int (kI kd) ((ys.getD i 0:Nat):Int)):=cI qo;have hgj:(kA kd pre ys post)[ba pre+j]?=some (.int (kI kd) ((ys.getD j 0:Nat):Int)):=cI qo;have hgj2:(kA kd pre (ys.set i (ys.getD j 0)) post)[ba pre+j]?=some (.int (kI kd) (((ys.set i (ys.getD j 0)).getD j 0:Nat):Int)):=cI (by rw[aay];omega);refine sk (th (sq (bI [pt g (kA kd pre ys post) (sf kd 37 3)] 13 [0,2,4,6,8,10,12,14,16,18,20,22,24,27,28,31] ST qk qk (bh qk 6 j I I qo ?_))));simp only[bz,aah];refine dC qk 0 0 I qk I hgj (bh qk 2 i I I qo ?_);simp only[bz,aah];refine dC qk 0 0 I qk I hgi (bh qk 0 i I I qo ?_);simp only[bz,aah];refine aG qk 0 I (stp 0 0 I I hgi I (di (.inl qk) (bh qk 0 j I I qo ?_)))
   simp only[bz,aah];refine aG qk 0 I ?_;refine WL.hs (pt g (kA kd pre (ys.set i (ys.getD j 0)) post) (sf kd 37 3)::hs) (congrArg (fun z=>pt g z (sf kd 37 3)::hs) (fB qo)) (stp 0 0 I I hgj2 I ?_);exact WL.hs (pt g (kA kd pre (swp i j ys) post) (sf kd 37 3)::hs) (congrArg (fun z=>pt g z (sf kd 37 3)::hs) (fB (by rw[aay];omega))) (di (.inl qk) (be qk 0 rfl (ac6 (ar 1 rfl (ac (x:=((i+1:Nat):Int)) qo) (fin 1 rfl (ac8 (ar 1 rfl (v':=.int .i64 (j-1:Nat)) (by rw[show ((j:Nat):Int)-1=((j-1:Nat):Int) from qo];exact ac qo) (fin 1 I (bl (bc (x:=(i0,j0,ys)) (i+1,j-1,swp i j ys) sb I I ⟨hP.trans (cz.swp ⟨qo,qo⟩ ⟨qo,qo⟩ qo),hJ.swap hij qo (hqj qo) (hqi qo)⟩ ax))))))))))
  rintro ⟨j,ys⟩ ⟨hP,hJ⟩;dsimp only at *;have hyl:ba ys=ba xs:=hP.len;have q1:=hJ.i1;have q2:=hJ.ij;have q3:=hJ.jb;have hgi:(kA kd pre ys post)[ba pre+j]?=some (.int (kI kd) ((ys.getD j 0:Nat):Int)):=cI qo;have hgj:(kA kd pre ys post)[ba pre+a]?=some (.int (kI kd) ((ys.getD a 0:Nat):Int)):=cI qo;have hgj2:(kA kd pre (ys.set j (ys.getD a 0)) post)[ba pre+a]?=some (.int (kI kd) (((ys.set j (ys.getD a 0)).getD a 0:Nat):Int)):=cI (by rw[aay];omega);refine sq (bI [pt g (kA kd pre ys post) (sf kd 37 3)] 13 [0,2,4,6,8,10,12,14,16,18,20,22,24,27,28,31] ST qk qk (bh qk 6 a I I qo ?_));simp only[bz,aah];refine dC qk 0 0 I qk I hgj (bh qk 2 j I I qo ?_);simp only[bz,aah];refine dC qk 0 0 I qk I hgi (bh qk 0 j I I qo ?_)
  simp only[bz,aah];refine aG qk 0 I (stp 0 0 I I hgi I (di (.inl qk) (bh qk 0 a I I qo ?_)));simp only[bz,aah];refine aG qk 0 I ?_;refine WL.hs (pt g (kA kd pre (ys.set j (ys.getD a 0)) post) (sf kd 37 3)::hs) (congrArg (fun z=>pt g z (sf kd 37 3)::hs) (fB qo)) (stp 0 0 I I hgj2 I ?_);refine WL.hs (pt g (kA kd pre (swp j a ys) post) (sf kd 37 3)::hs) (congrArg (fun z=>pt g z (sf kd 37 3)::hs) (fB (by rw[aay];omega))) (di (.inl qk) (be qk 0 rfl (ac6 (fin 3 rfl (adb ?_)))));have hA:=hJ.last qo;exact bL I I I ⟨I,swp j a ys,j,false,I,I,hP.trans (cz.swp ⟨qo,qo⟩ ⟨qo,qo⟩ qo),⟨qo,qo,fun p p1 p2=>acv (hA.1 p p1 p2),hA.2⟩⟩
end
section
attribute [local irreducible] Code.wp wpList Calls
def Rj(kd:Bool)(g cap:Nat)(pre post:List Value)(xs:List Nat)(a b:Nat)(hab:a<b)(hb:b<=ba xs)(hc:ba xs<=cap)(hl:ba xs<=1099511627776)(hlo:ji a b xs):
  aj w0 (sf kd 197 180) [.slice (some ⟨g,ba pre,none⟩) (ba xs) cap,.int .i64 (a:Nat),.int .i64 (b:Nat)] K (pt g (kA kd pre xs post) (sf kd 37 3)::hs)
   (fun v K' hs'=>K'=K/\∃ ys,∃ t:Bool,hs'=pt g (kA kd pre ys post) (sf kd 37 3)::hs/\v=.bool t/\cz a b xs ys/\(t=true->dZ a b ys)):=by
 cases kd
 let kd:Bool:=false
 rewrite [show sf false=sf kd from rfl]
 try rewrite [show kA false=kA kd from rfl]
 refine enter Tryz.func180 qk I I I ?_
 rotate_left
 let kd:Bool:=true
 rewrite [show sf true=sf kd from rfl]
 try rewrite [show kA true=kA kd from rfl]
 refine enter Tryz.func197 qk I I I ?_
 rotate_left
 all_goals
  refine ac9 (fin 1 I<|ac6 (ar 1 I (ac (x:=((a+1:Nat):Int)) qo)<|fin 1 I (ac5 (fin 1 I<|th (bk ?_)))))
  refine loop (σ:=Nat×Nat×List Nat) (fun s=>[(0,.slice (some ⟨g,ba pre,none⟩) (ba xs) cap),(1,.int .i64 (a:Nat)),(2,.int .i64 (b:Nat)),(7,.int .i64 s.2.1),(8,.int .i64 s.1)]) (fun _=>K) (fun s=>pt g (kA kd pre s.2.2 post) (sf kd 37 3)::hs)
   (fun s=>s.1<=5/\a+1<=s.2.1/\s.2.1<=b/\cz a b xs s.2.2/\dZ a s.2.1 s.2.2) (fun s=>5-s.1) (0,a+1,xs) ⟨qo,aac _,ax,cz.refl _ _ _,dZ.zero _ _⟩ ⟨rfl,rfl,rfl,rfl,rfl,trivial⟩ rfl rfl ?_
  rintro ⟨k,i0,ys⟩ ⟨hk,hi0,hi0b,hP,hS0⟩;dsimp only at *;have hyl:ba ys=ba xs:=hP.len;refine sq (ac9 (af 1 I fun b14 h14=>fin 0 I (th (ah h14 I (fun e2=>?_) (fun e2=>?_)))))
  ·refine sk<|th (sq<|bk (jn (σ:=Nat) (fun i=>[(0,.slice (some ⟨g,ba pre,none⟩) (ba xs) cap),(1,.int .i64 (a:Nat)),(2,.int .i64 (b:Nat)),(7,.int .i64 (i:Nat)),(8,.int .i64 (k:Nat))]) (fun _=>pt g (kA kd pre ys post) (sf kd 37 3)::hs) (fun i=>a+1<=i/\i<=b/\dZ a i ys) ?_ ?_))
   ·refine bk (loop (σ:=Nat) (fun i=>[(0,.slice (some ⟨g,ba pre,none⟩) (ba xs) cap),(1,.int .i64 (a:Nat)),(2,.int .i64 (b:Nat)),(7,.int .i64 (i:Nat)),(8,.int .i64 (k:Nat))]) (fun _=>K) (fun _=>pt g (kA kd pre ys post) (sf kd 37 3)::hs) (fun i=>a+1<=i/\i<=b/\dZ a i ys) (fun i=>b-i) i0 ⟨hi0,hi0b,hS0⟩ sb I I ?_);rintro i ⟨hi1,hi2,hS⟩;refine sq (sq (bI [pt g (kA kd pre ys post) (sf kd 37 3)] 16 [0,2,4,6,8,10,12,14,16,18,20,22,24,27,28,30] ST qk qk (gD qk 2 (i<b) I ST (fun h3=>?_) (fun h3=>?_))))
    ·refine bh qk 3 i I I qo ?_;simp only[bz,aah];refine dF qk 0 0 I I (cI qo) (bQ qk 2 I (v':=.int .i64 (i-1:Nat)) (by rw[show ((i:Nat):Int)-1=((i-1:Nat):Int) from qo];exact ac qo) (bh qk 0 (i-1) I I qo ?_));simp only[bz,aah];refine dF qk 0 0 I I (cI qo) (aG qk 0 I (cl 0 I (kJ kd (ys.getD i 0) (ys.getD (i-1) 0)) ?_));rintro v30 K30 hs30 ⟨rfl,rfl,rfl⟩;refine bp ST I ?_
     by_cases hlt:ys.getD i 0<ys.getD (i-1) 0
     ·rw[decide_eq_true hlt];exact be qk 2 I (th (dt I (ex (xt (xt (xb (jx i ⟨hi1,hi2,hS⟩ sb I I)))))))
     rw[decide_eq_false hlt];exact be qk 2 I (th (dY I (sk (th (bk (rg (ar 1 I (ac (x:=((i+1:Nat):Int)) qo) (fin 1 I (bl (bc (x:=i) (i+1) sb I I ⟨qo,qo,hS.snoc qo (abs hlt)⟩ qo))))))))))
    exact aG qk 10 I<|WL.pures 1 I (bp ST I<|be qk 2 I (th<|dt I (ex<|xt (xt<|xb (jx i ⟨hi1,hi2,hS⟩ sb I I)))))
   rintro i ⟨hi1,hi2,hS⟩;refine sq (ac9 (af 2 I fun b37 h37=>fin 0 I (th (ah h37 I (fun e6=>?_) (fun e6=>?_)))))
   ·obtain rfl:i=b:=qo
    exact ac9 (fin 1 I<|adb<|rT (rB<|rT (rT<|rB (rT<|ay I I ⟨I,ys,true,I,I,hP,fun _=>hS⟩))))
   refine sk<|ac5<|ar 2 I (ac qo) (af 0 I fun b41 h41=>fin 0 I<|th (ah h41 I (fun e8=>?_) (fun e8=>?_)))
   ·exact ac9 (fin 1 I<|adb<|rT (rB<|rT (rT<|rB (rT<|ay I I ⟨I,ys,false,I,I,hP,fun h=>by cases h⟩))))
   have hib:i<b:=qo
   have hgj:(kA kd pre ys post)[ba pre+i]?=some (.int (kI kd) ((ys.getD i 0:Nat):Int)):=cI qo;have hgj1:(kA kd pre ys post)[ba pre+(i-1)]?=some (.int (kI kd) ((ys.getD (i-1) 0:Nat):Int)):=cI qo;have hgj2:(kA kd pre (ys.set i (ys.getD (i-1) 0)) post)[ba pre+(i-1)]?=some (.int (kI kd) (((ys.set i (ys.getD (i-1) 0)).getD (i-1) 0:Nat):Int)):=cI (by rw[aay];omega);refine sk (th (sq (bI [pt g (kA kd pre ys post) (sf kd 37 3)] 15 [0,2,4,6,8,10,12,14,16,18,20,22,24,26,28,31,32,35] ST qk qk (bQ qk 4 I (v':=.int .i64 (i-1:Nat)) (by rw[show ((i:Nat):Int)-1=((i-1:Nat):Int) from qo];exact ac qo) (bQ qk 2 I (v':=.int .i64 (i-1:Nat)) (by rw[show ((i:Nat):Int)-1=((i-1:Nat):Int) from qo];exact ac qo) (bh qk 0 (i-1) I I qo ?_))))))
   simp only[bz,aah];refine dC qk 0 0 I qk I hgj1 (bh qk 2 i I I qo ?_);simp only[bz,aah];refine dC qk 0 0 I qk I hgj (bh qk 0 i I I qo ?_);simp only[bz,aah];refine aG qk 0 I (stp 0 0 I I hgj I (di (.inl qk) (bh qk 0 (i-1) I I qo ?_)));simp only[bz,aah];refine aG qk 0 I ?_;refine WL.hs (pt g (kA kd pre (ys.set i (ys.getD (i-1) 0)) post) (sf kd 37 3)::hs) (congrArg (fun z=>pt g z (sf kd 37 3)::hs) (fB qo)) (stp 0 0 I I hgj2 I ?_);refine WL.hs (pt g (kA kd pre (swp i (i-1) ys) post) (sf kd 37 3)::hs) (congrArg (fun z=>pt g z (sf kd 37 3)::hs) (fB (by rw[aay];omega))) (di (.inl qk) ?_);have hP1:cz a b xs (swp i (i-1) ys):=hP.trans (cz.swp ⟨qo,qo⟩ ⟨qo,qo⟩ qo)
   have hS1:dZ a (i-1) (swp i (i-1) ys):=dZ.same (xs:=ys) (fun p q p1 p2 p3=>hS p q p1 p2 qo) fun p p1 p2=>by rw[lI qo qo,aaa qo,aaa qo]
   refine be qk 0 I<|th (jn (σ:=List Nat) (fun _=>[(0,.slice (some ⟨g,ba pre,none⟩) (ba xs) cap),(1,.int .i64 (a:Nat)),(2,.int .i64 (b:Nat)),(7,.int .i64 (i:Nat)),(8,.int .i64 (k:Nat))]) (fun zs=>pt g (kA kd pre zs post) (sf kd 37 3)::hs) (fun zs=>cz a b xs zs/\dZ a i zs) ?_ ?_)
   ·refine ac9 (ar 2 I (ac qo) (af 0 I fun b61 h61=>fin 0 I<|th (ah h61 I (fun e10=>?_) (fun e10=>?_))))
    ·refine ac9 (ar 1 I (v':=.int .i64 (i-1:Nat)) (by rw[show ((i:Nat):Int)-1=((i-1:Nat):Int) from qo];exact ac qo) (fin 1 I (th (bk ?_))))
     refine loop (σ:=Nat×List Nat) (fun s=>[(0,.slice (some ⟨g,ba pre,none⟩) (ba xs) cap),(1,.int .i64 (a:Nat)),(2,.int .i64 (b:Nat)),(7,.int .i64 (i:Nat)),(8,.int .i64 (k:Nat)),(9,.int .i64 s.1)]) (fun _=>K) (fun s=>pt g (kA kd pre s.2 post) (sf kd 37 3)::hs)
      (fun s=>a<=s.1/\s.1<=i-1/\cz a b xs s.2/\lz a (i-1) s.1 s.2) (fun s=>s.1) (i-1,swp i (i-1) ys) ⟨ax,aac _,hP1,lz.start hS1⟩ ⟨rfl,rfl,rfl,rfl,rfl,rfl,trivial⟩ rfl rfl ?_
     rintro ⟨j,zs⟩ ⟨hj1,hj2,hQ,hV⟩;dsimp only at *;have hzl:ba zs=ba xs:=hQ.len;have hlz:=hlo.perm hQ hb;refine sq (ac9 (af 1 I fun b65 h65=>fin 0 I (th (ah h65 I (fun e12=>?_) (fun e12=>?_)))))
     ·refine sk (th (sq (bk (sq (sq (bI [pt g (kA kd pre zs post) (sf kd 37 3)] 11 [0,2,4,6,8,10,12,14,16,19,20] ST qk qk (bh qk 2 j I I qo ?_)))))));simp only[bz,aah];refine dF qk 0 0 I I (cI qo) (bQ qk 2 I (v':=.int .i64 (j-1:Nat)) (by rw[show ((j:Nat):Int)-1=((j-1:Nat):Int) from qo];exact ac qo) (bh qk 0 (j-1) I I qo ?_));simp only[bz,aah];refine dF qk 0 0 I I (cI qo) (aG qk 0 I (cl 0 I (kJ kd (zs.getD j 0) (zs.getD (j-1) 0)) ?_));rintro v30 K30 hs30 ⟨rfl,rfl,rfl⟩;refine bp ST I ?_
      by_cases hlt:zs.getD j 0<zs.getD (j-1) 0
      ·have hja:a<j:=by
        rcases aaU a j with h|h
        ·exact h
        obtain rfl:j=a:=qo
        have:=hlz (j-1) j qo (aac _) qo;omega
       rw[decide_eq_true hlt];refine be qk 1 I (th (dt I ?_));have hgj:(kA kd pre zs post)[ba pre+j]?=some (.int (kI kd) ((zs.getD j 0:Nat):Int)):=cI qo;have hgj1:(kA kd pre zs post)[ba pre+(j-1)]?=some (.int (kI kd) ((zs.getD (j-1) 0:Nat):Int)):=cI qo;have hgj2:(kA kd pre (zs.set j (zs.getD (j-1) 0)) post)[ba pre+(j-1)]?=some (.int (kI kd) (((zs.set j (zs.getD (j-1) 0)).getD (j-1) 0:Nat):Int)):=cI (by rw[aay];omega);refine sk (th (bI [pt g (kA kd pre zs post) (sf kd 37 3)] 15 [0,2,4,6,8,10,12,14,16,18,20,22,24,26,28,31,32,35] ST qk qk (bQ qk 4 I (v':=.int .i64 (j-1:Nat)) (by rw[show ((j:Nat):Int)-1=((j-1:Nat):Int) from qo];exact ac qo) (bQ qk 2 I (v':=.int .i64 (j-1:Nat)) (by rw[show ((j:Nat):Int)-1=((j-1:Nat):Int) from qo];exact ac qo) (bh qk 0 (j-1) I I qo ?_)))))
       simp only[bz,aah];refine dC qk 0 0 I qk I hgj1 (bh qk 2 j I I qo ?_);simp only[bz,aah];refine dC qk 0 0 I qk I hgj (bh qk 0 j I I qo ?_);simp only[bz,aah];refine aG qk 0 I (stp 0 0 I I hgj I (di (.inl qk) (bh qk 0 (j-1) I I qo ?_)));simp only[bz,aah];refine aG qk 0 I ?_;refine WL.hs (pt g (kA kd pre (zs.set j (zs.getD (j-1) 0)) post) (sf kd 37 3)::hs) (congrArg (fun z=>pt g z (sf kd 37 3)::hs) (fB qo)) (stp 0 0 I I hgj2 I ?_);exact WL.hs (pt g (kA kd pre (swp j (j-1) zs) post) (sf kd 37 3)::hs) (congrArg (fun z=>pt g z (sf kd 37 3)::hs) (fB (by rw[aay];omega))) (di (.inl qk) (be qk 0 rfl (ac7 (ar 1 rfl (v':=.int .i64 (j-1:Nat)) (by rw[show ((j:Nat):Int)-1=((j-1:Nat):Int) from qo];exact ac qo) (fin 1 I (bc (x:=(j,zs)) (j-1,swp j (j-1) zs) sb I I ⟨ax,ax,hQ.trans (cz.swp ⟨qo,qo⟩ ⟨qo,qo⟩ qo),hV.swap hja hj2 qo hlt⟩ ax))))))
      have hdone:dZ a i zs:=by
       rw[show i=i-1+1 from qo];rcases aaU a j with h|h
       ·exact hV.stop h qo
       obtain rfl:j=a:=qo
       exact hV.done
      rw[decide_eq_false hlt];exact be qk 1 I (th (dY I (ex (xt (xn I (xt (xt (xb (jx zs ⟨hQ,hdone⟩ sb I I)))))))))
     have hdone:dZ a i zs:=by
      rw[show i=i-1+1 from qo];obtain rfl:j=a:=qo
      exact hV.done
     exact ex<|xt (xt<|xb (jx zs ⟨hQ,hdone⟩ sb I I))
    exact sk<|jx _ ⟨hP1,dZ.one qo⟩ ⟨I,I,I,I,I,trivial⟩ I I
   rintro zs ⟨hQ,hSz⟩;have hzl0:ba zs=ba xs:=hQ.len;clear hS1 hP1 hgj2 hgj1 hgj hS hS0 hP hyl;refine ac9 (ar 2 I (ac qo) (af 0 I fun b98 h98=>fin 0 I (th (ah h98 I (fun e15=>?_) (fun e15=>?_)))))
   ·refine ac9 (ar 1 I (ac (x:=((i+1:Nat):Int)) qo)<|fin 1 I (th<|bk ?_))
    refine loop (σ:=Nat×List Nat) (fun s=>[(0,.slice (some ⟨g,ba pre,none⟩) (ba xs) cap),(1,.int .i64 (a:Nat)),(2,.int .i64 (b:Nat)),(7,.int .i64 (i:Nat)),(8,.int .i64 (k:Nat)),(10,.int .i64 s.1)]) (fun _=>K) (fun s=>pt g (kA kd pre s.2 post) (sf kd 37 3)::hs)
     (fun s=>i+1<=s.1/\s.1<=b/\cz a b xs s.2/\dZ a i s.2) (fun s=>b-s.1) (i+1,zs) ⟨aac _,ax,hQ,hSz⟩ sb rfl rfl ?_
    clear hQ hSz hzl0;rintro ⟨j,us⟩ ⟨hj1,hj2,hQ,hSz⟩;dsimp only at *;have hul:ba us=ba xs:=hQ.len;refine sq (ac9 (af 2 I fun b103 h103=>fin 0 I (th (ah h103 I (fun e17=>?_) (fun e17=>?_)))))
    ·refine sk (th (sq (bk (sq (sq (bI [pt g (kA kd pre us post) (sf kd 37 3)] 11 [0,2,4,6,8,10,12,14,16,19,20] ST qk qk (bh qk 2 j I I qo ?_)))))));simp only[bz,aah];refine dF qk 0 0 I I (cI qo) (bQ qk 2 I (v':=.int .i64 (j-1:Nat)) (by rw[show ((j:Nat):Int)-1=((j-1:Nat):Int) from qo];exact ac qo) (bh qk 0 (j-1) I I qo ?_));simp only[bz,aah];refine dF qk 0 0 I I (cI qo) (aG qk 0 I (cl 0 I (kJ kd (us.getD j 0) (us.getD (j-1) 0)) ?_));rintro v30 K30 hs30 ⟨rfl,rfl,rfl⟩;refine bp ST I ?_
     by_cases hlt:us.getD j 0<us.getD (j-1) 0
     ·rw[decide_eq_true hlt];refine be qk 1 I (th (dt I ?_));have hgj:(kA kd pre us post)[ba pre+j]?=some (.int (kI kd) ((us.getD j 0:Nat):Int)):=cI qo;have hgj1:(kA kd pre us post)[ba pre+(j-1)]?=some (.int (kI kd) ((us.getD (j-1) 0:Nat):Int)):=cI qo;have hgj2:(kA kd pre (us.set j (us.getD (j-1) 0)) post)[ba pre+(j-1)]?=some (.int (kI kd) (((us.set j (us.getD (j-1) 0)).getD (j-1) 0:Nat):Int)):=cI (by rw[aay];omega);refine sk (th (bI [pt g (kA kd pre us post) (sf kd 37 3)] 15 [0,2,4,6,8,10,12,14,16,18,20,22,24,26,28,31,32,35] ST qk qk (bQ qk 4 I (v':=.int .i64 (j-1:Nat)) (by rw[show ((j:Nat):Int)-1=((j-1:Nat):Int) from qo];exact ac qo) (bQ qk 2 I (v':=.int .i64 (j-1:Nat)) (by rw[show ((j:Nat):Int)-1=((j-1:Nat):Int) from qo];exact ac qo) (bh qk 0 (j-1) I I qo ?_)))))
      simp only[bz,aah];refine dC qk 0 0 I qk I hgj1 (bh qk 2 j I I qo ?_);simp only[bz,aah];refine dC qk 0 0 I qk I hgj (bh qk 0 j I I qo ?_);simp only[bz,aah];refine aG qk 0 I (stp 0 0 I I hgj I (di (.inl qk) (bh qk 0 (j-1) I I qo ?_)));simp only[bz,aah];refine aG qk 0 I ?_;refine WL.hs (pt g (kA kd pre (us.set j (us.getD (j-1) 0)) post) (sf kd 37 3)::hs) (congrArg (fun z=>pt g z (sf kd 37 3)::hs) (fB qo)) (stp 0 0 I I hgj2 I ?_);refine WL.hs (pt g (kA kd pre (swp j (j-1) us) post) (sf kd 37 3)::hs) (congrArg (fun z=>pt g z (sf kd 37 3)::hs) (fB (by rw[aay];omega))) (di (.inl qk) (be qk 0 rfl (ac7 (ar 1 rfl (ac (x:=((j+1:Nat):Int)) qo) (fin 1 rfl ?_)))))
      exact bc (x:=(j,us)) (j+1,swp j (j-1) us) sb I I ⟨ax,ax,hQ.trans (cz.swp ⟨qo,qo⟩ ⟨qo,qo⟩ qo),hSz.same fun p p1 p2=>by rw[lI qo qo,aaa qo,aaa qo]⟩ ax
     rw[decide_eq_false hlt];exact be qk 1 I (th (dY I (ex (xt (xn I (xt (xt (xb (ac7 (ar 1 I (ac (x:=((k+1:Nat):Int)) qo) (fin 1 I (bc (x:=(k,i0,ys)) (k+1,i,us) sb I I ⟨ax,hi1,hi2,hQ,hSz⟩ ax))))))))))))
    exact ex (xt (xt (xb (ac7 (ar 1 I (ac (x:=((k+1:Nat):Int)) qo) (fin 1 I (bc (x:=(k,i0,ys)) (k+1,i,us) sb I I ⟨ax,hi1,hi2,hQ,hSz⟩ ax)))))))
   exact sk (ac7 (ar 1 I (ac (x:=((k+1:Nat):Int)) qo) (fin 1 I (bc (x:=(k,i0,ys)) (k+1,i,zs) sb I I ⟨ax,hi1,hi2,hQ,hSz⟩ ax))))
  exact ex<|xt (xt<|xb (ac6<|fin 1 I (adb (ay I I ⟨I,ys,false,I,I,hP,fun h=>by cases h⟩))))
end
section
def uy(m:Nat)(b:Int)(k:Nat)(hb:b=((k:Nat):Int))(hk:k<=64):Value.int .u64 (((m:Nat):Int).fdiv (2 ^ (min b.toNat IntKind.u64.bits)))=.int .u64 (m / 2 ^ k:Nat):=by
 have e:min b.toNat IntKind.u64.bits=k:=by
  have:IntKind.u64.bits=64:=rfl;omega
 grind
def Ov(x:Int):∃ m:Nat,m<18446744073709551616/\Value.int .u64 (IntKind.u64.wrap x)=.int .u64 (m:Nat):=by
 have e:IntKind.u64.wrap x=x % 18446744073709551616:=by rfl
 refine ⟨(x % 18446744073709551616).toNat,qo,?_⟩;rw[e,acR qo]
def MQ(m n:Nat)(hm:m<18446744073709551616)(hn:n<=63):
  Value.int .u64 (IntKind.u64.wrap (BitVec.ofInt 64 ((m:Nat):Int) &&& BitVec.ofInt 64 ((2 ^ n-1:Nat):Int)).toNat)=.int .u64 (m % 2 ^ n:Nat):=by
 have hp:2 ^ n<18446744073709551616:=Nat.lt_of_le_of_lt (abg SU hn) SU;have h1:m % 2 ^ n<=m:=Nat.mod_le _ _;rw[acD,aaV,aaV,aaW,aaW,aaH (a:=m) qo,aaH (a:=2 ^ n-1) qo,acE,qR,aaH qo]
def L8:List UInt8:=(List.range 256).map fun b=>if b=0 then 0 else UInt8.ofNat (Nat.log2 b+1)
def PR(b:Nat)(h:b<256):∃ c:UInt8,L8[b]?=some c/\c.toNat<=8/\b<2 ^ c.toNat/\(0<b->2 ^ c.toNat<=2*b):=by
 have hd:∀ b:Fin 256,((L8[b.1]?).map fun c=>decide (c.toNat<=8/\b.1<2 ^ c.toNat/\(0<b.1->2 ^ c.toNat<=2*b.1)))=some true:=by decide +kernel
 have:=hd ⟨b,h⟩
 grind
def l6(x n y:Nat):Prop:=y*2 ^ n<=x/\x<(y+1)*2 ^ n/\(0<x->0<y)
def l6.start(x:Nat):l6 x 0 x:=⟨ST,ST,id⟩
def l6.up{x n y k:Nat}(h:l6 x n y)(hy:2 ^ k<=y):l6 x (n+k) (y / 2 ^ k):=by
 have hp:0<2 ^ k:=Nat.pow_pos SU;obtain ⟨h1,h2,h3⟩:=h;have e:2 ^ (n+k)=2 ^ k*2 ^ n:=by rw[Nat.pow_add,ab1]
 refine ⟨?_,?_,fun _=>Nat.div_pos hy hp⟩
 ·rw[e,<-Nat.mul_assoc];exact aat (aaY _ (Nat.div_mul_le_self y _)) h1
 rw[e,<-Nat.mul_assoc];refine acj h2 (aaY _ ?_);have:=Nat.lt_div_mul_add (a:=y) hp;rw[Nat.add_mul,Nat.one_mul];omega
def l6.done{x n y c:Nat}(h:l6 x n y)(h1:y<2 ^ c)(h2:0<y->2 ^ c<=2*y):x<2 ^ (n+c)/\(0<x->2 ^ (n+c)<=2*x):=by
 obtain ⟨g1,g2,g3⟩:=h;have e:2 ^ (n+c)=2 ^ c*2 ^ n:=by rw[Nat.pow_add,ab1]
 refine ⟨?_,fun hx=>?_⟩
 ·rw[e];exact acj g2 (aaY _ h1)
 rw[e];refine aat (aaY _ (h2 (g3 hx))) ?_
 grind
attribute [local irreducible] Code.wp wpList Calls
def O3(x:Nat)(hx:x<18446744073709551616):aj w0 185 [.int .u64 (x:Nat)] K hs
  (fun v K' hs'=>K'=K/\hs'=hs/\∃ n:Nat,v=.int .i64 (n:Nat)/\n<=64/\x<2 ^ n/\(0<x->2 ^ n<=2*x)):=by
 refine dj Tryz.func185 ?_;refine ac9 (fin 1 I (th (jn (σ:=Nat×Nat) (fun s=>[(0,.int .u64 s.1),(2,.int .i64 s.2)]) (fun _=>hs) (fun s=>l6 x s.2 s.1/\s.1<4294967296/\s.2<=32) ?_ ?_)))
 ·refine ac9 (af 1 I fun b4 h4=>fin 0 I<|th (ah h4 I (fun e2=>?_) (fun e2=>?_)))
  ·exact ac9 (ar 1 I (uy x _ 32 I qo)<|fin 1 I (ac8 (fin 1 I<|jx (x / 2 ^ 32,32) ⟨by simpa using (l6.start x).up (k:=32) qo,qo,aac _⟩ ⟨I,I,trivial⟩ I I)))
  exact sk (jx (x,0) ⟨l6.start x,ax,qo⟩ sb rfl rfl)
 rintro ⟨y,n⟩ ⟨hL,hy,hn⟩;dsimp only at *;refine jn (σ:=Nat×Nat) (fun s=>[(0,.int .u64 s.1),(2,.int .i64 s.2)]) (fun _=>hs) (fun s=>l6 x s.2 s.1/\s.1<65536/\s.2<=48) ?_ ?_
 ·refine ac9 (af 1 I fun b8 h8=>fin 0 I<|th (ah h8 I (fun e4=>?_) (fun e4=>?_)))
  ·refine ac9 (ar 1 I (uy y _ 16 I qo) (au ?_));exact ar 1 I (ac (x:=((n+16:Nat):Int)) qo) (fin 1 I (jx (y / 2 ^ 16,n+16) ⟨hL.up qo,qo,ax⟩ sb rfl rfl))
  exact sk (jx (y,n) ⟨hL,ax,qo⟩ sb rfl rfl)
 clear hL hy hn;rintro ⟨y,n⟩ ⟨hL,hy,hn⟩;dsimp only at *;refine jn (σ:=Nat×Nat) (fun s=>[(0,.int .u64 s.1),(2,.int .i64 s.2)]) (fun _=>hs) (fun s=>l6 x s.2 s.1/\s.1<256/\s.2<=56) ?_ ?_
 ·refine ac9 (af 1 I fun b14 h14=>fin 0 I<|th (ah h14 I (fun e6=>?_) (fun e6=>?_)))
  ·refine ac9 (ar 1 I (uy y _ 8 I qo) (au ?_));exact ar 1 I (ac (x:=((n+8:Nat):Int)) qo) (fin 1 I (jx (y / 2 ^ 8,n+8) ⟨hL.up qo,qo,ax⟩ sb rfl rfl))
  exact sk (jx (y,n) ⟨hL,qo,ax⟩ sb rfl rfl)
 clear hL hy hn;rintro ⟨y,n⟩ ⟨hL,hy,hn⟩;dsimp only at *;obtain ⟨c,hc,hc8,hc1,hc2⟩:=PR y hy;refine ac9 (ar 2 I (iJ qo) (pa 0 L8 y I qk I hc (ar 0 I (ac qo) (ar 0 I (ac (x:=((n+c.toNat:Nat):Int)) qo) (au ?_)))));exact ay I I ⟨I,I,n+c.toNat,I,qo,hL.done hc1 hc2⟩
def zl(x:Nat)(hx:x<18446744073709551616):aj w0 156 [.int .u64 (x:Nat)] K hs
  (fun v K' hs'=>K'=K/\hs'=hs/\∃ n:Nat,v=.int .i64 (n:Nat)/\n<=64/\x<2 ^ n/\(0<x->2 ^ n<=2*x)):=by
 refine bH Tryz.func156 ?_;refine cl 1 I (O3 x hx) ?_;rintro v7 K7 hs7 ⟨rfl,rfl,n,rfl,h1,h2,h3⟩;refine au ?_;exact ay I I ⟨I,I,n,I,h1,h2,h3⟩
def Sb(x:Nat)(hx:0<x/\x<=1099511627776):aj w0 207 [.int .i64 (x:Nat)] K hs
  (fun v K' hs'=>K'=K/\hs'=hs/\∃ n:Nat,v=.int .u64 (2 ^ n:Nat)/\n<=41/\2 ^ n<=2*x):=by
 refine bH Tryz.func207 ?_;refine ar 1 I (cJ qo) (cl 0 I (zl x qo) ?_);rintro v5 K5 hs5 ⟨rfl,rfl,n,rfl,h1,h2,h3⟩;have h4:=h3 hx.1
 have h5:n<=41:=by
  rcases aaU 41 n with h|h
  ·have:2 ^ 42<=2 ^ n:=abg SU h;omega
  exact h
 refine pW 0 I qo (.inl ⟨I,(show Value.int .u64 (IntKind.u64.wrap ((1:Int)*2 ^ (min ((n:Nat):Int).toNat IntKind.u64.bits)))=.int .u64 (2 ^ n:Nat) from by
  have e:min ((n:Nat):Int).toNat IntKind.u64.bits=n:=by
   have:IntKind.u64.bits=64:=rfl;omega
  rw[e,Int.one_mul,show ((2:Int) ^ n)=((2 ^ n:Nat):Int) from by rfl];exact cJ qo)⟩) ?_
 refine au ?_;exact ay I I ⟨I,I,n,I,h5,h4⟩
def QZ(r:Nat)(x:Int):aj w0 208 [SX r] K (pt r #[.int .u64 x] 323::hs)
  (fun v K' hs'=>K'=K/\∃ m:Nat,m<18446744073709551616/\hs'=pt r #[.int .u64 (m:Nat)] 323::hs/\v=.int .u64 (m:Nat)):=by
 refine bH Tryz.func208 ?_;refine bI [pt r #[.int .u64 x] 323] 9 [0,2,4,6,8,10,12,14,16,19] ST qk qk (au ?_);refine bQ qk 0 I I (bQ qk 0 I I (aG qk 1 I (stp 0 0 I I I I (di (.inl qk) ?_))));obtain ⟨x1,hx1⟩:=bC ((IntKind.u64.wrap (BitVec.ofInt 64 x ^^^ BitVec.ofInt 64 (IntKind.u64.wrap (x*2 ^ (min (13:Int).toNat IntKind.u64.bits)))).toNat:Int));refine be qk 0 I (th (sq (WC.perm (hs':=pt r #[.int .u64 x1] 323::hs) (by rw[hx1];rfl) (bI [pt r #[.int .u64 x1] 323] 9 [0,2,4,6,8,10,12,14,16,19] ST qk qk (au ?_)))));refine bQ qk 0 I I (bQ qk 0 I I (aG qk 1 I (stp 0 0 I I I I (di (.inl qk) ?_))));obtain ⟨x2,hx2⟩:=bC ((IntKind.u64.wrap (BitVec.ofInt 64 x1 ^^^ BitVec.ofInt 64 (x1.fdiv (2 ^ (min (7:Int).toNat IntKind.u64.bits)))).toNat:Int))
 refine be qk 0 I (th (sq (WC.perm (hs':=pt r #[.int .u64 x2] 323::hs) (by rw[hx2];rfl) (bI [pt r #[.int .u64 x2] 323] 9 [0,2,4,6,8,10,12,14,16,19] ST qk qk (au ?_)))));refine bQ qk 0 I I ?_;obtain ⟨m,hm,he⟩:=Ov (BitVec.ofInt 64 x2 ^^^ BitVec.ofInt 64 (IntKind.u64.wrap (x2*2 ^ (min (17:Int).toNat IntKind.u64.bits)))).toNat;refine bQ qk 0 I he (au ?_);exact ay I I ⟨I,m,hm,I,I⟩
end
section
attribute [local irreducible] Code.wp wpList Calls
def RL(kd:Bool)(g cap:Nat)(pre post:List Value)(xs:List Nat)(a b:Nat)(hab:a+8<=b)(hb:b<=ba xs)(hc:ba xs<=cap)(hl:ba xs<=1099511627776):
  aj w0 (sf kd 194 177) [.slice (some ⟨g,ba pre,none⟩) (ba xs) cap,.int .i64 (a:Nat),.int .i64 (b:Nat)] K (pt g (kA kd pre xs post) (sf kd 37 3)::hs)
   (fun v K' hs'=>K'=K/\∃ ys,hs'=pt g (kA kd pre ys post) (sf kd 37 3)::hs/\cz a b xs ys):=by
 cases kd
 let kd:Bool:=false
 rewrite [show sf false=sf kd from rfl]
 try rewrite [show kA false=kA kd from rfl]
 rotate_left
 let kd:Bool:=true
 rewrite [show sf true=sf kd from rfl]
 try rewrite [show kA true=kA kd from rfl]
 rotate_left
 all_goals
  obtain ⟨n,hn⟩:=bC (b-a)
 refine enter Tryz.func177 qk I I I ?_
 rotate_left
 refine enter Tryz.func194 qk I I I ?_
 rotate_left
 all_goals
  refine ac9 (ar 2 I (v':=.int .i64 (n:Nat)) (by rw[show ((b:Nat):Int)-((a:Nat):Int)=((n:Nat):Int) from qo];exact ac qo) (fin 1 I (ac6 (af 1 I fun b15 h15=>fin 0 I (th (vB h15 qo I (ac9 (ar 1 I (cJ qo) (al 0 (.int .u64 0) I qk fun r=>stp 0 0 I I I I (fin 0 I (ac6 (cl 1 I (Sb n qo) ?_))))))))))));rintro v19 K19 hs19 ⟨rfl,rfl,w,rfl,hw,hw2⟩;have hq1:n / 4*2+1<n:=qo
  have hq2:2<=n / 4:=qo
  refine fin 1 I (ac6 (ar 2 I (pP n 4 qo) (ar 0 I (ac (x:=((n / 4*2:Nat):Int)) qo) (ar 0 I (ac (x:=((a+n / 4*2:Nat):Int)) qo) (ar 0 I (v':=.int .i64 (a+n / 4*2-1:Nat)) (by rw[show ((a+n / 4*2:Nat):Int)-1=((a+n / 4*2-1:Nat):Int) from qo];exact ac qo) (fin 1 I (th (bk ?_))))))))
  refine loop (σ:=Nat×Nat×List Nat) (fun s=>[(0,.slice (some ⟨g,ba pre,none⟩) (ba xs) cap),(1,.int .i64 (a:Nat)),(6,.int .i64 (n:Nat)),(7,SX r),(8,.int .u64 (2 ^ w:Nat)),(9,.int .i64 s.1)]) (fun _=>K19) (fun s=>pt r #[.int .u64 s.2.1] 323::pt g (kA kd pre s.2.2 post) (sf kd 37 3)::hs)
   (fun s=>a<=s.1/\s.1<=a+n / 4*2+2/\cz a b xs s.2.2) (fun s=>b-s.1) (a+n / 4*2-1,n,xs) ⟨ax,ax,cz.refl _ _ _⟩ ⟨rfl,rfl,rfl,rfl,rfl,rfl,trivial⟩ rfl rfl ?_
  rintro ⟨i,m0,ys⟩ ⟨hi1,hi2,hP⟩;dsimp only at *;have hyl:ba ys=ba xs:=hP.len;refine sq (ac9 (ar 3 I (pP n 4 qo) (ar 0 I (ac (x:=((n / 4*2:Nat):Int)) qo) (ar 0 I (ac (x:=((a+n / 4*2:Nat):Int)) qo) (ar 0 I (ac (x:=((a+n / 4*2+1:Nat):Int)) qo) (af 0 I fun b33 h33=>fin 0 I (th (ah h33 I (fun e4=>?_) (fun e4=>?_)))))))))
  ·refine sk (th (sq (bk (ac9 (cl 0 I (QZ r ((m0:Nat):Int)) ?_)))));rintro v36 K36 hs36 ⟨rfl,m,hm,rfl,rfl⟩;have hwp:0<2 ^ w:=Nat.pow_pos SU;refine ar 1 I (v':=.int .u64 (2 ^ w-1:Nat)) (by rw[show ((2 ^ w:Nat):Int)-1=((2 ^ w-1:Nat):Int) from qo];exact cJ qo) (ar 0 I (MQ m w hm qo) ?_);have hmm:m % 2 ^ w<2 ^ w:=abz _ hwp;obtain ⟨o,ho⟩:=bC (m % 2 ^ w);rw[<-ho] at hmm ⊢;refine ar 0 I (ac (x:=((o:Nat):Int)) qo) (fin 1 I (th (jn (σ:=Nat) (fun o=>[(0,.slice (some ⟨g,ba pre,none⟩) (ba xs) cap),(1,.int .i64 (a:Nat)),(6,.int .i64 (n:Nat)),(7,SX r),(8,.int .u64 (2 ^ w:Nat)),(9,.int .i64 (i:Nat)),(10,.int .i64 (o:Nat))]) (fun _=>pt r #[.int .u64 (m:Nat)] 323::pt g (kA kd pre ys post) (sf kd 37 3)::hs) (fun o=>o<n) ?_ ?_)))
   ·refine ac9 (af 2 I fun b43 h43=>fin 0 I<|th (ah h43 I (fun e6=>?_) (fun e6=>?_)))
    ·exact rg (ar 2 I (v':=.int .i64 (o-n:Nat)) (by rw[show ((o:Nat):Int)-((n:Nat):Int)=((o-n:Nat):Int) from qo];exact ac qo) (fin 1 I (jx (o-n) qo sb I I)))
    exact sk<|jx o qo sb I I
   clear ho hmm o;intro o ho;have hgi:(kA kd pre ys post)[ba pre+i]?=some (.int (kI kd) ((ys.getD i 0:Nat):Int)):=cI qo;have hgo:(kA kd pre ys post)[ba pre+(a+o)]?=some (.int (kI kd) ((ys.getD (a+o) 0:Nat):Int)):=cI qo;have hgo2:(kA kd pre (ys.set i (ys.getD (a+o) 0)) post)[ba pre+(a+o)]?=some (.int (kI kd) (((ys.set i (ys.getD (a+o) 0)).getD (a+o) 0:Nat):Int)):=cI (by rw[aay];omega);refine bI [pt g (kA kd pre ys post) (sf kd 37 3)] 17 [0,2,4,6,8,10,12,14,16,18,20,22,24,26,28,30,32,35,36,39] ST qk qk (bQ qk 5 I (ac (x:=((a+o:Nat):Int)) qo) (bQ qk 3 I (ac (x:=((a+o:Nat):Int)) qo) (bh qk 0 (a+o) I I qo ?_)));simp only[bz,aah];refine dC qk 0 0 I qk I hgo (bh qk 2 i I I qo ?_)
   simp only[bz,aah];refine dC qk 0 0 I qk I hgi (bh qk 0 i I I qo ?_);simp only[bz,aah];refine aG qk 0 I (stp 0 1 I I hgi I (di (.inl qk) (bh qk 0 (a+o) I I qo ?_)));simp only[bz,aah];refine aG qk 0 I ?_;refine WL.hs (pt r #[.int .u64 (m:Nat)] 323::pt g (kA kd pre (ys.set i (ys.getD (a+o) 0)) post) (sf kd 37 3)::hs) (congrArg (fun z=>pt r #[.int .u64 (m:Nat)] 323::pt g z (sf kd 37 3)::hs) (fB qo)) (stp 0 1 I I hgo2 I ?_);exact WL.hs (pt r #[.int .u64 (m:Nat)] 323::pt g (kA kd pre (swp i (a+o) ys) post) (sf kd 37 3)::hs) (congrArg (fun z=>pt r #[.int .u64 (m:Nat)] 323::pt g z (sf kd 37 3)::hs) (fB (by rw[aay];omega))) (di (.inl qk) (be qk 0 rfl (ac7 (ar 1 rfl (ac (x:=((i+1:Nat):Int)) qo) (fin 1 rfl (bc (x:=(i,m0,ys)) (i+1,m,swp i (a+o) ys) sb rfl rfl ⟨ax,ax,hP.trans (cz.swp ⟨qo,qo⟩ ⟨qo,qo⟩ qo)⟩ ax))))))
  exact ex<|xt (xt<|xb (WQ.drop<|gW I ⟨I,ys,I,hP⟩))
end
section
attribute [local irreducible] Code.wp wpList Calls
def Rm(kd:Bool)(n:Nat):∀ {w0:World} {K:PH} {hs:List PH} (g cap:Nat) (pre post:List Value) (xs:List Nat) (a b lim:Nat) (hab:a<=b) (hb:b<=ba xs) (hc:ba xs<=cap) (hl:ba xs<=1099511627776) (hlim:lim<=64) (hlo:ji a b xs) (hn:b-a<=n),
  aj w0 (sf kd 164 155) [.slice (some ⟨g,ba pre,none⟩) (ba xs) cap,.int .i64 (a:Nat),.int .i64 (b:Nat),.int .i64 (lim:Nat)] K (pt g (kA kd pre xs post) (sf kd 37 3)::hs)
   (fun v K' hs'=>K'=K/\∃ ys,hs'=pt g (kA kd pre ys post) (sf kd 37 3)::hs/\cz a b xs ys/\dZ a b ys):=by
 cases kd
 let kd:Bool:=false
 rewrite [show sf false=sf kd from rfl]
 try rewrite [show kA false=kA kd from rfl]
 rotate_left
 let kd:Bool:=true
 rewrite [show sf true=sf kd from rfl]
 try rewrite [show kA true=kA kd from rfl]
 rotate_left
 all_goals
  induction n using Nat.strongRecOn
  rename_i n ih;intro w0 K hs g cap pre post xs a b lim hab hb hc hl hlim hlo hn
 refine enter Tryz.func155 qk I I I ?_
 rotate_left
 refine enter Tryz.func164 qk I I I ?_
 rotate_left
 all_goals
  refine ac9 (fin 1 I<|ac6 (fin 1 I<|th (bk ?_)))
  refine loop (σ:=(Nat×Nat×Nat)×(Bool×Bool)×List Nat) (fun s=>[(0,.slice (some ⟨g,ba pre,none⟩) (ba xs) cap),(1,.int .i64 s.1.1),(2,.int .i64 s.1.2.1),(3,.int .i64 s.1.2.2),(8,.bool s.2.1.1),(9,.bool s.2.1.2)]) (fun _=>K) (fun s=>pt g (kA kd pre s.2.2 post) (sf kd 37 3)::hs)
   (fun s=>s.1.2.2<=64/\a<=s.1.1/\s.1.2.1<=b/\s.1.1<=s.1.2.1/\cz a b xs s.2.2/\jh a b s.1.1 s.1.2.1 s.2.2/\ji s.1.1 s.1.2.1 s.2.2) (fun s=>s.1.2.1-s.1.1) ((a,b,lim),(true,true),xs) ⟨hlim,aac _,aac _,hab,cz.refl _ _ _,jh.self _ _ _,hlo⟩ ⟨rfl,rfl,rfl,rfl,rfl,rfl,trivial⟩ rfl rfl ?_
  rintro ⟨⟨c,d,lm⟩,⟨wb,wp⟩,ys⟩ ⟨hlm,hac,hdb,hcd,hP,hR,hL⟩;dsimp only at *;have hyl:ba ys=ba xs:=hP.len;obtain ⟨n1,hn1⟩:=bC (d-c);refine bk (ac9 (ar 2 I (v':=.int .i64 (n1:Nat)) (by rw[show ((d:Nat):Int)-((c:Nat):Int)=((n1:Nat):Int) from qo];exact ac qo) (fin 1 I (ac5 (af 1 I fun b23 h23=>fin 0 I (th (ah h23 I (fun e2=>?_) (fun e2=>?_))))))))
  ·refine ac9 ?_;have hs1:=RA kd (w0:=w0) (K:=K) (hs:=hs) g cap pre post ys c d hcd qo qo qo;rw[hyl] at hs1;refine cl 3 I hs1 ?_;rintro v27 K27 hs27 ⟨rfl,zs,rfl,hQ,hS⟩;exact fin 0 I (adb (rT (rB (rT (rB (pO I ⟨I,zs,I,hP.trans (hQ.wide hac hdb),hR zs hQ hS⟩))))))
  refine sk<|ac5 (af 1 I fun b29 h29=>fin 0 I<|th (ah h29 I (fun e4=>?_) (fun e4=>?_)))
  ·refine ac9 ?_;have hs1:=QA kd (w0:=w0) (K:=K) (hs:=hs) g cap pre post ys c d qo qo qo qo;rw[hyl] at hs1;refine cl 3 I hs1 ?_;rintro v33 K33 hs33 ⟨rfl,zs,rfl,hQ,hS⟩;exact fin 0 I (adb (rT (rB (rT (rB (pO I ⟨I,zs,I,hP.trans (hQ.wide hac hdb),hR zs hQ hS⟩))))))
  refine sk<|th (jn (σ:=Nat×List Nat) (fun s=>[(0,.slice (some ⟨g,ba pre,none⟩) (ba xs) cap),(1,.int .i64 (c:Nat)),(2,.int .i64 (d:Nat)),(3,.int .i64 s.1),(8,.bool wb),(9,.bool wp),(10,.int .i64 (n1:Nat))]) (fun s=>pt g (kA kd pre s.2 post) (sf kd 37 3)::hs) (fun s=>s.1<=64/\a<=c/\d<=b/\c<=d/\cz a b xs s.2/\jh a b c d s.2/\ji c d s.2) ?_ ?_)
  ·refine ac9 ?_;cases wb with
   | false=>
    refine fin 2 I (th (dY I (ac9 ?_)));have hs1:=RL kd (w0:=w0) (K:=K) (hs:=hs) g cap pre post ys c d qo qo qo qo;rw[hyl] at hs1;refine cl 3 I hs1 ?_;rintro v39 K39 hs39 ⟨rfl,zs,rfl,hQ⟩;exact fin 0 I (ac8 (ar 1 I (v':=.int .i64 (lm-1:Nat)) (by rw[show ((lm:Nat):Int)-1=((lm-1:Nat):Int) from qo];exact ac qo) (fin 1 I (jx (lm-1,zs) ⟨ax,hac,hdb,hcd,hP.trans (hQ.wide hac hdb),hR.step hQ,hL.perm hQ qo⟩ sb rfl rfl))))
   | true=>
    exact fin 2 I<|th (dt I<|sk (jx (lm,ys) ⟨hlm,hac,hdb,hcd,hP,hR,hL⟩ sb I I))
  clear hP hR hL hyl;clear ys hlm e4 h29 b29;clear lm;rintro ⟨lm,ys⟩ ⟨hlm,-,-,-,hP,hR,hL⟩;dsimp only at *;have hyl:ba ys=ba xs:=hP.len;refine ac9 ?_;have hs1:=Q9 kd (w0:=w0) (K:=K) (hs:=hs) g cap pre post ys c d qo qo qo qo;rw[hyl] at hs1;refine cl 3 I hs1 ?_;rintro v46 K46 hs46 ⟨rfl,rfl,pv,h,rfl,hpv,hh⟩;refine fin 5 I (th (jn (σ:=(Nat×Nat)×List Nat) (fun s=>[(0,.slice (some ⟨g,ba pre,none⟩) (ba xs) cap),(1,.int .i64 (c:Nat)),(2,.int .i64 (d:Nat)),(3,.int .i64 (lm:Nat)),(8,.bool wb),(9,.bool wp),(10,.int .i64 (n1:Nat)),(11,.int .i64 s.1.1),(12,.int .i64 s.1.2)]) (fun s=>pt g (kA kd pre s.2 post) (sf kd 37 3)::hs) (fun s=>(c<=s.1.1/\s.1.1<d)/\a<=c/\d<=b/\c<=d/\cz a b xs s.2/\jh a b c d s.2/\ji c d s.2) ?_ ?_))
  ·refine ac9 (af 1 I fun b50 h50=>fin 0 I<|th (ah h50 I (fun e7=>?_) (fun e7=>?_)))
   ·refine ac9 ?_;have hs1:=P9 kd (w0:=w0) (K:=K46) (hs:=hs) g cap pre post ys c d qo qo qo qo;rw[hyl] at hs1;refine cl 3 I hs1 ?_;rintro v54 K54 hs54 ⟨rfl,zs,rfl,hQ⟩;exact fin 0 I (ac6 (ar 1 I (ac qo) (ar 2 I (ac qo) (ar 0 I (v':=.int .i64 ((d-1-(pv-c):Nat):Int)) (by rw[show ((d:Nat):Int)-1-(((pv:Nat):Int)-((c:Nat):Int))=((d-1-(pv-c):Nat):Int) from qo];exact ac qo) (fin 1 I (ac8 (fin 1 I (jx ((d-1-(pv-c),1),zs) ⟨ax,hac,hdb,hcd,hP.trans (hQ.wide hac hdb),hR.step hQ,hL.perm hQ qo⟩ sb rfl rfl))))))))
   exact sk<|jx ((pv,h),ys) ⟨hpv,hac,hdb,hcd,hP,hR,hL⟩ sb I I
  clear hs1 hP hR hL hyl hpv hh;clear ys;clear pv h;rintro ⟨⟨pv,h⟩,ys⟩ ⟨hpv,-,-,-,hP,hR,hL⟩;dsimp only at *;have hyl:ba ys=ba xs:=hP.len;refine jn (σ:=List Nat) (fun s=>[(0,.slice (some ⟨g,ba pre,none⟩) (ba xs) cap),(1,.int .i64 (c:Nat)),(2,.int .i64 (d:Nat)),(3,.int .i64 (lm:Nat)),(8,.bool wb),(9,.bool wp),(10,.int .i64 (n1:Nat)),(11,.int .i64 (pv:Nat))]) (fun s=>pt g (kA kd pre s post) (sf kd 37 3)::hs) (fun s=>a<=c/\d<=b/\c<=d/\cz a b xs s/\jh a b c d s/\ji c d s) ?_ ?_
  ·refine ac9 ?_;cases wb with
   | false=>
    exact fin 8 I<|th (dt I<|sk (jx ys ⟨hac,hdb,hcd,hP,hR,hL⟩ sb I I))
   | true=>
   cases wp with
   | false=>
    exact fin 8 I<|th (dt I<|sk (jx ys ⟨hac,hdb,hcd,hP,hR,hL⟩ sb I I))
   | true=>
    refine af 6 I fun b67 h67=>fin 1 I<|th (ah h67 I (fun h9=>?_) (fun h9=>?_))
    ·refine ac9 ?_;have hs1:=Rj kd (w0:=w0) (K:=K46) (hs:=hs) g cap pre post ys c d qo qo qo qo hL;rw[hyl] at hs1;refine cl 3 I hs1 ?_;rintro v72 K72 hs72 ⟨rfl,zs,t,rfl,rfl,hQ,hS⟩;refine fin 0 I (th (nt I (fun e10=>?_) (fun e10=>?_)))
     ·exact rt<|jr (rB<|rT (rB<|pO I ⟨I,zs,I,hP.trans (hQ.wide hac hdb),hR zs hQ (hS e10)⟩))
     exact sk<|jx zs ⟨hac,hdb,hcd,hP.trans (hQ.wide hac hdb),hR.step hQ,hL.perm hQ qo⟩ sb I I
    exact sk<|jx ys ⟨hac,hdb,hcd,hP,hR,hL⟩ sb I I
  clear hP hR hL hyl;clear ys;rintro ys ⟨-,-,-,hP,hR,hL⟩;have hyl:ba ys=ba xs:=hP.len;refine jn (σ:=Unit) (fun _=>[(0,.slice (some ⟨g,ba pre,none⟩) (ba xs) cap),(1,.int .i64 (c:Nat)),(2,.int .i64 (d:Nat)),(3,.int .i64 (lm:Nat)),(8,.bool wb),(9,.bool wp),(10,.int .i64 (n1:Nat)),(11,.int .i64 (pv:Nat))]) (fun _=>pt g (kA kd pre ys post) (sf kd 37 3)::hs) (fun _=>True) ?_ ?_
  ·refine sq<|bI [pt g (kA kd pre ys post) (sf kd 37 3)] 15 [0,2,4,6,8,10,12,14,16,18,20,22,25,26,28] ST qk qk (gD qk 1 (0<c) I ST (fun h11=>?_) (fun h11=>?_))
   ·refine bQ qk 3 I (v':=.int .i64 (c-1:Nat)) (by rw[show ((c:Nat):Int)-1=((c-1:Nat):Int) from qo];exact ac qo) (bh qk 0 (c-1) I I qo ?_);simp only[bz,aah];refine dF qk 0 0 I I (cI qo) (bh qk 2 pv I I qo ?_);simp only[bz,aah];refine dF qk 0 0 I I (cI qo) (aG qk 0 I (cl 0 I (kJ kd (ys.getD (c-1) 0) (ys.getD pv 0)) ?_));rintro v85 K85 hs85 ⟨rfl,rfl,rfl⟩;refine bp ST I ?_
    by_cases hlt:ys.getD (c-1) 0<ys.getD pv 0
    ·rw[decide_eq_true hlt];exact be qk 2 I (th (dt I (sk (jx () trivial sb I I))))
    rw[decide_eq_false hlt];refine be qk 2 I (th (dY I (ac9 ?_)));have hs1:=Qm kd (w0:=w0) (K:=K85) (hs:=hs) g cap pre post ys c d pv qo hpv qo qo qo;rw[hyl] at hs1;refine cl 4 I hs1 ?_;rintro v92 K92 hs92 ⟨rfl,zs,i,rfl,rfl,hQ,hi1,hi2,hz1,hz2,hz3⟩;have hzl:ba zs=ba ys:=hQ.len;obtain ⟨hR2,hL2⟩:=(hR.step hQ).equal h11 hi1 hi2 qo (hL.perm hQ qo) (by rw[hQ.outD (i:=c-1) (.inl qo),hz3];exact abs hlt) hz1 hz2;exact fin 1 I (ac6 (fin 2 I (th (ex (je (xb (bc (x:=((c,d,lm),(wb,wp),zs)) ((i,d,lm),(wb,wp),zs) sb I I ⟨hlm,ax,hdb,hi2,hP.trans (hQ.wide hac hdb),hR2,hL2⟩ ax)))))))
   exact aG qk 10 I<|WL.pures 1 I (bp ST I<|be qk 2 I (th<|dt I (sk<|jx () trivial sb I I)))
  rintro - -;refine ac9 ?_;have hs1:=Ro kd (w0:=w0) (K:=K46) (hs:=hs) g cap pre post ys c d pv qo hpv qo qo qo;rw[hyl] at hs1;refine cl 4 I hs1 ?_;rintro v99 K99 hs99 ⟨rfl,zs,m,t,rfl,rfl,hQ,hA⟩;have hm1:=hA.m1;have hm2:=hA.m2;have hzl:ba zs=ba xs:=hQ.len.trans hyl;have hLz:=hL.perm hQ qo;have hPz:=hP.trans (hQ.wide hac hdb);refine fin 5 I (ac6 (fin 2 I (ac6 (ar 2 I (v':=.int .i64 (m-c:Nat)) (by rw[show ((m:Nat):Int)-((c:Nat):Int)=((m-c:Nat):Int) from qo];exact ac qo) (ar 2 I (v':=.int .i64 (d-m:Nat)) (by rw[show ((d:Nat):Int)-((m:Nat):Int)=((d-m:Nat):Int) from qo];exact ac qo) (fin 2 I (ac6 (ar 1 I (pP n1 8 qo) (fin 1 I (ac6 (af 2 I fun b113 h113=>fin 0 I (th (ah h113 I (fun e14=>?_) (fun e14=>?_))))))))))))))
  ·refine ac9 (af 2 I fun b116 h116=>fin 1 I (ac6 ?_));have hs1:=ih (n-1) qo (w0:=w0) (K:=K99) (hs:=hs) g cap pre post zs c m lm hm1 qo qo qo hlm (hLz.cut qo) qo;rw[hzl] at hs1;refine cl 4 I hs1 ?_;rintro v121 K121 hs121 ⟨rfl,us,rfl,hU,hS⟩;have hul:ba us=ba xs:=hU.len.trans hzl;exact fin 0 I (ac8 (ar 1 I (ac (x:=((m+1:Nat):Int)) qo) (fin 1 I (bl (bc (x:=((c,d,lm),(wb,wp),zs)) ((m+1,d,lm),(b116,t),us) sb I I ⟨hlm,ax,hdb,hm2,hPz.trans (hU.wide hac qo),(hR.step hQ).left hA qo hU hS,(hA.left hU qo).loB (hLz.perm (hU.wide (aac _) qo) qo)⟩ ax)))))
  refine ac9 (af 2 I fun b126 h126=>fin 1 I (ac6 (ar 2 I (ac (x:=((m+1:Nat):Int)) qo) ?_)));have hs1:=ih (n-1) qo (w0:=w0) (K:=K99) (hs:=hs) g cap pre post zs (m+1) d lm hm2 qo qo qo hlm (hA.loB hLz) qo;rw[hzl] at hs1;refine cl 2 I hs1 ?_;rintro v132 K132 hs132 ⟨rfl,us,rfl,hU,hS⟩;have hul:ba us=ba xs:=hU.len.trans hzl;exact fin 0 I (ac8 (fin 2 I (bl (bc (x:=((c,d,lm),(wb,wp),zs)) ((c,m,lm),(b126,t),us) sb I I ⟨hlm,hac,ax,hm1,hPz.trans (hU.wide qo hdb),(hR.step hQ).right hA qo hU hS,(hLz.perm (hU.wide qo (aac _)) qo).cut ax⟩ ax))))
end
section
attribute [local irreducible] Code.wp wpList Calls
def od(l:List Int)(ks:List Int):Nat:=ba (l.filter fun x=>decide (x∉ks))
def KV{ks:List Int}{k:Int}(hk:k∉ks):∀ {l:List Int},k∈l->od l (ks++[k])<od l ks:=by
 have hle:∀ l:List Int,od l (ks++[k])<=od l ks:=fun l=>by
  unfold od;rw[<-List.countP_eq_length_filter,<-List.countP_eq_length_filter];exact List.countP_mono_left fun x _ hx=>by simp at hx ⊢;exact hx.1
 intro l
 induction l with
 | nil=>intro h;simp at h
 | cons x l ih=>
  intro h
  by_cases e:x=k
  ·subst e;have:=hle l;unfold od at this ⊢;rw[acS ST,acT (by simp[hk])];simp only[aaj];omega
  have:=ih (by rcases aau.1 h with h|h;exact absurd h.symm e;exact h);unfold od at this ⊢
  by_cases hx:x∈ks
  ·rw[acS (by simp[hx]),acS (by simp[hx])];exact this
  rw[acT (by simp[hx,e]),acT (by simp[hx])];simp only[aaj];omega
abbrev iu{ν:Type}(m:List (Int×ν)):={l:List Int // l.Nodup/\∀ k∈l,k∈m.map (·.1)}
def iu.add{ν:Type}{m:List (Int×ν)}(s:iu m)(k:Int)(h1:k∈m.map (·.1))(h2:k∉s.1):iu m:=⟨s.1++[k],by
 refine abR.2 ⟨s.2.1,ST,?_⟩;intro a ha b hb;simp only[aaK] at hb;subst hb;intro e;subst e;exact h2 ha,fun j hj=>by
 rcases aal.1 hj with hj|hj
 ·exact s.2.2 j hj
 simp only[aaK] at hj;rw[hj];exact h1⟩
def iu.len{ν:Type}{m:List (Int×ν)}(s:iu m):ba s.1<=ba m:=by
 have h:=s.2.1.length_le_of_subset (l₂:=m.map (·.1)) (fun k hk=>s.2.2 k hk);simpa using h
def sP{ν:Type}(enc:Int->Value)(m:List (Int×ν))(s:iu m)(vs:List Value)(s':iu m):Prop:=∃ k h1 h2,vs=[enc k]/\s'=s.add k h1 h2
def iu.nil{ν:Type}(m:List (Int×ν)):iu m:=⟨[],ST,ST⟩
def om{ν:Type}(m:List (Int×ν))(s:iu m):Prop:=∀ k∈m.map (·.1),k∈s.1
def zb(hm:PH)(b1 bo:Nat)(K:PH)(hs:List PH):Prop:=(∃ h,In K hs h/\bR h ⟨b1,0,none⟩ (.map (some bo)))/\In K hs hm
theorem iu.perm{ν:Type}{m:List (Int×ν)}(hnd:(m.map (·.1)).Nodup)(s:iu m)(h:om m s):s.1.Perm (m.map (·.1)):=
 (List.perm_ext_iff_of_nodup s.2.1 hnd).2 fun k=>⟨s.2.2 k,h k⟩
def rq(ks:List Int):List Value:=ks.map fun k=>Value.int .u64 k
def gG(kd:Bool)(ks:List Int):List Value:=ks.map fun k=>Value.int (kI kd) k
def Qv(kd:Bool):Tryz.prog.underlying (sf kd 60 112)=some (.map (sf kd 37 3) (sf kd 112 119)):=by
 cases kd
 ·exact Tryz.underlying112
 exact Tryz.underlying60
def GN(kd:Bool)(bo:Nat):aj w0 (sf kd 64 47) [.map (some bo)] K hs
  (fun v K' hs'=>K'=K/\∃ b,hs'=pt b #[.map (some bo)] (sf kd 60 112)::hs/\v=.func (.func (sf kd 127 117)) #[] #[SX b]):=by
 cases kd
 let kd:Bool:=false
 rewrite [show sf false=sf kd from rfl]
 refine enter Tryz.func47 qk I I I ?_
 rotate_left
 let kd:Bool:=true
 rewrite [show sf true=sf kd from rfl]
 refine enter Tryz.func64 qk I I I ?_
 rotate_left
 all_goals
  exact ac9 (bx 0 I fun b1=>fin 1 I<|ac6 (fin 2 I<|adb<|ay I I ⟨I,b1,I,I⟩))
def GM(kd:Bool){ν:Type}(encv:ν->Value)(hm:PH)(b1 bo:Nat)(m:List (Int×ν))(hnd:(m.map (·.1)).Nodup)(hO:dG (fX kd) encv hm bo m):
  nU Tryz.prog w0 (sf kd 127 117) [SX b1] (sP (fX kd) m) (om m) (iu.nil m) (zb hm b1 bo):=by
 cases kd
 let kd:Bool:=false
 rewrite [show sf false=sf kd from rfl]
 try rewrite [show fX false=fX kd from rfl]
 rotate_left
 let kd:Bool:=true
 rewrite [show sf true=sf kd from rfl]
 try rewrite [show fX true=fX kd from rfl]
 rotate_left
 all_goals
  intro L St Sp hRd hY K hs h0
 refine sM Tryz.func117 qk I I I ?_
 rotate_left
 refine sM Tryz.func127 qk I I I ?_
 rotate_left
 all_goals
  obtain ⟨⟨h1,m1,c1⟩,m2⟩:=hRd _ K hs h0;refine de (dX (ld 0 I m1 c1 (HT 0 I (Qv kd) m2 hO fun r hi hI0=>fin 0 I (dQ (dR (lg ?_))))))
  refine qM (σ:=PH×iu m×PH×List PH) (fun _=>[(0,.func (.yield L) #[] #[]),(1,SX b1),(5,SX r)]) (fun s=>s.2.2.1) (fun s=>s.1::s.2.2.2)
   (fun s=>mf (fX kd) encv hm s.1 bo r m s.2.1.1/\St s.2.1 s.2.2.1 s.2.2.2) (fun s=>od (m.map (·.1)) s.2.1.1) (hi,iu.nil m,K,hs) ⟨hI0,h0⟩ sb rfl rfl ?_
  rintro ⟨hi,ks,K,hs⟩ ⟨hI,hst⟩;dsimp only at *;obtain ⟨_,m2⟩:=hRd ks K hs hst;refine de (dX (HU 0 0 I m2.cons I hI hnd (fun k v hi' hmem hnk hS=>?_) (fun hall=>?_)))
  ·have hkm:k∈m.map (·.1):=aak.2 ⟨_,hmem,rfl⟩;refine fin 1 I (dQ (dR (de (vA I (nk (dR (lg (de (dX (HW 0 I m2.cons (.inr ⟨0,I⟩) hS (fin 2 I (dQ (dR (de (tg (iB.cut 2 (fin 2 I (s9 (te I ((hY ks [(fX kd) k] (ks.add k hkm hnk) K hs [hi'] ⟨k,hkm,hnk,I,I⟩ hst).perm (abv hi' hs).symm) ?_)))))))))))))))))));rintro v12 K12 hs12 ⟨hs1,rfl,⟨rfl,hn⟩|⟨rfl,hp⟩⟩
   ·exact iB.fin<|fin 1 I (dQ<|dR (sZ I<|nk (mu<|cH.perm (abv hi' hs1) (qE (x:=(hi,ks,K,hs)) (hi',ks.add k hkm hnk,K12,hs1) sb I I ⟨hS.1,hn⟩<|KV hnk hkm))))
   exact iB.fin<|fin 1 I (dQ<|dR (vA I<|pb (zK<|vP (zK<|cH.perm (abv hi' hs1) (cH.drop<|uV I (.inr hp))))))
  exact fin 1 I (dQ (dR (de (sZ I (zP (tf (tf (zF (cH.drop (qO I (.inl ⟨ks,fun k hk=>by obtain ⟨x,hx,rfl⟩:=aak.1 hk;exact hall x hx,hst⟩)))))))))))
def Oe(kd:Bool){ν:Type}(f:Nat)(cap:List Value)(m:List (Int×ν))(Rd:PH->List PH->Prop)(it:nU Tryz.prog w0 f cap (sP (fX kd) m) (om m) (iu.nil m) Rd)(hcal:jN Tryz.prog f=true)
  (hl:ba m<=1000000000) (hR:∀ x y fr,Rd K (x::y::(hs++fr))):
  aj w0 (sf kd 163 154) [.slice none 0 0,.func (.func f) #[] cap.toArray] K hs
   (fun v K' hs'=>K'=K/\∃ (s:iu m) (ao:Option Addr) (c:Nat) (g:PH),om m s/\hs'=g::hs/\v=.slice ao (ba s.1) c/\aZ g ao (ba s.1) c (sf kd 37 3) 1 (gG kd s.1)):=by
 cases kd
 let kd:Bool:=false
 rewrite [show sf false=sf kd from rfl]
 try rewrite [show gG false=gG kd from rfl]
 try rewrite [show fX false=fX kd from rfl]
 refine sM Tryz.func154 qk I I I ?_
 rotate_left
 let kd:Bool:=true
 rewrite [show sf true=sf kd from rfl]
 try rewrite [show gG true=gG kd from rfl]
 try rewrite [show fX true=fX kd from rfl]
 refine sM Tryz.func163 qk I I I ?_
 rotate_left
 all_goals
  refine de<|dX (bx 0 I fun b2=>fin 1 I<|dQ (dR<|de (de<|dX (fin 1 I<|dQ (dR<|lg (WX.em<|WX.perm (aaq _ _ _) ?_))))))
  refine HQ cap (sP (fX kd) m) (om m) (iu.nil m) Rd I it hcal (fun s vs s' h=>by obtain ⟨k,_,_,rfl,_⟩:=h;rfl) rfl
   (fun s K' hs'=>K'=K/\∃ ao c g,hs'=pt b2 #[.slice ao (ba s.1) c] (sf kd 75 23)::g::hs/\aZ g ao (ba s.1) c (sf kd 37 3) 1 (gG kd s.1))
   (fun _ _ _=>False) ⟨rfl,none,0,em,rfl,aZ.nil _ _⟩ (fun s K' hs' t u h=>by obtain ⟨rfl,ao,c,g,rfl,_⟩:=h;exact hR _ _ _) ?_ ?_ ?_
  ·rintro L s vs s' K' hs' fr t u ⟨k,hk,hnk,rfl,rfl⟩ ⟨rfl,ao,c,g,rfl,o⟩;have hlen:=(s.add k hk hnk).len;have hlen2:ba (s.add k hk hnk).1=ba s.1+1:=by simp[iu.add]
   refine dX (fin 1 I (dQ (ta (hs':=pt b2 #[.slice ao (ba s.1) c] (sf kd 75 23)::g::(hs++fr)) ST fun u=>lg (dX (bE 0 0 I I I (lit 1 #[(fX kd) k] I SU qk fun b10=>app 0 2 I I o (.inr ⟨0,I⟩) (aZ.ofPt I SU).isS I SU (by simp[fX,Value.oneCell']) (by show (ba s.1+1)*8<=_;omega) (by simp only[maxLen];omega) fun ao11 c11 g11 o11=>stp 0 1 rfl rfl rfl rfl (fin 0 rfl (dQ (mu (cH.drop (sW (hs':=pt b2 #[.slice ao11 (ba s.1+1) c11] (sf kd 75 23)::g11::(hs++fr)) rfl (⟨pt b2 #[.slice ao11 (ba s.1+1) c11] (sf kd 75 23)::g11::hs,rfl,rfl,ao11,c11,g11,by rw[hlen2],?_⟩))))))))))));rw[hlen2];have:gG kd (s.add k hk hnk).1=gG kd s.1++[(fX kd) k]:=by simp[iu.add,gG,fX]
   rw[this];exact o11
  ·rintro D s K' hs' hov ⟨rfl,ao,c,g,rfl,o⟩;exact id (mu (dR (de (dX (bE 0 0 I I I (fin 1 I (dQ (dR (pb (cH.drop (uU D (hs':=g::hs) I I I ⟨I,s,ao,c,g,hov,I,I,o⟩)))))))))))
  rintro D c K hs hj;exact hj.elim
end
section
def pQ(x:Int):List Int->List Int
 | []=>[x]
 | y::l=>if x<=y then x::y::l else y::pQ x l
def gV:List Int->List Int
 | []=>[]
 | x::l=>pQ x (gV l)
theorem wR(x:Int):∀ l,(pQ x l).Perm (x::l)
 | []=>List.Perm.refl _
 | y::l=>by
  unfold pQ
  split
  ·exact List.Perm.refl _
  exact ((wR x l).cons y).trans<|aaq x y l
theorem fb:∀ l,(gV l).Perm l
 | []=>List.Perm.refl _
 | x::l=>(wR x _).trans ((fb l).cons x)
theorem DF(x:Int):∀ {l},l.Pairwise (· <= ·)->(pQ x l).Pairwise (· <= ·)
 | [],_=>by simp[pQ]
 | y::l,h=>by
  unfold pQ;have h1:=aaE.1 h
  split
  ·rename_i hxy;refine aaE.2 ⟨fun z hz=>?_,h⟩;rcases aau.1 hz with rfl|hz
   ·exact hxy
   exact Int.le_trans hxy<|h1.1 z hz
  rename_i hxy;refine aaE.2 ⟨fun z hz=>?_,DF x h1.2⟩;rcases aau.1 ((wR x l).mem_iff.1 hz) with rfl|hz
  ·omega
  exact h1.1 z hz
theorem qj:∀ l,(gV l).Pairwise (· <= ·)
 | []=>List.Pairwise.nil
 | x::l=>DF x (qj l)
def M6{l ys:List Int}(hp:ys.Perm l)(hs:ys.Pairwise (· <= ·)):ys=gV l:=
 List.Perm.eq_of_pairwise (le:=(· <= ·)) (fun a b _ _ h1 h2=>Int.le_antisymm h1 h2) hs (qj l) (hp.trans (fb l).symm)
def dZ.pw{ys:List Nat}(h:dZ 0 (ba ys) ys):(ys.map fun x=>((x:Nat):Int)).Pairwise (· <= ·):=by
 rw[abp,abd];intro i j hi hj hij;have:=h i j (aag _) hij hj;rw[aaB,aaB,aae hi,aae hj] at this;simp only[aaZ] at this;omega
def NJ(kd:Bool)(ks:List Int)(h:∀ k∈ks,0<=k):gG kd ks=kY kd (ks.map Int.toNat):=by
 unfold gG kY;rw[aa5];refine abC fun k hk=>?_;have:=h k hk;simp only[Function.comp_apply];rw[acR this]
def NH(kd:Bool)(ys:List Nat):kY kd ys=gG kd (ys.map fun x=>((x:Nat):Int)):=by
 unfold gG kY;rw[aa5]
 rfl
def LP(ks:List Int)(h:∀ k∈ks,0<=k):(ks.map Int.toNat).map (fun x=>((x:Nat):Int))=ks:=by
 rw[aa5]
 conv=>rhs;rw[<-List.map_id ks]
 refine abC fun k hk=>?_;have:=h k hk;simp only[Function.comp_apply,id];rw[acR this]
theorem aZ.kA{kd:Bool}{g:PH}{ao:Option Addr}{c e:Nat}{xs:List Nat}(o:aZ g ao (ba xs) c e 1 (kY kd xs))(hne:ao≠none):∃ b pre post,ao=some ⟨b,ba pre,none⟩/\g=pt b (kA kd pre xs post) e/\ba xs<=c:=by
 obtain ⟨h1,h2,h3,⟨h4,_⟩|⟨b,off,cur,h4,h5,h6,h7⟩⟩:=o
 ·exact absurd h4 hne
 have hl:ba cur.toList=cur.size:=abW;have hoff:off<=ba cur.toList:=by rw[hl,h6];omega
 refine ⟨b,cur.toList.take off,cur.toList.drop (off+ba xs),?_,?_,h2⟩
 ·rw[h4,aam,acm hoff]
 rw[h5]
 congr 1
 unfold En.kA;rw[aah] at h7;rw[<-h7,aax,<-aaO,aaC,aaC]
def a8(D:Dk):List Int:=gV (D.areas.map (·.1))
attribute [local irreducible] Code.wp wpList Calls
def Mj(kd:Bool){ν:Type}(f:Nat)(cap:List Value)(m:List (Int×ν))(Rd:PH->List PH->Prop)(it:nU Tryz.prog w0 f cap (sP (fX kd) m) (om m) (iu.nil m) Rd)(hcal:jN Tryz.prog f=true)
  (hl:ba m<=1000000000) (hR:∀ x y fr,Rd K (x::y::(hs++fr))):
  aj w0 (sf kd 125 115) [.func (.func f) #[] cap.toArray] K hs
   (fun v K' hs'=>K'=K/\∃ (s:iu m) (ao:Option Addr) (c:Nat) (g:PH),om m s/\hs'=g::hs/\v=.slice ao (ba s.1) c/\aZ g ao (ba s.1) c (sf kd 37 3) 1 (gG kd s.1)):=by
 cases kd
 let kd:Bool:=false
 rewrite [show sf false=sf kd from rfl]
 try rewrite [show gG false=gG kd from rfl]
 try rewrite [show fX false=fX kd from rfl]
 refine enter Tryz.func115 qk I I I ?_
 rotate_left
 let kd:Bool:=true
 rewrite [show sf true=sf kd from rfl]
 try rewrite [show gG true=gG kd from rfl]
 try rewrite [show fX true=fX kd from rfl]
 refine enter Tryz.func125 qk I I I ?_
 rotate_left
 all_goals
  refine ac9 (fin 1 I (ac6 (cl 1 I (Oe kd f cap m Rd it hcal hl hR) ?_)));rintro v4 K4 hs4 ⟨rfl,s,ao,c,g,h1,rfl,rfl,h4⟩;exact fin 1 I (adb (ay I I ⟨I,s,ao,c,g,h1,I,I,h4⟩))
def P1(kd:Bool)(g cap:Nat)(pre post:List Value)(xs:List Nat)(hc:ba xs<=cap)(hl:ba xs<=1099511627776):
  aj w0 (sf kd 126 116) [.slice (some ⟨g,ba pre,none⟩) (ba xs) cap] K (pt g (kA kd pre xs post) (sf kd 37 3)::hs)
   (fun v K' hs'=>K'=K/\∃ ys,hs'=pt g (kA kd pre ys post) (sf kd 37 3)::hs/\cz 0 (ba xs) xs ys/\dZ 0 (ba xs) ys):=by
 cases kd
 let kd:Bool:=false
 rewrite [show sf false=sf kd from rfl]
 try rewrite [show kA false=kA kd from rfl]
 refine enter Tryz.func116 qk I I I ?_
 rotate_left
 let kd:Bool:=true
 rewrite [show sf true=sf kd from rfl]
 try rewrite [show kA true=kA kd from rfl]
 refine enter Tryz.func126 qk I I I ?_
 rotate_left
 all_goals
  refine ac9 (fin 3 I (ac8 (ar 3 I (cJ qo) (cl 0 I (zl (ba xs) qo) ?_))));rintro v9 K9 hs9 ⟨rfl,rfl,n,rfl,h1,-⟩;have hs1:=Rm kd (ba xs) (w0:=w0) (K:=K9) (hs:=hs) g cap pre post xs 0 (ba xs) n (aag _) (aac _) hc hl h1 (ji.zero _ _) qo;refine cl 0 I hs1 ?_;rintro v10 K10 hs10 ⟨rfl,ys,rfl,h2,h3⟩;exact fin 0 I (gW I ⟨I,ys,I,h2,h3⟩)
def NK(kd:Bool):aj w0 (sf kd 192 175) [.slice none 0 0,.int .i64 0,.int .i64 0] K hs (fun v K' hs'=>K'=K/\hs'=hs):=by
 cases kd
 let kd:Bool:=false
 rewrite [show sf false=sf kd from rfl]
 refine enter Tryz.func175 qk I I I ?_
 rotate_left
 let kd:Bool:=true
 rewrite [show sf true=sf kd from rfl]
 refine enter Tryz.func192 qk I I I ?_
 rotate_left
 all_goals
  refine ac9 (ar 1 I (ac (x:=1) qo) (fin 1 I (th (bk (loop (σ:=Unit) (fun _=>[(2,.int .i64 0),(6,.int .i64 1)]) (fun _=>K) (fun _=>hs) (fun _=>True) (fun _=>0) () trivial sb I I ?_)))));rintro - -;exact sq (ac9 (af 2 I fun b12 h12=>fin 0 I (th (Hm h12 qo I (ex (xt (xt (xb (gW I ⟨I,I⟩)))))))))
def Nx(kd:Bool)(n:Nat):aj w0 (sf kd 164 155) [.slice none 0 0,.int .i64 0,.int .i64 0,.int .i64 (n:Nat)] K hs (fun v K' hs'=>K'=K/\hs'=hs):=by
 cases kd
 let kd:Bool:=false
 rewrite [show sf false=sf kd from rfl]
 refine enter Tryz.func155 qk I I I ?_
 rotate_left
 let kd:Bool:=true
 rewrite [show sf true=sf kd from rfl]
 refine enter Tryz.func164 qk I I I ?_
 rotate_left
 all_goals
  refine ac9 (fin 1 I (ac6 (fin 1 I (th (bk (loop (σ:=Unit) (fun _=>[(0,.slice none 0 0),(1,.int .i64 0),(2,.int .i64 0)]) (fun _=>K) (fun _=>hs) (fun _=>True) (fun _=>0) () trivial sb I I ?_))))));rintro - -;refine bk (ac9 (ar 2 I (ac (x:=0) qo) (fin 1 I (ac5 (af 1 I fun b23 h23=>fin 0 I (th (vB h23 qo I (ac9 (cl 3 I (NK kd) ?_)))))))));rintro v27 K27 hs27 ⟨rfl,rfl⟩;exact fin 0 I (adb (rT (rB (rT (rB (pO I ⟨I,I⟩))))))
def Lb(kd:Bool):aj w0 (sf kd 126 116) [.slice none 0 0] K hs (fun v K' hs'=>K'=K/\hs'=hs):=by
 cases kd
 let kd:Bool:=false
 rewrite [show sf false=sf kd from rfl]
 refine enter Tryz.func116 qk I I I ?_
 rotate_left
 let kd:Bool:=true
 rewrite [show sf true=sf kd from rfl]
 refine enter Tryz.func126 qk I I I ?_
 rotate_left
 all_goals
  refine ac9 (fin 3 I (ac8 (ar 3 I (cJ (x:=0) qo) (cl 0 I (zl 0 qo) ?_))));rintro v9 K9 hs9 ⟨rfl,rfl,n,rfl,h1,-⟩;refine cl 0 I (Nx kd n) ?_;rintro v10 K10 hs10 ⟨rfl,rfl⟩;exact fin 0 I (gW I ⟨I,I⟩)
def EI(kd:Bool){ν:Type}(f:Nat)(cap:List Value)(m:List (Int×ν))(hnd:(m.map (·.1)).Nodup)(h0:∀ k∈m.map (·.1),0<=k)(Rd:PH->List PH->Prop)(it:nU Tryz.prog w0 f cap (sP (fX kd) m) (om m) (iu.nil m) Rd)(hcal:jN Tryz.prog f=true)
  (hl:ba m<=1000000000) (hR:∀ x y fr,Rd K (x::y::(hs++fr))):
  aj w0 (sf kd 63 46) [.func (.func f) #[] cap.toArray] K hs
   (fun v K' hs'=>Le K K'/\hs'=hs/\∃ ao c,v=.slice ao (ba m) c/\aH K' ao (ba m) c 1 (gG kd (gV (m.map (·.1))))):=by
 cases kd
 let kd:Bool:=false
 rewrite [show sf false=sf kd from rfl]
 try rewrite [show gG false=gG kd from rfl]
 try rewrite [show fX false=fX kd from rfl]
 refine enter Tryz.func46 qk I I I ?_
 rotate_left
 let kd:Bool:=true
 rewrite [show sf true=sf kd from rfl]
 try rewrite [show gG true=gG kd from rfl]
 try rewrite [show fX true=fX kd from rfl]
 refine enter Tryz.func63 qk I I I ?_
 rotate_left
 all_goals
  refine ac9 (fin 1 I (ac6 (cl 1 I (Mj kd f cap m Rd it hcal hl hR) ?_)));rintro v5 K5 hs5 ⟨rfl,s,ao,c,g,hov,rfl,rfl,o⟩;have hp:=s.perm hnd hov;have hsl:ba s.1=ba m:=by have:=hp.length_eq;simpa using this
  have hs0:∀ k∈s.1,0<=k:=fun k hk=>h0 k (hp.mem_iff.1 hk);obtain ⟨xs,hxs⟩:=bC (s.1.map Int.toNat);have hxl:ba xs=ba m:=by rw[hxs];simpa using hsl
  rw[hsl,NJ kd s.1 hs0,<-hxs,<-hxl] at o;rw[hsl,<-hxl];refine fin 1 I (ac6 ?_);cases ao with
  | none=>
   have hcz:ba xs=0/\c=0:=by
    obtain ⟨_,h2,_,⟨_,h4,_⟩|⟨_,_,_,h4,_⟩⟩:=o
    ·omega
    cases h4
   obtain ⟨hz,rfl⟩:=hcz;rw[hz];refine cl 1 I (Lb kd) ?_;rintro v7 K7 hs7 ⟨rfl,rfl⟩;refine fin 0 I (ac6 (fin 2 I (adb (WQ.drop (ay I I ⟨Le.refl _,I,none,0,I,?_⟩)))));have hm0:m=[]:=acF.1 (hxl.symm.trans hz);subst hm0;exact aH.nil _ _ _ _
  | some a=>
   obtain ⟨b,pre,post,ha,rfl,hc⟩:=o.kA ST;rw[ha];refine cl 1 I (P1 kd b c pre post xs hc qo) ?_;rintro v7 K7 hs7 ⟨rfl,ys,rfl,hQ,hS⟩;refine fin 0 I (ac6 (fin 2 I (adb (WQ.frz fun K' le1 le2=>?_))));have hyl:=hQ.len
   have hsort:(ys.map fun x=>((x:Nat):Int))=gV (m.map (·.1)):=by
    refine M6 ?_ ?_
    ·have h1:=hQ.perm.map (fun x:Nat=>((x:Nat):Int));rw[hxs,LP s.1 hs0] at h1;exact h1.trans hp
    rw[<-hyl] at hS;exact hS.pw
   refine ay I I ⟨le1,I,_,c,I,?_⟩;rw[<-hsort,<-NH kd,<-hyl];exact (O6 qo).le le2
def GB{m:List PH}(b:Nat)(D:Dk)(c:Nat)(o:D.Ok c)(hl:ba D.areas<=1000000000)(h0:∀ k∈D.areas.map (·.1),0<=k)(hm:iO K b D m):
  aj w0 22 [SX b] K (m++hs)
   (fun v K' hs'=>Le K K'/\hs'=m++hs/\∃ ao c,v=.slice ao (ba (a8 D)) c/\aH K' ao (ba (a8 D)) c 1 (rq (a8 D))):=by
 obtain ⟨bo,ho,ins,rfl,hO,hI⟩:=hm;have hk:(fv ins).map (·.1)=D.areas.map (·.1):=by rw[qf,pB hI]
 have hlen:ba (fv ins)=ba D.areas:=by have:=congrArg List.length hk;simpa using this
 refine enter Tryz.func22 qk I I I (ac9 (fin 1 I (ac6 (bE 3 0 I I I (cl 0 I (GN true bo) ?_)))));rintro v7 K7 hs7 ⟨rfl,b1,rfl,rfl⟩
 refine cl 0 I (EI true (m:=fv ins) _ [SX b1] (by rw[hk];exact o.keys) (by rw[hk];exact h0) (zb ho b1 bo) (GM true s8 ho b1 bo (fv ins) (by rw[hk];exact o.keys) hO) qk qo
  (fun x y fr=>⟨⟨_,.inr ⟨2,rfl⟩,bR.pt rfl⟩,.inr ⟨4,rfl⟩⟩)) ?_
 rintro v8 K8 hs8 ⟨le,rfl,ao,cc,rfl,hx⟩;refine fin 1 I (adb (WQ.drop ?_));have e:a8 D=gV ((fv ins).map (·.1)):=by unfold a8;rw[hk]
 have e2:ba (a8 D)=ba (fv ins):=by rw[e,(fb _).length_eq,aaP]
 exact ay I I ⟨le,I,ao,cc,by rw[e2],by rw[e2,e];exact hx⟩
end
section
def Ct.bun{f:FuncId}{args:List Value}{m:List PH}{R R':Value->PH->List PH->Prop}(d:jw m)(c:Ct P w0 f args K (m++hs) R)
  (h:∀ v K' hs',R v K' hs'->∃ m',hs'=m'++hs/\(jw m'->R' v K' (fp m'::hs))):Ct P w0 f args K (fp m::hs) R':=
 ⟨c.1,fun w hw=>(c.2 w (hw.split d)).mono fun e w' he=>by
  obtain ⟨v,K',hs',rfl,hR,hS⟩:=he;obtain ⟨m',rfl,h2⟩:=h v K' hs' hR;obtain ⟨d',hS'⟩:=aY.join m' hS;exact ⟨v,K',_,I,h2 d',hS'⟩⟩
def Ct.fix2{f:FuncId}{args:List Value}{R R':Value->PH->List PH->Prop}(c:Ct P w0 f args K hs R)
  (h:∀ w v K' hs',aY w0 w K' hs'->R v K' hs'->∃ K2 hs2,R' v K2 hs2/\aY w0 w K2 hs2):Ct P w0 f args K hs R':=
 ⟨c.1,fun w hw=>(c.2 w hw).mono fun e w' he=>by
  obtain ⟨v,K',hs',rfl,hR,hS⟩:=he;obtain ⟨K2,hs2,h1,h2⟩:=h w' v K' hs' hS hR;exact ⟨v,K2,hs2,I,h1,h2⟩⟩
def fD(m:List (Int×Ar)):Nat:=(m.map fun x=>ba x.2).sum
theorem tK{a:Int}{l:Ar}:∀ (m:List (Int×Ar)),fD (cG a l m)+ba ((aK a m).getD [])=fD m+ba l
 | []=>by simp[cG,aK,fD]
 | (k,u)::m=>by
  by_cases e:a=k
  ·grind [cG,aK,fD]
  have:=tK (a:=a) (l:=l) m
  grind [cG,aK,fD]
theorem wI{a:Int}:∀ (m:List (Int×Ar)),(m.map (·.1)).Nodup->fD (eC a m)+ba ((aK a m).getD [])=fD m
 | [],_=>by rfl
 | (k,u)::m,h=>by
  simp only[aao,abk] at h
  by_cases e:a=k
  ·grind [aK,eC,fD]
  have:=wI (a:=a) m h.2
  grind [eC,aK,fD]
structure bf (c:Nat) (D:Dk):Prop where
 ok:D.Ok c
 ar:∀ k∈D.areas.map (·.1),0<=k/\k<=18446744073709551615
 len:ba D.areas<=c
 cap:D.room+(fD D.areas:Int)<=1073741824
theorem bf.up{c d:Nat}{D:Dk}(o:bf c D)(h:c<=d):bf d D:=⟨o.ok.up h,o.ar,by have:=o.len;omega,o.cap⟩
theorem bf.write{c:Nat}{D:Dk}(o:bf c D)(a n:Int)(b:List UInt8)(ha:0<=a/\a<=18446744073709551615):bf (c+1) (D.write a n b).1:=by
 refine ⟨o.ok.write a n b,?_,?_,?_⟩
 ·unfold Dk.write
  split
  ·exact o.ar
  split
  ·exact o.ar
  split
  ·exact o.ar
  intro k hk;obtain ⟨x,hx,rfl⟩:=aak.1 hk;rcases j7 hx with rfl|hx
  ·exact ha
  exact o.ar _<|aak.2 ⟨x,hx,I⟩
 ·have:=o.len;unfold Dk.write
  split
  ·dsimp only;omega
  split
  ·dsimp only;omega
  split
  ·dsimp only;omega
  show ba (cG a _ D.areas)<=c+1;rw[rI]
  split <;> omega
 have hc:=o.cap;unfold Dk.write
 split
 ·exact hc
 split
 ·exact hc
 split
 ·exact hc
 show (D.laid a n b).room+(fD (D.laid a n b).areas:Int)<=_;unfold Dk.laid;dsimp only;have h1:=tK (a:=a) (l:=cG n (io (D.sec a n) b) (D.ar a)) D.areas;have h2:ba ((aK a D.areas).getD [])=ba (D.ar a):=rfl;have h3:=rI n (io (D.sec a n) b) (D.ar a);have h4:D.sec a n=aK n (D.ar a):=rfl
 grind
theorem rO(D:Dk)(a:Int):(D.synA a).map (·.1)=D.areas.map (·.1):=by
 grind [tR,Dk.synA]
def KX(D:Dk)(a:Int):fD (D.synA a)=fD D.areas:=by
 unfold Dk.synA;cases hg:aK a D.areas with
 | none=>rfl
 | some l=>
  have:=tK (a:=a) (l:=l.map fun x=>(x.1,kM x.2)) D.areas
  simp_all
theorem bf.sync{c:Nat}{D:Dk}(o:bf c D)(a:Int):bf (c+1) (D.sync a).1:=by
 refine ⟨o.ok.sync a,?_,?_,?_⟩
 ·unfold Dk.sync
  split
  ·exact o.ar
  split
  ·exact o.ar
  show ∀ k∈(D.synA a).map (·.1),_;rw[rO];exact o.ar
 ·have:=o.len;unfold Dk.sync
  split
  ·dsimp only;omega
  split
  ·show ba D.areas<=c+1;omega
  have h:=congrArg List.length (rO D a)
  grind
 have hc:=o.cap;unfold Dk.sync
 split
 ·exact hc
 split
 ·exact hc
 show D.room+(fD (D.synA a):Int)<=_;rw[KX];exact hc
def bf.arLen{c:Nat}{D:Dk}(o:bf c D)(a:Int):(ba (D.ar a):Int)<=fD D.areas:=by
 have h:=wI (a:=a) D.areas o.ok.keys;have h2:ba ((aK a D.areas).getD [])=ba (D.ar a):=rfl;omega
theorem bf.free{c:Nat}{D:Dk}(o:bf c D)(a:Int):bf (c+1) (D.free a).1:=by
 have hs:=nC (k:=a) D.areas;have hc:=o.cap;refine ⟨o.ok.free a (by have:=o.arLen a;omega),?_,?_,?_⟩
 ·unfold Dk.free
  split
  ·exact o.ar
  split
  ·exact o.ar
  intro k hk;obtain ⟨x,hx,rfl⟩:=aak.1 hk;exact o.ar _ (aak.2 ⟨x,hs.subset hx,I⟩)
 ·have:=o.len;unfold Dk.free
  split
  ·dsimp only;omega
  split
  ·show ba D.areas<=c+1;omega
  grind
 unfold Dk.free
 split
 ·exact hc
 split
 ·exact hc
 show D.room+(ba (D.ar a):Int)+(fD (eC a D.areas):Int)<=_;have h:=wI (a:=a) D.areas o.ok.keys;have h2:ba ((aK a D.areas).getD [])=ba (D.ar a):=rfl;omega
attribute [local irreducible] Code.wp wpList Calls
def da(K:PH)(b:Nat)(D:Dk)(h:PH):Prop:=∃ m,h=fp m/\jw m/\iO K b D m
theorem da.le{K K':PH}(l:Le K K'){b:Nat}{D:Dk}{h:PH}(x:da K b D h):da K' b D h:=let ⟨m,h1,h2,h3⟩:=x;⟨m,h1,h2,h3.le l⟩
def Rp(r:Int)(hr:0<=r/\r<=1099511627776):aj w0 4 [.int .i64 r] K hs
  (fun v K' hs'=>K'=K/\∃ b h,hs'=h::hs/\da K b (gr r) h/\v=SX b):=by
 refine Ct.fix2 (GL r hr) ?_;rintro w v K' hs' hS ⟨rfl,b,m,rfl,hm,rfl⟩;obtain ⟨d,hS'⟩:=aY.join m hS;exact ⟨K',_,⟨I,b,fp m,I,⟨m,I,d,hm⟩,I⟩,hS'⟩
def G2{h:PH}(b:Nat)(D:Dk)(hm:da K b D h):aj w0 53 [SX b] K (h::hs)
  (fun v K' hs'=>K'=K/\hs'=h::hs/\v=.bool D.dead):=by
 obtain ⟨m,rfl,d,hm⟩:=hm;refine Ct.bun d (QR b D hm) ?_
 simp
def yO{h:PH}(b:Nat)(D:Dk)(c:Nat)(o:D.Ok c)(hc:c<=1099511627)(hm:da K b D h)(area n:Int):
  aj w0 62 [SX b,.int .u64 area,.int .i64 n] K (h::hs)
   (fun v K' hs'=>∃ h',hs'=h'::hs/\h'=h/\Le K K'/\((D.read area n=none/\v=.tuple #[.slice none 0 0,.bool false]) \/
    ∃ bs ao cap,D.read area n=some bs/\ba bs=64/\v=.tuple #[.slice ao (ba bs) cap,.bool true]/\aH K' ao (ba bs) cap 1 (bv bs))):=by
 obtain ⟨m,rfl,d,hm⟩:=hm;refine Ct.bun d (OP b D c o hc hm area n) ?_
 simp_all
def yl{hv h:PH}(b:Nat)(D:Dk)(c:Nat)(o:D.Ok c)(hc:c<=1099511627)(hm:da K b D h)(area n:Int)(ha:0<=area/\area<=18446744073709551615)(ao:Option Addr)(cap:Nat)(bs:List UInt8)(hin:In K hs hv)(x:aH hv ao (ba bs) cap 1 (bv bs)):
  aj w0 102 [SX b,.int .u64 area,.int .i64 n,.slice ao (ba bs) cap] K (h::hs)
   (fun v K' hs'=>∃ h',hs'=h'::hs/\Le K K'/\da K' b (D.write area n bs).1 h'/\v=.int .i64 (D.write area n bs).2):=by
 obtain ⟨m,rfl,d,hm⟩:=hm;refine Ct.bun d (Om b D c o hc hm area n ha ao cap bs hin x) ?_;rintro v K' hs' ⟨le,m',rfl,hm',rfl⟩;exact ⟨m',I,fun d'=>⟨_,I,le,⟨m',I,d',hm'⟩,I⟩⟩
def uS{h:PH}(b:Nat)(D:Dk)(c:Nat)(o:D.Ok c)(hc:c<=1099511627)(hm:da K b D h)(area:Int):
  aj w0 103 [SX b,.int .u64 area] K (h::hs)
   (fun v K' hs'=>∃ h',hs'=h'::hs/\K'=K/\da K b (D.sync area).1 h'/\v=.int .i64 (D.sync area).2):=by
 obtain ⟨m,rfl,d,hm⟩:=hm;refine Ct.bun d (PZ b D c o hc hm area) ?_;rintro v K' hs' ⟨rfl,m',rfl,hm',rfl⟩;exact ⟨m',I,fun d'=>⟨_,I,I,⟨m',I,d',hm'⟩,I⟩⟩
def uX{h:PH}(b:Nat)(D:Dk)(c:Nat)(o:D.Ok c)(hc:c<=1099511627)(hm:da K b D h)(area:Int):
  aj w0 25 [SX b,.int .u64 area] K (h::hs)
   (fun v K' hs'=>∃ h',hs'=h'::hs/\K'=K/\da K b (D.free area).1 h'/\v=.int .i64 (D.free area).2):=by
 obtain ⟨m,rfl,d,hm⟩:=hm;refine Ct.bun d (QF b D c o hc hm area) ?_;rintro v K' hs' ⟨rfl,m',rfl,hm',rfl⟩;exact ⟨m',I,fun d'=>⟨_,I,I,⟨m',I,d',hm'⟩,I⟩⟩
def GA{h:PH}(b:Nat)(D:Dk)(c:Nat)(o:bf c D)(hc:c<=1000000000)(hm:da K b D h):
  aj w0 22 [SX b] K (h::hs)
   (fun v K' hs'=>∃ h',hs'=h'::hs/\h'=h/\Le K K'/\∃ ao c,v=.slice ao (ba (a8 D)) c/\aH K' ao (ba (a8 D)) c 1 (rq (a8 D))):=by
 obtain ⟨m,rfl,d,hm⟩:=hm;refine Ct.bun d (GB b D c o.ok (by have:=o.len;omega) (fun k hk=>(o.ar k hk).1) hm) ?_
 simp_all
end
section
def aJ(num:Nat):Int:=((4*num+1:Nat):Int)
def jB(s:List UInt8):Nat:=min (s.getD 0 0).toNat 63
def ni(D:Dk)(num:Nat):Nat->Nat->List UInt8
 | 0,_=>[]
 | f+1,n=>match D.read (aJ num) n with
  | none=>[]
  | some s=>(s.drop 1).take (jB s)++(if jB s<63 then [] else ni D num f (n+1))
def gM(D:Dk)(num:Nat):List UInt8:=ni D num 65537 0
def bP:Nat:=4611686018427387904
def eV:Nat:=1152921504606846976
def lp:Nat->Rd->List (List UInt8)
 | 0,_=>[]
 | f+1,r=>if (dw 512 r).2.2=0 then (dw 512 r).1::lp f (dw 512 r).2 else []
structure gH where
 num:Nat
 idx:Nat
 full:Nat
 rest:List UInt8
structure Wl where
 op:Option gH
 first:Nat
 recs:List (List UInt8)
 old:List (Nat×Nat)
 next:Nat
 code:Int
def Wl.follows(W:Wl)(n idx:Nat):Wl×Bool:=
 if ba W.old=0\/idx<W.first then ({ W with first:=idx,recs:=[],old:=W.old++[(n,idx)] },true)
 else if ba W.recs<idx-W.first then (W,false)
 else ({ W with recs:=W.recs.take (idx-W.first),old:=W.old++[(n,idx)] },true)
def lQ(D:Dk)(n:Nat)(W:Wl):Wl×Bool×Bool:=
 if (aM bP (gM D n,0)).2.2≠0 then (W,true,true)
 else if (W.follows n (aM bP (gM D n,0)).1).2=false then ((W.follows n (aM bP (gM D n,0)).1).1,false,false)
 else ({ (W.follows n (aM bP (gM D n,0)).1).1 with recs:=(W.follows n (aM bP (gM D n,0)).1).1.recs++lp (ba (gM D n)+1) (aM bP (gM D n,0)).2 },true,false)
def cZ(ars:List Int):List Nat:=(ars.filter fun a=>decide (a % 4=1)).map fun a=>a.toNat / 4
def jA(ars:List Int):Nat:=(cZ ars).foldl (fun _ n=>n+1) 0
def fT(D:Dk)(fr n:Nat)(W:Wl):Wl×Bool×Bool:=if n<fr then (W,true,true) else lQ D n W
def i4(D:Dk)(fr:Nat):List Nat->Wl->List Nat->Wl×List Nat×Bool
 | [],W,g=>(W,g,true)
 | n::r,W,g=>
  if (fT D fr n W).2.1=false\/bP<(fT D fr n W).1.first+ba (fT D fr n W).1.recs then ((fT D fr n W).1,if (fT D fr n W).2.2 then g++[n] else g,false)
  else i4 D fr r (fT D fr n W).1 (if (fT D fr n W).2.2 then g++[n] else g)
def gP(D:Dk)(g:List Nat)(n:Nat):Dk×Int:=if n∈g then D.free (aJ n) else D.sync (aJ n)
def wsettle(g:List Nat):List Nat->Dk->Dk×Int
 | [],D=>(D,0)
 | n::r,D=>if (gP D g n).2=0 then wsettle g r (gP D g n).1 else gP D g n
def eM(fr first:Nat)(ars:List Int):Wl:=⟨none,first,[],[],max (jA ars) fr,0⟩
def eF(D:Dk)(fr first:Nat):Option Wl×Dk×Int:=
 if D.dead=true then (none,D,30)
 else if bP<first then (none,D,52)
 else if eV<(eM fr first (a8 D)).next then (none,D,52)
 else if (i4 D fr (cZ (a8 D)) (eM fr first (a8 D)) []).2.2=false then (none,D,52)
 else if (wsettle (i4 D fr (cZ (a8 D)) (eM fr first (a8 D)) []).2.1 (cZ (a8 D)) D).2≠0 then (none,wsettle (i4 D fr (cZ (a8 D)) (eM fr first (a8 D)) []).2.1 (cZ (a8 D)) D)
 else (some (i4 D fr (cZ (a8 D)) (eM fr first (a8 D)) []).1,(wsettle (i4 D fr (cZ (a8 D)) (eM fr first (a8 D)) []).2.1 (cZ (a8 D)) D).1,0)
def wrL:Nat->gH->Dk->gH×Dk×Int
 | 0,o,D=>(o,D,0)
 | f+1,o,D=>
  if (D.write (aJ o.num) o.full (UInt8.ofNat (min (ba o.rest) 63)::o.rest.take (min (ba o.rest) 63))).2≠0\/ba o.rest<63 then
   (o,(D.write (aJ o.num) o.full (UInt8.ofNat (min (ba o.rest) 63)::o.rest.take (min (ba o.rest) 63))).1,(D.write (aJ o.num) o.full (UInt8.ofNat (min (ba o.rest) 63)::o.rest.take (min (ba o.rest) 63))).2)
  else if ba o.rest=63 then ({ o with full:=o.full+1,rest:=[] },(D.write (aJ o.num) o.full (UInt8.ofNat (min (ba o.rest) 63)::o.rest.take (min (ba o.rest) 63))).1,0)
  else wrL f { o with full:=o.full+1,rest:=o.rest.drop 63 } (D.write (aJ o.num) o.full (UInt8.ofNat (min (ba o.rest) 63)::o.rest.take (min (ba o.rest) 63))).1
def wrO(o:gH)(b:List UInt8)(D:Dk):gH×Dk×Int:=wrL (ba o.rest+ba b+1) { o with rest:=o.rest++b } D
def Wl.sync(W:Wl)(D:Dk):Wl×Dk:=
 if W.code≠0 then (W,D) else match W.op with
 | none=>(W,D)
 | some o=>({ W with code:=(D.sync (aJ o.num)).2 },(D.sync (aJ o.num)).1)
def Wl.begin(W:Wl)(i:Nat)(D:Dk):Wl×Dk:=
 if (W.sync D).1.code≠0 then W.sync D
 else ({ (W.sync D).1 with op:=some (wrO ⟨W.next,i,0,[]⟩ (aU i) (W.sync D).2).1,next:=W.next+1,old:=W.old++[(W.next,i)],code:=(wrO ⟨W.next,i,0,[]⟩ (aU i) (W.sync D).2).2.2 },(wrO ⟨W.next,i,0,[]⟩ (aU i) (W.sync D).2).2.1)
def mR:Option gH->Bool
 | none=>true
 | some o=>decide (16<=o.full)
def ef(W:Wl)(b:List UInt8)(D:Dk):Wl×Dk×Int:=match W.op with
 | none=>(W,D,W.code)
 | some o=>({ W with op:=some (wrO o (dg b) D).1,code:=(wrO o (dg b) D).2.2,recs:=if (wrO o (dg b) D).2.2=0 then W.recs++[b] else W.recs },(wrO o (dg b) D).2.1,(wrO o (dg b) D).2.2)
def Wl.append(W:Wl)(b:List UInt8)(D:Dk):Wl×Dk×Int:=
 if W.code≠0 then (W,D,W.code)
 else if 512<ba b then (W,D,50)
 else if W.first+ba W.recs=bP then (W,D,51)
 else if mR W.op=true then
  (if (W.begin (W.first+ba W.recs) D).1.code≠0 then ((W.begin (W.first+ba W.recs) D).1,(W.begin (W.first+ba W.recs) D).2,(W.begin (W.first+ba W.recs) D).1.code)
   else ef (W.begin (W.first+ba W.recs) D).1 b (W.begin (W.first+ba W.recs) D).2)
 else ef W b D
def Wl.truncate(W:Wl)(i:Nat)(D:Dk):Wl×Dk×Int:=
 if W.code≠0 then (W,D,W.code)
 else if i<W.first\/ba W.recs<i-W.first then (W,D,51)
 else if i-W.first=ba W.recs then (W,D,0)
 else (if (W.begin i D).1.code=0 then { (W.begin i D).1 with recs:=W.recs.take (i-W.first) } else (W.begin i D).1,(W.begin i D).2,(W.begin i D).1.code)
def mK(old:List (Nat×Nat))(i:Nat):Bool:=(old.drop 1).any fun s=>decide (s.2<=i)
def wfree(i:Nat):Nat->List (Nat×Nat)->Dk->List (Nat×Nat)×Dk×Int
 | 0,old,D=>(old,D,0)
 | f+1,old,D=>if 1<ba old/\mK old i=true then
   (if (D.free (aJ (old.headD (0,0)).1)).2≠0 then (old,(D.free (aJ (old.headD (0,0)).1)).1,(D.free (aJ (old.headD (0,0)).1)).2)
    else wfree i f (old.drop 1) (D.free (aJ (old.headD (0,0)).1)).1)
  else (old,D,0)
def Wl.compact1(W:Wl)(i:Nat)(D:Dk):Wl×Dk:=if i=W.first+ba W.recs then W.begin i D else (W,D)
def Wl.compact2(W:Wl)(i:Nat)(D:Dk):Wl×Dk:=(W.compact1 i D).1.sync (W.compact1 i D).2
def Wl.compact(W:Wl)(i:Nat)(D:Dk):Wl×Dk×Int:=
 if W.code≠0 then (W,D,W.code)
 else if i<=W.first then (W,D,0)
 else if ba W.recs<i-W.first then (W,D,51)
 else if (W.compact2 i D).1.code≠0 then ((W.compact2 i D).1,(W.compact2 i D).2,(W.compact2 i D).1.code)
 else if (wfree i (ba (W.compact2 i D).1.old+1) (W.compact2 i D).1.old (W.compact2 i D).2).2.2≠0 then
  ({ (W.compact2 i D).1 with old:=(wfree i (ba (W.compact2 i D).1.old+1) (W.compact2 i D).1.old (W.compact2 i D).2).1,code:=(wfree i (ba (W.compact2 i D).1.old+1) (W.compact2 i D).1.old (W.compact2 i D).2).2.2 },(wfree i (ba (W.compact2 i D).1.old+1) (W.compact2 i D).1.old (W.compact2 i D).2).2.1,(wfree i (ba (W.compact2 i D).1.old+1) (W.compact2 i D).1.old (W.compact2 i D).2).2.2)
 else ({ (W.compact2 i D).1 with old:=(wfree i (ba (W.compact2 i D).1.old+1) (W.compact2 i D).1.old (W.compact2 i D).2).1,recs:=W.recs.drop (i-W.first),first:=i },(wfree i (ba (W.compact2 i D).1.old+1) (W.compact2 i D).1.old (W.compact2 i D).2).2.1,0)
end
section
def fP:Nat->Nat->List UInt8
 | 0,_=>[]
 | k+1,n=>UInt8.ofNat n::fP k (n / 256)
theorem nY:∀ (k n:Nat),ba (fP k n)=k
 | 0,_=>rfl
 | k+1,n=>by simp[fP,nY k]
theorem EY:∀ (k n i:Nat),i<k->(fP k n)[i]?=some (UInt8.ofNat (n / 256 ^ i))
 | 0,_,_,h=>by omega
 | k+1,n,0,_=>by simp[fP]
 | k+1,n,i+1,h=>by
  rw[fP,acU,EY k (n / 256) i qo,Nat.div_div_eq_div_mul,ab6,ab1]
theorem Eu:∀ (k n:Nat),n<256 ^ k->dT (fP k n)=n
 | 0,n,h=>by simp at h;simp[fP,dT,h]
 | k+1,n,h=>by
  have h1:n / 256<256 ^ k:=by rw[Nat.div_lt_iff_lt_mul SU];rw[ab6] at h;exact h
  rw[fP];simp only[dT,Eu k _ h1]
  simp
  omega
def jp(n:Nat)(v:List UInt8):List UInt8:=fP 8 n++(UInt8.ofNat (ba v)::(v++List.replicate (51-ba v) 0))
def du(n:Nat)(v:List UInt8):List UInt8:=jp n v++fP 4 (lf (jp n v)).toNat
def AC{n:Nat}{v:List UInt8}(h:ba v<=48):ba (jp n v)=60:=by simp[jp,nY];omega
def qc{n:Nat}{v:List UInt8}(h:ba v<=48):ba (du n v)=64:=by simp[du,nY,AC h]
def j9(b:List UInt8)(i:Nat):Nat×List UInt8:=
 if 48<(b.getD 8 0).toNat then (0,[])
 else if dT (b.take 8) % 2=i/\b=du (dT (b.take 8)) ((b.drop 9).take (b.getD 8 0).toNat) then (dT (b.take 8),(b.drop 9).take (b.getD 8 0).toNat) else (0,[])
def jR(D:Dk)(area i:Nat):Nat×List UInt8:=match D.read area i with
 | none=>(0,[])
 | some b=>j9 b i
structure df where
 num:Nat
 val:List UInt8
def df.pick(s:df)(r:Nat×List UInt8):df:=if s.num<r.1 then ⟨r.1,r.2⟩ else s
def jz(D:Dk)(area:Nat):df:=(df.pick ⟨0,[]⟩ (jR D area 0)).pick (jR D area 1)
def df.save(s:df)(area:Nat)(D:Dk)(v:List UInt8):df×Dk×Int:=
 if 48<ba v\/s.num=18446744073709551615 then (s,D,40)
 else if (D.write area (((s.num+1) % 2:Nat):Int) (du (s.num+1) v)).2=0 then
  (if ((D.write area (((s.num+1) % 2:Nat):Int) (du (s.num+1) v)).1.sync area).2=0 then ⟨s.num+1,v⟩ else s,((D.write area (((s.num+1) % 2:Nat):Int) (du (s.num+1) v)).1.sync area).1,((D.write area (((s.num+1) % 2:Nat):Int) (du (s.num+1) v)).1.sync area).2)
 else (s,(D.write area (((s.num+1) % 2:Nat):Int) (du (s.num+1) v)).1,(D.write area (((s.num+1) % 2:Nat):Int) (du (s.num+1) v)).2)
end
section
def uL{g ty:Nat}{A B C:List UInt8}{off n cap:Nat}(ho:off=ba A)(hn:n=ba B)(hc:n<=cap):aH (pt g (bv (A++B++C)).toArray ty) (some ⟨g,off,none⟩) n cap 1 (bv B):=by
 subst ho;subst hn;refine ⟨by simp[bv],hc,fun j u hu=>⟨_,I,?_⟩⟩
 have hj:j<ba B:=by
  grind [bv]
 simp_all [bz,bR.pt,aa9,aa3,bv]
def Gz{l:List UInt8}{i:Nat}(h:i<ba l):(bv l).toArray[i]?=some (.int .u8 (l[i].toNat:Nat)):=by rw[List.getElem?_toArray,qD h]
def PP(l:List UInt8)(i m:Nat):(bv l).toArray.setIfInBounds i (.int .u8 (m % 256:Nat))=(bv (l.set i (UInt8.ofNat m))).toArray:=by
 rw[List.setIfInBounds_toArray];unfold bv
 simp
def LT{k n i:Nat}{B:List UInt8}(hB:ba B=k)(hi:i<k):((fP k n).take i++B.drop i).set i (UInt8.ofNat (n / 2 ^ (8*i)))=(fP k n).take (i+1)++B.drop (i+1):=by
 have hl:ba ((fP k n).take i)=i:=by rw[aam,nY];omega
 have hp:(2:Nat) ^ (8*i)=256 ^ i:=by rw[ab0]
 rw[acr _ _ qo,hl,ab8,aaF qo,List.set_cons_zero,hp,aaA,EY k n i hi]
 simp
theorem QU{X v Z W:List UInt8}{k:Nat}(hk:k=ba X)(hz:ba Z=ba v):(List.take k (bv (X++(Z++W)))++List.take (ba v*1) (bv v)++List.drop (k+ba v*1) (bv (X++(Z++W)))).toArray=(bv (X++(v++W))).toArray:=by
 simp_all [aar,acV,bv]
attribute [local irreducible] Code.wp wpList Calls
def Hj(g off k cap ty n:Nat)(A B C:List UInt8)(ho:off=ba A)(hB:ba B=k)(hk:k<=8)(hc:k<=cap):
  aj w0 162 [.slice (some ⟨g,off,none⟩) k cap,.int .u64 (n:Nat)] K (pt g (bv (A++B++C)).toArray ty::hs)
   (fun v K' hs'=>K'=K/\hs'=pt g (bv (A++fP k n++C)).toArray ty::hs):=by
 refine bH Tryz.func162 ?_
 refine loop (σ:=Nat) (fun i=>[(0,.slice (some ⟨g,off,none⟩) k cap),(1,.int .u64 (n:Nat)),(6,.int .i64 (k:Nat)),(7,.int .i64 (i:Nat))]) (fun _=>K) (fun i=>pt g (bv (A++((fP k n).take i++B.drop i)++C)).toArray ty::hs)
  (fun i=>i<=k) (fun i=>k-i) 0 (aag _) ⟨rfl,rfl,rfl,rfl,trivial⟩ rfl ST ?_
 intro i hi;refine ac9 (af 0 I fun b8 h8=>au ?_);refine ah h8 I (fun e2=>?_) (fun e2=>?_)
 ·have hik:i<k:=qo
  obtain ⟨M,hM⟩:=bC ((fP k n).take i++B.drop i);have hMl:ba M=k:=by simp_all [nY]
  rw[<-hM];refine au ?_;refine ar 4 I (ac (x:=((8*i:Nat):Int)) qo) (pW 0 I qo (.inr ⟨I,uy n _ (8*i) I qo⟩) (ar 0 I (l7 _) (dz 0 i I I (uL (g:=g) (ty:=ty) (C:=C) ho hMl.symm hc) hik SU fun a17 ha=>?_)));cases ha;simp only[bz,aah];refine stp 0 0 I I (Gz (l:=A++M++C) (i:=off+i) (by simp only[aaf];omega)) rfl (au ?_);refine ar 0 I (ac (x:=((i+1:Nat):Int)) qo) (fin 1 I (bc (x:=i) (i+1) sb I ?_ hik qo));show pt g _ ty::hs=_;rw[PP,List.set_append_left _ _ (by rw[aaf];omega),acr _ _ qo,show off+i-ba A=i from qo,hM,LT hB hik]
 refine ex (xt (xt (xb ?_)));obtain rfl:i=k:=qo
 refine gW I ⟨I,?_⟩
 simp_all [aar,nY,abh]
def EK{hv:PH}(n:Nat)(v:List UInt8)(ao:Option Addr)(cap:Nat)(hl:ba v<=48)(hin:In K hs hv)(x:aH hv ao (ba v) cap 1 (bv v)):
  aj w0 122 [.int .u64 (n:Nat),.slice ao (ba v) cap] K hs (fun u K' hs'=>K'=K/\hs'=hs/\u=.agg (bv (du n v)).toArray):=by
 have hHl:=AC (n:=n) hl;refine dj Tryz.func122 ?_;refine ac9 (al 0 (.agg (bv (List.replicate 64 0)).toArray) I qk fun b4=>au ?_);refine al 0 (.agg (bv (List.replicate 64 0)).toArray) I qk fun b5=>au ?_;refine vN 0 (sz:=1) 0 8 I I Tryz.underlying224 qk I I SU SU ?_;simp only[bz,abr,aa7];refine cl 1 I (Hj b5 0 8 64 224 n [] (List.replicate 8 0) (List.replicate 56 0) I ST SU SU) ?_;rintro v8 K8 hs8 ⟨rfl,rfl⟩;refine au ?_;refine ar 2 I (l7 _) (nQ 0 (sz:=1) 8 I Tryz.underlying224 qk I SU ?_);simp only[bz,aaD,aah];refine stp 0 0 I I (Gz (l:=[]++fP 8 n++List.replicate 56 0) (i:=8) ST) I ?_
 refine WL.hs (pt b5 (bv (fP 8 n++(UInt8.ofNat (ba v)::List.replicate 55 0))).toArray 224::pt b4 (bv (List.replicate 64 0)).toArray 224::hs) (congrArg (fun z=>pt b5 z 224::pt b4 (bv (List.replicate 64 0)).toArray 224::hs) (by
  rfl)) ?_
 refine au ?_;refine vN 0 (sz:=1) 9 55 I I Tryz.underlying224 qk I I SU SU ?_;simp only[bz,aaD,aah];refine zQ 1 0 (ba v) I I I (In.cons (In.cons hin)) x qo (fun u hu=>iZ v u (aaR hu)) (by grind [bv,fP]) ?_
 refine WL.hs (pt b5 (bv (jp n v++List.replicate 4 0)).toArray 224::pt b4 (bv (List.replicate 64 0)).toArray 224::hs) (congrArg (fun z=>pt b5 z 224::pt b4 (bv (List.replicate 64 0)).toArray 224::hs) (by
  have e2:List.replicate 55 (0:UInt8)=List.replicate (ba v) 0++(List.replicate (51-ba v) 0++List.replicate 4 0):=by
   grind [List.replicate_append_replicate]
  have e3:fP 8 n++(UInt8.ofNat (ba v)::List.replicate 55 0)=(fP 8 n++[UInt8.ofNat (ba v)])++(List.replicate (ba v) 0++(List.replicate (51-ba v) 0++List.replicate 4 0)):=by rw[<-e2];simp
  grind [QU,jp])) ?_
 refine au ?_;refine bI [] 5 [0,2,5,6,9] ST qk qk (zq qk 0 (sz:=1) 60 4 I I Tryz.underlying224 qk I I SU SU (zq qk 0 (sz:=1) 0 60 I I Tryz.underlying224 qk I I SU SU ?_));simp only[bz,aaD,aah,abr,abH,Nat.reduceSub,Nat.reduceAdd];refine au ?_
 have xH:aH (pt b5 (bv (jp n v++List.replicate 4 0)).toArray 224) (some ⟨b5,0,none⟩) (ba (jp n v)) 64 1 (bv (jp n v)):=by
  have:=uL (g:=b5) (ty:=224) (A:=[]) (B:=jp n v) (C:=List.replicate 4 0) (off:=0) (n:=ba (jp n v)) (cap:=64) rfl rfl qo;simpa using this
 have hsum:=zg (w0:=w0) (K:=K8) (hs:=pt b5 (bv (jp n v++List.replicate 4 0)).toArray 224::pt b4 (bv (List.replicate 64 0)).toArray 224::hs) (some ⟨b5,0,none⟩) 64 (jp n v) (.inr ⟨0,rfl⟩) xH qo;rw[hHl] at hsum;refine cl 0 I hsum ?_;rintro v18 K18 hs18 ⟨rfl,rfl,rfl⟩;refine bp ST I ?_;have hcl:=(lf (jp n v)).isLt;refine bQ qk 0 I (cJ qo) (au ?_);have hlay:=Hj (w0:=w0) (K:=K18) (hs:=pt b4 (bv (List.replicate 64 0)).toArray 224::hs) b5 60 4 4 224 (lf (jp n v)).toNat (jp n v) (List.replicate 4 0) [] hHl.symm ST SU SU;rw[aaw,aaw] at hlay;refine cl 0 I hlay ?_;rintro v20 K20 hs20 ⟨rfl,rfl⟩;have hsl:ba (du n v)=64:=qc hl;have hss:(bv (du n v)).toArray.size=64:=by simp[bv,hsl]
 refine bp ST I (be qk 0 I (ac6 (dy 0 0 I I (by show jV Tryz.prog _ (bv (du n v)).toArray.size=true;rw[hss];kernel_rfl) ?_)));refine bJ 0 1 I I (by show _=some (bv (du n v)).toArray.size;rw[hss];kernel_rfl) (by simp_all [bv,du]) (by simp only[acW,aa6];first|exact iZ (du n v)|(simp;intro u hu;exact iZ (du n v) u hu)) ?_;exact fin 0 I (adb (WQ.drop (ml 0 1 I I I (by show jV Tryz.prog _ (bv (du n v)).toArray.size=true;rw[hss];kernel_rfl) ⟨rfl,rfl,rfl⟩)))
end
section
def MO(m:Nat)(h:m*256<18446744073709551616):Value.int .u64 (IntKind.u64.wrap (((m:Nat):Int)*2 ^ (min (8:Int).toNat IntKind.u64.bits)))=.int .u64 (m*256:Nat):=by
 have e:min (8:Int).toNat IntKind.u64.bits=8:=rfl;rw[e,show ((m:Nat):Int)*2 ^ 8=((m*256:Nat):Int) from by rw[Int.natCast_mul];rfl,qR,aaH h]
def Ou(m:Nat)(c:UInt8)(h:m*256+256<=18446744073709551616):
  Value.int .u64 (IntKind.u64.wrap (BitVec.ofInt 64 ((m*256:Nat):Int) ||| BitVec.ofInt 64 ((c.toNat:Nat):Int)).toNat)=.int .u64 (c.toNat+256*m:Nat):=by
 have hc:=c.toNat_lt
 have e:(BitVec.ofInt 64 ((m*256:Nat):Int) ||| BitVec.ofInt 64 ((c.toNat:Nat):Int)).toNat=c.toNat+256*m:=by
  rw[abN,aaV,aaV,aaW,aaW,aaH qo,aaH qo,show m*256=2 ^ 8*m from qo,
   <- aci qo]
  omega
 rw[e,qR,aaH qo]
attribute [local irreducible] Code.wp wpList Calls
def OO{w0:World}{K h:PH}{hs:List PH}(sb b:Nat)(D:Dk)(c:Nat)(o:D.Ok c)(hc:c<=1099511627)(hm:da K b D h)(area:Nat)(sv nv:Value)(i:Nat)(hi:i<=1):
  aj w0 54 [SX sb,.int .i64 (i:Nat)] K (pt sb #[SX b,.int .u64 (area:Nat),sv,nv] 130::h::hs)
   (fun v K' hs'=>hs'=pt sb #[SX b,.int .u64 (area:Nat),sv,nv] 130::h::hs/\Le K K'/\∃ ao cap,v=.tuple #[.int .u64 (((jR D area i).1:Nat):Int),.slice ao (ba (jR D area i).2) cap]/\aH K' ao (ba (jR D area i).2) cap 1 (bv (jR D area i).2)):=by
 obtain ⟨S,hS⟩:=bC (pt sb #[SX b,.int .u64 (area:Nat),sv,nv] 130);refine bH Tryz.func54 ?_;refine bI [pt sb #[SX b,.int .u64 (area:Nat),sv,nv] 130] 15 [0,2,4,6,8,10,12,14,16,19,20,22,24,26,28] ST qk qk (au ?_);rw[<-hS];refine cl 0 I (Ct.at 1 I (yO b D c o hc hm ((area:Nat):Int) ((i:Nat):Int))) ?_;rintro v22 K22 hs22 ⟨h',rfl,rfl,le,hR⟩;refine fF ST le ?_;rcases hR with ⟨hn,rfl⟩|⟨bs,ao,cap,hb,hl,rfl,x⟩
 ·have e:jR D area i=(0,[]):=by unfold jR;rw[hn]
  rw[e];refine au ?_;refine aX 2 I (fun h27=>au ?_) (fun h27=>absurd qo h27);exact bL I I I ⟨I,le,none,0,I,aH.nil _ _ _ _⟩
 have e:jR D area i=j9 bs i:=by unfold jR;rw[hb]
 rw[e];obtain ⟨c8,hc8⟩:∃ c8,bs[8]?=some c8:=⟨bs[8]'qo,aae qo⟩;have hg8:bs.getD 8 0=c8:=by rw[aaB,hc8];rfl
 have hx8:(bv bs)[8]?=some (.int .u8 c8.toNat):=by simp[bv,hc8]
 have h8lt:=c8.toNat_lt;refine au ?_;refine aX 2 I (fun h27=>absurd h27 qo) (fun h27=>fe 2 8 I I I x hx8 fun a30 hc30=>ld 0 I (.inl I) hc30 (aX 0 I (fun e4=>?_) (fun e4=>?_)))
 ·refine au ?_;have e2:j9 bs i=(0,[]):=by unfold j9;rw[hg8,aab qo]
  rw[e2];refine au ?_;exact bL I I I ⟨I,le,none,0,I,aH.nil _ _ _ _⟩
 refine au ?_;obtain ⟨q,hq⟩:=bC (bs.take 8);have hql:ba q=8:=by rw[hq,aam];omega
 obtain ⟨vv,hvv⟩:=bC ((bs.drop 9).take c8.toNat);have hvl:ba vv=c8.toNat:=by rw[hvv,aam,aan];omega
 have hq64:dT q<18446744073709551616:=by have:=sG q 8 qo;omega
 have e2:j9 bs i=if dT q % 2=i/\bs=du (dT q) vv then (dT q,vv) else (0,[]):=by unfold j9;rw[hg8,aaa qo,<-hq,<-hvv]
 rw[e2];refine au ?_
 refine loop (σ:=Nat) (fun j=>[(0,SX sb),(1,.int .i64 (i:Nat)),(6,.slice ao (ba bs) cap),(8,.int .u64 ((dT (q.drop j):Nat):Int)),(9,.int .i64 (((j:Nat):Int)-1))]) (fun _=>K22) (fun _=>S::h'::hs) (fun j=>j<=8) (fun j=>j) 8 (aac _)
  ⟨rfl,rfl,rfl,by rw[abh qo];rfl,rfl,trivial⟩ rfl rfl ?_
 intro j hj;refine sq (ac9 (aX 1 I (fun e6=>?_) (fun e6=>?_)))
 ·refine au ?_;obtain ⟨k,rfl⟩:∃ k,j=k+1:=⟨j-1,qo⟩;have hk:k<ba q:=qo
  have hlt:dT (q.drop (k+1))<256 ^ 7:=sG _ 7 (by rw[aan];omega);have hd:=KT q k hk;obtain ⟨ck,hck⟩:=bC (q[k])
  have hbk:bs[k]?=some ck:=by
   have h1:q[k]?=bs[k]?:=by rw[hq,abn qo]
   rw[<-h1,aae hk,hck]
  have hxk:(bv bs)[k]?=some (.int .u8 ck.toNat):=by simp[bv,hbk]
  rw[<-hck] at hd;refine au ?_;refine ar 1 I (MO (dT (q.drop (k+1))) qo) (fe 2 k I (show ((k+1:Nat):Int)-1=((k:Nat):Int) by omega) I x hxk fun a42 hc42=>ld 0 I (.inl I) hc42 ?_);have hcl:=ck.toNat_lt;refine ar 0 I (cJ qo) (ar 0 I (Ou (dT (q.drop (k+1))) ck qo) (au ?_));refine ar 1 I (v':=.int .i64 (((k:Nat):Int)-1)) (by rw[show ((k+1:Nat):Int)-1-1=((k:Nat):Int)-1 from qo];exact ac qo) (fin 1 I ?_);exact bc (x:=k+1) k ⟨I,I,I,by rw[hd];rfl,rfl,trivial⟩ rfl rfl qo qo
 refine au ?_;obtain rfl:j=0:=qo
 rw[abl];refine au ?_;refine fe 2 8 I I I x hx8 fun a48 hc48=>ld 0 I (.inl I) hc48 (ar 0 I (iJ (x:=((9+c8.toNat:Nat):Int)) qo) ?_)
 refine sl 0 9 (ba vv) I x I (by show ((9+c8.toNat:Nat):Int)=_;rw[hvl]) qo (by
  show ((bv bs).drop (9*1)).take (ba vv*1)=bv vv;rw[hvl,hvv];simp[bv]) fun ao51 c51 x51=>?_
 refine au ?_;refine cl 2 I (EK (dT q) vv ao51 c51 qo (.inl I) x51) ?_;rintro v54 K54 hs54 ⟨rfl,rfl,rfl⟩;have hsl:ba (du (dT q) vv)=64:=qc qo;have hss:(bv (du (dT q) vv)).toArray.size=64:=by simp[bv,hsl]
 refine al 0 (.agg (bv (List.replicate 64 0)).toArray) I qk fun b11=>?_;refine bJ 0 0 I I (by rw[hss];kernel_rfl) (by rw[hss];rfl) (by simp only[acW,aa6];first|exact iZ _|(simp;intro u hu;exact iZ _ u hu)) ?_;refine au ?_;refine ar 1 I (kc .u64 (dT q) 2) (ar 1 I (cJ (x:=((i:Nat):Int)) qo) (af 0 I fun b59 h59=>?_))
 refine' eB 1 5 65 [59,60] h59 I I I I I I I (fun _=>?x8) (fun b65 h65=>?_)
 case x8=>
  refine vN 1 (sz:=1) 0 64 I I Tryz.underlying224 qk I I (aac _) SU ?_;simp only[bz,abr,aa7,abH]
  have xR:aH (pt b11 (bv (du (dT q) vv)).toArray 224) (some ⟨b11,0,none⟩) (ba (du (dT q) vv)) 64 1 (bv (du (dT q) vv)):=by
   have:=uL (g:=b11) (ty:=224) (A:=[]) (B:=du (dT q) vv) (C:=[]) (off:=0) (n:=ba (du (dT q) vv)) (cap:=64) rfl rfl qo;simpa using this
  have heq:=Pw (w0:=w0) (K:=K54) (hs:=pt b11 (bv (du (dT q) vv)).toArray 224::S::h'::hs) ao (some ⟨b11,0,none⟩) cap 64 bs (du (dT q) vv) (.inl rfl) (.inr ⟨0,rfl⟩) x xR qo;rw[hsl] at heq;refine cl 0 I heq ?_;rintro v63 K63 hs63 ⟨rfl,rfl,t63,rfl,h63⟩;exact nP fun b63 h63'=>eE 0 _ I (jc (h63'.trans h63)) fun b64 h64=>fin 1 I (dk h64 I I I)
 refine fin 0 I<|th (ah h65 I (fun e9=>?_) (fun e9=>?_))
 ·rw[aaa (by intro g;rcases e9 with g1|g1;exact g1 (by have:=g.1;omega);exact g1 g.2)];exact ac9 (fin 2 I (adb (rT (WQ.drop (bL I I I ⟨I,le,none,0,I,aH.nil _ _ _ _⟩)))))
 rw[aab ⟨by rcases Decidable.em (dT q % 2=i) with g|g;exact g;exact absurd (.inl qo) e9,by rcases Decidable.em (bs=du (dT q) vv) with g|g;exact g;exact absurd (.inr g) e9⟩];exact sk (ac6 (fin 4 I (adb (WQ.drop (bL I I I ⟨I,le,ao51,c51,I,x51⟩)))))
end
end Go.En
