/-
  Part 2 of what the proof needs (texts Ei Ev Tab Ta Zu Ec Eg Ej Ka Es Kb Kc Kd Ke Tb Tc Td Te Tf Tg Th Ti Tj Tk Tl Tm).
-/
import Derived.Test.YtcncpbolcigpnaaGreatRows
import Derived.KernelRfl
import Derived.Laws.Externs
import Derived.Lib.Overlaps
import Derived.Scope
import Derived.Test.YtcncpbolcigpnaaGreatSE1
set_option linter.unusedSectionVars false
set_option linter.unusedSimpArgs false
set_option linter.unusedVariables false
section
namespace Go.En
attribute [local irreducible] Code.wp wpList Calls
def MpI {κ ν : Type} (enc : κ -> Value) (encv : ν -> Value) (h hi : PH) (b r : Nat) (m : List (κ × ν)) (ks : List κ) : Prop :=
 ∃ (es : Array MapEntry) (c since : Nat) (seen : Array Nat) (last : Nat), h = sg b (.map es c) /\ es.toList.map (fun e => (e.key, e.val)) = m.map (fun x => (enc x.1, encv x.2)) /\ (es.toList.map (·.born)).Pairwise (· < ·) /\ (∀ e ∈ es.toList, e.born < c) /\
  hi = sg r (.mapIter (some b) since seen last) /\ (∀ e ∈ es.toList, e.born < since) /\ (∀ e ∈ es.toList, e.born < last) /\ ∀ (i : Nat) e x, es[i]? = some e -> m[i]? = some x -> (e.born ∈ seen ↔ x.1 ∈ ks)
def MpS {κ ν : Type} (enc : κ -> Value) (encv : ν -> Value) (h hi : PH) (b r : Nat) (m : List (κ × ν)) (ks : List κ) (k : κ) (v : ν) : Prop :=
 MpI enc encv h hi b r m ks /\ ∃ (es : Array MapEntry) (c since : Nat) (seen : Array Nat) (q : Nat) (e : MapEntry), h = sg b (.map es c) /\ (es.toList.map (·.born)).Pairwise (· < ·) /\ hi = sg r (.mapIter (some b) since seen c) /\ seen.back? = some e.born /\ es[q]? = some e /\ e.key = enc k /\ e.val = encv v
section
variable {κ ν : Type} [DecidableEq κ] {enc : κ -> Value} {encv : ν -> Value} {h hi : PH} {b r : Nat} {m : List (κ × ν)} {ks : List κ}
omit [DecidableEq κ] in
theorem MpI.map (x : MpI enc encv h hi b r m ks) : MpO enc encv h b m := by
 obtain ⟨es, c, since, seen, last, h1, h2, h3, h4, _⟩ := x
 exact ⟨es, c, h1, h2, h3, h4⟩
omit [DecidableEq κ] in
theorem get_of_map {es : Array MapEntry} (h2 : es.toList.map (fun e => (e.key, e.val)) = m.map (fun x => (enc x.1, encv x.2))) {i : Nat} {e : MapEntry} (he : es[i]? = some e) : ∃ x, m[i]? = some x /\ e.key = enc x.1 /\ e.val = encv x.2 := by
 have h3 := congrArg (fun l => l[i]?) h2
 simp only [List.getElem?_map, Array.getElem?_toList, he, Option.map_some] at h3
 cases hm : m[i]? with
 | none => rw [hm] at h3; simp at h3
 | some x =>
  rw [hm] at h3
  simp only [Option.map_some, Option.some.injEq, Prod.mk.injEq] at h3
  exact ⟨x, rfl, h3.1, h3.2⟩
omit [DecidableEq κ] in
theorem get_of_mem {es : Array MapEntry} (h2 : es.toList.map (fun e => (e.key, e.val)) = m.map (fun x => (enc x.1, encv x.2))) {i : Nat} {x : κ × ν} (hx : m[i]? = some x) : ∃ e, es[i]? = some e := by
 have h3 := congrArg List.length h2
 simp only [List.length_map, Array.length_toList] at h3
 have h4 := (List.getElem?_eq_some_iff.1 hx).1
 exact ⟨es[i]'(by omega), Array.getElem?_eq_getElem (by omega)⟩
omit [DecidableEq κ] in
theorem run_next {P : Program} {w : World} (hI : MpI enc encv h hi b r m ks) (hnd : (m.map (·.1)).Nodup) (hb : ∀ b o, h b = some o -> w.heap[b]? = some o) (hr : ∀ b o, hi b = some o -> w.heap[b]? = some o) (ty : Nat) :
  (∃ k v w1 o, (w1 = w \/ w1 = w.drew) /\ (k, v) ∈ m /\ k ∉ ks /\ (Instr.next (.pointer (some ⟨r, 0, none⟩)) false ty).run P w = .ok (.tuple #[.bool true, enc k, encv v]) (w1.putObj r o) /\ MpS enc encv h (sg r o) b r m (ks ++ [k]) k v) \/
  (∃ w1, (w1 = w \/ w1 = w.drew) /\ (Instr.next (.pointer (some ⟨r, 0, none⟩)) false ty).run P w = .ok (.tuple #[.bool false]) w1 /\ ∀ x ∈ m, x.1 ∈ ks) := by
 obtain ⟨es, c, since, seen, last, rfl, h2, h3, h4, rfl, h5, h6, h7⟩ := hI
 have hbm : w.heap[b]? = some (.map es c) := hb b _ (by simp)
 have hri : w.heap[r]? = some (.mapIter (some b) since seen last) := hr r _ (by simp)
 have hset : ∀ (w1 : World) (o : Obj), (w1 = w \/ w1 = w.drew) -> (setObj r o).run P w1 = .ok () (w1.putObj r o) := fun w1 o hw => by
  rcases hw with rfl | rfl
  ·simp [setObj, Sem.run, hri, World.putObj]
  ·have hri2 : w.drew.heap[r]? = some (.mapIter (some b) since seen last) := hri
   simp [setObj, Sem.run, hri2, World.putObj]
 have hall : (!seen.isEmpty && !es.isEmpty && es.all (·.born >= last)) = false := by
  by_cases he : es.isEmpty = true
  ·simp [he]
  ·have hz : 0 < es.size := by
    rcases Nat.eq_zero_or_pos es.size with h | h
    ·exact absurd (by simpa [Array.isEmpty] using h) he
    ·exact h
   have hlt := h6 es[0] (by simp)
   have : es.all (·.born >= last) = false := by
    rw [Array.all_eq_false]
    exact ⟨0, hz, by simp; omega⟩
   simp [this]
 have hnew : (es.filter fun e => !seen.contains e.born).filter (fun e => decide (e.born >= since)) = #[] := by
  apply Array.filter_eq_empty_iff.2
  intro e he
  have := h5 e (by simpa using (Array.mem_filter.1 he).1)
  simp; omega
 obtain ⟨left, hleft⟩ : ∃ left, left = es.filter fun e => !seen.contains e.born := ⟨_, rfl⟩
 have hold : left.filter (fun e => decide (e.born < since)) = left := by
  apply Array.filter_eq_self.2
  intro e he
  rw [hleft] at he
  have := h5 e (by simpa using (Array.mem_filter.1 he).1)
  simpa using this
 obtain ⟨cand, hcand⟩ : ∃ cand : Array (Option MapEntry), cand = (if left.isEmpty then #[none] else #[]) ++ (left ++ #[]).map some := ⟨_, rfl⟩
 have hsz : 0 < cand.size := by
  rw [hcand]
  by_cases he : left.isEmpty = true
  ·rw [if_pos he]; simp; omega
  ·rw [if_neg he]
   have : left.size ≠ 0 := by simpa [Array.isEmpty] using he
   simp; omega
 obtain ⟨i, w1, hw1, hi1, hch⟩ : ∃ i w1, (w1 = w \/ w1 = w.drew) /\ i < cand.size /\ (choose (.mapNext cand.size)).run P w = .ok i w1 := by
  by_cases hf : cand.size <= 1
  ·exact ⟨0, w, .inl rfl, hsz, by simp [choose, Sem.run, Question.forced, hf]⟩
  ·refine ⟨(Question.mapNext cand.size).cut (w.tape w.drawn (.mapNext cand.size)), w.drew, .inr rfl, Nat.mod_lt _ hsz, ?_⟩
   simp [choose, Sem.run, Question.forced, hf]
 have hgm : (getObj b).run P w1 = .ok (.map es c) w1 /\ True := ⟨by rcases hw1 with rfl | rfl <;> exact run_getMap hbm, trivial⟩
 have hgo : (getObj r).run P w = .ok (.mapIter (some b) since seen last) w := by simp [getObj, Sem.run, hri]
 have hrun : (Instr.next (.pointer (some ⟨r, 0, none⟩)) false ty).run P w = (match cand[i]? with
   | some (some e) => (do setObj r (.mapIter (some b) since (seen.push e.born) c); pure (.tuple #[.bool true, e.key, e.val]) : Sem Value)
   | some none => pure (.tuple #[.bool false])
   | none => stuck "Next: no such candidate").run P w1 := by
  unfold Instr.next
  simp only [Sem.run_bind, hgo, Result.andThen, run_getMap hbm, hall]
  have hnew2 : left.filter (fun e => decide (e.born >= since)) = #[] := by rw [hleft]; exact hnew
  simp only [Bool.false_eq_true, if_false, <- hleft, hold, hnew2, <- hcand]
  rw [Sem.run_bind, hch]
  rfl
 have hlast : ∀ e ∈ es.toList, e.born < c := h4
 by_cases he : left.isEmpty = true
 ·right
  have hc1 : cand = #[none] := by
   have : left = #[] := by simpa [Array.isEmpty] using he
   rw [hcand, this]; simp
  refine ⟨w1, hw1, ?_, fun x hx => ?_⟩
  ·rw [hrun]
   have : i = 0 := by rw [hc1] at hi1; simpa using hi1
   subst this
   rw [hc1]
   rfl
  ·obtain ⟨q, hq⟩ := List.mem_iff_getElem?.1 hx
   obtain ⟨e, hee⟩ := get_of_mem h2 hq
   refine (h7 q e x hee hq).1 ?_
   have hem : e ∈ es := Array.mem_of_getElem? hee
   have hno : e ∉ left := by
    have : left = #[] := by simpa [Array.isEmpty] using he
    rw [this]; simp
   rw [hleft, Array.mem_filter] at hno
   simpa [hem] using hno
 ·left
  have hc1 : cand = left.map some := by rw [hcand, if_neg he]; simp
  have hil : i < left.size := by rw [hc1] at hi1; simpa using hi1
  have hci : cand[i]? = some (some left[i]) := by rw [hc1]; simp [hil]
  obtain ⟨e0, he0⟩ : ∃ e0, e0 = left[i] := ⟨_, rfl⟩
  have hmem : e0 ∈ left := by rw [he0]; exact Array.getElem_mem hil
  rw [<- he0] at hci
  rw [hleft, Array.mem_filter] at hmem
  obtain ⟨q, hq⟩ := Array.mem_iff_getElem?.1 hmem.1
  obtain ⟨x, hx, hk, hv⟩ := get_of_map h2 hq
  have hxm : x ∈ m := List.mem_of_getElem? hx
  have hnks : x.1 ∉ ks := fun hc => by
   have := (h7 q _ x hq hx).2 hc
   simp [this] at hmem
  refine ⟨x.1, x.2, w1, .mapIter (some b) since (seen.push e0.born) c, hw1, hxm, hnks, ?_, ⟨es, c, since, seen.push e0.born, c, rfl, h2, h3, h4, rfl, h5, h4, ?_⟩, es, c, since, seen.push e0.born, q, e0, rfl, h3, rfl, by simp, hq, hk, hv⟩
  ·rw [hrun, hci]
   simp only [Sem.run_bind, hset w1 _ hw1, Result.andThen]
   rw [hk, hv]
   rfl
  ·intro j e y hje hjy
   rw [Array.mem_push, List.mem_append, List.mem_singleton, h7 j e y hje hjy]
   by_cases hjq : j = q
   ·subst hjq
    rw [hje] at hq
    cases hq
    rw [hx] at hjy
    cases hjy
    simp
   ·have hborn : e.born ≠ e0.born := by
     have hp := List.pairwise_iff_getElem.1 h3
     obtain ⟨hj1, hj2⟩ := Array.getElem?_eq_some_iff.1 hje
     obtain ⟨hq1, hq2⟩ := Array.getElem?_eq_some_iff.1 hq
     rcases Nat.lt_or_gt_of_ne hjq with h | h
     ·have := hp j q (by simpa using hj1) (by simpa using hq1) h
      simp [hj2, hq2] at this
      omega
     ·have := hp q j (by simpa using hq1) (by simpa using hj1) h
      simp [hj2, hq2] at this
      omega
    have hkey : y.1 ≠ x.1 := by
     intro hc
     have hp := List.pairwise_iff_getElem.1 hnd
     obtain ⟨hj1, hj2⟩ := List.getElem?_eq_some_iff.1 hjy
     obtain ⟨hq1, hq2⟩ := List.getElem?_eq_some_iff.1 hx
     rcases Nat.lt_or_gt_of_ne hjq with h | h
     ·exact hp j q (by simpa using hj1) (by simpa using hq1) h (by simp [hj2, hq2, hc])
     ·exact hp q j (by simpa using hq1) (by simpa using hj1) h (by simp [hj2, hq2, hc])
    simp [hborn, hkey]
end
section rules
variable {P : Program} {T : Tab} {w0 : World} {ops : Array Oper} {Q : Exit -> Act -> World -> Prop} {rest rest' : List Oper} {n : Nat} {l l' : Sl} {K : PH} {hs : List PH}
variable {κ ν : Type} [DecidableEq κ] {enc : κ -> Value} {encv : ν -> Value} {h hi : PH} {b r : Nat} {m : List (κ × ν)} {ks : List κ}
def mrAt (T : Tab) (ops : Array Oper) (n k : Nat) (rest : List Oper) (l : Sl) : Option (Nat × Oper × Nat × Value × List Oper × Sl) :=
 match ovAt T ops n k rest l with
 | some (d, o, r, l') => match o.op with
  | .range t x => match ev l' x with
   | some u => some (d, o, t, u, r, l')
   | _ => none
  | _ => none
 | none => none
theorem mrAt_spec {k d t : Nat} {o : Oper} {u : Value} (h : mrAt T ops n k rest l = some (d, o, t, u, rest', l')) : ovAt T ops n k rest l = some (d, o, rest', l') /\ ∀ a, Ag n l' a -> execOp a.eval o = (do let x <- Instr.range t u; pure (.value x)) := by
 unfold mrAt at h
 split at h
 ·rename_i d' o' r l2 ho
  split at h
  ·rename_i t' x hop
   split at h
   ·rename_i u' hx
    simp only [Option.some.injEq, Prod.mk.injEq] at h
    obtain ⟨rfl, rfl, rfl, rfl, rfl, rfl⟩ := h
    exact ⟨ho, fun a ha => by simp only [execOp, hop, ha.ev hx]⟩
   ·simp at h
  ·simp at h
 ·simp at h
def mxAt (T : Tab) (ops : Array Oper) (n k : Nat) (rest : List Oper) (l : Sl) : Option (Nat × Oper × Value × Bool × List Oper × Sl) :=
 match ovAt T ops n k rest l with
 | some (d, o, r, l') => match o.op with
  | .next x s => match ev l' x with
   | some u => some (d, o, u, s, r, l')
   | _ => none
  | _ => none
 | none => none
theorem mxAt_spec {k d : Nat} {o : Oper} {u : Value} {s : Bool} (h : mxAt T ops n k rest l = some (d, o, u, s, rest', l')) : ovAt T ops n k rest l = some (d, o, rest', l') /\ ∀ a, Ag n l' a -> execOp a.eval o = (do let x <- Instr.next u s o.type; pure (.value x)) := by
 unfold mxAt at h
 split at h
 ·rename_i d' o' r l2 ho
  split at h
  ·rename_i x s' hop
   split at h
   ·rename_i u' hx
    simp only [Option.some.injEq, Prod.mk.injEq] at h
    obtain ⟨rfl, rfl, rfl, rfl, rfl, rfl⟩ := h
    exact ⟨ho, fun a ha => by simp only [execOp, hop, ha.ev hx]⟩
   ·simp at h
  ·simp at h
 ·simp at h
omit [DecidableEq κ] in
theorem mrg (hT : TabOK P T) (k : Nat) {d t kt et : Nat} {o : Oper} (h0 : mrAt T ops n k rest l = some (d, o, t, .map (some b), rest', l')) (hu : P.underlying t = some (.map kt et)) (hin : In K hs h) (hm : MpO enc encv h b m)
  (hk : ∀ r hi, MpI enc encv h hi b r m [] -> WL P w0 ops Q rest' n ((d, .pointer (some ⟨r, 0, none⟩)) :: l') K (hi :: hs)) : WL P w0 ops Q rest n l K hs := by
 obtain ⟨h1, h2⟩ := mrAt_spec h0
 refine opa hT k (R := fun v K' hs' => ∃ r hi, MpI enc encv h hi b r m [] /\ v = .pointer (some ⟨r, 0, none⟩) /\ K' = K /\ hs' = hi :: hs) h1 (fun a w ha hw => ?_) ?_
 ·obtain ⟨es, c, rfl, g2, g3, g4⟩ := hm
  have hb := hw.inn hin b (.map es c) (by simp)
  refine ⟨.pointer (some ⟨w.heap.size, 0, none⟩), _, K, _, ?_, hw.alloc (.mapIter (some b) c #[] c), w.heap.size, _, ⟨es, c, c, #[], c, rfl, g2, g3, g4, rfl, g4, g4, by simp⟩, rfl, rfl, rfl⟩
  rw [h2 a ha]
  unfold Instr.range
  simp [Sem.run_bind, run_underlying hu, Result.andThen, run_getMap hb, newObj, Sem.run]
 ·rintro v K' hs' ⟨r, hi, g1, rfl, rfl, rfl⟩
  exact hk r hi g1
theorem Sat.putOr {w w1 : World} (s : Sat w0 w K hs) (hw : w1 = w \/ w1 = w.drew) : Sat w0 w1 K hs := by
 rcases hw with rfl | rfl
 ·exact s
 ·exact s.drew
omit [DecidableEq κ] in
theorem mnx (hT : TabOK P T) (k i : Nat) {d : Nat} {o : Oper} (h0 : mxAt T ops n k rest l = some (d, o, .pointer (some ⟨r, 0, none⟩), false, rest', l')) (hin : In K hs h) (hii : hs[i]? = some hi) (hI : MpI enc encv h hi b r m ks) (hnd : (m.map (·.1)).Nodup)
  (more : ∀ k v hi', (k, v) ∈ m -> k ∉ ks -> MpS enc encv h hi' b r m (ks ++ [k]) k v -> WL P w0 ops Q rest' n ((d, .tuple #[.bool true, enc k, encv v]) :: l') K (hs.set i hi'))
  (over : (∀ x ∈ m, x.1 ∈ ks) -> WL P w0 ops Q rest' n ((d, .tuple #[.bool false]) :: l') K hs) : WL P w0 ops Q rest n l K hs := by
 obtain ⟨h1, h2⟩ := mxAt_spec h0
 refine opa hT k (R := fun v K' hs' => K' = K /\ ((∃ k x hi', (k, x) ∈ m /\ k ∉ ks /\ MpS enc encv h hi' b r m (ks ++ [k]) k x /\ v = .tuple #[.bool true, enc k, encv x] /\ hs' = hs.set i hi') \/ ((∀ x ∈ m, x.1 ∈ ks) /\ v = .tuple #[.bool false] /\ hs' = hs))) h1 (fun a w ha hw => ?_) ?_
 ·rcases run_next (P := P) hI hnd (hw.inn hin) (hw.inn (.inr ⟨i, hii⟩)) o.type with ⟨k, v, w1, ob, hw1, g1, g2, g3, g4⟩ | ⟨w1, hw1, g1, g2⟩
  ·have s1 := hw.putOr hw1
   obtain ⟨es, c, since, seen, last, _, _, _, _, hhi, _⟩ := id hI
   rw [hhi] at hii
   exact ⟨_, _, K, _, by rw [h2 a ha, Sem.run_bind, g3]; rfl, s1.putObj hii ob, rfl, .inl ⟨k, v, _, g1, g2, g4, rfl, rfl⟩⟩
  ·exact ⟨_, w1, K, hs, by rw [h2 a ha, Sem.run_bind, g1]; rfl, hw.putOr hw1, rfl, .inr ⟨g2, rfl, rfl⟩⟩
 ·rintro v K' hs' ⟨rfl, ⟨k, x, hi', g1, g2, g3, rfl, rfl⟩ | ⟨g1, rfl, rfl⟩⟩
  ·exact more k x hi' g1 g2 g3
  ·exact over g1
theorem mrgn (hT : TabOK P T) (k : Nat) {d t kt et : Nat} {o : Oper} (h0 : mrAt T ops n k rest l = some (d, o, t, .map none, rest', l')) (hu : P.underlying t = some (.map kt et))
  (hk : ∀ r, WL P w0 ops Q rest' n ((d, .pointer (some ⟨r, 0, none⟩)) :: l') K (sg r (.mapIter none 0 #[] 0) :: hs)) : WL P w0 ops Q rest n l K hs := by
 obtain ⟨h1, h2⟩ := mrAt_spec h0
 refine opa hT k (R := fun v K' hs' => ∃ r, v = .pointer (some ⟨r, 0, none⟩) /\ K' = K /\ hs' = sg r (.mapIter none 0 #[] 0) :: hs) h1 (fun a w ha hw => ?_) ?_
 ·refine ⟨.pointer (some ⟨w.heap.size, 0, none⟩), _, K, _, ?_, hw.alloc (.mapIter none 0 #[] 0), w.heap.size, rfl, rfl, rfl⟩
  rw [h2 a ha]
  unfold Instr.range
  simp [Sem.run_bind, run_underlying hu, Result.andThen, newObj, Sem.run]
 ·rintro v K' hs' ⟨r, rfl, rfl, rfl⟩
  exact hk r
theorem mnxn (hT : TabOK P T) (k : Nat) {d r : Nat} {o : Oper} (h0 : mxAt T ops n k rest l = some (d, o, .pointer (some ⟨r, 0, none⟩), false, rest', l')) (hin : In K hs (sg r (.mapIter none 0 #[] 0)))
  (hk : WL P w0 ops Q rest' n ((d, .tuple #[.bool false]) :: l') K hs) : WL P w0 ops Q rest n l K hs := by
 obtain ⟨h1, h2⟩ := mxAt_spec h0
 refine opr hT k h1 (fun a w ha hw => ?_) hk
 have hr : w.heap[r]? = some (.mapIter none 0 #[] 0) := hw.inn hin r (.mapIter none 0 #[] 0) (by simp)
 have hgo : (getObj r).run P w = .ok (.mapIter none 0 #[] 0) w := by simp [getObj, Sem.run, hr]
 rw [h2 a ha]
 unfold Instr.next
 simp [Sem.run_bind, hgo, Result.andThen]
def enAt (T : Tab) (ops : Array Oper) (n k : Nat) (rest : List Oper) (l : Sl) : Option (Nat × Oper × Value × List Oper × Sl) :=
 match ovAt T ops n k rest l with
 | some (d, o, r, l') => match o.op with
  | .entry x => match ev l' x with
   | some u => some (d, o, u, r, l')
   | _ => none
  | _ => none
 | none => none
theorem enAt_spec {k d : Nat} {o : Oper} {u : Value} (h : enAt T ops n k rest l = some (d, o, u, rest', l')) : ovAt T ops n k rest l = some (d, o, rest', l') /\ ∀ a, Ag n l' a -> execOp a.eval o = (do let x <- Instr.entry u; pure (.value x)) := by
 unfold enAt at h
 split at h
 ·rename_i d' o' r l2 ho
  split at h
  ·rename_i x hop
   split at h
   ·rename_i u' hx
    simp only [Option.some.injEq, Prod.mk.injEq] at h
    obtain ⟨rfl, rfl, rfl, rfl, rfl⟩ := h
    exact ⟨ho, fun a ha => by simp only [execOp, hop, ha.ev hx]⟩
   ·simp at h
  ·simp at h
 ·simp at h
omit [DecidableEq κ] in
theorem men (hT : TabOK P T) (k : Nat) {d : Nat} {o : Oper} {kk : κ} {v : ν} (h0 : enAt T ops n k rest l = some (d, o, .pointer (some ⟨r, 0, none⟩), rest', l')) (hin : In K hs h) (hini : In K hs hi) (hS : MpS enc encv h hi b r m ks kk v)
  (hk : WL P w0 ops Q rest' n ((d, .tuple #[enc kk, encv v]) :: l') K hs) : WL P w0 ops Q rest n l K hs := by
 obtain ⟨h1, h2⟩ := enAt_spec h0
 refine opr hT k h1 (fun a w ha hw => ?_) hk
 obtain ⟨_, es, c, since, seen, q, e, rfl, h3, rfl, h4, h5, h6, h7⟩ := hS
 have hb : w.heap[b]? = some (.map es c) := hw.inn hin b (.map es c) (by simp)
 have hr : w.heap[r]? = some (.mapIter (some b) since seen c) := hw.inn hini r (.mapIter (some b) since seen c) (by simp)
 have hgo : (getObj r).run P w = .ok (.mapIter (some b) since seen c) w := by simp [getObj, Sem.run, hr]
 have hfind : es.find? (fun x => x.born == e.born) = some e := by
  rw [Array.find?_eq_some_iff_getElem]
  obtain ⟨hq1, hq2⟩ := Array.getElem?_eq_some_iff.1 h5
  refine ⟨by simp, q, hq1, hq2, fun j hj => ?_⟩
  have hp := List.pairwise_iff_getElem.1 h3 j q (by simpa using Nat.lt_trans hj hq1) (by simpa using hq1) hj
  simp [hq2] at hp
  simp
  omega
 rw [h2 a ha]
 unfold Instr.entry
 simp [Sem.run_bind, hgo, Result.andThen, h4, run_getMap hb, hfind, h6, h7]
theorem mpuI (hT : TabOK P T) (k i : Nat) {t kt et : Nat} {o : Oper} {v y : Value} (j : κ) (x : ν) (h0 : muAt T ops n k rest l = some (o, t, .map (some b), v, y, rest', l')) (hi0 : hs[i]? = some h) (hu : P.underlying t = some (.map kt et)) (hK : KeyOK P kt enc) (hv : v = enc j) (hy : y = encv x) (hI : MpI enc encv h hi b r m ks)
  (hex : (mget j m).isSome = true) (hk : ∀ h', MpI enc encv h' hi b r (mset j x m) ks -> WL P w0 ops Q rest' n l' K (hs.set i h')) : WL P w0 ops Q rest n l K hs := by
 obtain ⟨h1, h2⟩ := muAt_spec h0
 subst hv hy
 refine opu hT k (R := fun K' hs' => ∃ h', MpI enc encv h' hi b r (mset j x m) ks /\ K' = K /\ hs' = hs.set i h') h1 (fun a w ha hw => ?_) ?_
 ·obtain ⟨es, c, since, seen, last, rfl, g2, g3, g4, g5, g6, g7, g8⟩ := hI
  have g2' : es.toList.map (fun e => (e.key, e.val)) = (m.map fun x => (x.1, encv x.2)).map (fun x => (enc x.1, x.2)) := by rw [g2]; simp
  have hb : w.heap[b]? = some (.map es c) := hw.own i _ hi0 b _ (by simp)
  have hf := hK.fnd j es.toList _ w g2'
  have e1 := eset_map (enc := enc) (encv := encv) j x c es.toList m g2
  have e2 := eset_born (enc j) (encv x) c (fk j (m.map fun x => (x.1, encv x.2)) 0) es.toList g3 g4
  have hset : ∀ o : Obj, (setObj b o).run P w = .ok () (w.putObj b o) := fun o => by simp [setObj, Sem.run, hb, World.putObj]
  cases hk : fk j (m.map fun x => (x.1, encv x.2)) 0 with
  | none =>
   have := fk_get (encv := encv) j m 0
   rw [hk] at this
   simp only [Option.map_none] at this
   cases hm : mget j m with
   | none => rw [hm] at hex; cases hex
   | some u => rw [hm] at this; cases this
  | some z =>
   obtain ⟨q, z⟩ := z
   rw [hk] at e1 e2
   simp only [eset] at e1 e2
   have hkey := fk_key (enc := enc) j g2' hk
   have hkey' : ((es[q]?).map (·.key)).getD (enc j) = enc j := by rw [<- Array.getElem?_toList, hkey]; rfl
   have hst : (Instr.keyThatStays (enc j) (enc j)).run P w = .ok (enc j) w := by unfold Instr.keyThatStays; simp [hK.sam]
   have hmod : ∀ (i : Nat) e, (es.modify q fun e => { e with key := enc j, val := encv x })[i]? = some e -> ∃ e', es[i]? = some e' /\ e.born = e'.born := by
    intro i e he
    rw [Array.getElem?_modify] at he
    split at he
    ·cases hh : es[i]? with
     | none => rw [hh] at he; simp at he
     | some e' => rw [hh] at he; simp at he; subst he; exact ⟨e', rfl, rfl⟩
    ·exact ⟨e, he, rfl⟩
   have hmem : ∀ e ∈ (es.modify q fun e => { e with key := enc j, val := encv x }).toList, ∃ e' ∈ es.toList, e.born = e'.born := by
    intro e he
    obtain ⟨i, hi⟩ := List.mem_iff_getElem?.1 he
    rw [Array.getElem?_toList] at hi
    obtain ⟨e', h5, h6⟩ := hmod i e hi
    exact ⟨e', by simpa using Array.mem_of_getElem? h5, h6⟩
   refine ⟨w.putObj b (.map (es.modify q fun e => { e with key := enc j, val := encv x }) c), K, _, ?_, hw.putObj hi0 _, sg b (.map (es.modify q fun e => { e with key := enc j, val := encv x }) c),
    ⟨es.modify q fun e => { e with key := enc j, val := encv x }, c, since, seen, last, rfl, by rw [Array.toList_modify]; exact e1, by rw [Array.toList_modify]; exact e2.1, fun e he => ?_, g5, fun e he => ?_, fun e he => ?_, ?_⟩, rfl, rfl⟩
   ·rw [h2 a ha]
    unfold Instr.mapUpdate
    simp only [Sem.run_bind, run_underlying hu, Result.andThen, run_getMap hb, Sem.run_pure, hK.chk, hf, hk, hkey', hst, hset]
   ·obtain ⟨e', h5, h6⟩ := hmem e he; rw [h6]; exact g4 e' h5
   ·obtain ⟨e', h5, h6⟩ := hmem e he; rw [h6]; exact g6 e' h5
   ·obtain ⟨e', h5, h6⟩ := hmem e he; rw [h6]; exact g7 e' h5
   ·intro i e y he hy
    obtain ⟨e', h5, h6⟩ := hmod i e he
    have hkk := mset_keys j x m
    rw [if_pos hex] at hkk
    have h7 := congrArg (fun l => l[i]?) hkk
    simp only [List.getElem?_map, hy, Option.map_some] at h7
    cases hmi : m[i]? with
    | none => rw [hmi] at h7; simp at h7
    | some u =>
     rw [hmi] at h7
     simp only [Option.map_some, Option.some.injEq] at h7
     rw [h6, h7]
     exact g8 i e' u h5 hmi
 ·rintro K' hs' ⟨h', g1, rfl, rfl⟩
  exact hk h' g1
end rules
end Go.En
namespace Go.En
attribute [local irreducible] Code.wp wpList Calls
section del
theorem map_era {α β : Type} (f : α -> β) : ∀ (l : List α) (j : Nat), (l.eraseIdx j).map f = (l.map f).eraseIdx j
 | [], _ => rfl
 | a :: l, 0 => rfl
 | a :: l, j + 1 => by simp [map_era f l j]
theorem fk_erase {κ : Type} [DecidableEq κ] (k : κ) : ∀ (m : List (κ × Value)), (fk k m 0 = none /\ mdel k m = m) \/ ∃ j v, fk k m 0 = some (j, v) /\ mdel k m = m.eraseIdx j
 | [] => .inl ⟨rfl, rfl⟩
 | (i, u) :: m => by
  by_cases e : k = i
  ·right
   exact ⟨0, u, by simp [fk, e], by simp [mdel, e]⟩
  ·rcases fk_erase k m with ⟨h1, h2⟩ | ⟨j, v, h1, h2⟩
   ·left
    refine ⟨?_, by simp [mdel, e, h2]⟩
    simp only [fk, e, if_false]
    rw [fk_shift, h1]; rfl
   ·right
    refine ⟨j + 1, v, ?_, by simp [mdel, e, h2]⟩
    simp only [fk, e, if_false]
    rw [fk_shift, h1]
    simp; omega
theorem mdel_map {κ ν : Type} [DecidableEq κ] (f : ν -> Value) (k : κ) : ∀ (m : List (κ × ν)), mdel k (m.map fun x => (x.1, f x.2)) = (mdel k m).map fun x => (x.1, f x.2)
 | [] => rfl
 | (i, u) :: m => by
  by_cases e : k = i
  ·simp [mdel, e]
  ·simp [mdel, e, mdel_map f k m]
theorem run_delete {P : Program} {w0 : World} {K : PH} {hs : List PH} {κ ν : Type} [DecidableEq κ] {enc : κ -> Value} {encv : ν -> Value} {h : PH} {b : Nat} {m : List (κ × ν)} {t kt et i : Nat} (hu : P.underlying t = some (.map kt et)) (hK : KeyOK P kt enc) (hm : MpO enc encv h b m) {w : World} (s : Sat w0 w K hs) (hi : hs[i]? = some h) (k : κ) (ts : Array TypeId) (hts : ts[0]? = some t) (ty : Nat) :
  ∃ h' w', MpO enc encv h' b (mdel k m) /\ (Builtin.delete_ ts ty #[.map (some b), enc k]).run P w = .ok (.tuple #[]) w' /\ Sat w0 w' K (hs.set i h') := by
 obtain ⟨es, c, rfl, h2, h3, h4⟩ := hm
 have h2' : es.toList.map (fun e => (e.key, e.val)) = (m.map fun x => (x.1, encv x.2)).map (fun x => (enc x.1, x.2)) := by rw [h2]; simp
 have hb : w.heap[b]? = some (.map es c) := s.own i _ hi b _ (by simp)
 have hf := hK.fnd k es.toList _ w h2'
 have hset : ∀ o : Obj, (setObj b o).run P w = .ok () (w.putObj b o) := fun o => by simp [setObj, Sem.run, hb, World.putObj]
 unfold Builtin.delete_
 rcases fk_erase k (m.map fun x => (x.1, encv x.2)) with ⟨g1, g2⟩ | ⟨j, v, g1, g2⟩
 ·rw [mdel_map] at g2
  refine ⟨sg b (.map es c), w.putObj b (.map es c), ⟨es, c, rfl, ?_, h3, h4⟩, ?_, s.putObj hi _⟩
  ·rw [h2]
   have := congrArg (fun l => l.map fun x : κ × Value => (enc x.1, x.2)) g2
   simpa [Function.comp_def] using this.symm
  ·simp [hts, Sem.run_bind, run_underlying hu, Result.andThen, run_getMap hb, hK.chk, hf, g1, hset]
 ·rw [mdel_map] at g2
  refine ⟨sg b (.map (es.eraseIdxIfInBounds j) c), w.putObj b (.map (es.eraseIdxIfInBounds j) c), ⟨es.eraseIdxIfInBounds j, c, rfl, ?_, ?_, ?_⟩, ?_, s.putObj hi _⟩
  ·have := congrArg (fun l => l.map fun x : κ × Value => (enc x.1, x.2)) g2
   simp only [List.map_map] at this
   rw [Array.toList_eraseIdxIfInBounds, map_era, h2]
   rw [map_era] at this
   simpa [Function.comp_def] using this.symm
  ·rw [Array.toList_eraseIdxIfInBounds]
   exact h3.sublist ((List.eraseIdx_sublist _ _).map _)
  ·intro e he
   rw [Array.toList_eraseIdxIfInBounds] at he
   exact h4 e ((List.eraseIdx_sublist _ _).subset he)
  ·simp [hts, Sem.run_bind, run_underlying hu, Result.andThen, run_getMap hb, hK.chk, hf, g1, hset]
end del
end Go.En
end
section
namespace Go.En
attribute [local irreducible] Code.wp wpList Calls
def saOp (l : Sl) (o : Oper) : Option (Nat × Addr × Option Int × Option Int) :=
 match o.op with
 | .slice t x none none none => match ev l x with
  | some (.pointer (some a)) => some (t, a, none, none)
  | _ => none
 | .slice t x (some lo) none none => match ev l x, ev l lo with
  | some (.pointer (some a)), some (.int _ i) => some (t, a, some i, none)
  | _, _ => none
 | .slice t x none (some hi) none => match ev l x, ev l hi with
  | some (.pointer (some a)), some (.int _ i) => some (t, a, none, some i)
  | _, _ => none
 | .slice t x (some lo) (some hi) none => match ev l x, ev l lo, ev l hi with
  | some (.pointer (some a)), some (.int _ i), some (.int _ j) => some (t, a, some i, some j)
  | _, _, _ => none
 | _ => none
theorem run_bound {P : Program} {w : World} {k : IntKind} {i : Int} {y : Nat} (c : BoundsCode) (H : Nat) (h : i = (H : Int)) (hy : H <= y) : (Instr.sliceBound (.int k i) y c).run P w = .ok H w := by
 subst h
 have : (0 <= ((H : Nat) : Int) /\ ((H : Nat) : Int) <= (y : Int)) := ⟨by omega, by omega⟩
 simp [Instr.sliceBound, asIntOf, this]
theorem sla_run {P : Program} {l : Sl} {n : Nat} {o : Oper} {t len e sz : Nat} {a : Addr} {lo hi : Option Int} (L N : Nat) (h1 : saOp l o = some (t, a, lo, hi)) (hu : P.underlying t = some (.array len e)) (he : (P.info? e).map (·.size) = some sz)
  (hL : lo.getD 0 = (L : Int)) (hH : hi.getD len = ((L + N : Nat) : Int)) (hN : L + N <= len) (hlt : L < len) : ∀ A w, Ag n l A -> (execOp A.eval o).run P w = .ok (.value (.slice (some (a.add (L * sz))) N (len - L))) w := by
 intro A w ha
 cases hii : P.info? e with
 | none => rw [hii] at he; cases he
 | some ii =>
 rw [hii] at he
 have hsz : ii.size = sz := by simpa using he
 have hne : ¬ len = L := by omega
 have fin : ∀ (lv hv : Option Value), (Instr.sliceBounds false len len lv hv none).run P w = .ok (L, L + N, len) w -> (Instr.sliceAt t (.pointer (some a)) lv hv none).run P w = .ok (.slice (some (a.add (L * sz))) N (len - L)) w := by
  intro lv hv hb
  unfold Instr.sliceAt
  simp [Sem.run_bind, run_underlying hu, Result.andThen, Instr.sureAddr, hb, sizeOf, typeInfo, hii, hsz, hne]
 unfold saOp at h1
 split at h1
 ·rename_i t' x hop
  split at h1
  ·rename_i a' hx
   simp only [Option.some.injEq, Prod.mk.injEq] at h1
   obtain ⟨rfl, rfl, rfl, rfl⟩ := h1
   simp only [execOp, hop, ha.ev hx, Option.map_none]
   simp only [Option.getD_none] at hL hH
   rw [Sem.run_bind, fin none none (by unfold Instr.sliceBounds; simp; omega)]
   rfl
  ·simp at h1
 ·rename_i t' x lo' hop
  split at h1
  ·rename_i a' k i hx hlo
   simp only [Option.some.injEq, Prod.mk.injEq] at h1
   obtain ⟨rfl, rfl, rfl, rfl⟩ := h1
   simp only [execOp, hop, ha.ev hx, ha.ev hlo, Option.map_none, Option.map_some]
   simp only [Option.getD_none, Option.getD_some] at hL hH
   rw [Sem.run_bind, fin (some _) none (by
    have hb : (Instr.sliceBound (.int k i) len .sliceB).run P w = .ok L w := run_bound _ L hL (by omega)
    unfold Instr.sliceBounds
    simp [Sem.run_bind, Result.andThen, hb]
    omega)]
   rfl
  ·simp at h1
 ·rename_i t' x hi' hop
  split at h1
  ·rename_i a' k i hx hlo
   simp only [Option.some.injEq, Prod.mk.injEq] at h1
   obtain ⟨rfl, rfl, rfl, rfl⟩ := h1
   simp only [execOp, hop, ha.ev hx, ha.ev hlo, Option.map_none, Option.map_some]
   simp only [Option.getD_none, Option.getD_some] at hL hH
   have hL0 : L = 0 := by omega
   rw [Sem.run_bind, fin none (some _) (by
    have hb : (Instr.sliceBound (.int k i) len .sliceAlen).run P w = .ok (L + N) w := run_bound _ (L + N) hH hN
    unfold Instr.sliceBounds
    simp [Sem.run_bind, Result.andThen, hb, hL0])]
   rfl
  ·simp at h1
 ·rename_i t' x lo' hi' hop
  split at h1
  ·rename_i a' k i k2 j hx hlo hhi
   simp only [Option.some.injEq, Prod.mk.injEq] at h1
   obtain ⟨rfl, rfl, rfl, rfl⟩ := h1
   simp only [execOp, hop, ha.ev hx, ha.ev hlo, ha.ev hhi, Option.map_none, Option.map_some]
   simp only [Option.getD_some] at hL hH
   rw [Sem.run_bind, fin (some _) (some _) (by
    have hb : (Instr.sliceBound (.int k2 j) len .sliceAlen).run P w = .ok (L + N) w := run_bound _ (L + N) hH hN
    have hb2 : (Instr.sliceBound (.int k i) (L + N) .sliceB).run P w = .ok L w := run_bound _ L hL (by omega)
    unfold Instr.sliceBounds
    simp [Sem.run_bind, Result.andThen, hb, hb2])]
   rfl
  ·simp at h1
 ·simp at h1
section rules
variable {P : Program} {T : Tab} {w0 : World} {ops : Array Oper} {Q : Exit -> Act -> World -> Prop} {rest rest' : List Oper} {n : Nat} {l l' : Sl} {K : PH} {hs : List PH}
theorem sla (hT : TabOK P T) (k : Nat) {d : Nat} {o : Oper} {t len e sz : Nat} {a : Addr} {lo hi : Option Int} (L N : Nat) (h0 : ovAt T ops n k rest l = some (d, o, rest', l')) (h1 : saOp l' o = some (t, a, lo, hi)) (hu : P.underlying t = some (.array len e)) (he : (P.info? e).map (·.size) = some sz)
  (hL : lo.getD 0 = (L : Int)) (hH : hi.getD len = ((L + N : Nat) : Int)) (hN : L + N <= len) (hlt : L < len) (hk : WL P w0 ops Q rest' n ((d, .slice (some (a.add (L * sz))) N (len - L)) :: l') K hs) : WL P w0 ops Q rest n l K hs :=
 opr hT k h0 (fun A w ha _ => sla_run L N h1 hu he hL hH hN hlt A w ha) hk
theorem dsla {plan plan' : List Nat} {z : Nat} {listed listed' : Array Bool} {K0 : PH} {A : List PH} (hT : TabOK P T) (hsel : Region.noSelect ops = true) (k : Nat) {d : Nat} {o : Oper} {t len e sz : Nat} {a : Addr} {lo hi : Option Int} (L N : Nat) (h0 : dlkAt T ops n z k plan listed l = some (d, o, plan', listed', l')) (h1 : saOp l' o = some (t, a, lo, hi)) (hu : P.underlying t = some (.array len e)) (he : (P.info? e).map (·.size) = some sz)
  (hL : lo.getD 0 = (L : Int)) (hH : hi.getD len = ((L + N : Nat) : Int)) (hN : L + N <= len) (hlt : L < len) (hk : WA P w0 ops Q K0 A z plan' listed' n ((d, .slice (some (a.add (L * sz))) N (len - L)) :: l') K hs) : WA P w0 ops Q K0 A z plan listed n l K hs :=
 dopr hT hsel k h0 (fun A w ha _ => sla_run L N h1 hu he hL hH hN hlt A w ha) hk
def dlwAt (T : Tab) (ops : Array Oper) (n z k : Nat) (plan : List Nat) (L : Array Bool) (l : Sl) : Option (Nat × Nat × Oper × List Nat × Array Bool × Sl) :=
 match headAt T ops n z k plan L l with
 | some (p, o, r, L', l') => match Nat.beq (p % 2) 0, Nat.beq (p / 2) z, gOK ops l' o.guard, o.dst with
  | true, false, some true, some d => match Nat.blt d n with
   | true => some (p, d, o, r, L'.setIfInBounds (p / 2) true, l')
   | false => none
  | _, _, _, _ => none
 | none => none
theorem doprw {plan plan' : List Nat} {z : Nat} {listed listed' : Array Bool} {K0 : PH} {A : List PH} (hT : TabOK P T) (hsel : Region.noSelect ops = true) (k : Nat) {p d : Nat} {o : Oper} {v : Value} (h0 : dlwAt T ops n z k plan listed l = some (p, d, o, plan', listed', l')) (hwf : cond (Nat.blt z ops.size) (Region.waitsFor .any ops z (p / 2)) true = true)
  (hv : ∀ a w, Ag n l' a -> HasL K0 A w -> (execOp a.eval o).run P w = .ok (.value v) w) (hk : WA P w0 ops Q K0 A z plan' listed' n ((d, v) :: l') K hs) : WA P w0 ops Q K0 A z plan listed n l K hs := by
 unfold dlwAt at h0
 split at h0
 ·rename_i p' o' r L' l2 hh
  split at h0
  ·rename_i dd hp hz hg hd
   split at h0
   ·rename_i hb
    simp only [Option.some.injEq, Prod.mk.injEq] at h0
    obtain ⟨rfl, rfl, rfl, rfl, rfl, rfl⟩ := h0
    obtain ⟨g1, g2⟩ := headAt_spec hh
    refine WA.pures hT hsel k g1 ?_
    have hp2 : p' = 2 * (p' / 2) := by have := Nat.eq_of_beq_eq_true hp; omega
    rw [hp2]
    refine WA.look g2 hsel hz hd hb (fun A' ha => .inl ⟨gOK_wanted ha hg, fun w hw => ?_⟩) hk
    obtain ⟨L, hcl, hun, hst⟩ := hw
    exact hv A' w ha (hst (closed_waits hcl hun hwf))
   ·simp at h0
  ·simp at h0
 ·simp at h0
theorem dslaw {plan plan' : List Nat} {z : Nat} {listed listed' : Array Bool} {K0 : PH} {A : List PH} (hT : TabOK P T) (hsel : Region.noSelect ops = true) (k : Nat) {p d : Nat} {o : Oper} {t len e sz : Nat} {a : Addr} {lo hi : Option Int} (L N : Nat) (h0 : dlwAt T ops n z k plan listed l = some (p, d, o, plan', listed', l')) (hwf : cond (Nat.blt z ops.size) (Region.waitsFor .any ops z (p / 2)) true = true) (h1 : saOp l' o = some (t, a, lo, hi)) (hu : P.underlying t = some (.array len e)) (he : (P.info? e).map (·.size) = some sz)
  (hL : lo.getD 0 = (L : Int)) (hH : hi.getD len = ((L + N : Nat) : Int)) (hN : L + N <= len) (hlt : L < len) (hk : WA P w0 ops Q K0 A z plan' listed' n ((d, .slice (some (a.add (L * sz))) N (len - L)) :: l') K hs) : WA P w0 ops Q K0 A z plan listed n l K hs :=
 doprw hT hsel k h0 hwf (fun A w ha _ => sla_run L N h1 hu he hL hH hN hlt A w ha) hk
def cvOp (l : Sl) (o : Oper) : Option (Nat × Nat × (Option Addr × Nat × Nat)) :=
 match o.op with
 | .convert t t' x => match ev l x with
  | some (.slice ao m c) => some (t, t', (ao, m, c))
  | _ => none
 | _ => none
theorem dcvsw {plan plan' : List Nat} {z : Nat} {listed listed' : Array Bool} {K0 : PH} {A : List PH} (hT : TabOK P T) (hsel : Region.noSelect ops = true) (k : Nat) {p d t t' m c : Nat} {o : Oper} {ao : Option Addr} {h : PH} (xs : List UInt8) (h0 : dlwAt T ops n z k plan listed l = some (p, d, o, plan', listed', l')) (hwf : cond (Nat.blt z ops.size) (Region.waitsFor .any ops z (p / 2)) true = true) (h1 : cvOp l' o = some (t, t', (ao, m, c))) (hm : In K0 A h)
  (x : IsS h ao m c 1 (xs.map fun b => Value.int .u8 ((b.toNat : Nat) : Int))) (hs' : isStr P t t' = true)
  (hk : WA P w0 ops Q K0 A z plan' listed' n ((d, str xs) :: l') K hs) : WA P w0 ops Q K0 A z plan listed n l K hs := by
 refine doprw hT hsel k h0 hwf (fun A' w ha hw => ?_) hk
 unfold cvOp at h1
 split at h1
 ·rename_i t1 t2 y hop
  split at h1
  ·rename_i ao' m' c' hx
   simp only [Option.some.injEq, Prod.mk.injEq] at h1
   obtain ⟨rfl, rfl, rfl, rfl, rfl⟩ := h1
   have h2 := run_toStr (P := P) (w := w) (c := c') hs' xs (by have := x.1; simpa using this) (fun j u hj => by
    obtain ⟨a, h3, h4⟩ := x.2.2 j u hj
    exact ⟨a, h3, hw.cell hm h4⟩)
   simp only [execOp, hop, ha.ev hx]
   simp [h2]
  ·simp at h1
 ·simp at h1
def luOp (l : Sl) (o : Oper) : Option (Nat × Value × Value × Bool) :=
 match o.op with
 | .lookup t x y ok => match ev l x, ev l y with
  | some u, some v => some (t, u, v, ok)
  | _, _ => none
 | _ => none
theorem luOp_spec {l : Sl} {n : Nat} {o : Oper} {t : Nat} {u v : Value} {ok : Bool} (h : luOp l o = some (t, u, v, ok)) : ∀ a, Ag n l a -> execOp a.eval o = (do let x <- Instr.lookup t u v ok; pure (.value x)) := by
 intro a ha
 unfold luOp at h
 split at h
 ·rename_i t' x y ok' hop
  split at h
  ·rename_i u' v' hx hy
   simp only [Option.some.injEq, Prod.mk.injEq] at h
   obtain ⟨rfl, rfl, rfl, rfl⟩ := h
   simp only [execOp, hop, ha.ev hx, ha.ev hy]
  ·simp at h
 ·simp at h
theorem dlkuw {κ ν : Type} [DecidableEq κ] {enc : κ -> Value} {encv : ν -> Value} {h : PH} {b : Nat} {m : List (κ × ν)} {plan plan' : List Nat} {z : Nat} {listed listed' : Array Bool} {K0 : PH} {A : List PH} (hT : TabOK P T) (hsel : Region.noSelect ops = true) (k : Nat) {p d t kt et : Nat} {o : Oper} {zv v : Value} {ok : Bool} (j : κ) (h0 : dlwAt T ops n z k plan listed l = some (p, d, o, plan', listed', l')) (hwf : cond (Nat.blt z ops.size) (Region.waitsFor .any ops z (p / 2)) true = true) (h1 : luOp l' o = some (t, .map (some b), v, ok)) (hu : P.underlying t = some (.map kt et)) (hz : (P.info? et).bind (·.zero) = some zv) (hK : KeyOK P kt enc) (hv : v = enc j) (hin : In K0 A h) (hm : MpO enc encv h b m)
  (hk : WA P w0 ops Q K0 A z plan' listed' n ((d, lkV ok (match mget j m with | some v => encv v | none => zv) (mget j m).isSome) :: l') K hs) : WA P w0 ops Q K0 A z plan listed n l K hs := by
 subst hv
 refine doprw hT hsel k h0 hwf (fun a w ha hw => ?_) hk
 have := run_lookup (P := P) hu hK hz hm (hw.inn hin) j ok
 rw [luOp_spec h1 a ha, Sem.run_bind, this]
 rfl
def mlOp (l : Sl) (o : Oper) : Option (Nat × Value) :=
 match o.op with
 | .call { callee := .builtin .len, args, argTypes } => match args.toList, argTypes.toList with
  | [x], [t] => match ev l x with
   | some u => some (t, u)
   | _ => none
  | _, _ => none
 | _ => none
theorem mlOp_spec {l : Sl} {n : Nat} {o : Oper} {t : Nat} {u : Value} (h : mlOp l o = some (t, u)) {w : World} {N : Int} (hr : (Builtin.len_ #[t] o.type #[u]).run P w = .ok (.int .i64 N) w) : ∀ a, Ag n l a -> (execOp a.eval o).run P w = .ok (.value (.int .i64 N)) w := by
 intro a ha
 unfold mlOp at h
 split at h
 ·rename_i args argTypes hop
  split at h
  ·rename_i x t' e1 e2
   split at h
   ·rename_i u' hx
    simp only [Option.some.injEq, Prod.mk.injEq] at h
    obtain ⟨rfl, rfl⟩ := h
    have a1' : args = #[x] := by cases args; simp_all
    have a2' : argTypes = #[t'] := by cases argTypes; simp_all
    subst a1' a2'
    simp only [execOp, hop]
    simp [resolve, invoke, builtin, ha.ev hx, hr]
   ·simp at h
  ·simp at h
 ·simp at h
theorem dmlw {κ ν : Type} [DecidableEq κ] {enc : κ -> Value} {encv : ν -> Value} {h : PH} {b : Nat} {m : List (κ × ν)} {plan plan' : List Nat} {z : Nat} {listed listed' : Array Bool} {K0 : PH} {A : List PH} (hT : TabOK P T) (hsel : Region.noSelect ops = true) (k : Nat) {p d t kt et : Nat} {o : Oper} (h0 : dlwAt T ops n z k plan listed l = some (p, d, o, plan', listed', l')) (hwf : cond (Nat.blt z ops.size) (Region.waitsFor .any ops z (p / 2)) true = true) (h1 : mlOp l' o = some (t, .map (some b))) (hu : P.underlying t = some (.map kt et)) (hin : In K0 A h) (hm : MpO enc encv h b m)
  (hk : WA P w0 ops Q K0 A z plan' listed' n ((d, .int .i64 (m.length : Int)) :: l') K hs) : WA P w0 ops Q K0 A z plan listed n l K hs :=
 doprw hT hsel k h0 hwf (fun a w ha hw => mlOp_spec h1 (run_maplen hu hm (hw.inn hin)) a ha) hk
theorem dmlnw {plan plan' : List Nat} {z : Nat} {listed listed' : Array Bool} {K0 : PH} {A : List PH} (hT : TabOK P T) (hsel : Region.noSelect ops = true) (k : Nat) {p d t kt et : Nat} {o : Oper} (h0 : dlwAt T ops n z k plan listed l = some (p, d, o, plan', listed', l')) (hwf : cond (Nat.blt z ops.size) (Region.waitsFor .any ops z (p / 2)) true = true) (h1 : mlOp l' o = some (t, .map none)) (hu : P.underlying t = some (.map kt et))
  (hk : WA P w0 ops Q K0 A z plan' listed' n ((d, .int .i64 0) :: l') K hs) : WA P w0 ops Q K0 A z plan listed n l K hs :=
 doprw hT hsel k h0 hwf (fun a w ha hw => mlOp_spec h1 (by unfold Builtin.len_; simp [Sem.run_bind, run_underlying hu, Result.andThen, goInt]) a ha) hk
def mdAt (T : Tab) (ops : Array Oper) (n k : Nat) (rest : List Oper) (l : Sl) : Option (Oper × Nat × Value × Value × List Oper × Sl) :=
 match opAt T ops n k rest l with
 | some (o, r, l') => match o.dst, o.op with
  | none, .call { callee := .builtin .delete, args, argTypes } => match args.toList, argTypes.toList with
   | [x, y], [t, _] => match ev l' x, ev l' y with
    | some u, some v => some (o, t, u, v, r, l')
    | _, _ => none
   | _, _ => none
  | _, _ => none
 | none => none
theorem mdl {κ ν : Type} [DecidableEq κ] {enc : κ -> Value} {encv : ν -> Value} {h : PH} {b : Nat} {m : List (κ × ν)} (hT : TabOK P T) (k i : Nat) {t kt et : Nat} {o : Oper} {v : Value} (j : κ) (h0 : mdAt T ops n k rest l = some (o, t, .map (some b), v, rest', l')) (hi : hs[i]? = some h) (hu : P.underlying t = some (.map kt et)) (hK : KeyOK P kt enc) (hv : v = enc j) (hm : MpO enc encv h b m)
  (hk : ∀ h', MpO enc encv h' b (mdel j m) -> WL P w0 ops Q rest' n l' K (hs.set i h')) : WL P w0 ops Q rest n l K hs := by
 unfold mdAt at h0
 split at h0
 ·rename_i o' r l2 ho
  split at h0
  ·rename_i args argTypes hd hop
   split at h0
   ·rename_i x y t' t2 e1 e2
    split at h0
    ·rename_i u v' hx hy
     simp only [Option.some.injEq, Prod.mk.injEq] at h0
     obtain ⟨rfl, rfl, rfl, rfl, rfl, rfl⟩ := h0
     subst hv
     have a1' : args = #[x, y] := by cases args; simp_all
     have a2' : argTypes = #[t', t2] := by cases argTypes; simp_all
     subst a1' a2'
     refine WL.at' hT ho fun hg => ?_
     intro a w ha hw
     obtain ⟨h', w', g1, g2, g3⟩ := run_delete (P := P) hu hK hm hw hi j #[t', t2] rfl o'.type
     have hw1 := gOK_wanted ha hg
     unfold wpList
     rw [if_pos hw1]
     refine .inl ?_
     unfold Oper.wp
     have hrun : (execOp a.eval o').run P w = .ok (.value (.tuple #[])) w' := by
      simp only [execOp, hop]
      simp [resolve, invoke, builtin, ha.ev hx, ha.ev hy, g2]
     rw [hrun]
     simp only [Oper.upon, hd, Act.put]
     exact hk h' g1 _ _ ha g3
    ·simp at h0
   ·simp at h0
  ·simp at h0
 ·simp at h0
end rules
section joink
variable {P : Program} {w0 : World} {Q : Exit -> Act -> World -> Prop} {n : Nat} {l : Sl} {K : PH} {hs : List PH}
def JKK (w0 : World) {σ : Type} (F : σ -> Sl) (HK : σ -> PH) (H : σ -> List PH) (J : σ -> Prop) (n : Nat) (Q : Exit -> Act -> World -> Prop) : Exit -> Act -> World -> Prop
 | .normal, a, w => ∃ s, J s /\ Ag n (F s) a /\ Sat w0 w (HK s) (H s)
 | e, a, w => Q e a w
theorem jnK {σ : Type} {x y : Code} (F : σ -> Sl) (HK : σ -> PH) (H : σ -> List PH) (J : σ -> Prop) (h1 : WC P w0 x (JKK w0 F HK H J n Q) n l K hs) (h2 : ∀ s, J s -> WC P w0 y Q n (F s) (HK s) (H s)) : WC P w0 (.seq x y) Q n l K hs :=
 sq fun a w ha hw => Code.wp_mono (fun e a w h => by
  cases e with
  | normal => obtain ⟨s, hJ, ha, hw⟩ := h; exact h2 s hJ a w ha hw
  | _ => exact h) (h1 a w ha hw)
theorem jxK {σ : Type} {F : σ -> Sl} {HK : σ -> PH} {H : σ -> List PH} {J : σ -> Prop} (s : σ) (hJ : J s) (hF : Sub l (F s)) (hK : K = HK s) (hH : hs = H s) : WQ w0 (JKK w0 F HK H J n Q) .normal n l K hs :=
 fun a w ha hw => ⟨s, hJ, ha.sub hF, by rw [<- hK, <- hH]; exact hw⟩
end joink
end Go.En
end
section
namespace Go.Proofs.YtcncpbolcigpnaaGreat
open Go.En
def T : Tab := {
 kinds := [(1, .fn), (2, .int .i64), (3, .int .i64), (4, .bool), (5, .int .u8), (6, .int .u8), (9, .str), (10, .str), (11, .str), (12, .int .u64), (15, .ptr), (16, .ptr), (17, .ptr), (21, .int .i32), (22, .slice), (23, .ptr), (24, .fn), (25, .fn), (26, .ptr), (27, .ptr), (28, .ptr), (31, .slice), (32, .slice), (33, .slice), (34, .slice), (35, .map), (36, .slice), (37, .int .u64), (40, .int .i64), (41, .fn), (42, .fn), (43, .fn), (44, .slice), (46, .fn), (50, .fn), (51, .fn), (52, .fn), (53, .fn), (54, .fn), (56, .fn), (57, .slice), (60, .fn), (61, .fn), (72, .ptr), (73, .ptr), (76, .slice), (79, .fn), (80, .fn), (81, .fn), (83, .fn), (84, .fn), (85, .fn), (86, .fn), (88, .fn), (89, .fn), (90, .fn), (91, .map), (94, .fn), (95, .fn), (97, .fn), (98, .fn), (99, .fn), (100, .fn), (102, .fn), (103, .fn), (104, .fn), (105, .ptr), (106, .fn), (107, .fn), (108, .fn), (109, .fn), (112, .fn), (114, .fn), (115, .fn), (116, .fn), (117, .fn), (118, .fn), (119, .fn), (120, .fn), (124, .fn), (125, .fn), (127, .fn), (129, .fn), (130, .fn), (131, .fn), (132, .fn), (133, .fn), (134, .map), (135, .ptr), (136, .slice), (137, .slice), (141, .fn), (142, .fn), (145, .fn), (146, .fn), (147, .fn), (148, .fn), (150, .fn), (151, .fn), (152, .fn), (153, .fn), (157, .fn), (158, .fn), (159, .fn), (160, .fn), (161, .fn), (162, .fn), (164, .fn), (165, .ptr), (166, .fn), (169, .fn), (170, .fn), (171, .fn), (172, .fn), (173, .fn), (174, .fn), (175, .int .u64), (177, .fn), (178, .fn), (179, .slice), (183, .fn), (184, .fn), (185, .fn), (186, .fn), (187, .fn), (188, .fn), (189, .fn), (192, .fn), (193, .fn), (194, .int .u32), (195, .fn), (196, .fn), (197, .fn), (198, .fn), (199, .fn), (200, .fn), (201, .fn), (202, .int .i64), (204, .fn), (205, .fn), (206, .fn), (207, .fn), (208, .fn), (209, .fn), (210, .int .u64), (211, .fn), (212, .fn), (213, .ptr), (214, .fn), (215, .ptr), (217, .fn), (218, .fn), (224, .int .u8), (225, .int .u8), (226, .fn), (227, .ptr), (228, .int .i32), (229, .int .i32), (240, .fn)],
 flds := [(448, 0), (449, 1), (450, 2), (451, 3), (512, 0), (513, 1), (514, 2), (515, 3), (832, 0), (833, 1), (896, 0), (897, 1), (1152, 0), (1216, 0), (1856, 0), (1857, 1), (1858, 2), (1920, 0), (1921, 1), (1922, 2), (2432, 0), (2433, 1), (2434, 2), (2435, 3), (2436, 4), (2437, 5), (2438, 6), (2439, 7), (2440, 8), (2441, 9), (2496, 0), (2497, 1), (2498, 2), (2499, 3), (2500, 4), (2501, 5), (2502, 6), (2503, 7), (2504, 8), (2505, 9), (3008, 0), (3009, 1), (3010, 2), (3011, 3), (3012, 4), (3072, 0), (3073, 1), (3074, 2), (3075, 3), (3076, 4), (3712, 0), (3776, 0), (3968, 0), (3969, 1), (3970, 2), (3971, 3), (3972, 4), (4032, 0), (4033, 1), (4034, 2), (4035, 3), (4036, 4), (4160, 0), (4161, 1), (4162, 2), (4163, 3), (4224, 0), (4225, 1), (4226, 2), (4227, 3), (4288, 0), (4289, 1), (4352, 0), (4353, 1), (4480, 0), (4481, 1), (4482, 2), (4483, 3), (4484, 4), (4485, 5), (4486, 6), (4487, 7), (4488, 8), (4489, 9), (4490, 10), (4491, 45), (4492, 50), (4493, 51), (4544, 0), (4545, 1), (4546, 2), (4547, 3), (4548, 4), (4549, 5), (4550, 6), (4551, 7), (4552, 8), (4553, 9), (4554, 10), (4555, 45), (4556, 50), (4557, 51), (4736, 0), (4737, 1), (4800, 0), (4801, 1), (4928, 0), (4929, 1), (4930, 2), (4931, 3), (4932, 4), (4933, 6), (4934, 10), (4935, 11), (4936, 12), (4937, 13), (4992, 0), (4993, 1), (4994, 2), (4995, 3), (4996, 4), (4997, 6), (4998, 10), (4999, 11), (5000, 12), (5001, 13), (5888, 0), (5889, 1), (5890, 2), (5891, 3), (5892, 4), (5952, 0), (5953, 1), (5954, 2), (5955, 3), (5956, 4), (7040, 0), (7041, 1), (7042, 2), (7043, 3), (7104, 0), (7105, 1), (7106, 2), (7107, 3), (7744, 0), (7745, 1), (7746, 2), (7747, 3), (7808, 0), (7809, 1), (7810, 2), (7811, 3), (8832, 0), (8833, 1), (8834, 2), (8835, 3), (8836, 4), (8837, 5), (8838, 6), (8896, 0), (8897, 1), (8898, 2), (8899, 3), (8900, 4), (8901, 5), (8902, 6), (9152, 0), (9153, 1), (9216, 0), (9217, 1), (9856, 0), (9857, 1), (9920, 0), (9921, 1), (10688, 0), (10689, 1), (10690, 2), (10691, 3), (10692, 4), (10693, 5), (10694, 6), (10695, 7), (10696, 8), (10697, 9), (10698, 10), (10699, 11), (10700, 12), (10701, 13), (10752, 0), (10753, 1), (10754, 2), (10755, 3), (10756, 4), (10757, 5), (10758, 6), (10759, 7), (10760, 8), (10761, 9), (10762, 10), (10763, 11), (10764, 12), (10765, 13), (11520, 0), (11521, 1), (11584, 0), (11585, 1), (12160, 0), (12161, 2), (12162, 3), (12224, 0), (12225, 2), (12226, 3), (14016, 0), (14017, 1), (14018, 2), (14019, 3), (14080, 0), (14081, 1), (14082, 2), (14083, 3), (14720, 0), (14721, 1), (14722, 2), (14723, 3), (14724, 4), (14725, 5), (14726, 6), (14727, 7), (14728, 8), (14729, 9), (14730, 10), (14784, 0), (14785, 1), (14786, 2), (14787, 3), (14788, 4), (14789, 5), (14790, 6), (14791, 7), (14792, 8), (14793, 9), (14794, 10), (14848, 0), (14849, 1), (14912, 0), (14913, 1), (14976, 0), (14977, 1), (14978, 2), (15040, 0), (15041, 1), (15042, 2), (15104, 0), (15105, 4), (15168, 0), (15169, 4), (15232, 0), (15233, 1), (15234, 2), (15235, 3), (15236, 4), (15237, 5), (15296, 0), (15297, 1), (15298, 2), (15299, 3), (15300, 4), (15301, 5)],
 sls := [(22, ⟨37, 1, 8, .int .u64 0⟩),
  (31, ⟨30, 3, 24, .agg #[.pointer none, .pointer none, .pointer none]⟩),
  (32, ⟨168, 14, 160, .agg #[.int .i64 0, .int .i64 0, .int .i64 0, .int .u64 0, .int .u64 0, .int .u64 0, .int .u64 0, .int .u64 0, .bool false, .slice none 0 0, .int .i64 0, .int .i64 0, .slice none 0 0, .slice none 0 0]⟩),
  (33, ⟨233, 2, 16, .agg #[.int .u64 0, .int .i64 0]⟩),
  (34, ⟨235, 3, 24, .agg #[.int .i64 0, .int .i64 0, .int .u64 0]⟩),
  (36, ⟨239, 6, 48, .agg #[.int .i64 0, .int .u64 0, .int .u64 0, .int .u64 0, .int .u64 0, .int .u64 0]⟩),
  (44, ⟨5, 1, 1, .int .u8 0⟩),
  (57, ⟨3, 1, 8, .int .i64 0⟩),
  (76, ⟨111, 4, 48, .agg #[.int .u64 0, .int .u64 0, .int .i64 0, .slice none 0 0]⟩),
  (136, ⟨44, 1, 24, .slice none 0 0⟩),
  (137, ⟨144, 2, 16, .agg #[.int .u64 0, .int .u64 0]⟩),
  (179, ⟨9, 1, 16, .string ⟨#[]⟩⟩)] }
theorem hT : TabOK Tryz.prog T where
 kinds := by kernel_rfl
 flds := by kernel_rfl
 sls := by kernel_rfl
end Go.Proofs.YtcncpbolcigpnaaGreat
end
section
namespace Go.En
def swp (i j : Nat) (xs : List Nat) : List Nat := (xs.set i (xs.getD j 0)).set j (xs.getD i 0)
theorem swp_len (i j : Nat) (xs : List Nat) : (swp i j xs).length = xs.length := by simp [swp]
theorem swp_get {i j : Nat} {xs : List Nat} (hi : i < xs.length) (hj : j < xs.length) (k : Nat) : (swp i j xs)[k]? = if k = j then some (xs.getD i 0) else if k = i then some (xs.getD j 0) else xs[k]? := by
 unfold swp
 rw [List.getElem?_set]
 by_cases e1 : j = k
 ·rw [if_pos e1, if_pos e1.symm, if_pos (by simpa using hj)]
 ·rw [if_neg e1, if_neg (Ne.symm e1), List.getElem?_set]
  by_cases e2 : i = k
  ·rw [if_pos e2, if_pos e2.symm, if_pos (by omega)]
  ·rw [if_neg e2, if_neg (Ne.symm e2)]
structure SegP (a b : Nat) (xs ys : List Nat) : Prop where
 len : ys.length = xs.length
 out : ∀ i, i < a \/ b <= i -> ys[i]? = xs[i]?
 perm : ys.Perm xs
theorem SegP.refl (a b : Nat) (xs : List Nat) : SegP a b xs xs := ⟨rfl, fun _ _ => rfl, List.Perm.refl _⟩
theorem SegP.trans {a b : Nat} {xs ys zs : List Nat} (h : SegP a b xs ys) (g : SegP a b ys zs) : SegP a b xs zs :=
 ⟨g.len.trans h.len, fun i hi => (g.out i hi).trans (h.out i hi), g.perm.trans h.perm⟩
theorem SegP.wide {a b c d : Nat} {xs ys : List Nat} (h : SegP a b xs ys) (h1 : c <= a) (h2 : b <= d) : SegP c d xs ys :=
 ⟨h.len, fun i hi => h.out i (by omega), h.perm⟩
theorem swp_perm {i j : Nat} {xs : List Nat} (hi : i < xs.length) (hj : j < xs.length) : (swp i j xs).Perm xs := by
 rw [List.perm_iff_count]
 intro v
 unfold swp
 have hgi : xs.getD i 0 = xs[i] := by rw [List.getD_eq_getElem?_getD, List.getElem?_eq_getElem hi]; rfl
 have hgj : xs.getD j 0 = xs[j] := by rw [List.getD_eq_getElem?_getD, List.getElem?_eq_getElem hj]; rfl
 rw [hgi, hgj, List.count_set (by simpa using hj), List.count_set hi]
 by_cases e : i = j
 ·subst e
  simp
  by_cases h : xs[i] = v
  ·have : 0 < List.count v xs := List.count_pos_iff.2 (by rw [<- h]; exact List.getElem_mem hi)
   simp [h]; omega
  ·simp [h]
 ·have h3 : (xs.set i xs[j])[j]'(by simpa using hj) = xs[j] := by rw [List.getElem_set_ne (fun h => e h)]
  rw [h3]
  have c1 : (if (xs[i] == v) = true then 1 else 0) <= List.count v xs := by
   split
   ·rename_i h
    have h := eq_of_beq h
    exact List.count_pos_iff.2 (by rw [<- h]; exact List.getElem_mem hi)
   ·exact Nat.zero_le _
  omega
theorem SegP.swp {a b i j : Nat} {xs : List Nat} (h1 : a <= i /\ i < b) (h2 : a <= j /\ j < b) (hb : b <= xs.length) : SegP a b xs (swp i j xs) :=
 ⟨swp_len i j xs, fun k hk => by rw [swp_get (by omega) (by omega), if_neg (by omega), if_neg (by omega)], swp_perm (by omega) (by omega)⟩
def Srt (a b : Nat) (xs : List Nat) : Prop := ∀ i j, a <= i -> i < j -> j < b -> xs.getD i 0 <= xs.getD j 0
def uvv (l : List Nat) : List Value := l.map fun x => Value.int .u64 ((x : Nat) : Int)
def uA (pre : List Value) (xs : List Nat) (post : List Value) : Array Value := (pre ++ uvv xs ++ post).toArray
theorem uA_get {pre : List Value} {xs : List Nat} {post : List Value} {i : Nat} (h : i < xs.length) : (uA pre xs post)[pre.length + i]? = some (.int .u64 ((xs.getD i 0 : Nat) : Int)) := by
 unfold uA
 rw [List.getElem?_toArray, List.append_assoc, List.getElem?_append_right (by omega), Nat.add_sub_cancel_left, List.getElem?_append_left (by simpa [uvv] using h)]
 simp [uvv, h, List.getD_eq_getElem?_getD]
theorem uA_set {pre : List Value} {xs : List Nat} {post : List Value} {i v : Nat} (h : i < xs.length) : (uA pre xs post).setIfInBounds (pre.length + i) (.int .u64 ((v : Nat) : Int)) = uA pre (xs.set i v) post := by
 unfold uA
 rw [List.setIfInBounds_toArray, List.append_assoc, List.set_append_right _ _ (by omega), Nat.add_sub_cancel_left, List.set_append_left _ _ (by simpa [uvv] using h)]
 simp [uvv]
theorem uA_isS {g e : Nat} {pre : List Value} {xs : List Nat} {post : List Value} {cap : Nat} (hc : xs.length <= cap) : IsS (pt g (uA pre xs post) e) (some ⟨g, pre.length, none⟩) xs.length cap 1 (uvv xs) := by
 refine ⟨by simp [uvv], hc, fun j u hu => ⟨_, rfl, ?_⟩⟩
 have hj : j < xs.length := by
  have := (List.getElem?_eq_some_iff.1 hu).1
  simpa [uvv] using this
 rw [add_mk]
 refine Cell.pt ?_
 rw [uA_get hj]
 simp [uvv, hj] at hu
 rw [<- hu]
 simp [List.getD_eq_getElem?_getD, hj]
end Go.En
end
section
namespace Go.Proofs.YtcncpbolcigpnaaGreat
open Go.En Go.ChangeShapes Go.WideShapes Go.ChangeAt Go.RowKit
section opens
variable {H : Type} {enc : TypeId × Value -> H} {W : World}
theorem all2_us : ∀ {css : List (List Value)} {xs : List Int}, All2 (RI .u64) css xs -> css.flatten = uvv (xs.map Int.toNat) /\ ∀ d ∈ xs.map Int.toNat, d < 18446744073709551616
 | [], [], _ => ⟨rfl, by simp⟩
 | c :: cs, x :: xs, ⟨hc, g⟩ => by
  obtain ⟨rfl, hw⟩ := hc
  obtain ⟨h1, h2⟩ := all2_us g
  have hx : 0 <= x /\ x <= 18446744073709551615 := by simpa [Lit.wf, IntKind.min, IntKind.max, IntKind.signed, IntKind.bits] using hw
  have e : ((x.toNat : Nat) : Int) = x := Int.toNat_of_nonneg hx.1
  refine ⟨by rw [List.flatten_cons, h1]; simp [uvv, e], ?_⟩
  intro d hd
  rcases List.mem_cons.1 hd with rfl | hd
  ·omega
  ·exact h2 d hd
 | [], _ :: _, g => g.elim
 | _ :: _, [], g => g.elim
theorem sum_ones : ∀ xs : List Int, sumM (fun _ => 1) xs = xs.length
 | [] => rfl
 | x :: r => by rw [sumM, sum_ones r, List.length_cons]; omega
set_option maxRecDepth 100000 in
theorem open_us {base : Nat} {v : Value} {d : DataW H} {ps : List MemPlace} (hval : Value.okWide Tryz.prog W .any base 22 v) (h : DataW.Trod enc Tryz.prog W 0 (fun _ => true) true 22 v d ps) (hB : Rows.uptoBulk d <= 1048576) :
  ∃ ao cap, ∃ ds : List Nat, v = .slice ao ds.length cap /\ IsS (hp W) ao ds.length cap 1 (uvv ds) /\ (∀ x ∈ ds, x < 18446744073709551616) /\ ds.length < 1099511627776 := by
 obtain ⟨a0, len, cap0, rfl⟩ := okWide_slice Tryz.underlying22 hval
 obtain ⟨xs, hR, hm⟩ := (Opens.slice Tryz.underlying22 (by kernel_rfl) (Opens.int (enc := enc) (W := W) Tryz.underlying37 (by kernel_rfl))).arg h
 obtain ⟨ao, cap, css, e, x, h2⟩ := hR
 obtain ⟨g1, g2⟩ := all2_us h2
 simp [Value.cells] at e
 obtain ⟨rfl, rfl, rfl⟩ := e
 rw [g1] at x
 rw [sum_ones] at hm
 exact ⟨a0, cap0, xs.map Int.toNat, by simp, by simpa using x, g2, by simp; omega⟩
end opens
end Go.Proofs.YtcncpbolcigpnaaGreat
end
section
namespace Go.En
attribute [local irreducible] Code.wp wpList Calls
theorem IsS.pre {h : PH} {ao : Option Addr} {n cap size : Nat} {xs : List Value} (x : IsS h ao n cap size xs) (m : Nat) (hm : m <= n) : IsS h ao m cap size (xs.take (m * size)) := by
 obtain ⟨h1, h2, h3⟩ := x
 have : m * size <= n * size := Nat.mul_le_mul_right _ hm
 refine ⟨by simp; omega, by omega, fun j u hu => ?_⟩
 have hj : j < m * size := by
  have := (List.getElem?_eq_some_iff.1 hu).1
  simp at this
  omega
 rw [List.getElem?_take_of_lt hj] at hu
 exact h3 j u hu
section rules
variable {P : Program} {T : Tab} {w0 : World} {ops : Array Oper} {Q : Exit -> Act -> World -> Prop} {rest rest' : List Oper} {n : Nat} {l l' : Sl} {K : PH} {hs : List PH}
def b2At (T : Tab) (ops : Array Oper) (n k : Nat) (rest : List Oper) (l : Sl) : Option (Nat × Oper × Builtin × Nat × Nat × Value × Value × List Oper × Sl) :=
 match ovAt T ops n k rest l with
 | some (d, o, r, l') => match o.op with
  | .call { callee := .builtin b, args, argTypes } => match args.toList, argTypes.toList with
   | [x, y], [t, u] => match ev l' x, ev l' y with
    | some vx, some vy => some (d, o, b, t, u, vx, vy, r, l')
    | _, _ => none
   | _, _ => none
  | _ => none
 | none => none
theorem b2At_spec {k d t u : Nat} {o : Oper} {b : Builtin} {vx vy : Value} (h : b2At T ops n k rest l = some (d, o, b, t, u, vx, vy, rest', l')) :
  ovAt T ops n k rest l = some (d, o, rest', l') /\ ∀ a w, Ag n l' a -> ∃ cs, (execOp a.eval o).run P w = (builtin b #[t, u] o.type cs #[vx, vy]).run P w := by
 unfold b2At at h
 split at h
 ·rename_i d' o' r l2 ho
  split at h
  ·rename_i b' args argTypes hop
   split at h
   ·rename_i x y t' u' e1 e2
    split at h
    ·rename_i vx' vy' hx hy
     simp only [Option.some.injEq, Prod.mk.injEq] at h
     obtain ⟨rfl, rfl, rfl, rfl, rfl, rfl, rfl, rfl, rfl⟩ := h
     have a1' : args = #[x, y] := by cases args; simp_all
     have a2' : argTypes = #[t', u'] := by cases argTypes; simp_all
     subst a1' a2'
     refine ⟨ho, fun a w ha => ⟨#[x, y].map fun | .const _ => true | _ => false, ?_⟩⟩
     simp only [execOp, hop]
     simp [resolve, invoke, ha.ev hx, ha.ev hy]
     cases x <;> cases y <;> rfl
    ·simp at h
   ·simp at h
  ·simp at h
 ·simp at h
theorem cpy (hT : TabOK P T) (k i : Nat) {d t u b off ty nd cd ns csrc : Nat} {o : Oper} {si : SlI} {aos : Option Addr} {h2 : PH} {c : Array Value} {xs : List Value} (m : Nat)
  (h0 : b2At T ops n k rest l = some (d, o, .copy, t, u, .slice (some ⟨b, off, none⟩) nd cd, .slice aos ns csrc, rest', l')) (hsi : asc T.sls t = some si) (hi : hs[i]? = some (pt b c ty)) (hin : In K hs h2) (x : IsS h2 aos ns csrc si.size xs)
  (hm : m = min ns nd) (h1 : ∀ u ∈ xs.take (m * si.size), u.oneCell' = true) (hf : off + m * si.size <= c.size)
  (hk : WL P w0 ops Q rest' n ((d, .int .i64 (m : Int)) :: l') K (hs.set i (pt b (c.toList.take off ++ xs.take (m * si.size) ++ c.toList.drop (off + m * si.size)).toArray ty))) : WL P w0 ops Q rest n l K hs := by
 obtain ⟨ho, hex⟩ := b2At_spec h0
 refine opa hT k (R := fun v K' hs' => v = .int .i64 (m : Int) /\ K' = K /\ hs' = hs.set i (pt b (c.toList.take off ++ xs.take (m * si.size) ++ c.toList.drop (off + m * si.size)).toArray ty)) ho (fun a w ha hw => ?_) ?_
 ·obtain ⟨cs, he⟩ := hex a w ha
  obtain ⟨g1, ii, g2, g3, g4, g5⟩ := hT.sl hsi
  have hb : w.heap[b]? = some (.cells c ty (0, 0)) := hw.own i _ hi b _ (by simp)
  have x2 := x.pre m (by omega)
  have hfc : (Builtin.firstCells si.size m (.slice aos ns csrc)).run P w = .ok (xs.take (m * si.size)).toArray w := by
   have := run_firstCells_isS (P := P) hw hin x2
   cases aos <;> exact this
  have hlen : (xs.take (m * si.size)).length = m * si.size := x2.1
  have hst := run_storeCells_at P b off ty (xs.take (m * si.size)) 0 c w hb (by rw [hlen]; simpa using hf) (by intro u hu; exact h1 u hu)
  simp only [Nat.add_zero, hlen] at hst
  refine ⟨_, _, K, _, ?_, hw.setRow hi _, rfl, rfl, rfl⟩
  rw [he]
  simp only [builtin]
  simp [Builtin.copy_, run_underlying g1, Builtin.lenOf, <- hm, sizeOf, typeInfo, g2, g4, hfc, hst, goInt]
 ·rintro v K' hs' ⟨rfl, rfl, rfl⟩
  exact hk
theorem slx (hT : TabOK P T) (k : Nat) {d : Nat} {si : SlI} {ao : Option Addr} {n1 c1 : Nat} {lo hi : Option Int} (L N : Nat)
  (h0 : slAt T ops n k rest l = some (d, si, (ao, n1, c1), lo, hi, rest', l')) (hL : lo.getD 0 = (L : Int)) (hH : hi.getD n1 = ((L + N : Nat) : Int)) (hN : L + N <= c1)
  (hk : WL P w0 ops Q rest' n ((d, .slice (cutA ao c1 L si.size) N (c1 - L)) :: l') K hs) : WL P w0 ops Q rest n l K hs := by
 obtain ⟨o, ho, hd, hb, hrun⟩ := slAt_run (P := P) hT L (L + N) h0 hL hH (by omega) hN
 refine WL.at' hT ho fun hg => WL.val (R := fun u K' hs' => u = .slice (cutA ao c1 L si.size) N (c1 - L) /\ K' = K /\ hs' = hs) hd hb hg (fun A w ha hw => ⟨_, w, K, hs, hrun A w ha, hw, ?_, rfl, rfl⟩) ?_
 ·rw [Nat.add_sub_cancel_left]
 ·rintro u K' hs' ⟨rfl, rfl, rfl⟩
  exact hk
theorem cutA_lt {g off c L size : Nat} (h : L < c) : cutA (some ⟨g, off, none⟩) c L size = some ⟨g, off + L * size, none⟩ := by
 rw [cutA, if_neg (by omega)]
 simp [add_mk]
theorem cutA_0 {ao : Option Addr} {c size : Nat} : cutA ao c 0 size = ao := by
 unfold cutA
 split
 ·rfl
 ·cases ao with
  | none => rfl
  | some a => simp [Addr.add]
end rules
section ext
variable {P : Program} {T : Tab} {w0 : World} {ops : Array Oper} {Q : Exit -> Act -> World -> Prop} {rest rest' : List Oper} {n : Nat} {l l' : Sl} {K : PH} {hs : List PH}
end ext
section three
variable {P : Program} {T : Tab} {w0 : World} {ops : Array Oper} {Q : Exit -> Act -> World -> Prop} {rest rest' : List Oper} {n : Nat} {l l' : Sl} {K : PH} {hs : List PH}
def s3gAt (T : Tab) (ops : Array Oper) (n k : Nat) (rest : List Oper) (l : Sl) : Option (Nat × Oper × SlI × (Option Addr × Nat × Nat) × Option Int × Int × Int × List Oper × Sl) :=
 match ovAt T ops n k rest l with
 | some (d, o, r, l') => match o.op with
  | .slice t x none (some hi) (some mx) => match asc T.sls t, ev l' x, ev l' hi, ev l' mx with
   | some si, some (.slice a1 n1 c1), some (.int _ j), some (.int _ m) => some (d, o, si, (a1, n1, c1), none, j, m, r, l')
   | _, _, _, _ => none
  | .slice t x (some lo) (some hi) (some mx) => match asc T.sls t, ev l' x, ev l' lo, ev l' hi, ev l' mx with
   | some si, some (.slice a1 n1 c1), some (.int _ i), some (.int _ j), some (.int _ m) => some (d, o, si, (a1, n1, c1), some i, j, m, r, l')
   | _, _, _, _, _ => none
  | _ => none
 | none => none
theorem sl3g (hT : TabOK P T) (k : Nat) {d : Nat} {o : Oper} {si : SlI} {ao : Option Addr} {n1 c1 : Nat} {lo : Option Int} {hi mx : Int} (L N M : Nat) (h0 : s3gAt T ops n k rest l = some (d, o, si, (ao, n1, c1), lo, hi, mx, rest', l'))
  (hL : lo.getD 0 = (L : Int)) (hH : hi = ((L + N : Nat) : Int)) (hM : mx = (M : Int)) (hN : L + N <= M) (hc : M <= c1)
  (hk : WL P w0 ops Q rest' n ((d, .slice (cutA ao M L si.size) N (M - L)) :: l') K hs) : WL P w0 ops Q rest n l K hs := by
 unfold s3gAt at h0
 split at h0
 ·rename_i d' o' r l2 ho
  have c1' : ((M : Nat) : Int) <= ((c1 : Nat) : Int) := by omega
  have t1 : (((L : Nat) : Int) + ((N : Nat) : Int)).toNat = L + N := by omega
  have t2 : (((L : Nat) : Int) + ((N : Nat) : Int)) <= ((M : Nat) : Int) := by omega
  have t3 : 0 <= ((L : Nat) : Int) + ((N : Nat) : Int) := by omega
  split at h0
  ·rename_i t x hi' mx' hop
   split at h0
   ·rename_i si' a1 m1 k1 kk jj kk2 mm hsi hx h2' h3'
    simp only [Option.some.injEq, Prod.mk.injEq] at h0
    obtain ⟨rfl, rfl, rfl, ⟨rfl, rfl, rfl⟩, rfl, rfl, rfl, rfl, rfl⟩ := h0
    subst hH hM
    simp only [Option.getD_none] at hL
    obtain rfl : L = 0 := by omega
    obtain ⟨h1, im, h2, h3, h4, h5⟩ := hT.sl hsi
    refine opr hT k ho (fun a w ha hw => ?_) hk
    have q1 : N <= M := by omega
    have q2 : ((N : Nat) : Int) <= ((M : Nat) : Int) := by omega
    simp only [execOp, hop, ha.ev hx]
    simp [Instr.sliceAt, Instr.slice, Instr.sliceBounds, Instr.sliceBound, asIntOf, run_underlying h1, ha.ev h2', ha.ev h3', sizeOf, typeInfo, h2, h4, cutA, hc, q1, q2]
   ·simp at h0
  ·rename_i t x lo' hi' mx' hop
   split at h0
   ·rename_i si' a1 m1 k1 kk0 ii kk jj kk2 mm hsi hx h1' h2' h3'
    simp only [Option.some.injEq, Prod.mk.injEq] at h0
    obtain ⟨rfl, rfl, rfl, ⟨rfl, rfl, rfl⟩, rfl, rfl, rfl, rfl, rfl⟩ := h0
    subst hH hM
    simp only [Option.getD_some] at hL
    subst hL
    obtain ⟨h1, im, h2, h3, h4, h5⟩ := hT.sl hsi
    refine opr hT k ho (fun a w ha hw => ?_) hk
    simp only [execOp, hop, ha.ev hx]
    simp [Instr.sliceAt, Instr.slice, Instr.sliceBounds, Instr.sliceBound, asIntOf, run_underlying h1, ha.ev h1', ha.ev h2', ha.ev h3', sizeOf, typeInfo, h2, h4, cutA, hc]
    rw [if_pos (by omega), t1]
    simp
   ·simp at h0
  ·simp at h0
 ·simp at h0
end three
theorem Own.pre {h : PH} {ao : Option Addr} {n cap e size : Nat} {xs : List Value} (o : Own h ao n cap e size xs) (m : Nat) (hm : m <= n) : Own h ao m cap e size (xs.take (m * size)) := by
 obtain ⟨h1, h2, h3, h4⟩ := o
 have : m * size <= n * size := Nat.mul_le_mul_right _ hm
 refine ⟨by simp; omega, by omega, h3, ?_⟩
 rcases h4 with h | ⟨g, off, cur, e1, e2, e3, e4⟩
 ·exact .inl h
 ·refine .inr ⟨g, off, cur, e1, e2, e3, ?_⟩
  rw [<- e4, List.take_take, Nat.min_eq_left this]
section openc
variable {P : Program} {T : Tab} {w0 : World} {ops : Array Oper} {Q : Exit -> Act -> World -> Prop} {plan plan' : List Nat} {z : Nat} {listed listed' : Array Bool} {n : Nat} {l l' : Sl} {K K0 : PH} {hs A : List PH}
theorem dslx (hT : TabOK P T) (hsel : Region.noSelect ops = true) (k : Nat) {d d' : Nat} {o : Oper} {si : SlI} {ao : Option Addr} {n1 c1 : Nat} {lo hi : Option Int} (L N : Nat)
  (h0 : dopAt T ops n z k plan listed l = some (d, o, plan', listed', l')) (h1 : slAt T ops n 0 [o] l' = some (d', si, (ao, n1, c1), lo, hi, [], l')) (hL : lo.getD 0 = (L : Int)) (hH : hi.getD n1 = ((L + N : Nat) : Int)) (hN : L + N <= c1)
  (hk : WA P w0 ops Q K0 A z plan' listed' n ((d, .slice (cutA ao c1 L si.size) N (c1 - L)) :: l') K hs) : WA P w0 ops Q K0 A z plan listed n l K hs := by
 obtain ⟨o', ho, hd, hb, hrun⟩ := slAt_run (P := P) hT L (L + N) h1 hL hH (by omega) hN
 have ho' : o' = o := by
  have e : pureN T ops n 0 [o] l' = some ([o], l') := rfl
  unfold opAt at ho
  rw [e] at ho
  dsimp only at ho
  split at ho
  ·simp only [Option.some.injEq, Prod.mk.injEq] at ho
   exact ho.1.symm
  ·simp at ho
 subst ho'
 refine dop hT hsel k h0 (v := .slice (cutA ao c1 L si.size) N (c1 - L)) (fun a w ha => ?_) hk
 have := hrun a w ha
 rw [Nat.add_sub_cancel_left] at this
 exact this
end openc
theorem Own.pts {h : PH} {ao : Option Addr} {n cap e : Nat} {xs : List Value} (o : Own h ao n cap e 1 xs) (hn : 0 < cap) : ∃ g off cur, ao = some ⟨g, off, none⟩ /\ h = pt g cur e /\ cur.size = off + cap /\ (cur.toList.drop off).take n = xs := by
 obtain ⟨_, _, _, h4⟩ := o
 rcases h4 with ⟨_, rfl, _⟩ | ⟨g, off, cur, rfl, rfl, h1, h2⟩
 ·omega
 ·exact ⟨g, off, cur, rfl, rfl, by simpa using h1, by simpa using h2⟩
end Go.En
end
section
namespace Go.En
def Al2 {α : Type} (R : List Value -> α -> Prop) : List (List Value) -> List α -> Prop
 | [], [] => True
 | c :: cs, x :: xs => R c x /\ Al2 R cs xs
 | _, _ => False
section al
variable {α : Type} {R R' : List Value -> α -> Prop}
theorem Al2.imp (h : ∀ c x, R c x -> R' c x) : ∀ {cs : List (List Value)} {xs : List α}, Al2 R cs xs -> Al2 R' cs xs
 | [], [], _ => trivial
 | _ :: _, _ :: _, g => ⟨h _ _ g.1, Al2.imp h g.2⟩
 | [], _ :: _, g => g.elim
 | _ :: _, [], g => g.elim
theorem Al2.len : ∀ {cs : List (List Value)} {xs : List α}, Al2 R cs xs -> cs.length = xs.length
 | [], [], _ => rfl
 | _ :: _, _ :: _, g => by simp [Al2.len g.2]
 | [], _ :: _, g => g.elim
 | _ :: _, [], g => g.elim
theorem Al2.get : ∀ {cs : List (List Value)} {xs : List α} {i : Nat} {x : α}, Al2 R cs xs -> xs[i]? = some x -> ∃ c, cs[i]? = some c /\ R c x
 | [], [], i, x, _, h => by simp at h
 | c :: cs, y :: xs, 0, x, g, h => by simp at h; subst h; exact ⟨c, by simp, g.1⟩
 | c :: cs, y :: xs, i + 1, x, g, h => by
  obtain ⟨d, h1, h2⟩ := Al2.get (i := i) g.2 (by simpa using h)
  exact ⟨d, by simpa using h1, h2⟩
 | [], _ :: _, _, _, g, _ => g.elim
 | _ :: _, [], _, _, g, _ => g.elim
theorem Al2.append : ∀ {cs ds : List (List Value)} {xs ys : List α}, Al2 R cs xs -> Al2 R ds ys -> Al2 R (cs ++ ds) (xs ++ ys)
 | [], _, [], _, _, h => h
 | _ :: _, _, _ :: _, _, g, h => ⟨g.1, Al2.append g.2 h⟩
 | [], _, _ :: _, _, g, _ => g.elim
 | _ :: _, _, [], _, g, _ => g.elim
theorem Al2.drop : ∀ (k : Nat) {cs : List (List Value)} {xs : List α}, Al2 R cs xs -> Al2 R (cs.drop k) (xs.drop k)
 | 0, _, _, h => h
 | k + 1, [], [], _ => trivial
 | k + 1, _ :: _, _ :: _, g => Al2.drop k g.2
 | k + 1, [], _ :: _, g => g.elim
 | k + 1, _ :: _, [], g => g.elim
theorem Al2.take : ∀ (k : Nat) {cs : List (List Value)} {xs : List α}, Al2 R cs xs -> Al2 R (cs.take k) (xs.take k)
 | 0, _, _, _ => trivial
 | k + 1, [], [], _ => trivial
 | k + 1, _ :: _, _ :: _, g => ⟨g.1, Al2.take k g.2⟩
 | k + 1, [], _ :: _, g => g.elim
 | k + 1, _ :: _, [], g => g.elim
theorem Al2.set {c : List Value} {y : α} (hc : R c y) : ∀ (k : Nat) {cs : List (List Value)} {xs : List α}, Al2 R cs xs -> Al2 R (cs.set k c) (xs.set k y)
 | _, [], [], _ => trivial
 | 0, _ :: _, _ :: _, g => ⟨hc, g.2⟩
 | k + 1, _ :: _, _ :: _, g => ⟨g.1, Al2.set hc k g.2⟩
 | _, [], _ :: _, g => g.elim
 | _, _ :: _, [], g => g.elim
theorem flat_get {size : Nat} : ∀ {cs : List (List Value)} {i : Nat} {c : List Value}, (∀ d ∈ cs, d.length = size) -> cs[i]? = some c -> ∀ (j : Nat) v, c[j]? = some v -> cs.flatten[i * size + j]? = some v
 | [], i, c, _, h, _, _, _ => by simp at h
 | d :: cs, 0, c, hl, h, j, v, hv => by
  simp at h; subst h
  have hj := (List.getElem?_eq_some_iff.1 hv).1
  rw [List.flatten_cons, Nat.zero_mul, Nat.zero_add, List.getElem?_append_left hj]; exact hv
 | d :: cs, i + 1, c, hl, h, j, v, hv => by
  have hd := hl d (by simp)
  rw [List.flatten_cons, Nat.succ_mul, show i * size + size + j = d.length + (i * size + j) from by omega, List.getElem?_append_right (by omega), Nat.add_sub_cancel_left]
  exact flat_get (fun x hx => hl x (by simp [hx])) (by simpa using h) j v hv
theorem flat_len {size : Nat} : ∀ {cs : List (List Value)}, (∀ d ∈ cs, d.length = size) -> cs.flatten.length = cs.length * size
 | [], _ => by simp
 | d :: cs, h => by rw [List.flatten_cons, List.length_append, h d (by simp), flat_len (fun x hx => h x (by simp [hx])), List.length_cons, Nat.succ_mul]; omega
theorem flat_drop {size : Nat} : ∀ (k : Nat) {cs : List (List Value)}, (∀ d ∈ cs, d.length = size) -> cs.flatten.drop (k * size) = (cs.drop k).flatten
 | 0, cs, _ => by simp
 | k + 1, [], _ => by simp
 | k + 1, d :: cs, h => by
  rw [List.flatten_cons, Nat.succ_mul, show k * size + size = d.length + k * size from by rw [h d (by simp)]; omega, <- List.drop_drop, List.drop_left, flat_drop k (fun x hx => h x (by simp [hx]))]
  simp
theorem flat_take {size : Nat} : ∀ (k : Nat) {cs : List (List Value)}, (∀ d ∈ cs, d.length = size) -> cs.flatten.take (k * size) = (cs.take k).flatten
 | 0, cs, _ => by simp
 | k + 1, [], _ => by simp
 | k + 1, d :: cs, h => by
  rw [List.flatten_cons, Nat.succ_mul, show k * size + size = d.length + k * size from by rw [h d (by simp)]; omega, List.take_append]
  rw [List.take_of_length_le (by omega), Nat.add_sub_cancel_left, flat_take k (fun x hx => h x (by simp [hx]))]
  simp
def SlS (size : Nat) (R : List Value -> α -> Prop) (H : PH) (ao : Option Addr) (n cap : Nat) (xs : List α) : Prop :=
 ∃ css : List (List Value), n = xs.length /\ IsS H ao n cap size css.flatten /\ Al2 R css xs /\ ∀ d ∈ css, d.length = size
theorem SlS.cells {size : Nat} {H : PH} {a : Addr} {n cap i : Nat} {xs : List α} {x : α} (h : SlS size R H (some a) n cap xs) (hx : xs[i]? = some x) : ∃ c, R c x /\ c.length = size /\ ∀ (j : Nat) v, c[j]? = some v -> Cell H ((a.add (i * size)).add j) v := by
 obtain ⟨css, h1, h2, h3, h4⟩ := h
 obtain ⟨c, hc, hr⟩ := h3.get hx
 refine ⟨c, hr, h4 c (List.mem_of_getElem? hc), fun j v hv => ?_⟩
 obtain ⟨a', e, hcell⟩ := h2.2.2 _ v (flat_get h4 hc j v hv)
 cases e
 obtain ⟨b, o, sp⟩ := a
 have hsp := hcell.1
 have e2 : ((⟨b, o, sp⟩ : Addr).add (i * size)).add j = (⟨b, o, sp⟩ : Addr).add (i * size + j) := by
  unfold Addr.add at hsp ⊢
  by_cases h0 : i * size = 0
  ·simp [h0]
  ·by_cases h1 : j = 0
   ·subst h1; simp [h0]
   ·simp [h0, h1, Nat.add_assoc]
 rw [e2]; exact hcell
theorem SlS.isS {size : Nat} {H : PH} {ao : Option Addr} {n cap : Nat} {xs : List α} (h : SlS size R H ao n cap xs) : ∃ vs, IsS H ao n cap size vs := by
 obtain ⟨css, _, h2, _⟩ := h
 exact ⟨_, h2⟩
theorem SlS.len {size : Nat} {H : PH} {ao : Option Addr} {n cap : Nat} {xs : List α} (h : SlS size R H ao n cap xs) : n = xs.length := by
 obtain ⟨css, h1, _⟩ := h
 exact h1
theorem SlS.addr {size : Nat} {H : PH} {ao : Option Addr} {n cap : Nat} {xs : List α} (h : SlS size R H ao n cap xs) (hn : 0 < n) (hs : 0 < size) : ∃ a, ao = some a := by
 obtain ⟨css, _, h2, _⟩ := h
 exact h2.addr hn hs
theorem SlS.cut {size : Nat} {H : PH} {ao : Option Addr} {n cap : Nat} {xs : List α} (h : SlS size R H ao n cap xs) (L : Nat) (hL : L <= n) : SlS size R H (cutA ao cap L size) (n - L) (cap - L) (xs.drop L) := by
 obtain ⟨css, h1, h2, h3, h4⟩ := h
 have hl : css.length = n := by rw [h3.len, h1]
 refine ⟨css.drop L, by simp [h1], h2.cut L (n - L) (by omega) ?_, h3.drop L, fun d hd => h4 d (List.mem_of_mem_drop hd)⟩
 rw [flat_drop L h4]
 exact List.take_of_length_le (by rw [flat_len (fun d hd => h4 d (List.mem_of_mem_drop hd))]; simp [hl])
def SlO (size e : Nat) (R : List Value -> α -> Prop) (h : PH) (ao : Option Addr) (n cap : Nat) (xs : List α) : Prop :=
 ∃ css : List (List Value), n = xs.length /\ Own h ao n cap e size css.flatten /\ Al2 R css xs /\ ∀ d ∈ css, d.length = size
theorem SlO.len {size e : Nat} {h : PH} {ao : Option Addr} {n cap : Nat} {xs : List α} (x : SlO size e R h ao n cap xs) : n = xs.length := by
 obtain ⟨css, h1, _⟩ := x
 exact h1
end al
section app
variable {P : Program} {T : Tab} {w0 : World} {ops : Array Oper} {Q : Exit -> Act -> World -> Prop} {rest rest' : List Oper} {n : Nat} {l l' : Sl} {K : PH} {hs : List PH} {α : Type} {R : List Value -> α -> Prop}
end app
def uns : List PH -> PH
 | [] => em
 | h :: l => un h (uns l)
def Dj (h h' : PH) : Prop := ∀ b, h b = none \/ h' b = none
def Djs (l : List PH) : Prop := l.Pairwise Dj
theorem uns_some : ∀ {l : List PH} {b : Nat} {o : Obj}, uns l b = some o -> ∃ h ∈ l, h b = some o
 | [], b, o, h => by simp [uns, em] at h
 | x :: l, b, o, h => by
  simp only [uns, un] at h
  cases e : x b with
  | some o' => rw [e] at h; simp only [Option.some.injEq] at h; subst h; exact ⟨x, by simp, e⟩
  | none =>
   rw [e] at h
   obtain ⟨y, h1, h2⟩ := uns_some h
   exact ⟨y, by simp [h1], h2⟩
theorem uns_of : ∀ {l : List PH} (d : Djs l) {h : PH} (hm : h ∈ l) {b : Nat} {o : Obj}, h b = some o -> uns l b = some o
 | [], _, _, hm, _, _, _ => by cases hm
 | x :: l, d, h, hm, b, o, hb => by
  simp only [uns, un]
  rcases List.mem_cons.1 hm with rfl | hm
  ·rw [hb]
  ·have h1 := (List.pairwise_cons.1 d).1 h hm b
   cases e : x b with
   | none => exact uns_of (List.pairwise_cons.1 d).2 hm hb
   | some o' =>
    rcases h1 with h1 | h1
    ·rw [e] at h1; cases h1
    ·rw [hb] at h1; cases h1
theorem uns_none {l : List PH} {b : Nat} (h : ∀ x ∈ l, x b = none) : uns l b = none := by
 cases e : uns l b with
 | none => rfl
 | some o => obtain ⟨x, h1, h2⟩ := uns_some e; rw [h x h1] at h2; cases h2
theorem Sat.split {w0 w : World} {K : PH} {l hs : List PH} (s : Sat w0 w K (uns l :: hs)) (d : Djs l) : Sat w0 w K (l ++ hs) := by
 rw [Sat.iff] at s ⊢
 obtain ⟨⟨h1, h2, h3, h4, h5, h6⟩, h7⟩ := s
 rw [List.pairwise_cons] at h7
 refine ⟨⟨h1, h2, h3, h4, h5, fun h hm b o hb => ?_⟩, ?_⟩
 ·rcases List.mem_append.1 hm with hm | hm
  ·exact h6 (uns l) (by simp) b o (uns_of d hm hb)
  ·exact h6 h (by simp [hm]) b o hb
 ·rw [List.pairwise_append]
  refine ⟨d, h7.2, fun x hx y hy b => ?_⟩
  cases e : x b with
  | none => exact .inl rfl
  | some o =>
   rcases h7.1 y hy b with h | h
   ·rw [uns_of d hx e] at h; cases h
   ·exact .inr h
theorem Sat.join {w0 w : World} {K : PH} (l : List PH) {hs : List PH} (s : Sat w0 w K (l ++ hs)) : Djs l /\ Sat w0 w K (uns l :: hs) := by
 rw [Sat.iff] at s ⊢
 obtain ⟨⟨h1, h2, h3, h4, h5, h6⟩, h7⟩ := s
 rw [List.pairwise_append] at h7
 obtain ⟨d, h8, h9⟩ := h7
 refine ⟨d, ⟨h1, h2, h3, h4, h5, fun h hm b o hb => ?_⟩, ?_⟩
 ·rcases List.mem_cons.1 hm with rfl | hm
  ·obtain ⟨x, g1, g2⟩ := uns_some hb
   exact h6 x (by simp [g1]) b o g2
  ·exact h6 h (by simp [hm]) b o hb
 ·rw [List.pairwise_cons]
  refine ⟨fun y hy b => ?_, h8⟩
  cases e : y b with
  | none => exact .inr rfl
  | some o =>
   refine .inl (uns_none fun x hx => ?_)
   rcases h9 x hx y hy b with h | h
   ·exact h
   ·rw [e] at h; cases h
section sj
variable {P : Program} {w0 : World} {ops : Array Oper} {Q : Exit -> Act -> World -> Prop} {rest : List Oper} {n : Nat} {l : Sl} {K : PH} {hs : List PH} {c : Code} {e : Exit} {r : Option Nat} {ds : List Deferred}
theorem WL.split {m : List PH} (d : Djs m) (hk : WL P w0 ops Q rest n l K (m ++ hs)) : WL P w0 ops Q rest n l K (uns m :: hs) := fun a w ha hw => hk a w ha (hw.split d)
theorem WC.split {m : List PH} (d : Djs m) (hk : WC P w0 c Q n l K (m ++ hs)) : WC P w0 c Q n l K (uns m :: hs) := fun a w ha hw => hk a w ha (hw.split d)
theorem WQ.split {m : List PH} (d : Djs m) (hk : WQ w0 Q e n l K (m ++ hs)) : WQ w0 Q e n l K (uns m :: hs) := fun a w ha hw => hk a w ha (hw.split d)
theorem WX.split {m : List PH} (d : Djs m) (hk : WX P w0 r ds c Q n l K (m ++ hs)) : WX P w0 r ds c Q n l K (uns m :: hs) := fun a w ha hw => hk a w ha (hw.split d)
theorem WQX.drop {h : PH} (hk : WQX ds w0 Q e n l K hs) : WQX ds w0 Q e n l K (h :: hs) := fun a w ha hw => hk a w ha hw.dropHead
theorem WX.drop {h : PH} (hk : WX P w0 r ds c Q n l K hs) : WX P w0 r ds c Q n l K (h :: hs) := fun a w ha hw => hk a w ha hw.dropHead
theorem WQX.perm {hs' : List PH} (p : hs.Perm hs') (hk : WQX ds w0 Q e n l K hs') : WQX ds w0 Q e n l K hs := fun a w ha hw => hk a w ha (hw.perm p)
theorem WX.perm {hs' : List PH} (p : hs.Perm hs') (hk : WX P w0 r ds c Q n l K hs') : WX P w0 r ds c Q n l K hs := fun a w ha hw => hk a w ha (hw.perm p)
theorem WX.frz {h : PH} (hk : ∀ K', Le K K' -> Le h K' -> WX P w0 r ds c Q n l K' hs) : WX P w0 r ds c Q n l K (h :: hs) := fun a w ha hw => by
 obtain ⟨h1, h2, h3⟩ := hw.frz
 exact hk _ h1 h2 a w ha h3
theorem WX.em (hk : WX P w0 r ds c Q n l K (En.em :: hs)) : WX P w0 r ds c Q n l K hs := fun a w ha hw => hk a w ha hw.addEm
end sj
theorem dnexL {P : Program} {w0 : World} {ops : Array Oper} {Q : Exit -> Act -> World -> Prop} {plan : List Nat} {z : Nat} {n : Nat} {l : Sl} {K K0 : PH} {hs A : List PH} {L : Array Bool} (A' : List PH) (hA : ∀ h ∈ A', h ∈ hs) (hAA : ∀ h ∈ A, h ∈ A') (hK : Le K0 K) (hk : WA P w0 ops Q K A' z plan L n l K hs) :
  WL P w0 ops (fun e a w => planOK .any ops plan L = true -> Closed .any ops L -> aft P w0 ops Q K0 A z plan L e a w) [] n l K hs := by
 intro a w ha hw
 refine wpList_nil fun hp hc => ?_
 have up : ∀ L w, still z (HasL K A') L w -> still z (HasL K0 A) L w := fun L w h hz => ⟨fun b o hb => (h hz).1 b o (hK b o hb), fun x hx => (h hz).2 x (hAA x hx)⟩
 have hst : still z (HasL K A') L w := fun _ => HasL.ofMem hw hA
 exact ⟨up _ _ hst, tr_S up _ _ _ _ (hk hp hc a w ha hw hst)⟩
section dbd
variable {P : Program} {T : Tab} {w0 : World} {ops : Array Oper} {Q : Exit -> Act -> World -> Prop} {plan plan' : List Nat} {z : Nat} {listed listed' : Array Bool} {n : Nat} {l l' : Sl} {K K0 : PH} {hs A : List PH}
def dbdAt (T : Tab) (ops : Array Oper) (n z k : Nat) (plan : List Nat) (L : Array Bool) (l : Sl) : Option (Nat × Oper × Nat × List (Nat × Value) × List Nat × Array Bool × Sl) :=
 match dopAt T ops n z k plan L l with
 | some (d, o, r, L', l') => match o.op with
  | .build t parts => match parts.toList.mapM (fun x => (ev l' x.2).map (fun v => (x.1, v))) with
   | some vs => some (d, o, t, vs, r, L', l')
   | none => none
  | _ => none
 | none => none
theorem dbd (hT : TabOK P T) (hsel : Region.noSelect ops = true) (k : Nat) {d t : Nat} {o : Oper} {vs : List (Nat × Value)} (v : Value) (h0 : dbdAt T ops n z k plan listed l = some (d, o, t, vs, plan', listed', l')) (hv : ∀ w, (Instr.build t vs.toArray).run P w = .ok v w)
  (hk : WA P w0 ops Q K0 A z plan' listed' n ((d, v) :: l') K hs) : WA P w0 ops Q K0 A z plan listed n l K hs := by
 unfold dbdAt at h0
 split at h0
 ·rename_i d' o' r L' l2 hh
  split at h0
  ·rename_i t' parts hop
   split at h0
   ·rename_i vs' hvs
    simp only [Option.some.injEq, Prod.mk.injEq] at h0
    obtain ⟨rfl, rfl, rfl, rfl, rfl, rfl, rfl⟩ := h0
    refine dop hT hsel k hh (fun a w ha => ?_) hk
    have h6 := evs_map ha _ _ hvs
    have h7 : (parts.map fun x => (x.1, a.eval x.2)) = vs'.toArray := by
     apply Array.ext'
     simpa using h6
    simp only [execOp, hop]
    have h8 := hv w
    rw [<- h7] at h8
    simp [h8]
   ·simp at h0
  ·simp at h0
 ·simp at h0
end dbd
end Go.En
end
section
namespace Go.En
attribute [local irreducible] Code.wp wpList Calls
def ItG (P : Program) (w0 : World) (f : Nat) (cap : List Value) {σ : Type} (step : σ -> List Value -> σ -> Prop) (over : σ -> Prop) (s0 : σ) (Rd : PH -> List PH -> Prop) : Prop :=
 ∀ (L : Nat) (St : σ -> PH -> List PH -> Prop) (Sp : PH -> List PH -> Prop), (∀ s K hs, St s K hs -> Rd K hs) ->
  (∀ s vs s' K hs fr, step s vs s' -> St s K hs -> YCt P w0 L vs K (hs ++ fr) (fun v K' hs' => ∃ hs1, hs' = hs1 ++ fr /\ ((v = .bool true /\ St s' K' hs1) \/ (v = .bool false /\ Sp K' hs1)))) ->
  ∀ K hs, St s0 K hs -> Ct P w0 f (.func (.yield L) #[] #[] :: cap) K hs (fun _ K' hs' => (∃ s, over s /\ St s K' hs') \/ Sp K' hs')
section it
variable {P : Program} {T : Tab} {w0 : World} {r : Option Nat} {ds : List Deferred} {ops : Array Oper} {Q : Exit -> Act -> World -> Prop} {rest rest' : List Oper} {n : Nat} {l : Sl} {K : PH} {hs : List PH}
theorem YCt.perm {L : Nat} {vs : List Value} {R : Value -> PH -> List PH -> Prop} {hs' : List PH} (p : hs.Perm hs') (h : YCt P w0 L vs K hs' R) : YCt P w0 L vs K hs R := fun w hw => h w (hw.perm p)
theorem rgG {g : Operand} {ps : Array Tmp} {assign body : Code} {f : Nat} (cap : List Value) {σ : Type} (step : σ -> List Value -> σ -> Prop) (over : σ -> Prop) (s0 : σ) (Rd : PH -> List PH -> Prop) (hg : ev l g = some (.func (.func f) #[] cap.toArray)) (it : ItG P w0 f cap step over s0 Rd) (hcal : callable P f = true)
  (hps : ∀ s vs s', step s vs s' -> vs.length = ps.size) (hpn : (ps.toList.all fun t => Nat.blt t n) = true) (St : σ -> PH -> List PH -> Prop) (Jm : Code -> PH -> List PH -> Prop) (h0 : St s0 K hs) (hRd : ∀ s K hs t u, St s K hs -> Rd K (hs ++ [t, u]))
  (round : ∀ L s vs s' K hs fr t u, step s vs s' -> St s K hs -> WX P w0 (some L) [] assign (Exit.then (aQ P w0 L n body (fun _ K hs => ∃ hs1, hs = hs1 ++ fr /\ St s' K hs1) (fun c K hs => ∃ hs1, hs = hs1 ++ fr /\ Jm c K hs1) t u 0) (fun _ _ _ => False)) n (prm ps.toList vs l) K ((hs ++ fr) ++ [t, u]))
  (done : ∀ D s K' hs', over s -> St s K' hs' -> WQX (mkd D :: ds) w0 Q .normal n l K' (hs' ++ [dfr D]))
  (stop : ∀ D c K' hs', Jm c K' hs' -> WX P w0 none (mkd D :: ds) c Q n l K' (hs' ++ [dfr D])) : WX P w0 none ds (.rangeFunc g ps assign body) Q n l K hs := by
 intro a w ha hw
 refine wpIn_rangeFunc ?_
 intro fn _
 obtain ⟨rec, hrec⟩ : ∃ rec : LoopState -> Option Code -> Loop, rec = fun st pe => { state := st, pending := pe, fn, tmps := a.tmps, params := ps, assign, body, defers := w.heap.size } := ⟨_, rfl⟩
 obtain ⟨D, hD⟩ : ∃ D, D = w.heap.size := ⟨_, rfl⟩
 obtain ⟨W1, hW1⟩ : ∃ W1, (w.alloc (.deferred (some []))).alloc (.loop (rec .ready none)) = W1 := ⟨_, rfl⟩
 have hS1 : Sat w0 W1 K (hs ++ [dfr D, sg (D + 1) (.loop (rec .ready none))]) := by
  have h1 := (hw.alloc (.deferred (some []))).alloc (.loop (rec .ready none))
  rw [World.size_alloc, <- hD, hW1] at h1
  refine h1.perm ?_
  rw [app2]
  exact ((List.perm_append_singleton _ _).symm.cons _).trans (List.perm_append_singleton _ _).symm
 refine ⟨D + 1, [mkd D], W1, { target := .fn (.func f) cap.toArray, args := #[.func (.yield (D + 1)) #[] #[]] }, W1, f, #[.func (.yield (D + 1)) #[] #[]] ++ cap.toArray, W1, ?_, ?_, ?_, ?_, fun h => by simp [fz] at h, ?_⟩
 ·rw [<- hW1, hrec, hD]; exact run_enterLoop_outer _ _ _ _ _
 ·simp only [resolve, evX ha hg]
  simp [Deferred.ofValue]
  rfl
 ·intro f' _; trivial
 ·have hcal' := hcal
  unfold callable at hcal'
  cases hfn : P.funcs[f]? with
  | none => simp [hfn] at hcal'
  | some fn =>
   simp only [hfn, Bool.and_eq_true, Bool.not_eq_true'] at hcal'
   have hbn : ¬ fn.body = none := fun e => by simp [e] at hcal'
   have hnm : ¬ fn.name = "runtime.NumGoroutine" := by simpa using hcal'.2
   simp [invoke, callFunc, hfn, hbn, hnm]
 ·have hargs : (#[Value.func (.yield (D + 1)) #[] #[]] ++ cap.toArray : Array Value) = (Value.func (.yield (D + 1)) #[] #[] :: cap).toArray := by simp
  rw [hargs]
  have key := it (D + 1) (fun s K hs => ∃ hs', hs = hs' ++ [dfr D, sg (D + 1) (.loop (rec .ready none))] /\ St s K hs') (fun K hs => ∃ c hs', hs = hs' ++ [dfr D, sg (D + 1) (.loop (rec .done (some c)))] /\ Jm c K hs')
   (by rintro i K hs ⟨hs', rfl, h⟩; exact hRd i K hs' _ _ h) ?_ K _ ⟨hs, rfl, h0⟩
  ·refine (callsIn_wide.2 (key.2 _ hS1)).mono ?_
   rintro e w2 ⟨v, K2, hs2, rfl, hh, hw2⟩
   rcases hh with ⟨s, hov, hs', rfl, hst⟩ | ⟨c, hs', rfl, hjm⟩
   ·rw [app2] at hw2
    have h1 := run_endLoop (P := P) hw2.last (by rw [hrec]; simp)
    rw [hrec] at h1
    exact ⟨none, _, h1, done D s K2 hs' hov hst a _ ha (hw2.putLast _).dropLast⟩
   ·rw [app2] at hw2
    have h1 := run_endLoop (P := P) hw2.last (by rw [hrec]; simp)
    rw [hrec] at h1
    exact ⟨some c, _, h1, stop D c K2 hs' hjm a _ ha (hw2.putLast _).dropLast⟩
  ·rintro s vs s' K1 hs1 fr hvs ⟨hs', rfl, hst⟩ w1 hw1
   have pf : ∀ (X : List PH) (t u : PH), (X ++ [t, u] ++ fr).Perm ((X ++ fr) ++ [t, u]) := fun X t u => by
    rw [List.append_assoc, List.append_assoc]
    exact List.perm_append_comm.append_left X
   replace hw1 := hw1.perm (pf hs' _ _)
   have hl1 : w1.heap[D + 1]? = some (.loop (rec .ready none)) := by rw [app2] at hw1; exact hw1.last
   have hsz : vs.toArray.size = (rec .ready none).params.size := by rw [hrec]; simpa using hps s vs s' hvs
   have hy := run_yield (P := P) hl1 hsz
   refine ⟨_, _, _, _, hy, roundIn_of_wpIn (F := fz none) trivial ?_⟩
   have hA : Ag n (prm ps.toList vs l) { tmps := ((rec .ready none).params.zip vs.toArray).foldl (fun tmps (t, a) => tmps.setIfInBounds t a) (rec .ready none).tmps, defers := [] } := by
    have h1 := Ag.prm ps.toList vs ha (fun t ht => Nat.le_of_ble_eq_true (List.all_eq_true.1 hpn t ht))
    rw [hrec]
    have e1 : (ps.zip vs.toArray).foldl (fun tmps (x : Nat × Value) => tmps.setIfInBounds x.1 x.2) a.tmps = (ps.toList.zip vs).foldl (fun tmps (x : Nat × Value) => tmps.setIfInBounds x.1 x.2) a.tmps := by
     rw [<- Array.foldl_toList]; simp
    show Ag n _ { tmps := (ps.zip vs.toArray).foldl (fun tmps (x : Nat × Value) => tmps.setIfInBounds x.1 x.2) a.tmps, defers := [] }
    rw [e1]; exact h1
   have h2 := round (D + 1) s vs s' K1 hs' fr (dfr D) (sg (D + 1) (.loop (rec .ready none))) hvs hst _ w1 hA hw1
   rw [hrec] at h2 ⊢
   refine wpIn_mono h2 ?_
   intro e a3 w3 hq
   cases e with
   | normal =>
    obtain ⟨l', K', hs3, hA3, hS3, hb⟩ := hq
    rw [app2] at hS3
    refine ⟨_, run_beginRound hS3.last rfl, ?_⟩
    have hS4 := hS3.putLast (.loop { rec .ready none with state := .busy })
    rw [hrec] at hS4
    have h5 := hb _ a3 _ hA3 (by rw [app2]; exact hS4)
    rw [wd_nil hA3] at h5
    refine wpIn_mono h5 ?_
    intro e a4 w4 hq4
    cases e with
    | normal =>
     obtain ⟨K5, hs5, hS5, hs6, rfl, hst5⟩ := hq4
     rw [app2] at hS5
     refine ⟨_, _, run_endRound none hS5.last, _, K5, _, rfl, ⟨_, rfl, .inl ⟨rfl, hs6, rfl, hst5⟩⟩, ?_⟩
     refine Sat.perm (pf hs6 _ _).symm ?_
     rw [app2]; exact hS5.putLast _
    | ret =>
     obtain ⟨K5, hs5, hS5, hs6, rfl, hst5⟩ := hq4
     rw [app2] at hS5
     refine ⟨_, _, run_endRound (some .ret) hS5.last, _, K5, _, rfl, ⟨_, rfl, .inr ⟨rfl, .ret, hs6, rfl, hst5⟩⟩, ?_⟩
     refine Sat.perm (pf hs6 _ _).symm ?_
     rw [app2]; exact hS5.putLast _
    | exit id =>
     obtain ⟨K5, hs5, hS5, hs6, rfl, hst5⟩ := hq4
     rw [app2] at hS5
     refine ⟨_, _, run_endRound (some (.exit id)) hS5.last, _, K5, _, rfl, ⟨_, rfl, .inr ⟨rfl, .exit id, hs6, rfl, hst5⟩⟩, ?_⟩
     refine Sat.perm (pf hs6 _ _).symm ?_
     rw [app2]; exact hS5.putLast _
    | goto l => exact hq4.elim
    | panic ch => exact hq4.elim
    | outgrown => exact hq4.elim
   | exit id => exact hq.elim
   | goto l => exact hq.elim
   | ret => exact hq.elim
   | panic ch => exact hq.elim
   | outgrown => exact hq.elim
end it
end Go.En
end
section
namespace Go.En
def MR {κ α : Type} (R : Value -> α -> Prop) : List (κ × Value) -> List (κ × α) -> Prop
 | [], [] => True
 | (k, v) :: r, (j, x) :: q => k = j /\ R v x /\ MR R r q
 | _, _ => False
section
variable {κ α : Type} {R R' : Value -> α -> Prop}
theorem MR.imp (h : ∀ v x, R v x -> R' v x) : ∀ {a : List (κ × Value)} {b : List (κ × α)}, MR R a b -> MR R' a b
 | [], [], g => g
 | (k, v) :: r, (j, x) :: q, g => ⟨g.1, h v x g.2.1, MR.imp h g.2.2⟩
 | [], _ :: _, g => g.elim
 | _ :: _, [], g => g.elim
theorem MR.keys : ∀ {a : List (κ × Value)} {b : List (κ × α)}, MR R a b -> a.map (·.1) = b.map (·.1)
 | [], [], _ => rfl
 | (k, v) :: r, (j, x) :: q, g => by simp [g.1, MR.keys g.2.2]
 | [], _ :: _, g => g.elim
 | _ :: _, [], g => g.elim
theorem MR.len {a : List (κ × Value)} {b : List (κ × α)} (g : MR R a b) : a.length = b.length := by have := congrArg List.length g.keys; simpa using this
theorem MR.mem {k : κ} {v : Value} : ∀ {a : List (κ × Value)} {b : List (κ × α)}, MR R a b -> (k, v) ∈ a -> ∃ x, (k, x) ∈ b /\ R v x
 | (j, u) :: r, (i, y) :: q, g, hm => by
  obtain ⟨rfl, h2, g2⟩ := g
  rcases List.mem_cons.1 hm with hm | hm
  ·simp only [Prod.mk.injEq] at hm
   obtain ⟨rfl, rfl⟩ := hm
   exact ⟨y, by simp, h2⟩
  ·obtain ⟨x, h3, h4⟩ := MR.mem g2 hm
   exact ⟨x, by simp [h3], h4⟩
 | [], _, _, hm => by simp at hm
 | _ :: _, [], g, _ => g.elim
variable [DecidableEq κ]
theorem MR.get (k : κ) : ∀ {a : List (κ × Value)} {b : List (κ × α)}, MR R a b -> (mget k a = none /\ mget k b = none) \/ ∃ v x, mget k a = some v /\ mget k b = some x /\ R v x
 | [], [], _ => .inl ⟨rfl, rfl⟩
 | (j, v) :: r, (i, x) :: q, g => by
  obtain ⟨rfl, h, g2⟩ := g
  by_cases e : k = j
  ·exact .inr ⟨v, x, by simp [mget, e], by simp [mget, e], h⟩
  ·rcases MR.get k g2 with ⟨h1, h2⟩ | ⟨u, y, h1, h2, h3⟩
   ·exact .inl ⟨by simp [mget, e, h1], by simp [mget, e, h2]⟩
   ·exact .inr ⟨u, y, by simp [mget, e, h1], by simp [mget, e, h2], h3⟩
 | [], _ :: _, g => g.elim
 | _ :: _, [], g => g.elim
theorem MR.set {k : κ} {v : Value} {x : α} (h : R v x) : ∀ {a : List (κ × Value)} {b : List (κ × α)}, MR R a b -> MR R (mset k v a) (mset k x b)
 | [], [], _ => ⟨rfl, h, trivial⟩
 | (j, u) :: r, (i, y) :: q, g => by
  obtain ⟨rfl, h2, g2⟩ := g
  by_cases e : k = j
  ·simp only [mset, e, if_true]; exact ⟨rfl, h, g2⟩
  ·simp only [mset, e, if_false]; exact ⟨rfl, h2, MR.set h g2⟩
 | [], _ :: _, g => g.elim
 | _ :: _, [], g => g.elim
end
structure Sec where
 vs : List (List UInt8)
 syn : Bool
abbrev Ar := List (Int × Sec)
structure Dk where
 room : Int
 steps : Int
 areas : List (Int × Ar)
 left : Int
 dead : Bool
def padS (b : List UInt8) : List UInt8 := b ++ List.replicate (64 - b.length) 0
def Dk.stp (D : Dk) : Dk := { D with steps := D.steps + 1, dead := decide (D.left = 0), left := if D.left > 0 then D.left - 1 else D.left }
def Dk.ar (D : Dk) (a : Int) : Ar := (mget a D.areas).getD []
def Dk.sec (D : Dk) (a n : Int) : Option Sec := mget n (D.ar a)
def secW (s : Option Sec) (b : List UInt8) : Sec := ⟨(s.getD ⟨[], false⟩).vs ++ [padS b], (s.getD ⟨[], false⟩).syn⟩
def Dk.laid (D : Dk) (a n : Int) (b : List UInt8) : Dk :=
 { D with room := if (D.sec a n).isSome = true then D.room else D.room - 1, areas := mset a (mset n (secW (D.sec a n) b) (D.ar a)) D.areas }
def Dk.write (D : Dk) (a n : Int) (b : List UInt8) : Dk × Int :=
 if D.dead = true then (D, 30) else if n < 0 \/ 65536 <= n \/ 64 < b.length then (D, 31) else if (D.sec a n).isSome = false /\ D.room = 0 then (D, 32)
 else ((D.laid a n b).stp, if (D.laid a n b).stp.dead = true then 30 else 0)
def secS (s : Sec) : Sec := ⟨[s.vs.getLastD []], true⟩
def Dk.synA (D : Dk) (a : Int) : List (Int × Ar) :=
 match mget a D.areas with
 | some l => mset a (l.map fun x => (x.1, secS x.2)) D.areas
 | none => D.areas
def Dk.sync (D : Dk) (a : Int) : Dk × Int :=
 if D.dead = true then (D, 30) else if D.stp.dead = true then (D.stp, 30)
 else ({ D.stp with areas := D.synA a }, 0)
def Dk.free (D : Dk) (a : Int) : Dk × Int :=
 if D.dead = true then (D, 30) else if D.stp.dead = true then (D.stp, 30)
 else ({ D.stp with room := D.room + ((D.ar a).length : Int), areas := mdel a D.areas }, 0)
def Dk.read (D : Dk) (a n : Int) : Option (List UInt8) := (D.sec a n).map fun s => s.vs.getLastD []
structure Dk.Ok (c : Nat) (D : Dk) : Prop where
 keys : (D.areas.map (·.1)).Nodup
 ns : ∀ x ∈ D.areas, (x.2.map (·.1)).Nodup /\ x.2.length <= c
 vs : ∀ x ∈ D.areas, ∀ y ∈ x.2, y.2.vs ≠ [] /\ y.2.vs.length <= c /\ ∀ b ∈ y.2.vs, b.length = 64
 room : 0 <= D.room /\ D.room <= 1099511627776
 steps : 0 <= D.steps /\ D.steps <= c
 left : -1 <= D.left /\ D.left <= 9223372036854775807
 at_ : ∀ x ∈ D.areas, ∀ y ∈ x.2, 0 <= y.1 /\ y.1 < 65536
section
variable {κ ν : Type} [DecidableEq κ]
theorem mset_mem {k : κ} {v : ν} {x : κ × ν} : ∀ {m : List (κ × ν)}, x ∈ mset k v m -> x = (k, v) \/ x ∈ m
 | [], h => by simp [mset] at h; exact .inl h
 | (j, u) :: m, h => by
  by_cases e : k = j
  ·simp only [mset, e, if_true, List.mem_cons] at h
   rcases h with h | h
   ·rw [e]; exact .inl h
   ·exact .inr (by simp [h])
  ·simp only [mset, e, if_false, List.mem_cons] at h
   rcases h with h | h
   ·exact .inr (by simp [h])
   ·rcases mset_mem h with h | h
    ·exact .inl h
    ·exact .inr (by simp [h])
theorem mset_nodup {k : κ} {v : ν} {m : List (κ × ν)} (h : (m.map (·.1)).Nodup) : ((mset k v m).map (·.1)).Nodup := by
 rw [mset_keys]
 split
 ·exact h
 ·rename_i hn
  rw [List.nodup_append]
  refine ⟨h, by simp, ?_⟩
  intro a ha b hb
  simp only [List.mem_singleton] at hb
  subst hb
  intro e
  subst e
  have : mget a m = none := by
   cases hm : mget a m with
   | none => rfl
   | some u => rw [hm] at hn; simp at hn
  exact mget_none.1 this ha
theorem mdel_sub {k : κ} : ∀ (m : List (κ × ν)), (mdel k m).Sublist m
 | [] => by simp [mdel]
 | (j, u) :: m => by
  by_cases e : k = j
  ·simp only [mdel, e, if_true]
   first | exact List.sublist_cons_self _ _ | exact (mdel_sub m).trans (List.sublist_cons_self _ _)
  ·simp only [mdel, e, if_false]
   exact (mdel_sub m).cons_cons _
end
theorem padS_len {b : List UInt8} (h : b.length <= 64) : (padS b).length = 64 := by simp [padS]; omega
theorem Dk.ar_mem {D : Dk} {a : Int} (x : Int × Sec) (h : x ∈ D.ar a) : ∃ l, (a, l) ∈ D.areas /\ D.ar a = l := by
 unfold Dk.ar at h ⊢
 cases hg : mget a D.areas with
 | none => rw [hg] at h; simp at h
 | some l => exact ⟨l, mget_mem hg, rfl⟩
theorem Dk.Ok.arNodup {c : Nat} {D : Dk} (o : D.Ok c) (a : Int) : ((D.ar a).map (·.1)).Nodup /\ (D.ar a).length <= c := by
 unfold Dk.ar
 cases hg : mget a D.areas with
 | none => simp
 | some l => exact o.ns _ (mget_mem hg)
theorem Dk.Ok.secOk {c : Nat} {D : Dk} (o : D.Ok c) {a n : Int} {s : Sec} (h : D.sec a n = some s) : s.vs ≠ [] /\ s.vs.length <= c /\ ∀ b ∈ s.vs, b.length = 64 := by
 have hm := mget_mem h
 obtain ⟨l, h1, h2⟩ := Dk.ar_mem _ hm
 rw [h2] at hm
 exact o.vs _ h1 _ hm
theorem Dk.Ok.up {c d : Nat} {D : Dk} (o : D.Ok c) (h : c <= d) : D.Ok d :=
 ⟨o.keys, fun x hx => ⟨(o.ns x hx).1, Nat.le_trans (o.ns x hx).2 h⟩, fun x hx y hy => ⟨(o.vs x hx y hy).1, Nat.le_trans (o.vs x hx y hy).2.1 h, (o.vs x hx y hy).2.2⟩, o.room, ⟨o.steps.1, by have := o.steps.2; omega⟩, o.left, o.at_⟩
theorem stp_left {x : Int} (h : -1 <= x /\ x <= 9223372036854775807) : -1 <= (if x > 0 then x - 1 else x) /\ (if x > 0 then x - 1 else x) <= 9223372036854775807 := by
 by_cases g : x > 0
 ·rw [if_pos g]; omega
 ·rw [if_neg g]; exact h
theorem Dk.Ok.stp {c : Nat} {D : Dk} (o : D.Ok c) : D.stp.Ok (c + 1) :=
 ⟨o.keys, fun x hx => ⟨(o.ns x hx).1, Nat.le_trans (o.ns x hx).2 (Nat.le_succ c)⟩, fun x hx y hy => ⟨(o.vs x hx y hy).1, Nat.le_trans (o.vs x hx y hy).2.1 (Nat.le_succ c), (o.vs x hx y hy).2.2⟩, o.room, ⟨by have := o.steps.1; simp only [Dk.stp]; omega, by have := o.steps.2; simp only [Dk.stp]; omega⟩, stp_left o.left, o.at_⟩
theorem Dk.Ok.write {c : Nat} {D : Dk} (o : D.Ok c) (a n : Int) (b : List UInt8) : (D.write a n b).1.Ok (c + 1) := by
 unfold Dk.write
 split
 ·exact o.up (Nat.le_succ c)
 ·split
  ·exact o.up (Nat.le_succ c)
  ·rename_i hform
   split
   ·exact o.up (Nat.le_succ c)
   ·rename_i hfull
    have hn : 0 <= n /\ n < 65536 /\ b.length <= 64 := by omega
    have hsec : (secW (D.sec a n) b).vs ≠ [] /\ (secW (D.sec a n) b).vs.length <= c + 1 /\ ∀ d ∈ (secW (D.sec a n) b).vs, d.length = 64 := by
     unfold secW
     cases hs : D.sec a n with
     | none =>
      simp only [Option.getD_none, List.nil_append]
      exact ⟨by simp, by simp, by simpa using padS_len hn.2.2⟩
     | some s =>
      obtain ⟨h1, h2, h3⟩ := o.secOk hs
      simp only [Option.getD_some]
      refine ⟨by simp, by simp; omega, ?_⟩
      intro d hd
      rcases List.mem_append.1 hd with hd | hd
      ·exact h3 d hd
      ·simp only [List.mem_singleton] at hd; subst hd; exact padS_len hn.2.2
    have hrm : 0 <= (D.laid a n b).room /\ (D.laid a n b).room <= 1099511627776 := by
     have := o.room
     unfold Dk.laid
     dsimp only
     split
     ·exact this
     ·rename_i hns
      have : ¬ D.room = 0 := fun h => hfull ⟨by simpa using hns, h⟩
      omega
    obtain ⟨hnd, hlc⟩ := o.arNodup a
    refine ⟨?_, ?_, ?_, hrm, ⟨by have := o.steps.1; simp only [Dk.stp, Dk.laid]; omega, by have := o.steps.2; simp only [Dk.stp, Dk.laid]; omega⟩, stp_left o.left, ?_⟩
    ·exact mset_nodup o.keys
    ·intro x hx
     rcases mset_mem hx with rfl | hx
     ·refine ⟨mset_nodup hnd, ?_⟩
      rw [mset_length]
      split <;> omega
     ·exact ⟨(o.ns x hx).1, Nat.le_trans (o.ns x hx).2 (Nat.le_succ c)⟩
    ·intro x hx y hy
     rcases mset_mem hx with rfl | hx
     ·rcases mset_mem hy with rfl | hy
      ·exact hsec
      ·obtain ⟨l, h1, h2⟩ := Dk.ar_mem _ hy
       rw [h2] at hy
       obtain ⟨h3, h4, h5⟩ := o.vs _ h1 _ hy
       exact ⟨h3, Nat.le_trans h4 (Nat.le_succ c), h5⟩
     ·obtain ⟨h3, h4, h5⟩ := o.vs _ hx _ hy
      exact ⟨h3, Nat.le_trans h4 (Nat.le_succ c), h5⟩
    ·intro x hx y hy
     rcases mset_mem hx with rfl | hx
     ·rcases mset_mem hy with rfl | hy
      ·exact ⟨hn.1, hn.2.1⟩
      ·obtain ⟨l, h1, h2⟩ := Dk.ar_mem _ hy
       rw [h2] at hy
       exact o.at_ _ h1 _ hy
     ·exact o.at_ _ hx _ hy
theorem Dk.Ok.sync {c : Nat} {D : Dk} (o : D.Ok c) (a : Int) : (D.sync a).1.Ok (c + 1) := by
 unfold Dk.sync
 split
 ·exact o.up (Nat.le_succ c)
 ·split
  ·exact o.stp
  ·have os := o.stp
   unfold Dk.synA
   cases hg : mget a D.areas with
   | none => exact os
   | some l =>
    have hl := mget_mem hg
    refine ⟨mset_nodup o.keys, ?_, ?_, os.room, os.steps, os.left, ?_⟩
    ·intro x hx
     rcases mset_mem hx with rfl | hx
     ·have h1 := (o.ns _ hl)
      refine ⟨?_, by rw [List.length_map]; exact Nat.le_trans h1.2 (Nat.le_succ c)⟩
      rw [List.map_map]
      exact h1.1
     ·exact os.ns x hx
    ·intro x hx y hy
     rcases mset_mem hx with rfl | hx
     ·obtain ⟨z, hz, rfl⟩ := List.mem_map.1 hy
      obtain ⟨h3, h4, h5⟩ := o.vs _ hl _ hz
      refine ⟨by simp [secS], by simp [secS], ?_⟩
      intro b hb
      simp only [secS, List.mem_singleton] at hb
      subst hb
      rw [List.getLastD_eq_getLast?, List.getLast?_eq_some_getLast h3]
      exact h5 _ (List.getLast_mem h3)
     ·exact os.vs x hx y hy
    ·intro x hx y hy
     rcases mset_mem hx with rfl | hx
     ·obtain ⟨z, hz, rfl⟩ := List.mem_map.1 hy
      exact o.at_ (a, l) hl z hz
     ·exact o.at_ _ hx _ hy
theorem Dk.Ok.free {c : Nat} {D : Dk} (o : D.Ok c) (a : Int) (hr : D.room + ((D.ar a).length : Int) <= 1099511627776) : (D.free a).1.Ok (c + 1) := by
 unfold Dk.free
 split
 ·exact o.up (Nat.le_succ c)
 ·split
  ·exact o.stp
  ·have os := o.stp
   have hs := mdel_sub (k := a) D.areas
   exact ⟨(hs.map _).nodup o.keys, fun x hx => os.ns x (hs.subset hx), fun x hx => os.vs x (hs.subset hx), ⟨by have := o.room; dsimp only; omega, hr⟩, os.steps, os.left, fun x hx => o.at_ x (hs.subset hx)⟩
end Go.En
end
section
namespace Go.En
section
variable {P : Program} {T : Tab} {w0 : World} {ops : Array Oper} {Q : Exit -> Act -> World -> Prop} {rest rest' : List Oper} {n : Nat} {l l' : Sl} {K : PH} {hs : List PH}
variable {κ : Type} [DecidableEq κ] {enc : κ -> Value} {h : PH} {b : Nat} {m : List (κ × Value)}
end
end Go.En
namespace Go.En
attribute [local irreducible] Code.wp wpList Calls
end Go.En
namespace Go.En
attribute [local irreducible] Code.wp wpList Calls
theorem run_append_full {P : Program} {w0 w : World} {K : PH} {hs : List PH} (t ty e : TypeId) (i : TypeInfo) (z : Value) (ht : P.underlying t = some (.slice e)) (hi : P.info? e = some i) (hz : i.zero = some z)
  (hzs : z.cells.size = i.size) (s0 : Sat w0 w K hs) {hv h2 : PH} {ao ao2 : Option Addr} {n cap m c2 : Nat} {xs news : List Value} (hm1 : In K hs hv) (o : IsS hv ao n cap i.size xs) (hnone : ao = none -> cap = 0)
  (hm : In K hs h2) (x : IsS h2 ao2 m c2 i.size news) (hsz : 0 < i.size) (hroom : ¬ n + m <= cap) (hb : (n + m) * i.bytes <= 140737488355328) (h63 : n + m <= maxLen) :
  ∃ ao' cap' h' w', (Builtin.append_ #[t, t] ty #[.slice ao n cap, .slice ao2 m c2]).run P w = .ok (.slice ao' (n + m) cap') w' /\ Own h' ao' (n + m) cap' e i.size (xs ++ news) /\ Sat w0 w' K (h' :: hs) := by
 have hlen : (xs ++ news).length = (n + m) * i.size := by rw [List.length_append, o.1, x.1, Nat.add_mul]
 have s : Sat w0 w K (em :: hs) := s0.addEm
 have hm0 : 0 < m := by have := o.2.1; omega
 obtain ⟨a2, rfl⟩ := x.addr hm0 hsz
 have hnews : ∀ (j : Nat) v, news[j]? = some v -> w.cell? (a2.add j) = some v := fun j v hv => by
  obtain ⟨a', ha, hc⟩ := x.2.2 j v hv
  cases ha
  exact s0.cell hm hc
 have grown : ∀ old, old < n + m -> Own (pt w.heap.size (xs.toArray ++ news.toArray ++ Builtin.zeroCells z.cells (grownCap w (n + m) old e - (n + m))) e) (some ⟨w.heap.size, 0, none⟩) (n + m) (grownCap w (n + m) old e) e i.size (xs ++ news) /\
   Sat w0 (w.drew.alloc (.cells (xs.toArray ++ news.toArray ++ Builtin.zeroCells z.cells (grownCap w (n + m) old e - (n + m))) e)) K ((em :: hs).set 0 (pt w.heap.size (xs.toArray ++ news.toArray ++ Builtin.zeroCells z.cells (grownCap w (n + m) old e - (n + m))) e)) := by
  intro old ho
  have hge := grownCap_ge w (n + m) old e
  have hcm : grownCap w (n + m) old e <= maxLen := grownCap_le_maxLen w (n + m) old e h63
  refine ⟨⟨hlen, hge, hcm, .inr ⟨_, 0, _, rfl, rfl, ?_, ?_⟩⟩, ?_⟩
  ·simp only [Array.size_append, List.size_toArray, size_zeroCells, hzs, o.1, x.1, <- Nat.add_mul, Nat.zero_add]
   congr 1
   omega
  ·simp only [Array.toList_append, List.append_assoc, List.drop_zero]
   rw [<- List.append_assoc, <- hlen]
   exact List.take_left
  ·refine s.upd (i := 0) rfl rfl rfl rfl (by simp) ?_ ?_ ?_
   ·intro b ob hb'
    simp only [pt, sg] at hb'
    split at hb'
    ·rename_i e1; subst e1; cases hb'; exact heap_alloc_new w.drew _
    ·cases hb'
   ·intro b hb' _
    exact RowKit.Below.heap_alloc w.drew _ b hb'
   ·intro b ob hb' _
    simp only [pt, sg] at hb'
    split at hb'
    ·rename_i e1; omega
    ·cases hb'
 cases ao with
 | none =>
  obtain rfl := hnone rfl
  obtain rfl : n = 0 := by have := o.2.1; omega
  obtain rfl : xs = [] := List.eq_nil_of_length_eq_zero (by simpa using o.1)
  have hr := run_append_nil (P := P) w t ty e i z ht hi hz a2 m c2 news x.1 hnews hm0 (by simp only [maxLen] at h63; omega) (by simp only [Nat.zero_add] at hb; omega)
  have hgr := grown 0 (by omega)
  simp only [Nat.zero_add, List.nil_append, Array.empty_append] at hgr ⊢
  exact ⟨_, _, _, _, hr, hgr.1, hgr.2⟩
 | some a =>
  have holds : ∀ (k : Nat) u, xs[k]? = some u -> w.cell? (a.add k) = some u := fun k u hu => by
   obtain ⟨a', ha, hc⟩ := o.2.2 k u hu
   cases ha
   exact s0.cell hm1 hc
  have hr := run_append_grow (P := P) w t ty e i z ht hi hz a n cap xs o.1 holds a2 m c2 news x.1 hnews (by omega) (by simp only [maxLen] at h63; omega) (growslice_fits (by omega) hb)
  have hgr := grown cap (by omega)
  exact ⟨_, _, _, _, hr, hgr.1, hgr.2⟩
theorem appf {P : Program} {T : Tab} {w0 : World} {ops : Array Oper} {Q : Exit -> Act -> World -> Prop} {rest rest' : List Oper} {n : Nat} {l l' : Sl} {K : PH} {hs : List PH}
  (hT : TabOK P T) (k : Nat) {d : Nat} {si : SlI} {ao ao2 : Option Addr} {n1 c1 n2 c2 : Nat} {hv h2 : PH} {xs news : List Value} (h0 : apAt T ops n k rest l = some (d, si, (ao, n1, c1), (ao2, n2, c2), rest', l'))
  (hm1 : In K hs hv) (o : IsS hv ao n1 c1 si.size xs) (hnone : ao = none -> c1 = 0) (hm : In K hs h2) (x : IsS h2 ao2 n2 c2 si.size news) (hz : si.zero.cells.size = si.size) (hsz : 0 < si.size) (hroom : ¬ n1 + n2 <= c1)
  (hb : (n1 + n2) * si.bytes <= 140737488355328) (h63 : n1 + n2 <= maxLen)
  (hk : ∀ ao' cap' h', Own h' ao' (n1 + n2) cap' si.elem si.size (xs ++ news) -> WL P w0 ops Q rest' n ((d, .slice ao' (n1 + n2) cap') :: l') K (h' :: hs)) : WL P w0 ops Q rest n l K hs := by
 unfold apAt at h0
 split at h0
 ·rename_i oo r l2 ho
  split at h0
  ·rename_i d' args argTypes hd hop
   split at h0
   ·rename_i x' y' t t' e1 e2
    split at h0
    ·rename_i si' a1 m1 k1 a2 m2 k2 hb' htt hsi hx hy
     simp only [Option.some.injEq, Prod.mk.injEq] at h0
     obtain ⟨rfl, rfl, ⟨rfl, rfl, rfl⟩, ⟨rfl, rfl, rfl⟩, rfl, rfl⟩ := h0
     have htt' : t = t' := Nat.eq_of_beq_eq_true htt
     subst htt'
     have a1' : args = #[x', y'] := by cases args; simp_all
     have a2' : argTypes = #[t, t] := by cases argTypes; simp_all
     subst a1'
     subst a2'
     obtain ⟨g1, ii, g2, g3, g4, g5⟩ := hT.sl hsi
     refine WL.at' hT ho fun hg => WL.val (R := fun u K' hs' => ∃ ao' cap' h', u = .slice ao' (m1 + m2) cap' /\ Own h' ao' (m1 + m2) cap' si'.elem si'.size (xs ++ news) /\ K' = K /\ hs' = h' :: hs) hd hb' hg
      (fun A w ha hw => ?_) ?_
     ·rw [<- g4] at o x hz hsz
      rw [<- g5] at hb
      obtain ⟨ao', cap', h', w', hr, ho', hs'⟩ := run_append_full (P := P) t oo.type si'.elem ii si'.zero g1 g2 g3 hz hw hm1 o hnone hm x hsz hroom hb h63
      refine ⟨_, w', K, _, ?_, hs', ao', cap', h', rfl, by rw [<- g4]; exact ho', rfl, rfl⟩
      simp only [execOp, hop]
      simp [resolve, invoke, builtin, ha.ev hx, ha.ev hy, hr]
     ·rintro u K' hs' ⟨ao', cap', h', rfl, ho', rfl, rfl⟩
      exact hk ao' cap' h' ho'
    ·simp at h0
   ·simp at h0
  ·simp at h0
 ·simp at h0
end Go.En
end
section
namespace Go.En
def tvv (l : List (List UInt8)) : List Value := l.map str
def SecR (K : PH) (v : Value) (s : Sec) : Prop := ∃ ao c, v = .agg #[.slice ao s.vs.length c, .bool s.syn] /\ IsS K ao s.vs.length c 1 (tvv s.vs)
def encU (n : Int) : Value := .int .u64 n
def encI (n : Int) : Value := .int .i64 n
def encB (b : Nat) : Value := .map (some b)
def dkA (D : Dk) (bo : Nat) : Array Value := #[.int .i64 D.room, .int .i64 D.steps, .map (some bo), .int .i64 D.left, .bool D.dead]
abbrev Ins := List (Int × Nat × PH)
def InsR (K : PH) : Ins -> List (Int × Ar) -> Prop
 | [], [] => True
 | x :: r, y :: q => x.1 = y.1 /\ (∃ mv, MpO encI id x.2.2 x.2.1 mv /\ MR (SecR K) mv y.2) /\ InsR K r q
 | _, _ => False
theorem SecR.le {K K' : PH} (l : Le K K') {v : Value} {s : Sec} (h : SecR K v s) : SecR K' v s := let ⟨a, c, h1, h2⟩ := h; ⟨a, c, h1, h2.le l⟩
theorem InsR.le {K K' : PH} (l : Le K K') : ∀ {i : Ins} {q : List (Int × Ar)}, InsR K i q -> InsR K' i q
 | [], [], h => h
 | x :: r, y :: q, ⟨h1, ⟨mv, h2, h3⟩, h4⟩ => ⟨h1, ⟨mv, h2, h3.imp fun _ _ h => h.le l⟩, InsR.le l h4⟩
 | [], _ :: _, h => h.elim
 | _ :: _, [], h => h.elim
theorem insGet {K : PH} {a : Int} : ∀ {i : Ins} {q : List (Int × Ar)} {l : Ar}, InsR K i q -> mget a q = some l -> ∃ i1 bi hi mv i2 q1 q2, i = i1 ++ (a, bi, hi) :: i2 /\ q = q1 ++ (a, l) :: q2 /\ a ∉ q1.map (·.1) /\ InsR K i1 q1 /\ InsR K i2 q2 /\ MpO encI id hi bi mv /\ MR (SecR K) mv l
 | [], [], _, _, h => by cases h
 | x :: r, y :: q, l, ⟨h1, ⟨mv, h2, h3⟩, h4⟩, h => by
  obtain ⟨y1, y2⟩ := y
  obtain ⟨x1, x2, x3⟩ := x
  dsimp only at h1 h2 h3
  subst h1
  by_cases e : a = x1
  ·subst e
   simp only [mget, if_true, Option.some.injEq] at h
   subst h
   exact ⟨[], x2, x3, mv, r, [], q, rfl, rfl, by simp, trivial, h4, h2, h3⟩
  ·simp only [mget, e, if_false] at h
   obtain ⟨i1, bi, hi, mv', i2, q1, q2, g1, g2, g3, g4, g5, g6, g7⟩ := insGet h4 h
   exact ⟨(x1, x2, x3) :: i1, bi, hi, mv', i2, (x1, y2) :: q1, q2, by rw [g1]; rfl, by rw [g2]; rfl, by simp [e]; simpa using g3, ⟨rfl, ⟨mv, h2, h3⟩, g4⟩, g5, g6, g7⟩
 | [], _ :: _, _, h, _ => h.elim
 | _ :: _, [], _, h, _ => h.elim
theorem insKeys {K : PH} : ∀ {i : Ins} {q : List (Int × Ar)}, InsR K i q -> i.map (·.1) = q.map (·.1)
 | [], [], _ => rfl
 | x :: r, y :: q, ⟨h1, _, h4⟩ => by simp [h1, insKeys h4]
 | [], _ :: _, h => h.elim
 | _ :: _, [], h => h.elim
theorem InsR.app {K : PH} : ∀ {i j : Ins} {q r : List (Int × Ar)}, InsR K i q -> InsR K j r -> InsR K (i ++ j) (q ++ r)
 | [], _, [], _, _, h => h
 | x :: i, _, y :: q, _, ⟨h1, h2, h3⟩, h => ⟨h1, h2, InsR.app h3 h⟩
 | [], _, _ :: _, _, h, _ => h.elim
 | _ :: _, _, [], _, h, _ => h.elim
theorem mset_at {κ ν : Type} [DecidableEq κ] {k : κ} {u v : ν} {q2 : List (κ × ν)} : ∀ {q1 : List (κ × ν)}, k ∉ q1.map (·.1) -> mset k v (q1 ++ (k, u) :: q2) = q1 ++ (k, v) :: q2
 | [], _ => by simp [mset]
 | (j, w) :: q1, h => by
  simp only [List.map_cons, List.mem_cons, not_or] at h
  simp only [List.cons_append, mset, h.1, if_false]
  rw [mset_at h.2]
theorem mdel_at {κ ν : Type} [DecidableEq κ] {k : κ} {u : ν} {q2 : List (κ × ν)} : ∀ {q1 : List (κ × ν)}, k ∉ q1.map (·.1) -> mdel k (q1 ++ (k, u) :: q2) = q1 ++ q2
 | [], _ => by simp [mdel]
 | (j, w) :: q1, h => by
  simp only [List.map_cons, List.mem_cons, not_or] at h
  simp only [List.cons_append, mdel, h.1, if_false]
  rw [mdel_at h.2]
theorem mget_at {κ ν : Type} [DecidableEq κ] {k : κ} {u : ν} {q2 : List (κ × ν)} : ∀ {q1 : List (κ × ν)}, k ∉ q1.map (·.1) -> mget k (q1 ++ (k, u) :: q2) = some u
 | [], _ => by simp [mget]
 | (j, w) :: q1, h => by
  simp only [List.map_cons, List.mem_cons, not_or] at h
  simp only [List.cons_append, mget, h.1, if_false]
  exact mget_at h.2
theorem mset_new {κ ν : Type} [DecidableEq κ] {k : κ} {v : ν} : ∀ {q : List (κ × ν)}, mget k q = none -> mset k v q = q ++ [(k, v)]
 | [], _ => rfl
 | (j, w) :: q, h => by
  by_cases e : k = j
  ·simp [mget, e] at h
  ·simp only [mget, e, if_false] at h
   simp only [mset, e, if_false, List.cons_append]
   rw [mset_new h]
def insO (i : Ins) : List (Int × Nat) := i.map fun x => (x.1, x.2.1)
def insH (i : Ins) : List PH := i.map (·.2.2)
end Go.En
namespace Go.Proofs.YtcncpbolcigpnaaGreat
open Go.En
attribute [local irreducible] Code.wp wpList Calls
def DskM (K : PH) (b : Nat) (D : Dk) (m : List PH) : Prop := ∃ bo ho ins, m = pt b (dkA D bo) 93 :: ho :: insH ins /\ MpO encU encB ho bo (insO ins) /\ InsR K ins D.areas
theorem DskM.le {K K' : PH} (l : Le K K') {b : Nat} {D : Dk} {m : List PH} (h : DskM K b D m) : DskM K' b D m := let ⟨bo, ho, ins, h1, h2, h3⟩ := h; ⟨bo, ho, ins, h1, h2, h3.le l⟩
theorem clipSC {w0 : World} {K : PH} {hs : List PH} (ao : Option Addr) (n c : Nat) (hn : n <= c) : Ct Tryz.prog w0 138 [.slice ao n c] K hs (fun v K' hs' => K' = K /\ hs' = hs /\ v = .slice (cutA ao n 0 1) n n) := by
 refine enter Tryz.func138 (by kernel_rfl) rfl rfl rfl ?_
 refine sq (rg ?_)
 refine fin hT 1 rfl (th (sq (rg ?_)))
 refine sl3g hT 5 0 n n rfl rfl (by simp) rfl (by omega) hn ?_
 refine fin hT 1 rfl (th (rt ?_))
 exact ret1 rfl rfl ⟨rfl, rfl, rfl⟩
theorem keyU : KeyOK Tryz.prog 37 encU := keyInt Tryz.underlying37
theorem keyI : KeyOK Tryz.prog 3 encI := keyInt Tryz.underlying3
theorem stepC {w0 : World} {K : PH} {hs : List PH} (b bo : Nat) (D : Dk) (h1 : 0 <= D.steps /\ D.steps <= 1099511627776) (h2 : -1 <= D.left /\ D.left <= 9223372036854775807) :
  Ct Tryz.prog w0 72 [.pointer (some ⟨b, 0, none⟩)] K (pt b (dkA D bo) 93 :: hs) (fun v K' hs' => K' = K /\ hs' = pt b (dkA D.stp bo) 93 :: hs /\ v = .bool D.stp.dead) := by
 refine enter Tryz.func72 (by kernel_rfl) rfl rfl rfl ?_
 refine sq (rg ?_)
 refine fin hT 1 rfl (th (sq (rg ?_)))
 refine ldp hT 3 0 rfl rfl rfl ?_
 refine ar hT 0 rfl (i64w (by omega)) ?_
 refine stp hT 2 0 rfl rfl rfl rfl ?_
 refine fin hT 0 rfl (th (sq (rg ?_)))
 refine ldp hT 4 0 rfl rfl rfl ?_
 refine ar hT 0 rfl (v' := .bool (decide (D.left = 0))) (congrArg Value.bool (by rw [Bool.eq_iff_iff]; simp)) ?_
 refine stp hT 2 0 rfl rfl rfl rfl ?_
 refine fin hT 0 rfl (th (jn (σ := Unit) (fun _ => [(0, .pointer (some ⟨b, 0, none⟩))]) (fun _ => pt b (dkA D.stp bo) 93 :: hs) (fun _ => True) ?_ ?_))
 ·refine sq (rg ?_)
  refine ldp hT 3 0 rfl rfl rfl ?_
  refine cmpS hT 0 rfl fun b22 h22 => ?_
  refine fin hT 0 rfl (th (ifP h22 rfl (fun e1 => ?_) (fun e1 => ?_)))
  ·refine rg ?_
   refine ldp hT 3 0 rfl rfl rfl ?_
   refine ar hT 0 rfl (i64w (by omega)) ?_
   refine stp hT 2 0 rfl rfl rfl rfl ?_
   refine fin hT 0 rfl ?_
   exact jx () trivial ⟨rfl, trivial⟩ rfl (by simp only [dkA, Dk.stp, if_pos e1]; rfl)
  ·refine sk ?_
   exact jx () trivial ⟨rfl, trivial⟩ rfl (by simp only [dkA, Dk.stp, if_neg e1]; rfl)
 ·rintro - -
  refine sq (rg ?_)
  refine ldp hT 3 0 rfl rfl rfl ?_
  refine fin hT 1 rfl (th (rt ?_))
  exact ret1 rfl rfl ⟨rfl, rfl, rfl⟩
end Go.Proofs.YtcncpbolcigpnaaGreat
end
section
namespace Go.En
theorem In.tail {K x : PH} {hs : List PH} (l : List PH) (hm : In K hs x) : In K (l ++ hs) x := by
 induction l with
 | nil => exact hm
 | cons a l ih => exact ih.cons
def ArH (K : PH) (D : Dk) (a : Int) (ins : Ins) (hs : List PH) (bi : Option Nat) (h : PH) (tl : List PH) : Prop :=
 (mget a D.areas = none /\ bi = none /\ h = em /\ tl = insH ins ++ hs) \/
 ∃ b i1 mv i2 q1 q2, bi = some b /\ ins = i1 ++ (a, b, h) :: i2 /\ D.areas = q1 ++ (a, D.ar a) :: q2 /\ a ∉ q1.map (·.1) /\ InsR K i1 q1 /\ InsR K i2 q2 /\ MpO encI id h b mv /\ MR (SecR K) mv (D.ar a) /\ tl = insH i1 ++ (insH i2 ++ hs)
theorem insO_keys (i : Ins) : (insO i).map (·.1) = i.map (·.1) := by simp [insO]
theorem mget_insO {K : PH} {D : Dk} {a : Int} {ins : Ins} (hI : InsR K ins D.areas) {hs : List PH} {bi : Option Nat} {h : PH} {tl : List PH} (x : ArH K D a ins hs bi h tl) : mget a (insO ins) = bi := by
 rcases x with ⟨h1, h2, _⟩ | ⟨b, i1, mv, i2, q1, q2, h1, h2, h3, h4, h5, h6, _⟩
 ·rw [h2, mget_none, insO_keys, insKeys hI]
  exact mget_none.1 h1
 ·rw [h1, h2]
  have : a ∉ (insO i1).map (·.1) := by rw [insO_keys, insKeys h5]; exact h4
  unfold insO at this ⊢
  rw [List.map_append, List.map_cons]
  generalize (i1.map fun x : Int × Nat × PH => (x.1, x.2.1)) = z at this ⊢
  induction z with
  | nil => simp [mget]
  | cons y z ih =>
   simp only [List.map_cons, List.mem_cons, not_or] at this
   simp only [List.cons_append, mget, this.1, if_false]
   exact ih this.2
theorem arH {K : PH} {D : Dk} {ins : Ins} (hI : InsR K ins D.areas) (a : Int) (hs : List PH) : ∃ bi h tl, ArH K D a ins hs bi h tl /\ ∀ P O : PH, (bi = none -> (P :: O :: (insH ins ++ hs)) = (P :: O :: tl)) /\ (bi ≠ none -> (P :: O :: (insH ins ++ hs)).Perm (h :: P :: O :: tl)) := by
 cases hg : mget a D.areas with
 | none => exact ⟨none, em, _, .inl ⟨hg, rfl, rfl, rfl⟩, fun P O => ⟨fun _ => rfl, fun h => absurd rfl h⟩⟩
 | some l =>
  obtain ⟨i1, bi, hi, mv, i2, q1, q2, g1, g2, g3, g4, g5, g6, g7⟩ := insGet hI hg
  have hl : D.ar a = l := by unfold Dk.ar; rw [hg]; rfl
  refine ⟨some bi, hi, insH i1 ++ (insH i2 ++ hs), .inr ⟨bi, i1, mv, i2, q1, q2, rfl, g1, by rw [hl]; exact g2, g3, g4, g5, g6, by rw [hl]; exact g7, rfl⟩, fun P O => ⟨fun h => (by cases h), fun _ => ?_⟩⟩
  rw [g1]
  unfold insH
  rw [List.map_append, List.map_cons, List.append_assoc, List.cons_append]
  have p : (i1.map (·.2.2) ++ hi :: (i2.map (·.2.2) ++ hs)).Perm (hi :: (i1.map (·.2.2) ++ (i2.map (·.2.2) ++ hs))) := List.perm_middle
  exact ((p.cons O).trans (List.Perm.swap hi O _)).cons P |>.trans (List.Perm.swap hi P _)
theorem cpyk (k : Nat) (bs : List UInt8) : (List.take 0 (Array.replicate k (Value.int .u8 0)).toList ++ List.take (bs.length * 1) (bv bs) ++ List.drop (0 + bs.length * 1) (Array.replicate k (Value.int .u8 0)).toList).toArray = (bv (bs ++ List.replicate (k - bs.length) 0)).toArray := by
 have h1 : List.take (bs.length * 1) (bv bs) = bv bs := List.take_of_length_le (by simp [bv])
 rw [h1]
 simp [bv]
theorem cpy64 (bs : List UInt8) : (List.take 0 (Array.replicate 64 (Value.int .u8 0)).toList ++ List.take (bs.length * 1) (bv bs) ++ List.drop (0 + bs.length * 1) (Array.replicate 64 (Value.int .u8 0)).toList).toArray = (bv (padS bs)).toArray := cpyk 64 bs
end Go.En
namespace Go.Proofs.YtcncpbolcigpnaaGreat
open Go.En
attribute [local irreducible] Code.wp wpList Calls
theorem writeC {w0 : World} {K hv : PH} {hs m : List PH} (b : Nat) (D : Dk) (c : Nat) (o : D.Ok c) (hc : c <= 1099511627) (hm : DskM K b D m) (area n : Int) (ha : 0 <= area /\ area <= 18446744073709551615) (ao : Option Addr) (cap : Nat) (bs : List UInt8) (hin : In K hs hv) (x : IsS hv ao bs.length cap 1 (bv bs)) :
  Ct Tryz.prog w0 126 [.pointer (some ⟨b, 0, none⟩), .int .u64 area, .int .i64 n, .slice ao bs.length cap] K (m ++ hs)
   (fun v K' hs' => Le K K' /\ ∃ m', hs' = m' ++ hs /\ DskM K' b (D.write area n bs).1 m' /\ v = .int .i64 (D.write area n bs).2) := by
 obtain ⟨bo, ho, ins, rfl, hO, hI⟩ := hm
 obtain ⟨bi, hA, tl, hAr, hperm⟩ := arH hI area hs
 have hmo := mget_insO hI hAr
 obtain ⟨old, hold⟩ : ∃ old, old = (D.sec area n).getD ⟨[], false⟩ := ⟨_, rfl⟩
 have hro := o.room
 refine enter Tryz.func126 (by kernel_rfl) rfl rfl rfl ?_
 refine sq (rg ?_)
 refine fin hT 1 rfl (th (jn (σ := Option Addr × Nat × Nat) (fun s => [(0, .pointer (some ⟨b, 0, none⟩)), (1, .int .u64 area), (2, .int .i64 n), (3, .slice ao bs.length cap), (8, .int .i64 0), (9, .pointer (some ⟨s.2.2, 0, none⟩)), (10, .bool (D.sec area n).isSome)])
  (fun s => pt s.2.2 #[.slice s.1 old.vs.length s.2.1, .bool old.syn] 181 :: hA :: pt b (dkA D bo) 93 :: ho :: tl) (fun s => IsS K s.1 old.vs.length s.2.1 1 (tvv old.vs)) ?_ ?_))
 ·cases hbi : bi with
  | none =>
   rw [hbi] at hmo hAr
   rw [show ((pt b (dkA D bo) 93 :: ho :: insH ins) ++ hs) = (pt b (dkA D bo) 93 :: ho :: tl) from (hperm _ _).1 hbi]
   rcases hAr with ⟨g1, _, rfl, g3⟩ | ⟨b', _, _, _, _, _, g1, _⟩
   ·have hs0 : D.sec area n = none := by unfold Dk.sec Dk.ar; rw [g1]; rfl
    rw [hs0] at hold
    refine rg (WL.em ?_)
    refine ldp hT 3 1 rfl rfl rfl ?_
    refine lku hT 1 (z := .map none) area rfl Tryz.underlying91 (by kernel_rfl) keyU rfl (.inr ⟨2, rfl⟩) hO ?_
    rw [hmo]
    refine lkn hT 1 (z := .agg #[.slice none 0 0, .bool false]) n rfl Tryz.underlying134 (by kernel_rfl) keyI rfl ?_
    refine al hT 3 (.agg #[.slice none 0 0, .bool false]) rfl (by kernel_rfl) fun b9 => ?_
    refine stS hT 0 0 rfl rfl (by kernel_rfl) rfl rfl ?_
    refine fin hT 1 rfl ?_
    rw [show old = ⟨[], false⟩ from hold]
    exact jx (none, 0, b9) (IsS.nil _ _ _ _) ⟨rfl, rfl, rfl, rfl, rfl, rfl, by rw [hs0]; rfl, trivial⟩ rfl rfl
   ·cases g1
  | some bi =>
   rw [hbi] at hmo hAr
   rcases hAr with ⟨_, g1, _⟩ | ⟨b', i1, mv, i2, q1, q2, g1, g2, g3, g4, g5, g6, hMv, hMR, g9⟩
   ·cases g1
   ·cases g1
    refine WC.perm ((hperm _ _).2 (by rw [hbi]; simp)) ?_
    have hsec : D.sec area n = mget n (D.ar area) := rfl
    rcases MR.get n hMR with ⟨h1, h2⟩ | ⟨v, s, h1, h2, aoV, cV, rfl, h3⟩
    ·rw [hsec, h2] at hold
     refine rg ?_
     refine ldp hT 3 1 rfl rfl rfl ?_
     refine lku hT 1 (z := .map none) area rfl Tryz.underlying91 (by kernel_rfl) keyU rfl (.inr ⟨2, rfl⟩) hO ?_
     rw [hmo]
     refine lku hT 1 (z := .agg #[.slice none 0 0, .bool false]) n rfl Tryz.underlying134 (by kernel_rfl) keyI rfl (.inr ⟨0, rfl⟩) hMv ?_
     rw [h1]
     refine al hT 3 (.agg #[.slice none 0 0, .bool false]) rfl (by kernel_rfl) fun b9 => ?_
     refine stS hT 0 0 rfl rfl (by kernel_rfl) rfl rfl ?_
     refine fin hT 1 rfl ?_
     rw [show old = ⟨[], false⟩ from hold]
     exact jx (none, 0, b9) (IsS.nil _ _ _ _) ⟨rfl, rfl, rfl, rfl, rfl, rfl, by rw [hsec, h2]; rfl, trivial⟩ rfl rfl
    ·rw [hsec, h2] at hold
     refine rg ?_
     refine ldp hT 3 1 rfl rfl rfl ?_
     refine lku hT 1 (z := .map none) area rfl Tryz.underlying91 (by kernel_rfl) keyU rfl (.inr ⟨2, rfl⟩) hO ?_
     rw [hmo]
     refine lku hT 1 (z := .agg #[.slice none 0 0, .bool false]) n rfl Tryz.underlying134 (by kernel_rfl) keyI rfl (.inr ⟨0, rfl⟩) hMv ?_
     rw [h1]
     refine al hT 3 (.agg #[.slice none 0 0, .bool false]) rfl (by kernel_rfl) fun b9 => ?_
     refine stS hT 0 0 rfl rfl (by kernel_rfl) rfl rfl ?_
     refine fin hT 1 rfl ?_
     rw [show old = s from hold]
     exact jx (aoV, cV, b9) h3 ⟨rfl, rfl, rfl, rfl, rfl, rfl, by rw [hsec, h2]; rfl, trivial⟩ rfl rfl
 ·rintro ⟨aoV, cV, b9⟩ hV
  dsimp only at *
  have back : ∀ (P O : PH), bi = none /\ hA = em /\ (P :: O :: tl) = (P :: O :: (insH ins ++ hs)) \/ (hA :: P :: O :: tl).Perm (P :: O :: (insH ins ++ hs)) := fun P O => by
   cases hbi : bi with
   | none =>
    left
    rcases hAr with ⟨_, _, g2, g3⟩ | ⟨b', _, _, _, _, _, g1, _⟩
    ·exact ⟨rfl, g2, by rw [g3]⟩
    ·rw [hbi] at g1; cases g1
   | some z => exact .inr ((hperm P O).2 (by rw [hbi]; simp)).symm
  have giveup : ∀ {fn : Func} {R : Value -> PH -> List PH -> Prop} {l : Sl}, WQ w0 (bodyPost Tryz.prog fn (endR w0 R)) .ret 93 l K (pt b (dkA D bo) 93 :: ho :: (insH ins ++ hs)) -> WQ w0 (bodyPost Tryz.prog fn (endR w0 R)) .ret 93 l K (pt b9 #[.slice aoV old.vs.length cV, .bool old.syn] 181 :: hA :: pt b (dkA D bo) 93 :: ho :: tl) := fun {fn R l} h => by
   refine WQ.drop ?_
   rcases back (pt b (dkA D bo) 93) ho with ⟨_, _, e⟩ | p
   ·rw [e]; exact WQ.drop h
   ·exact WQ.perm p h
  refine jn (σ := Unit) (fun _ => [(0, .pointer (some ⟨b, 0, none⟩)), (1, .int .u64 area), (2, .int .i64 n), (3, .slice ao bs.length cap), (9, .pointer (some ⟨b9, 0, none⟩)), (10, .bool (D.sec area n).isSome)]) (fun _ => pt b9 #[.slice aoV old.vs.length cV, .bool old.syn] 181 :: hA :: pt b (dkA D bo) 93 :: ho :: tl) (fun _ => ¬ D.dead = true /\ ¬ (n < 0 \/ 65536 <= n \/ 64 < bs.length) /\ ¬ ((D.sec area n).isSome = false /\ D.room = 0)) ?_ ?_
  ·refine bk (sq (rg ?_))
   refine ldp hT 3 2 (v := .bool D.dead) rfl rfl rfl ?_
   cases hdead : D.dead with
   | true =>
    refine fin hT 1 rfl (th (ifT rfl ?_))
    refine sq (rg ?_)
    refine fin hT 1 rfl (th (rt (rB (jr (giveup ?_)))))
    have e : D.write area n bs = (D, 30) := by unfold Dk.write; rw [if_pos hdead]
    rw [e]
    exact ret1 rfl rfl ⟨Le.refl _, _, rfl, ⟨bo, ho, ins, rfl, hO, hI⟩, rfl⟩
   | false =>
    refine fin hT 1 rfl (th (ifF rfl ?_))
    have hd0 : ¬ D.dead = true := by rw [hdead]; simp
    refine sq (rg ?_)
    refine cmp hT 1 rfl (fun h2 => ?_) (fun h2 => ?_)
    ·refine fin hT 10 rfl (th (ifT rfl ?_))
     refine sq (rg ?_)
     refine fin hT 1 rfl (th (rt (rB (jr (giveup ?_)))))
     have e : D.write area n bs = (D, 31) := by unfold Dk.write; rw [if_neg hd0, if_pos (.inl h2)]
     rw [e]
     exact ret1 rfl rfl ⟨Le.refl _, _, rfl, ⟨bo, ho, ins, rfl, hO, hI⟩, rfl⟩
    ·refine cmp hT 2 rfl (fun h3 => ?_) (fun h3 => ?_)
     ·refine fin hT 7 rfl (th (ifT rfl ?_))
      refine sq (rg ?_)
      refine fin hT 1 rfl (th (rt (rB (jr (giveup ?_)))))
      have e : D.write area n bs = (D, 31) := by unfold Dk.write; rw [if_neg hd0, if_pos (.inr (.inl (by omega)))]
      rw [e]
      exact ret1 rfl rfl ⟨Le.refl _, _, rfl, ⟨bo, ho, ins, rfl, hO, hI⟩, rfl⟩
     ·refine cmp hT 4 rfl (fun h4 => ?_) (fun h4 => ?_)
      ·refine fin hT 2 rfl (th (ifT rfl ?_))
       refine sq (rg ?_)
       refine fin hT 1 rfl (th (rt (rB (jr (giveup ?_)))))
       have e : D.write area n bs = (D, 31) := by unfold Dk.write; rw [if_neg hd0, if_pos (.inr (.inr (by omega)))]
       rw [e]
       exact ret1 rfl rfl ⟨Le.refl _, _, rfl, ⟨bo, ho, ins, rfl, hO, hI⟩, rfl⟩
      ·have hnf : ¬ (n < 0 \/ 65536 <= n \/ 64 < bs.length) := by omega
       refine fin hT 2 rfl (th (ifF rfl ?_))
       by_cases hfull : (D.sec area n).isSome = false /\ D.room = 0
       ·refine sq (rg ?_)
        rw [hfull.1]
        refine ldp hT 6 2 rfl rfl rfl ?_
        refine cmp hT 0 rfl (fun h5 => ?_) (fun h5 => absurd hfull.2 h5)
        refine fin hT 2 rfl (th (ifT rfl ?_))
        refine sq (rg ?_)
        refine fin hT 1 rfl (th (rt (rB (jr (giveup ?_)))))
        have e : D.write area n bs = (D, 32) := by unfold Dk.write; rw [if_neg hd0, if_neg hnf, if_pos hfull]
        rw [e]
        exact ret1 rfl rfl ⟨Le.refl _, _, rfl, ⟨bo, ho, ins, rfl, hO, hI⟩, rfl⟩
       ·refine sq (rg ?_)
        have hg : ¬ D.dead = true /\ ¬ (n < 0 \/ 65536 <= n \/ 64 < bs.length) /\ ¬ ((D.sec area n).isSome = false /\ D.room = 0) := ⟨hd0, hnf, hfull⟩
        cases hse : (D.sec area n).isSome with
        | true =>
         refine fin hT 10 rfl (th (ifF rfl (sk (bl ?_))))
         exact jx () (by rw [hse, hdead] at hg; exact hg) ⟨rfl, rfl, rfl, rfl, rfl, rfl, trivial⟩ rfl rfl
        | false =>
         refine ldp hT 6 2 rfl rfl rfl ?_
         refine cmp hT 0 rfl (fun h5 => absurd ⟨hse, h5⟩ hfull) (fun h5 => ?_)
         refine fin hT 2 rfl (th (ifF rfl (sk (bl ?_))))
         exact jx () (by rw [hse, hdead] at hg; exact hg) ⟨rfl, rfl, rfl, rfl, rfl, rfl, trivial⟩ rfl rfl
  ·rintro - ⟨hd0, hnf, hfull⟩
   have e : D.write area n bs = ((D.laid area n bs).stp, if (D.laid area n bs).stp.dead = true then 30 else 0) := by unfold Dk.write; rw [if_neg hd0, if_neg hnf, if_neg hfull]
   rw [e]
   obtain ⟨D1, hD1⟩ : ∃ D1 : Dk, D1 = { D with room := if (D.sec area n).isSome = true then D.room else D.room - 1 } := ⟨_, rfl⟩
   refine jn (σ := Unit) (fun _ => [(0, .pointer (some ⟨b, 0, none⟩)), (1, .int .u64 area), (2, .int .i64 n), (3, .slice ao bs.length cap), (9, .pointer (some ⟨b9, 0, none⟩)), (10, .bool (D.sec area n).isSome)]) (fun _ => pt b9 #[.slice aoV old.vs.length cV, .bool old.syn] 181 :: hA :: pt b (dkA D1 bo) 93 :: ho :: tl) (fun _ => True) ?_ ?_
   ·refine sq (rg ?_)
    cases hse : (D.sec area n).isSome with
    | true =>
     refine fin hT 2 rfl (th (ifF rfl (sk ?_)))
     exact jx () trivial ⟨rfl, rfl, rfl, rfl, rfl, rfl, trivial⟩ rfl (by rw [hD1, if_pos hse])
    | false =>
     have hr0 : 0 < D.room := by
      have : ¬ D.room = 0 := fun h => hfull ⟨hse, h⟩
      omega
     refine fin hT 2 rfl (th (ifT rfl (rg ?_)))
     refine ldp hT 3 2 rfl rfl rfl ?_
     refine ar hT 0 rfl (i64w (by omega)) ?_
     refine stp hT 2 2 rfl rfl rfl rfl ?_
     refine fin hT 0 rfl ?_
     exact jx () trivial ⟨rfl, rfl, rfl, rfl, rfl, rfl, trivial⟩ rfl (by rw [hD1, if_neg (by rw [hse]; simp)]; rfl)
   ·rintro - -
    refine jn (σ := PH × PH × List PH) (fun _ => [(0, .pointer (some ⟨b, 0, none⟩)), (1, .int .u64 area), (2, .int .i64 n), (3, .slice ao bs.length cap), (9, .pointer (some ⟨b9, 0, none⟩)), (10, .bool (D.sec area n).isSome)]) (fun s => pt b9 #[.slice aoV old.vs.length cV, .bool old.syn] 181 :: s.1 :: pt b (dkA D1 bo) 93 :: s.2.1 :: s.2.2)
     (fun s => ∃ i1 bi mv i2 q1 q2, MpO encI id s.1 bi mv /\ MR (SecR K) mv (D.ar area) /\ MpO encU encB s.2.1 bo (insO (i1 ++ (area, bi, s.1) :: i2)) /\ InsR K i1 q1 /\ InsR K i2 q2 /\ area ∉ q1.map (·.1) /\ (∀ l, mset area l D.areas = q1 ++ (area, l) :: q2) /\ s.2.2 = insH i1 ++ (insH i2 ++ hs)) ?_ ?_
    ·refine sq (rg ?_)
     refine ldp hT 3 2 rfl rfl rfl ?_
     refine lku hT 1 (z := .map none) area rfl Tryz.underlying91 (by kernel_rfl) keyU rfl (.inr ⟨3, rfl⟩) hO ?_
     rw [hmo]
     cases hbi : bi with
     | none =>
      rw [hbi] at hmo hAr
      rcases hAr with ⟨g1, _, rfl, rfl⟩ | ⟨b', _, _, _, _, _, g1, _⟩
      ·refine cbS hT 0 True rfl (by simp) fun b65 h65 => ?_
       refine fin hT 0 rfl (th (ifP h65 rfl (fun _ => ?_) (fun h => absurd trivial h)))
       refine rg ?_
       refine ldp hT 3 2 rfl rfl rfl ?_
       refine mkm hT 1 rfl fun bm => ?_
       refine mpu hT 0 4 area bm rfl rfl Tryz.underlying91 keyU rfl rfl hO fun ho' hO' => ?_
       refine fin hT 0 rfl (WQ.perm (perm_front _ 2 _ rfl) (WQ.drop (WQ.perm (List.Perm.swap _ _ _) ?_)))
       refine jx (sg bm (.map #[] 0), ho', insH ins ++ hs) ⟨ins, bm, [], [], D.areas, [], MpO.empty _ _, ?_, ?_, hI, trivial, mget_none.1 g1, fun l => by rw [mset_new g1], rfl⟩ ⟨rfl, rfl, rfl, rfl, rfl, rfl, trivial⟩ rfl rfl
       ·unfold Dk.ar; rw [g1]; trivial
       ·rw [mset_new hmo] at hO'
        simpa [insO] using hO'
      ·cases g1
     | some bi =>
      rw [hbi] at hmo hAr
      rcases hAr with ⟨_, g1, _⟩ | ⟨b', i1, mv, i2, q1, q2, g1, g2, g3, g4, g5, g6, hMv, hMR, g9⟩
      ·cases g1
      ·cases g1
       refine cbS hT 0 False rfl (by simp [encB]) fun b65 h65 => ?_
       refine fin hT 0 rfl (th (ifP h65 rfl (fun h => h.elim) (fun _ => sk ?_)))
       refine jx (hA, ho, tl) ⟨i1, bi, mv, i2, q1, q2, hMv, hMR, by rw [<- g2]; exact hO, g5, g6, g4, fun l => ?_, g9⟩ ⟨rfl, rfl, rfl, rfl, rfl, rfl, trivial⟩ rfl rfl
       rw [g3]
       exact mset_at g4
    ·rintro ⟨hA1, ho1, tl1⟩ ⟨i1, bi1, mv, i2, q1, q2, hMv, hMR, hO1, g5, g6, g4, hset, rfl⟩
     dsimp only at *
     have hb64 : bs.length <= 64 := by omega
     have hk : old.vs.length <= c := by
      cases hs0 : D.sec area n with
      | none => rw [hold, hs0]; simp
      | some s => rw [hold, hs0]; exact (o.secOk hs0).2.1
     have hnone : aoV = none -> old.vs.length = 0 := fun h => by
      rcases Nat.eq_zero_or_pos old.vs.length with h2 | h2
      ·exact h2
      ·obtain ⟨a, ha⟩ := hV.addr h2 (by decide); rw [h] at ha; cases ha
     have xC : IsS K (cutA aoV old.vs.length 0 1) old.vs.length old.vs.length 1 (tvv old.vs) := by rw [cutA_0]; exact ⟨hV.1, Nat.le_refl _, hV.2.2⟩
     refine sq (rg ?_)
     refine al hT 0 (.agg (Array.replicate 64 (.int .u8 0))) rfl (by kernel_rfl) fun b11 => ?_
     refine fin hT 0 rfl (th (sq (rg ?_)))
     refine sla hT 0 (sz := 1) 0 64 rfl rfl Tryz.underlying176 (by kernel_rfl) rfl rfl (Nat.le_refl _) (by decide) ?_
     simp only [add_mk, Nat.zero_mul, Nat.add_zero]
     refine cpy hT 1 0 bs.length rfl rfl rfl (In.tail (_ :: _ :: _ :: _ :: _ :: insH i1) (In.tail (insH i2) hin)) x (by omega) (fun u hu => bv_one bs u (List.mem_of_mem_take hu)) (by show 0 + bs.length * 1 <= 64; omega) ?_
     refine WL.hs (pt b11 (bv (padS bs)).toArray 176 :: pt b9 #[.slice aoV old.vs.length cV, .bool old.syn] 181 :: hA1 :: pt b (dkA D1 bo) 93 :: ho1 :: (insH i1 ++ (insH i2 ++ hs))) (congrArg (fun z => pt b11 z 176 :: pt b9 #[.slice aoV old.vs.length cV, .bool old.syn] 181 :: hA1 :: pt b (dkA D1 bo) 93 :: ho1 :: (insH i1 ++ (insH i2 ++ hs))) (cpy64 bs)) ?_
     have xW : IsS (pt b11 (bv (padS bs)).toArray 176) (some ⟨b11, 0, none⟩) 64 64 1 ((padS bs).map fun b => Value.int .u8 ((b.toNat : Nat) : Int)) := by
      have := (Own.ofPt (b := b11) (c := (bv (padS bs)).toArray) (e := 176) (n := 64) (size := 1) (by simp [bv, padS_len hb64]) (by simp [maxLen])).isS
      simpa [bv] using this
     refine fin hT 0 rfl (th (jnK (σ := PH × Option Addr × Nat) (fun _ => [(0, .pointer (some ⟨b, 0, none⟩)), (1, .int .u64 area), (2, .int .i64 n), (9, .pointer (some ⟨b9, 0, none⟩))]) (fun s => s.1) (fun s => pt b9 #[.slice s.2.1 (old.vs.length + 1) s.2.2, .bool old.syn] 181 :: hA1 :: pt b (dkA D1 bo) 93 :: ho1 :: (insH i1 ++ (insH i2 ++ hs)))
      (fun s => Le K s.1 /\ IsS s.1 s.2.1 (old.vs.length + 1) s.2.2 1 (tvv (old.vs ++ [padS bs]))) ?_ ?_))
     ·refine rga [pt b9 #[.slice aoV old.vs.length cV, .bool old.syn] 181, pt b11 (bv (padS bs)).toArray 176] 8 [0, 2, 6, 8, 5, 11, 13, 14, 17] (by simp) (by kernel_rfl) (by kernel_rfl) ?_
      refine dldpw hT (by kernel_rfl) 1 0 rfl (by kernel_rfl) rfl rfl ?_
      refine dslaw hT (by kernel_rfl) 0 (sz := 1) 0 64 rfl (by kernel_rfl) rfl Tryz.underlying176 (by kernel_rfl) rfl rfl (Nat.le_refl _) (by decide) ?_
      simp only [add_mk, Nat.zero_mul, Nat.add_zero]
      refine dcvsw hT (by kernel_rfl) 0 (padS bs) rfl (by kernel_rfl) rfl (.inr ⟨1, rfl⟩) xW (by kernel_rfl) ?_
      refine dfork 5 hT (by kernel_rfl) 0 [5, 13, 14, 17] rfl (by kernel_rfl) ?_ ?_
      ·refine cl hT 0 rfl (clipSC aoV old.vs.length cV hV.2.1) ?_
       rintro v77 K77 hs77 ⟨rfl, rfl, rfl⟩
       refine dnex [pt b9 #[.slice aoV old.vs.length cV, .bool old.syn] 181, pt b11 (bv (padS bs)).toArray 176] (by simp) (by simp) rfl ?_
       refine dact hT (by kernel_rfl) 0 rfl ?_
       refine lit hT 0 #[str (padS bs)] rfl (by decide) (by kernel_rfl) fun b80 => ?_
       refine dnex [pt b9 #[.slice aoV old.vs.length cV, .bool old.syn] 181, pt b11 (bv (padS bs)).toArray 176] (by simp) (by simp) rfl ?_
       refine dact hT (by kernel_rfl) 0 rfl ?_
       refine appf hT 0 rfl (.inl rfl) xC (by rw [cutA_0]; exact hnone) (.inr ⟨0, rfl⟩) (Own.ofPt (b := b80) (c := #[str (padS bs)]) (e := 9) (n := 1) (size := 1) rfl (by simp [maxLen])).isS rfl (by decide) (by omega) (by show (old.vs.length + 1) * 16 <= _; omega) (by simp only [maxLen]; omega) fun ao81 c81 g81 o81 => WL.frz fun K2 le2 l2 => WL.drop ?_
       refine dnexL [pt b9 #[.slice aoV old.vs.length cV, .bool old.syn] 181, pt b11 (bv (padS bs)).toArray 176] (by simp) (by simp) le2 ?_
       refine dact hT (by kernel_rfl) 1 rfl ?_
       refine stp hT 0 1 rfl rfl rfl rfl ?_
       refine dnext (.inl (by kernel_rfl)) ?_
       refine dend hT (by kernel_rfl) 0 rfl (WQ.drop ?_)
       exact jxK (K2, ao81, c81) ⟨le2, by simpa [tvv] using o81.isS.le l2⟩ ⟨rfl, rfl, rfl, rfl, trivial⟩ rfl rfl
      ·refine lit hT 0 #[str (padS bs)] rfl (by decide) (by kernel_rfl) fun b80 => ?_
       refine dnex [pt b9 #[.slice aoV old.vs.length cV, .bool old.syn] 181, pt b11 (bv (padS bs)).toArray 176] (by simp) (by simp) rfl ?_
       refine dact hT (by kernel_rfl) 0 rfl ?_
       refine cl hT 0 rfl (clipSC aoV old.vs.length cV hV.2.1) ?_
       rintro v77 K77 hs77 ⟨rfl, rfl, rfl⟩
       refine dnex [pt b9 #[.slice aoV old.vs.length cV, .bool old.syn] 181, pt b11 (bv (padS bs)).toArray 176] (by simp) (by simp) rfl ?_
       refine dact hT (by kernel_rfl) 0 rfl ?_
       refine appf hT 0 rfl (.inl rfl) xC (by rw [cutA_0]; exact hnone) (.inr ⟨0, rfl⟩) (Own.ofPt (b := b80) (c := #[str (padS bs)]) (e := 9) (n := 1) (size := 1) rfl (by simp [maxLen])).isS rfl (by decide) (by omega) (by show (old.vs.length + 1) * 16 <= _; omega) (by simp only [maxLen]; omega) fun ao81 c81 g81 o81 => WL.frz fun K2 le2 l2 => WL.drop ?_
       refine dnexL [pt b9 #[.slice aoV old.vs.length cV, .bool old.syn] 181, pt b11 (bv (padS bs)).toArray 176] (by simp) (by simp) le2 ?_
       refine dact hT (by kernel_rfl) 1 rfl ?_
       refine stp hT 0 1 rfl rfl rfl rfl ?_
       refine dnext (.inl (by kernel_rfl)) ?_
       refine dend hT (by kernel_rfl) 0 rfl (WQ.drop ?_)
       exact jxK (K2, ao81, c81) ⟨le2, by simpa [tvv] using o81.isS.le l2⟩ ⟨rfl, rfl, rfl, rfl, trivial⟩ rfl rfl
     ·rintro ⟨K2, ao81, c81⟩ ⟨le2, x81⟩
      dsimp only at *
      have hsec2 : SecR K2 (.agg #[.slice ao81 (old.vs.length + 1) c81, .bool old.syn]) (secW (D.sec area n) bs) := by
       refine ⟨ao81, c81, ?_, ?_⟩
       ·unfold secW; rw [<- hold]; simp
       ·unfold secW; rw [<- hold]; simpa using x81
      refine sq (rga [pt b (dkA D1 bo) 93, ho1, pt b9 #[.slice ao81 (old.vs.length + 1) c81, .bool old.syn] 181] 9 [0, 2, 4, 6, 8, 10, 12, 14, 17] (by simp) (by kernel_rfl) (by kernel_rfl) ?_)
      refine dldp hT (by kernel_rfl) 3 0 rfl rfl rfl ?_
      refine dlku hT (by kernel_rfl) 1 (zv := .map none) area rfl Tryz.underlying91 (by kernel_rfl) keyU rfl (.inr ⟨1, rfl⟩) hO1 ?_
      have hmo1 : mget area (insO (i1 ++ (area, bi1, hA1) :: i2)) = some bi1 := by
       have h0 : area ∉ (insO i1).map (·.1) := by rw [insO_keys, insKeys g5]; exact g4
       have := mget_at (u := bi1) (q2 := insO i2) h0
       simpa [insO] using this
      rw [hmo1]
      refine dldS hT (by kernel_rfl) 1 2 rfl (by kernel_rfl) rfl (by kernel_rfl) ?_
      refine dact hT (by kernel_rfl) 0 rfl ?_
      refine mpu hT 0 1 n (.agg #[.slice ao81 (old.vs.length + 1) c81, .bool old.syn]) rfl rfl Tryz.underlying134 keyI rfl rfl hMv fun hA2 hMv2 => ?_
      refine dnex [pt b (dkA D1 bo) 93, ho1, pt b9 #[.slice ao81 (old.vs.length + 1) c81, .bool old.syn] 181] (by simp) (by simp) rfl ?_
      refine dend hT (by kernel_rfl) 0 rfl (th (WC.drop (WC.perm (List.Perm.swap _ _ _) (sq (sq (rg ?_))))))
      have e1 : dkA D1 bo = dkA (D.laid area n bs) bo := by rw [hD1]; rfl
      refine WL.hs (pt b (dkA (D.laid area n bs) bo) 93 :: hA2 :: ho1 :: (insH i1 ++ (insH i2 ++ hs))) (by rw [e1]) ?_
      refine cl hT 1 rfl (stepC b bo (D.laid area n bs) (by have := o.steps; simp only [Dk.laid]; omega) o.left) ?_
      rintro v92 K92 hs92 ⟨rfl, rfl, rfl⟩
      have fin : ∀ {fn : Func} {R : Value -> PH -> List PH -> Prop} {l : Sl}, (∀ m', DskM K92 b (D.laid area n bs).stp m' -> WQ w0 (bodyPost Tryz.prog fn (endR w0 R)) .ret 93 l K92 (m' ++ hs)) -> WQ w0 (bodyPost Tryz.prog fn (endR w0 R)) .ret 93 l K92 (pt b (dkA (D.laid area n bs).stp bo) 93 :: hA2 :: ho1 :: (insH i1 ++ (insH i2 ++ hs))) := fun {fn R l} h => by
       have hm' : DskM K92 b (D.laid area n bs).stp (pt b (dkA (D.laid area n bs).stp bo) 93 :: ho1 :: insH (i1 ++ (area, bi1, hA2) :: i2)) := by
        refine ⟨bo, ho1, i1 ++ (area, bi1, hA2) :: i2, rfl, by simpa [insO] using hO1, ?_⟩
        show InsR K92 _ (mset area (mset n (secW (D.sec area n) bs) (D.ar area)) D.areas)
        rw [hset]
        exact (g5.le le2).app ⟨rfl, ⟨_, hMv2, MR.set hsec2 (hMR.imp fun _ _ h => h.le le2)⟩, g6.le le2⟩
       refine WQ.perm ?_ (h _ hm')
       unfold insH
       rw [List.map_append, List.map_cons, List.cons_append, List.cons_append, List.append_assoc, List.cons_append]
       exact ((List.Perm.swap ho1 hA2 _).trans (List.perm_middle.symm.cons ho1)).cons _
      cases hst : (D.laid area n bs).stp.dead with
      | true =>
       refine WL.perm (List.Perm.refl _) ?_
       refine En.fin hT 0 rfl (th (ifT rfl (sq (rg ?_))))
       refine En.fin hT 1 rfl (th (rt (rT (fin fun m' hm' => ?_))))
       exact ret1 rfl rfl ⟨le2, m', rfl, hm', rfl⟩
      | false =>
       refine En.fin hT 0 rfl (th (ifF rfl (sk (th (sq (rg ?_))))))
       refine En.fin hT 1 rfl (th (rt (fin fun m' hm' => ?_)))
       exact ret1 rfl rfl ⟨le2, m', rfl, hm', rfl⟩
end Go.Proofs.YtcncpbolcigpnaaGreat
end
section
namespace Go.En
theorem mdel_none {κ ν : Type} [DecidableEq κ] {k : κ} : ∀ {q : List (κ × ν)}, mget k q = none -> mdel k q = q
 | [], _ => rfl
 | (j, w) :: q, h => by
  by_cases e : k = j
  ·simp [mget, e] at h
  ·simp only [mget, e, if_false] at h
   simp only [mdel, e, if_false]
   rw [mdel_none h]
end Go.En
namespace Go.Proofs.YtcncpbolcigpnaaGreat
open Go.En
attribute [local irreducible] Code.wp wpList Calls
def dk0 (r : Int) : Dk := ⟨r, 0, [], -1, false⟩
theorem dk0_ok {r : Int} (h : 0 <= r /\ r <= 1099511627776) : (dk0 r).Ok 0 := ⟨by simp [dk0], by simp [dk0], by simp [dk0], h, by simp [dk0], by simp [dk0], by simp [dk0]⟩
theorem newDC {w0 : World} {K : PH} {hs : List PH} (r : Int) (hr : 0 <= r /\ r <= 1099511627776) : Ct Tryz.prog w0 15 [.int .i64 r] K hs
  (fun v K' hs' => K' = K /\ ∃ b m, hs' = m ++ hs /\ DskM K b (dk0 r) m /\ v = .pointer (some ⟨b, 0, none⟩)) := by
 refine enter Tryz.func15 (by kernel_rfl) rfl rfl rfl ?_
 refine sq (rg ?_)
 refine fin hT 1 rfl (th (sq (rg ?_)))
 refine ar hT 1 rfl (v' := .int .i64 r) (by rw [show (if r < 0 then (0 : Int) else r) = r from by rw [if_neg (by omega)]]) ?_
 refine mkm hT 0 rfl fun bm => ?_
 refine bd hT 0 (.agg (dkA (dk0 r) bm)) rfl (fun w => by kernel_rfl) ?_
 refine bx hT 0 rfl fun b7 => ?_
 refine fin hT 1 rfl (th (rt ?_))
 exact ret1 rfl rfl ⟨rfl, b7, _, rfl, ⟨bm, _, [], rfl, MpO.empty _ _, trivial⟩, rfl⟩
theorem deadC {w0 : World} {K : PH} {hs m : List PH} (b : Nat) (D : Dk) (hm : DskM K b D m) : Ct Tryz.prog w0 64 [.pointer (some ⟨b, 0, none⟩)] K (m ++ hs)
  (fun v K' hs' => K' = K /\ hs' = m ++ hs /\ v = .bool D.dead) := by
 obtain ⟨bo, ho, ins, rfl, hO, hI⟩ := hm
 refine enter Tryz.func64 (by kernel_rfl) rfl rfl rfl ?_
 refine sq (rg ?_)
 refine fin hT 1 rfl (th (sq (rg ?_)))
 refine ldp hT 3 0 (v := .bool D.dead) rfl rfl rfl ?_
 refine fin hT 1 rfl (th (rt ?_))
 exact ret1 rfl rfl ⟨rfl, rfl, rfl⟩
theorem readDC {w0 : World} {K : PH} {hs m : List PH} (b : Nat) (D : Dk) (c : Nat) (o : D.Ok c) (hc : c <= 1099511627) (hm : DskM K b D m) (area n : Int) :
  Ct Tryz.prog w0 69 [.pointer (some ⟨b, 0, none⟩), .int .u64 area, .int .i64 n] K (m ++ hs)
   (fun v K' hs' => Le K K' /\ hs' = m ++ hs /\ ((D.read area n = none /\ v = .tuple #[.slice none 0 0, .bool false]) \/
    ∃ bs ao cap, D.read area n = some bs /\ bs.length = 64 /\ v = .tuple #[.slice ao bs.length cap, .bool true] /\ IsS K' ao bs.length cap 1 (bv bs))) := by
 obtain ⟨bo, ho, ins, rfl, hO, hI⟩ := hm
 obtain ⟨bi, hA, tl, hAr, hperm⟩ := arH hI area hs
 have hmo := mget_insO hI hAr
 refine enter Tryz.func69 (by kernel_rfl) rfl rfl rfl ?_
 refine sq (rg ?_)
 refine fin hT 2 rfl (th ?_)
 cases hbi : bi with
 | none =>
  rw [hbi] at hmo hAr
  rcases hAr with ⟨g1, _, rfl, g3⟩ | ⟨b', _, _, _, _, _, g1, _⟩
  ·have hs0 : D.read area n = none := by unfold Dk.read Dk.sec Dk.ar; rw [g1]; rfl
   refine sq (rg ?_)
   refine ldp hT 3 0 rfl rfl rfl ?_
   refine lku hT 1 (z := .map none) area rfl Tryz.underlying91 (by kernel_rfl) keyU rfl (.inr ⟨1, rfl⟩) hO ?_
   rw [hmo]
   refine lkn hT 1 (z := .agg #[.slice none 0 0, .bool false]) n rfl Tryz.underlying134 (by kernel_rfl) keyI rfl ?_
   refine al hT 3 (.agg #[.slice none 0 0, .bool false]) rfl (by kernel_rfl) fun b9 => ?_
   refine stS hT 0 0 rfl rfl (by kernel_rfl) rfl rfl ?_
   refine fin hT 1 rfl (th (sq (sq (rg ?_))))
   refine fin hT 2 rfl (th (ifT rfl (sq (rg ?_))))
   refine fin hT 2 rfl (th (rt (rT (WQ.drop ?_))))
   exact ret2 rfl rfl rfl ⟨Le.refl _, rfl, .inl ⟨hs0, rfl⟩⟩
  ·cases g1
 | some bi =>
  rw [hbi] at hmo hAr
  rcases hAr with ⟨_, g1, _⟩ | ⟨b', i1, mv, i2, q1, q2, g1, g2, g3, g4, g5, g6, hMv, hMR, g9⟩
  ·cases g1
  ·cases g1
   have hp := (hperm (pt b (dkA D bo) 93) ho).2 (by rw [hbi]; simp)
   refine WC.perm hp ?_
   have hsec : D.sec area n = mget n (D.ar area) := rfl
   rcases MR.get n hMR with ⟨h1, h2⟩ | ⟨v, s, h1, h2, aoV, cV, rfl, h3⟩
   ·have hs0 : D.read area n = none := by unfold Dk.read; rw [hsec, h2]; rfl
    refine sq (rg ?_)
    refine ldp hT 3 1 rfl rfl rfl ?_
    refine lku hT 1 (z := .map none) area rfl Tryz.underlying91 (by kernel_rfl) keyU rfl (.inr ⟨2, rfl⟩) hO ?_
    rw [hmo]
    refine lku hT 1 (z := .agg #[.slice none 0 0, .bool false]) n rfl Tryz.underlying134 (by kernel_rfl) keyI rfl (.inr ⟨0, rfl⟩) hMv ?_
    rw [h1]
    refine al hT 3 (.agg #[.slice none 0 0, .bool false]) rfl (by kernel_rfl) fun b9 => ?_
    refine stS hT 0 0 rfl rfl (by kernel_rfl) rfl rfl ?_
    refine fin hT 1 rfl (th (sq (sq (rg ?_))))
    refine fin hT 2 rfl (th (ifT rfl (sq (rg ?_))))
    refine fin hT 2 rfl (th (rt (rT (WQ.drop (WQ.perm hp.symm ?_)))))
    exact ret2 rfl rfl rfl ⟨Le.refl _, rfl, .inl ⟨hs0, rfl⟩⟩
   ·obtain ⟨k1, k2, k3⟩ := o.secOk (show D.sec area n = some s by rw [hsec, h2])
    have hlen : 0 < s.vs.length := by
     rcases Nat.eq_zero_or_pos s.vs.length with h | h
     ·exact absurd (List.eq_nil_of_length_eq_zero h) k1
     ·exact h
    have hs0 : D.read area n = some (s.vs.getLastD []) := by unfold Dk.read; rw [hsec, h2]; rfl
    have hget : (tvv s.vs)[s.vs.length - 1]? = some (str (s.vs.getLastD [])) := by
     unfold tvv
     rw [List.getElem?_map, List.getLastD_eq_getLast?, List.getLast?_eq_getElem?]
     rw [List.getElem?_eq_getElem (by omega)]
     rfl
    have hl64 : (s.vs.getLastD []).length = 64 := by
     rw [List.getLastD_eq_getLast?, List.getLast?_eq_some_getLast k1]
     exact k3 _ (List.getLast_mem k1)
    refine sq (rg ?_)
    refine ldp hT 3 1 rfl rfl rfl ?_
    refine lku hT 1 (z := .map none) area rfl Tryz.underlying91 (by kernel_rfl) keyU rfl (.inr ⟨2, rfl⟩) hO ?_
    rw [hmo]
    refine lku hT 1 (z := .agg #[.slice none 0 0, .bool false]) n rfl Tryz.underlying134 (by kernel_rfl) keyI rfl (.inr ⟨0, rfl⟩) hMv ?_
    rw [h1]
    refine al hT 3 (.agg #[.slice none 0 0, .bool false]) rfl (by kernel_rfl) fun b9 => ?_
    refine stS hT 0 0 rfl rfl (by kernel_rfl) rfl rfl ?_
    refine fin hT 1 rfl (th (sq (sq (rg ?_))))
    refine fin hT 2 rfl (th (ifF rfl (sk (th (sq (rg ?_))))))
    refine ldp hT 1 0 rfl rfl rfl ?_
    refine ldp hT 1 0 rfl rfl rfl ?_
    refine ar hT 1 rfl (i64w (by omega)) ?_
    refine ix1 hT 0 (s.vs.length - 1) rfl (by omega) rfl h3 hget fun a29 hc29 => ?_
    refine ld hT 0 rfl (.inl rfl) hc29 ?_
    refine cvb hT 0 rfl (by kernel_rfl) fun b31 c31 g31 x31 => WL.frz fun K2 le2 l2 => ?_
    refine fin hT 2 rfl (th (rt (WQ.drop (WQ.perm hp.symm ?_))))
    exact ret2 rfl rfl rfl ⟨le2, rfl, .inr ⟨_, _, c31, hs0, hl64, rfl, x31.le l2⟩⟩
theorem freeC {w0 : World} {K : PH} {hs m : List PH} (b : Nat) (D : Dk) (c : Nat) (o : D.Ok c) (hc : c <= 1099511627) (hm : DskM K b D m) (area : Int) :
  Ct Tryz.prog w0 40 [.pointer (some ⟨b, 0, none⟩), .int .u64 area] K (m ++ hs)
   (fun v K' hs' => K' = K /\ ∃ m', hs' = m' ++ hs /\ DskM K b (D.free area).1 m' /\ v = .int .i64 (D.free area).2) := by
 obtain ⟨bo, ho, ins, rfl, hO, hI⟩ := hm
 have hr := o.room
 have har := (o.arNodup area).2
 refine enter Tryz.func40 (by kernel_rfl) rfl rfl rfl ?_
 refine sq (rg ?_)
 refine fin hT 1 rfl (th (sq (sq (rg ?_))))
 refine ldp hT 3 0 (v := .bool D.dead) rfl rfl rfl ?_
 cases hd : D.dead with
 | true =>
  have e : D.free area = (D, 30) := by unfold Dk.free; rw [if_pos hd]
  rw [e]
  refine fin hT 4 rfl (th (ifT rfl (sq (rg ?_))))
  refine fin hT 1 rfl (th (rt (rT ?_)))
  exact ret1 rfl rfl ⟨rfl, _, rfl, ⟨bo, ho, ins, rfl, hO, hI⟩, rfl⟩
 | false =>
  refine cl hT 2 rfl (stepC b bo D (by have := o.steps; omega) o.left) ?_
  rintro v11 K11 hs11 ⟨rfl, rfl, rfl⟩
  cases hst : D.stp.dead with
  | true =>
   have e : D.free area = (D.stp, 30) := by unfold Dk.free; rw [if_neg (by rw [hd]; simp), if_pos hst]
   rw [e]
   refine fin hT 1 rfl (th (ifT rfl (sq (rg ?_))))
   refine fin hT 1 rfl (th (rt (rT ?_)))
   exact ret1 rfl rfl ⟨rfl, pt b (dkA D.stp bo) 93 :: ho :: insH ins, rfl, ⟨bo, ho, ins, rfl, hO, hI⟩, rfl⟩
  | false =>
   have e : D.free area = ({ D.stp with room := D.room + ((D.ar area).length : Int), areas := mdel area D.areas }, 0) := by unfold Dk.free; rw [if_neg (by rw [hd]; simp), if_neg (by rw [hst]; simp)]
   rw [e]
   refine fin hT 1 rfl (th (ifF rfl (sk (th ?_))))
   obtain ⟨bi, hA, tl, hAr, hperm⟩ := arH hI area hs
   have hmo := mget_insO hI hAr
   cases hbi : bi with
   | none =>
    rw [hbi] at hmo hAr
    rcases hAr with ⟨g1, _, rfl, g3⟩ | ⟨b', _, _, _, _, _, g1, _⟩
    ·have hl0 : D.ar area = [] := by unfold Dk.ar; rw [g1]; rfl
     refine sq (rga [pt b (dkA D.stp bo) 93, ho] 14 [0, 2, 4, 6, 8, 10, 12, 14, 16, 18, 20, 22, 24, 26, 29] (by simp) (by kernel_rfl) (by kernel_rfl) ?_)
     refine dldpw hT (by kernel_rfl) 3 0 (v := .int .i64 D.room) rfl (by kernel_rfl) rfl rfl ?_
     refine dldpw hT (by kernel_rfl) 3 0 rfl (by kernel_rfl) rfl rfl ?_
     refine dlkuw hT (by kernel_rfl) 1 (zv := .map none) area rfl (by kernel_rfl) rfl Tryz.underlying91 (by kernel_rfl) keyU rfl (.inr ⟨1, rfl⟩) hO ?_
     rw [hmo]
     refine dmlnw hT (by kernel_rfl) 0 rfl (by kernel_rfl) rfl Tryz.underlying134 ?_
     refine dar hT (by kernel_rfl) 0 rfl (v' := .int .i64 (D.room + ((D.ar area).length : Int))) (by rw [hl0]; exact i64w (by simp; omega)) ?_
     refine dact hT (by kernel_rfl) 2 rfl ?_
     refine stp hT 0 0 rfl rfl rfl rfl ?_
     refine dnext (.inl (by kernel_rfl)) ?_
     refine dend hT (by kernel_rfl) 0 rfl (th (sq (rg ?_)))
     refine ldp hT 3 0 rfl rfl rfl ?_
     refine mdl hT 1 1 area rfl rfl Tryz.underlying91 keyU rfl hO fun ho' hO' => ?_
     refine fin hT 0 rfl (th (sq (rg ?_)))
     refine fin hT 1 rfl (th (rt ?_))
     rw [mdel_none hmo] at hO'
     refine ret1 rfl rfl ⟨rfl, pt b (dkA { D.stp with room := D.room + ((D.ar area).length : Int), areas := mdel area D.areas } bo) 93 :: ho' :: insH ins, rfl, ⟨bo, ho', ins, rfl, hO', ?_⟩, rfl⟩
     show InsR K11 ins (mdel area D.areas)
     rw [mdel_none g1]; exact hI
    ·cases g1
   | some bi =>
    rw [hbi] at hmo hAr
    rcases hAr with ⟨_, g1, _⟩ | ⟨b', i1, mv, i2, q1, q2, g1, g2, g3, g4, g5, g6, hMv, hMR, rfl⟩
    ·cases g1
    ·cases g1
     have hp := (hperm (pt b (dkA D.stp bo) 93) ho).2 (by rw [hbi]; simp)
     refine WC.perm hp ?_
     refine sq (rga [pt b (dkA D.stp bo) 93, ho, hA] 14 [0, 2, 4, 6, 8, 10, 12, 14, 16, 18, 20, 22, 24, 26, 29] (by simp) (by kernel_rfl) (by kernel_rfl) ?_)
     refine dldpw hT (by kernel_rfl) 3 0 (v := .int .i64 D.room) rfl (by kernel_rfl) rfl rfl ?_
     refine dldpw hT (by kernel_rfl) 3 0 rfl (by kernel_rfl) rfl rfl ?_
     refine dlkuw hT (by kernel_rfl) 1 (zv := .map none) area rfl (by kernel_rfl) rfl Tryz.underlying91 (by kernel_rfl) keyU rfl (.inr ⟨1, rfl⟩) hO ?_
     rw [hmo]
     refine dmlw hT (by kernel_rfl) 0 rfl (by kernel_rfl) rfl Tryz.underlying134 (.inr ⟨2, rfl⟩) hMv ?_
     rw [hMR.len]
     refine dar hT (by kernel_rfl) 0 rfl (v' := .int .i64 (D.room + ((D.ar area).length : Int))) (i64w (by omega)) ?_
     refine dact hT (by kernel_rfl) 2 rfl ?_
     refine stp hT 0 1 rfl rfl rfl rfl ?_
     refine dnext (.inl (by kernel_rfl)) ?_
     refine dend hT (by kernel_rfl) 0 rfl (th (WC.drop (sq (rg ?_))))
     refine ldp hT 3 0 rfl rfl rfl ?_
     refine mdl hT 1 1 area rfl rfl Tryz.underlying91 keyU rfl hO fun ho' hO' => ?_
     refine fin hT 0 rfl (th (sq (rg ?_)))
     refine fin hT 1 rfl (th (rt ?_))
     refine ret1 rfl rfl ⟨rfl, pt b (dkA { D.stp with room := D.room + ((D.ar area).length : Int), areas := mdel area D.areas } bo) 93 :: ho' :: insH (i1 ++ i2), by simp [insH]; rfl, ⟨bo, ho', i1 ++ i2, rfl, ?_, ?_⟩, rfl⟩
     ·rw [g2] at hO'
      have h0 : area ∉ (insO i1).map (·.1) := by rw [insO_keys, insKeys g5]; exact g4
      have := mdel_at (u := bi) (q2 := insO i2) h0
      have h3 : insO (i1 ++ (area, bi, hA) :: i2) = insO i1 ++ (area, bi) :: insO i2 := by simp [insO]
      rw [h3, this] at hO'
      simpa [insO] using hO'
     ·show InsR K11 (i1 ++ i2) (mdel area D.areas)
      rw [g3, mdel_at g4]
      exact g5.app g6
end Go.Proofs.YtcncpbolcigpnaaGreat
end
section
namespace Go.En
def synF (ks : List Int) (x : Int × Sec) : Int × Sec := if x.1 ∈ ks then (x.1, secS x.2) else x
theorem synF_key (ks : List Int) (x : Int × Sec) : (synF ks x).1 = x.1 := by unfold synF; split <;> rfl
theorem synF_keys (ks : List Int) (l : Ar) : (l.map (synF ks)).map (·.1) = l.map (·.1) := by
 rw [List.map_map]
 exact List.map_congr_left fun x _ => synF_key ks x
theorem synF_other {ks : List Int} {k : Int} {x : Int × Sec} (h : x.1 ≠ k) : synF (ks ++ [k]) x = synF ks x := by
 unfold synF
 by_cases e : x.1 ∈ ks
 ·rw [if_pos e, if_pos (by simp [e])]
 ·rw [if_neg e, if_neg (by simp [e, h])]
theorem syn_set {k : Int} {s : Sec} {ks : List Int} (hk : k ∉ ks) : ∀ {l : Ar}, (l.map (·.1)).Nodup -> (k, s) ∈ l.map (synF ks) -> mset k (secS s) (l.map (synF ks)) = l.map (synF (ks ++ [k]))
 | [], _, h => by simp at h
 | (j, t) :: l, hnd, h => by
  simp only [List.map_cons, List.nodup_cons] at hnd
  by_cases e : k = j
  ·subst e
   have hf : synF ks (k, t) = (k, t) := by unfold synF; rw [if_neg hk]
   have hf2 : synF (ks ++ [k]) (k, t) = (k, secS t) := by unfold synF; rw [if_pos (by simp)]
   have hst : s = t := by
    rw [List.map_cons, List.mem_cons, hf] at h
    rcases h with h | h
    ·exact (Prod.mk.injEq _ _ _ _ ▸ h).2
    ·exfalso
     obtain ⟨x, hx, hxe⟩ := List.mem_map.1 h
     have : x.1 = k := by rw [<- synF_key ks x, hxe]
     exact hnd.1 (List.mem_map.2 ⟨x, hx, this⟩)
   subst hst
   rw [List.map_cons, hf, List.map_cons, hf2]
   simp only [mset, if_true]
   congr 1
   exact List.map_congr_left fun x hx => (synF_other (fun h => hnd.1 (List.mem_map.2 ⟨x, hx, h⟩))).symm
  ·have hj : (synF ks (j, t)).1 = j := synF_key ks _
   have h2 : (k, s) ∈ l.map (synF ks) := by
    rw [List.map_cons, List.mem_cons] at h
    rcases h with h | h
    ·exact absurd (by rw [<- h] at hj; exact hj) e
    ·exact h
   rw [List.map_cons, List.map_cons, synF_other (by exact fun h => e h.symm)]
   cases hq : synF ks (j, t) with
   | mk a b =>
    rw [hq] at hj
    dsimp only at hj
    subst hj
    simp only [mset, e, if_false]
    rw [syn_set hk hnd.2 h2]
theorem syn_all {ks : List Int} {l : Ar} (h : ∀ x ∈ l, x.1 ∈ ks) : l.map (synF ks) = l.map fun x => (x.1, secS x.2) :=
 List.map_congr_left fun x hx => by unfold synF; rw [if_pos (h x hx)]
def todoK : Ar -> List Int -> Nat
 | [], _ => 0
 | x :: l, ks => (if x.1 ∈ ks then 0 else 1) + todoK l ks
theorem todo_le (ks : List Int) (k : Int) : ∀ l : Ar, todoK l (ks ++ [k]) <= todoK l ks
 | [] => Nat.le_refl _
 | x :: l => by
  have := todo_le ks k l
  simp only [todoK]
  by_cases e : x.1 ∈ ks
  ·rw [if_pos e, if_pos (by simp [e])]; omega
  ·rw [if_neg e]; split <;> omega
theorem todo_lt {ks : List Int} {k : Int} (hk : k ∉ ks) : ∀ {l : Ar}, k ∈ l.map (·.1) -> todoK l (ks ++ [k]) < todoK l ks
 | [], h => by simp at h
 | x :: l, h => by
  simp only [todoK]
  by_cases e : x.1 = k
  ·have := todo_le ks k l
   rw [if_pos (by simp [e]), if_neg (by rw [e]; exact hk)]
   omega
  ·have h2 : k ∈ l.map (·.1) := by
    rw [List.map_cons, List.mem_cons] at h
    rcases h with h | h
    ·exact absurd h.symm e
    ·exact h
   have := todo_lt hk h2
   by_cases e1 : x.1 ∈ ks
   ·rw [if_pos e1, if_pos (by simp [e1])]; omega
   ·rw [if_neg e1, if_neg (by simp [e1, e])]; omega
end Go.En
namespace Go.Proofs.YtcncpbolcigpnaaGreat
open Go.En
attribute [local irreducible] Code.wp wpList Calls
theorem syncC {w0 : World} {K : PH} {hs m : List PH} (b : Nat) (D : Dk) (c : Nat) (o : D.Ok c) (hc : c <= 1099511627) (hm : DskM K b D m) (area : Int) :
  Ct Tryz.prog w0 109 [.pointer (some ⟨b, 0, none⟩), .int .u64 area] K (m ++ hs)
   (fun v K' hs' => K' = K /\ ∃ m', hs' = m' ++ hs /\ DskM K b (D.sync area).1 m' /\ v = .int .i64 (D.sync area).2) := by
 obtain ⟨bo, ho, ins, rfl, hO, hI⟩ := hm
 have hr := o.room
 refine enter Tryz.func109 (by kernel_rfl) rfl rfl rfl ?_
 refine sq (rg ?_)
 refine fin hT 1 rfl (th (sq (sq (rg ?_))))
 refine ldp hT 3 0 (v := .bool D.dead) rfl rfl rfl ?_
 cases hd : D.dead with
 | true =>
  have e : D.sync area = (D, 30) := by unfold Dk.sync; rw [if_pos hd]
  rw [e]
  refine fin hT 4 rfl (th (ifT rfl (sq (rg ?_))))
  refine fin hT 1 rfl (th (rt (rT ?_)))
  exact ret1 rfl rfl ⟨rfl, _, rfl, ⟨bo, ho, ins, rfl, hO, hI⟩, rfl⟩
 | false =>
  refine cl hT 2 rfl (stepC b bo D (by have := o.steps; omega) o.left) ?_
  rintro v11 K11 hs11 ⟨rfl, rfl, rfl⟩
  cases hst : D.stp.dead with
  | true =>
   have e : D.sync area = (D.stp, 30) := by unfold Dk.sync; rw [if_neg (by rw [hd]; simp), if_pos hst]
   rw [e]
   refine fin hT 1 rfl (th (ifT rfl (sq (rg ?_))))
   refine fin hT 1 rfl (th (rt (rT ?_)))
   exact ret1 rfl rfl ⟨rfl, pt b (dkA D.stp bo) 93 :: ho :: insH ins, rfl, ⟨bo, ho, ins, rfl, hO, hI⟩, rfl⟩
  | false =>
   have e : D.sync area = ({ D.stp with areas := D.synA area }, 0) := by unfold Dk.sync; rw [if_neg (by rw [hd]; simp), if_neg (by rw [hst]; simp)]
   rw [e]
   refine fin hT 1 rfl (th (ifF rfl (sk (th ?_))))
   obtain ⟨bi, hA, tl, hAr, hperm⟩ := arH hI area hs
   have hmo := mget_insO hI hAr
   cases hbi : bi with
   | none =>
    rw [hbi] at hmo hAr
    rcases hAr with ⟨g1, _, rfl, g3⟩ | ⟨b', _, _, _, _, _, g1, _⟩
    ·refine sq (sq (rg ?_))
     refine ldp hT 3 0 rfl rfl rfl ?_
     refine lku hT 1 (z := .map none) area rfl Tryz.underlying91 (by kernel_rfl) keyU rfl (.inr ⟨1, rfl⟩) hO ?_
     rw [hmo]
     refine mrgn hT 0 rfl Tryz.underlying134 fun r => ?_
     refine fin hT 0 rfl (th (bk ?_))
     refine loop (σ := Unit) (fun _ => [(21, .pointer (some ⟨r, 0, none⟩))]) (fun _ => K11) (fun _ => sg r (.mapIter none 0 #[] 0) :: pt b (dkA D.stp bo) 93 :: ho :: (insH ins ++ hs)) (fun _ => True) (fun _ => 0) () trivial ⟨rfl, trivial⟩ rfl rfl ?_
     rintro - -
     refine sq (rg ?_)
     refine mnxn hT 0 rfl (.inr ⟨0, rfl⟩) ?_
     refine fin hT 1 rfl (th (sq (ifF rfl ?_)))
     refine ex (xt (xt (xb (th (sq (rg ?_))))))
     refine fin hT 1 rfl (th (rt (WQ.drop ?_)))
     refine ret1 rfl rfl ⟨rfl, pt b (dkA D.stp bo) 93 :: ho :: insH ins, rfl, ⟨bo, ho, ins, rfl, hO, ?_⟩, rfl⟩
     show InsR K11 ins (D.synA area)
     unfold Dk.synA
     rw [g1]; exact hI
    ·cases g1
   | some bi =>
    rw [hbi] at hmo hAr
    rcases hAr with ⟨_, g1, _⟩ | ⟨b', i1, mv, i2, q1, q2, g1, g2, g3, g4, g5, g6, hMv, hMR, rfl⟩
    ·cases g1
    ·cases g1
     have hp := (hperm (pt b (dkA D.stp bo) 93) ho).2 (by rw [hbi]; simp)
     have hnd := (o.arNodup area).1
     have hga : mget area D.areas = some (D.ar area) := by rw [g3]; exact mget_at g4
     refine WC.perm hp ?_
     refine sq (sq (rg ?_))
     refine ldp hT 3 1 rfl rfl rfl ?_
     refine lku hT 1 (z := .map none) area rfl Tryz.underlying91 (by kernel_rfl) keyU rfl (.inr ⟨2, rfl⟩) hO ?_
     rw [hmo]
     refine mrg hT 0 rfl Tryz.underlying134 (.inr ⟨0, rfl⟩) hMv fun r hi hI0 => ?_
     refine fin hT 0 rfl (th (bk ?_))
     refine loop (σ := PH × PH × List (Int × Value) × List Int) (fun _ => [(0, .pointer (some ⟨b, 0, none⟩)), (1, .int .u64 area), (21, .pointer (some ⟨r, 0, none⟩))]) (fun _ => K11)
      (fun s => s.1 :: s.2.1 :: pt b (dkA D.stp bo) 93 :: ho :: (insH i1 ++ (insH i2 ++ hs))) (fun s => MpI encI id s.2.1 s.1 bi r s.2.2.1 s.2.2.2 /\ MR (SecR K11) s.2.2.1 ((D.ar area).map (synF s.2.2.2))) (fun s => todoK (D.ar area) s.2.2.2)
      (hi, hA, mv, []) ⟨hI0, by rw [show (D.ar area).map (synF []) = D.ar area from by rw [List.map_congr_left (g := id) (fun x _ => by simp [synF])]; simp]; exact hMR⟩ ⟨rfl, rfl, rfl, trivial⟩ rfl rfl ?_
     rintro ⟨hi, hA, mv, ks⟩ ⟨hJ, hR⟩
     dsimp only at *
     have hkeys : mv.map (·.1) = (D.ar area).map (·.1) := by rw [hR.keys, synF_keys]
     refine sq (rg ?_)
     refine mnx hT 0 0 rfl (.inr ⟨1, rfl⟩) rfl hJ (by rw [hkeys]; exact hnd) (fun k v hi' hmem hnk hS => ?_) (fun hall => ?_)
     ·obtain ⟨s, hsm, ao, cv, rfl, hV⟩ := hR.mem hmem
      have hkm : k ∈ (D.ar area).map (·.1) := by rw [<- hkeys]; exact List.mem_map.2 ⟨_, hmem, rfl⟩
      have hs2 : (k, s) ∈ D.ar area := by
       obtain ⟨x, hx, hxe⟩ := List.mem_map.1 hsm
       have hx1 : x.1 = k := by rw [<- synF_key ks x, hxe]
       have : synF ks x = x := by unfold synF; rw [if_neg (by rw [hx1]; exact hnk)]
       rw [this] at hxe
       rw [<- hxe]; exact hx
      obtain ⟨l0, hl1, hl2⟩ := Dk.ar_mem _ hs2
      rw [hl2] at hs2
      obtain ⟨v1, v2, _⟩ := o.vs _ hl1 _ hs2
      replace v2 : s.vs.length <= c := v2
      replace v1 : s.vs ≠ [] := v1
      have hlen : 0 < s.vs.length := by
       rcases Nat.eq_zero_or_pos s.vs.length with h | h
       ·exact absurd (List.eq_nil_of_length_eq_zero h) v1
       ·exact h
      have hlast : ((tvv s.vs).drop ((s.vs.length - 1) * 1)).take (1 * 1) = tvv [s.vs.getLastD []] := by
       unfold tvv
       have hdr : s.vs.drop (s.vs.length - 1) = [s.vs.getLast v1] := by
        rw [List.drop_eq_getElem_cons (by omega), List.getLast_eq_getElem, List.drop_of_length_le (by omega)]
       rw [Nat.mul_one, Nat.mul_one, <- List.map_drop, <- List.map_take, hdr]
       rw [List.getLastD_eq_getLast?, List.getLast?_eq_some_getLast v1]
       rfl
      have hcut := hV.cut (s.vs.length - 1) 1 (by omega) hlast
      refine fin hT 1 rfl (th (sq (ifT rfl (sk (th (bk (sq (rg ?_))))))))
      refine men hT 0 rfl (.inr ⟨1, rfl⟩) (.inr ⟨0, rfl⟩) hS ?_
      refine al hT 2 (.agg #[.slice none 0 0, .bool false]) rfl (by kernel_rfl) fun b6 => ?_
      refine stS hT 1 0 rfl rfl (by kernel_rfl) rfl rfl ?_
      refine fin hT 0 rfl (th (rga [pt b (dkA D.stp bo) 93, ho, pt b6 #[.slice ao s.vs.length cv, .bool s.syn] 181] 16 [0, 2, 4, 6, 8, 10, 12, 14, 16, 18, 20, 22, 24, 26, 28, 31] (by simp) (by kernel_rfl) (by kernel_rfl) ?_))
      refine dldp hT (by kernel_rfl) 3 0 rfl rfl rfl ?_
      refine dlku hT (by kernel_rfl) 1 (zv := .map none) area rfl Tryz.underlying91 (by kernel_rfl) keyU rfl (.inr ⟨1, rfl⟩) hO ?_
      rw [hmo]
      refine dldp hT (by kernel_rfl) 2 2 rfl rfl rfl ?_
      refine dldp hT (by kernel_rfl) 1 2 rfl rfl rfl ?_
      refine dar hT (by kernel_rfl) 1 rfl (v' := .int .i64 ((s.vs.length - 1 : Nat) : Int)) (by rw [show ((s.vs.length : Nat) : Int) - 1 = ((s.vs.length - 1 : Nat) : Int) from by omega]; exact i64w (by omega)) ?_
      refine dslx hT (by kernel_rfl) 0 (s.vs.length - 1) 1 rfl rfl rfl (by simp; omega) (by have := hV.2.1; omega) ?_
      refine dbd hT (by kernel_rfl) 0 (.agg #[.slice (cutA ao cv (s.vs.length - 1) 1) 1 (cv - (s.vs.length - 1)), .bool true]) rfl (fun w => by kernel_rfl) ?_
      refine dact hT (by kernel_rfl) 0 rfl ?_
      refine mpuI hT 0 2 k (.agg #[.slice (cutA ao cv (s.vs.length - 1) 1) 1 (cv - (s.vs.length - 1)), .bool true]) rfl rfl Tryz.underlying134 keyI rfl rfl hS.1 ?_ fun hA2 hJ2 => ?_
      ·cases hg : mget k mv with
       | some u => rfl
       | none => exact absurd (List.mem_map.2 ⟨_, hmem, rfl⟩) (mget_none.1 hg)
      refine dnex [pt b (dkA D.stp bo) 93, ho, pt b6 #[.slice ao s.vs.length cv, .bool s.syn] 181] (by simp) (by simp) rfl ?_
      refine dend hT (by kernel_rfl) 0 rfl (bl (WQ.drop ?_))
      refine again (x := (hi, hA, mv, ks)) (hi', hA2, mset k _ mv, ks ++ [k]) ⟨rfl, rfl, rfl, trivial⟩ rfl rfl ⟨hJ2, ?_⟩ (todo_lt hnk hkm)
      dsimp only
      rw [<- syn_set hnk hnd hsm]
      exact hR.set ⟨_, _, rfl, hcut⟩
     ·refine fin hT 1 rfl (th (sq (ifF rfl ?_)))
      refine ex (xt (xt (xb (th (sq (rg ?_))))))
      refine fin hT 1 rfl (th (rt (WQ.drop ?_)))
      have hall2 : ∀ x ∈ D.ar area, x.1 ∈ ks := fun x hx => by
       have : x.1 ∈ mv.map (·.1) := by rw [hkeys]; exact List.mem_map.2 ⟨x, hx, rfl⟩
       obtain ⟨y, hy, hye⟩ := List.mem_map.1 this
       rw [<- hye]; exact hall y hy
      have hm' : DskM K11 b { D.stp with areas := D.synA area } (pt b (dkA D.stp bo) 93 :: ho :: insH (i1 ++ (area, bi, hA) :: i2)) := by
       refine ⟨bo, ho, i1 ++ (area, bi, hA) :: i2, rfl, ?_, ?_⟩
       ·rw [g2] at hO; simpa [insO] using hO
       ·show InsR K11 _ (D.synA area)
        unfold Dk.synA
        rw [hga]
        dsimp only
        rw [show mset area ((D.ar area).map fun x => (x.1, secS x.2)) D.areas = q1 ++ (area, (D.ar area).map fun x => (x.1, secS x.2)) :: q2 from by
         conv => lhs; rw [g3]
         exact mset_at g4]
        rw [syn_all hall2] at hR
        exact g5.app ⟨rfl, ⟨_, hJ.map, hR⟩, g6⟩
      refine WQ.perm ?_ (ret1 rfl rfl ⟨rfl, _, rfl, hm', rfl⟩)
      unfold insH
      rw [List.map_append, List.map_cons, List.cons_append, List.cons_append, List.append_assoc, List.cons_append]
      exact ((List.Perm.swap (pt b (dkA D.stp bo) 93) hA _).trans (((List.Perm.swap ho hA _).trans (List.perm_middle.symm.cons ho)).cons _))
end Go.Proofs.YtcncpbolcigpnaaGreat
end
section
namespace Go.En
def InvI (a i j : Nat) (xs : List Nat) : Prop := ∀ p q, a <= p -> p < q -> q <= i -> q ≠ j -> xs.getD p 0 <= xs.getD q 0
theorem InvI.start {a i : Nat} {xs : List Nat} (h : Srt a i xs) : InvI a i i xs := fun p q h1 h2 h3 h4 => h p q h1 h2 (by omega)
theorem InvI.done {a i : Nat} {xs : List Nat} (h : InvI a i a xs) : Srt a (i + 1) xs := fun p q h1 h2 h3 => h p q h1 h2 (by omega) (by omega)
theorem InvI.stop {a i j : Nat} {xs : List Nat} (h : InvI a i j xs) (hj : a < j) (hle : xs.getD (j - 1) 0 <= xs.getD j 0) : Srt a (i + 1) xs := fun p q h1 h2 h3 => by
 by_cases e : q = j
 ·subst e
  by_cases e2 : p = q - 1
  ·subst e2; exact hle
  ·exact Nat.le_trans (h p (q - 1) h1 (by omega) (by omega) (by omega)) hle
 ·exact h p q h1 h2 (by omega) e
theorem swp_getD {i j : Nat} {xs : List Nat} (hi : i < xs.length) (hj : j < xs.length) (k : Nat) : (swp i j xs).getD k 0 = if k = j then xs.getD i 0 else if k = i then xs.getD j 0 else xs.getD k 0 := by
 rw [List.getD_eq_getElem?_getD, swp_get hi hj]
 split
 ·rfl
 ·split
  ·rfl
  ·rw [List.getD_eq_getElem?_getD]
theorem InvI.swap {a i j : Nat} {xs : List Nat} (h : InvI a i j xs) (hj : a < j) (hi : j <= i) (hl : i < xs.length) (hlt : xs.getD j 0 < xs.getD (j - 1) 0) : InvI a i (j - 1) (swp j (j - 1) xs) := fun p q h1 h2 h3 h4 => by
 rw [swp_getD (by omega) (by omega), swp_getD (by omega) (by omega)]
 rw [if_neg h4]
 by_cases e1 : q = j
 ·rw [if_pos e1]
  by_cases e2 : p = j - 1
  ·rw [if_pos e2]; omega
  ·rw [if_neg e2, if_neg (by omega)]
   exact h p (j - 1) h1 (by omega) (by omega) (by omega)
 ·rw [if_neg e1]
  by_cases e2 : p = j - 1
  ·rw [if_pos e2]
   exact h j q (by omega) (by omega) h3 e1
  ·rw [if_neg e2]
   by_cases e3 : p = j
   ·rw [if_pos e3]
    exact h (j - 1) q (by omega) (by omega) h3 e1
   ·rw [if_neg e3]
    exact h p q h1 h2 h3 e1
theorem Srt.zero (a : Nat) (xs : List Nat) : Srt a (a + 1) xs := fun i j h1 h2 h3 => by omega
end Go.En
namespace Go.Proofs.YtcncpbolcigpnaaGreat
open Go.En
attribute [local irreducible] Code.wp wpList Calls
theorem nanC {w0 : World} {K : PH} {hs : List PH} (x : Nat) : Ct Tryz.prog w0 144 [.int .u64 ((x : Nat) : Int)] K hs (fun v K' hs' => K' = K /\ hs' = hs /\ v = .bool false) := by
 refine enter Tryz.func144 (by kernel_rfl) rfl rfl rfl ?_
 refine sq (rg ?_)
 refine fin hT 1 rfl (th (sq (rg ?_)))
 refine cmp hT 2 rfl (fun h => absurd rfl h) (fun h => ?_)
 refine fin hT 1 rfl (th (rt ?_))
 exact ret1 rfl rfl ⟨rfl, rfl, rfl⟩
theorem lessC {w0 : World} {K : PH} {hs : List PH} (x y : Nat) : Ct Tryz.prog w0 133 [.int .u64 ((x : Nat) : Int), .int .u64 ((y : Nat) : Int)] K hs (fun v K' hs' => K' = K /\ hs' = hs /\ v = .bool (decide (x < y))) := by
 refine enter Tryz.func133 (by kernel_rfl) rfl rfl rfl ?_
 refine sq (rg ?_)
 refine fin hT 1 rfl (th (sq (rg ?_)))
 refine cl hT 1 rfl (nanC x) ?_
 rintro v6 K6 hs6 ⟨rfl, rfl, rfl⟩
 by_cases h : x < y
 ·refine cmp hT 8 rfl (fun h15 => ?_) (fun h15 => absurd (by omega) h15)
  refine fin hT 2 rfl (th (rt ?_))
  exact ret1 rfl rfl ⟨rfl, rfl, by rw [decide_eq_true h]⟩
 ·refine cmp hT 8 rfl (fun h15 => absurd h15 (by omega)) (fun h15 => ?_)
  refine fin hT 2 rfl (th (rt ?_))
  exact ret1 rfl rfl ⟨rfl, rfl, by rw [decide_eq_false h]⟩
theorem insC {w0 : World} {K : PH} {hs : List PH} (g cap : Nat) (pre post : List Value) (xs : List Nat) (a b : Nat) (hab : a <= b) (hb : b <= xs.length) (hc : xs.length <= cap) (hl : xs.length <= 1099511627776) :
  Ct Tryz.prog w0 127 [.slice (some ⟨g, pre.length, none⟩) xs.length cap, .int .i64 ((a : Nat) : Int), .int .i64 ((b : Nat) : Int)] K (pt g (uA pre xs post) 37 :: hs)
   (fun v K' hs' => K' = K /\ ∃ ys, hs' = pt g (uA pre ys post) 37 :: hs /\ SegP a b xs ys /\ Srt a b ys) := by
 refine enter Tryz.func127 (by kernel_rfl) rfl rfl rfl ?_
 refine sq (rg ?_)
 refine ar hT 1 rfl (i64w (x := ((a + 1 : Nat) : Int)) (by omega)) ?_
 refine fin hT 1 rfl (th (bk ?_))
 refine loop (σ := Nat × List Nat) (fun s => [(0, .slice (some ⟨g, pre.length, none⟩) xs.length cap), (1, .int .i64 ((a : Nat) : Int)), (2, .int .i64 ((b : Nat) : Int)), (6, .int .i64 ((s.1 : Nat) : Int))]) (fun _ => K) (fun s => pt g (uA pre s.2 post) 37 :: hs)
  (fun s => a + 1 <= s.1 /\ (s.1 <= b \/ s.1 = a + 1) /\ SegP a b xs s.2 /\ Srt a s.1 s.2) (fun s => b - s.1) (a + 1, xs) ⟨Nat.le_refl _, .inr rfl, SegP.refl _ _ _, Srt.zero _ _⟩ ⟨rfl, rfl, rfl, rfl, trivial⟩ rfl rfl ?_
 rintro ⟨i, ys⟩ ⟨hi1, hi2, hP, hS⟩
 dsimp only at *
 refine sq (sq (rg ?_))
 refine cmpS hT 2 rfl fun b12 h12 => ?_
 refine fin hT 0 rfl (th (ifP h12 rfl (fun e2 => ?_) (fun e2 => ?_)))
 ·have hib : i < b := by omega
  refine sk (th (sq (bk (sq (rg ?_)))))
  refine fin hT 2 rfl (th (bk ?_))
  refine loop (σ := Nat × List Nat) (fun s => [(0, .slice (some ⟨g, pre.length, none⟩) xs.length cap), (1, .int .i64 ((a : Nat) : Int)), (2, .int .i64 ((b : Nat) : Int)), (6, .int .i64 ((i : Nat) : Int)), (7, .int .i64 ((s.1 : Nat) : Int))]) (fun _ => K) (fun s => pt g (uA pre s.2 post) 37 :: hs)
   (fun s => a <= s.1 /\ s.1 <= i /\ SegP a b xs s.2 /\ InvI a i s.1 s.2) (fun s => s.1) (i, ys) ⟨by omega, Nat.le_refl _, hP, InvI.start hS⟩ ⟨rfl, rfl, rfl, rfl, rfl, trivial⟩ rfl rfl ?_
  rintro ⟨j, zs⟩ ⟨hj1, hj2, hQ, hV⟩
  dsimp only at *
  have hzl : zs.length = xs.length := hQ.len
  refine sq (sq (rga [pt g (uA pre zs post) 37] 15 [0, 2, 4, 6, 8, 10, 12, 14, 16, 18, 20, 22, 24, 27, 28] (by simp) (by kernel_rfl) (by kernel_rfl) ?_))
  refine dcmp hT (by kernel_rfl) 2 (a < j) rfl (by simp) (fun h3 => ?_) (fun h3 => ?_)
  ·refine dixs hT (by kernel_rfl) 3 j rfl rfl (by omega) ?_
   simp only [add_mk, Nat.mul_one]
   refine dldp hT (by kernel_rfl) 0 0 rfl rfl (uA_get (by omega)) ?_
   refine dar hT (by kernel_rfl) 2 rfl (v' := .int .i64 ((j - 1 : Nat) : Int)) (by rw [show ((j : Nat) : Int) - 1 = ((j - 1 : Nat) : Int) from by omega]; exact i64w (by omega)) ?_
   refine dixs hT (by kernel_rfl) 0 (j - 1) rfl rfl (by omega) ?_
   simp only [add_mk, Nat.mul_one]
   refine dldp hT (by kernel_rfl) 0 0 rfl rfl (uA_get (by omega)) ?_
   refine dact hT (by kernel_rfl) 0 rfl ?_
   refine cl hT 0 rfl (lessC (zs.getD j 0) (zs.getD (j - 1) 0)) ?_
   rintro v29 K29 hs29 ⟨rfl, rfl, rfl⟩
   refine dnex [pt g (uA pre zs post) 37] (by simp) (by simp) rfl ?_
   by_cases hlt : zs.getD j 0 < zs.getD (j - 1) 0
   ·rw [decide_eq_true hlt]
    refine dend hT (by kernel_rfl) 1 rfl (th (ifT rfl ?_))
    have hgj : (uA pre zs post)[pre.length + j]? = some (.int .u64 ((zs.getD j 0 : Nat) : Int)) := uA_get (by omega)
    have hgj1 : (uA pre zs post)[pre.length + (j - 1)]? = some (.int .u64 ((zs.getD (j - 1) 0 : Nat) : Int)) := uA_get (by omega)
    have hgj2 : (uA pre (zs.set j (zs.getD (j - 1) 0)) post)[pre.length + (j - 1)]? = some (.int .u64 (((zs.set j (zs.getD (j - 1) 0)).getD (j - 1) 0 : Nat) : Int)) := uA_get (by rw [List.length_set]; omega)
    refine sk (th (sq (bk (rga [pt g (uA pre zs post) 37] 15 [0, 2, 4, 6, 8, 10, 12, 14, 16, 18, 20, 22, 24, 26, 28, 31, 32, 35] (by simp) (by kernel_rfl) (by kernel_rfl) ?_))))
    refine dar hT (by kernel_rfl) 4 rfl (v' := .int .i64 ((j - 1 : Nat) : Int)) (by rw [show ((j : Nat) : Int) - 1 = ((j - 1 : Nat) : Int) from by omega]; exact i64w (by omega)) ?_
    refine dar hT (by kernel_rfl) 2 rfl (v' := .int .i64 ((j - 1 : Nat) : Int)) (by rw [show ((j : Nat) : Int) - 1 = ((j - 1 : Nat) : Int) from by omega]; exact i64w (by omega)) ?_
    refine dixs hT (by kernel_rfl) 0 (j - 1) rfl rfl (by omega) ?_
    simp only [add_mk, Nat.mul_one]
    refine dldpw hT (by kernel_rfl) 0 0 rfl (by kernel_rfl) rfl hgj1 ?_
    refine dixs hT (by kernel_rfl) 2 j rfl rfl (by omega) ?_
    simp only [add_mk, Nat.mul_one]
    refine dldpw hT (by kernel_rfl) 0 0 rfl (by kernel_rfl) rfl hgj ?_
    refine dixs hT (by kernel_rfl) 0 j rfl rfl (by omega) ?_
    simp only [add_mk, Nat.mul_one]
    refine dact hT (by kernel_rfl) 0 rfl ?_
    refine stp hT 0 0 rfl rfl hgj rfl ?_
    refine dnext (.inl (by kernel_rfl)) ?_
    refine dixs hT (by kernel_rfl) 0 (j - 1) rfl rfl (by omega) ?_
    simp only [add_mk, Nat.mul_one]
    refine dact hT (by kernel_rfl) 0 rfl ?_
    refine WL.hs (pt g (uA pre (zs.set j (zs.getD (j - 1) 0)) post) 37 :: hs) (congrArg (fun z => pt g z 37 :: hs) (uA_set (by omega))) ?_
    refine stp hT 0 0 rfl rfl hgj2 rfl ?_
    refine dnext (.inl (by kernel_rfl)) ?_
    refine dend hT (by kernel_rfl) 0 rfl (bl (th (rg ?_)))
    refine ar hT 1 rfl (v' := .int .i64 ((j - 1 : Nat) : Int)) (by rw [show ((j : Nat) : Int) - 1 = ((j - 1 : Nat) : Int) from by omega]; exact i64w (by omega)) ?_
    refine fin hT 1 rfl ?_
    exact again (x := (j, zs)) (j - 1, swp j (j - 1) zs) ⟨rfl, rfl, rfl, rfl, rfl, trivial⟩ rfl (congrArg (fun z => pt g z 37 :: hs) (uA_set (by rw [List.length_set]; omega))) ⟨by omega, by omega, hQ.trans (SegP.swp ⟨by omega, by omega⟩ ⟨by omega, by omega⟩ (by omega)), hV.swap h3 hj2 (by omega) hlt⟩ (by dsimp only; omega)
   ·rw [decide_eq_false hlt]
    have hdone : Srt a (i + 1) zs := hV.stop h3 (by omega)
    refine dend hT (by kernel_rfl) 1 rfl (th (ifF rfl ?_))
    refine ex (xt (xt (xb (bl (th (rg ?_))))))
    refine ar hT 1 rfl (i64w (x := ((i + 1 : Nat) : Int)) (by omega)) ?_
    refine fin hT 1 rfl ?_
    exact again (x := (i, ys)) (i + 1, zs) ⟨rfl, rfl, rfl, rfl, trivial⟩ rfl rfl ⟨by omega, .inl (by omega), hQ, hdone⟩ (by dsimp only; omega)
  ·obtain rfl : j = a := by omega
   have hdone : Srt j (i + 1) zs := hV.done
   refine dact hT (by kernel_rfl) 10 rfl ?_
   refine WL.pures hT 1 rfl ?_
   refine dnex [pt g (uA pre zs post) 37] (by simp) (by simp) rfl ?_
   refine dend hT (by kernel_rfl) 1 rfl (th (ifF rfl (ex (xt (xt (xb (bl (th (rg ?_)))))))))
   refine ar hT 1 rfl (i64w (x := ((i + 1 : Nat) : Int)) (by omega)) ?_
   refine fin hT 1 rfl ?_
   exact again (x := (i, ys)) (i + 1, zs) ⟨rfl, rfl, rfl, rfl, trivial⟩ rfl rfl ⟨by omega, .inl (by omega), hQ, hdone⟩ (by dsimp only; omega)
 ·refine ex (xt (xt (xb ?_)))
  refine end0 rfl ⟨rfl, ys, rfl, hP, ?_⟩
  intro p q h1 h2 h3
  exact hS p q h1 h2 (by omega)
end Go.Proofs.YtcncpbolcigpnaaGreat
end
section
namespace Go.Proofs.YtcncpbolcigpnaaGreat
open Go.En
attribute [local irreducible] Code.wp wpList Calls
theorem ord2C {w0 : World} {K : PH} {hs : List PH} (g cap s : Nat) (pre post : List Value) (xs : List Nat) (a b : Nat) (n : Nat) (ha : a < xs.length) (hb : b < xs.length) (hc : xs.length <= cap) (hl : xs.length <= 1099511627776) (hn : n <= 1000) :
  Ct Tryz.prog w0 145 [.slice (some ⟨g, pre.length, none⟩) xs.length cap, .int .i64 ((a : Nat) : Int), .int .i64 ((b : Nat) : Int), .pointer (some ⟨s, 0, none⟩)] K (pt s #[.int .i64 ((n : Nat) : Int)] 3 :: pt g (uA pre xs post) 37 :: hs)
   (fun v K' hs' => K' = K /\ ∃ x y m : Nat, hs' = pt s #[.int .i64 ((m : Nat) : Int)] 3 :: pt g (uA pre xs post) 37 :: hs /\ v = .tuple #[.int .i64 ((x : Nat) : Int), .int .i64 ((y : Nat) : Int)] /\ (x = a /\ y = b \/ x = b /\ y = a) /\ n <= m /\ m <= n + 1) := by
 refine enter Tryz.func145 (by kernel_rfl) rfl rfl rfl ?_
 refine sq (rg ?_)
 refine fin hT 2 rfl (th ?_)
 refine sq (sq (rga [pt g (uA pre xs post) 37] 9 [0, 2, 4, 6, 8, 10, 12, 14, 17] (by simp) (by kernel_rfl) (by kernel_rfl) ?_))
 refine dixs hT (by kernel_rfl) 2 b rfl rfl (by omega) ?_
 simp only [add_mk, Nat.mul_one]
 refine dldp hT (by kernel_rfl) 0 0 rfl rfl (uA_get hb) ?_
 refine dixs hT (by kernel_rfl) 2 a rfl rfl (by omega) ?_
 simp only [add_mk, Nat.mul_one]
 refine dldp hT (by kernel_rfl) 0 0 rfl rfl (uA_get ha) ?_
 refine dact hT (by kernel_rfl) 0 rfl ?_
 refine cl hT 0 rfl (lessC (xs.getD b 0) (xs.getD a 0)) ?_
 rintro v18 K18 hs18 ⟨rfl, rfl, rfl⟩
 refine dnex [pt g (uA pre xs post) 37] (by simp) (by simp) rfl ?_
 by_cases hlt : xs.getD b 0 < xs.getD a 0
 ·rw [decide_eq_true hlt]
  refine dend hT (by kernel_rfl) 0 rfl (th (ifT rfl ?_))
  refine sq (rg ?_)
  refine ldp hT 2 0 rfl rfl rfl ?_
  refine ar hT 0 rfl (i64w (x := ((n + 1 : Nat) : Int)) (by omega)) ?_
  refine stp hT 1 0 rfl rfl rfl rfl ?_
  refine fin hT 0 rfl (th (sq (rg ?_)))
  refine fin hT 4 rfl (th (rt (rT ?_)))
  exact ret2 rfl rfl rfl ⟨rfl, b, a, n + 1, rfl, rfl, .inr ⟨rfl, rfl⟩, by omega, Nat.le_refl _⟩
 ·rw [decide_eq_false hlt]
  refine dend hT (by kernel_rfl) 0 rfl (th (ifF rfl (sk (th (sq (rg ?_))))))
  refine fin hT 4 rfl (th (rt ?_))
  exact ret2 rfl rfl rfl ⟨rfl, a, b, n, rfl, rfl, .inl ⟨rfl, rfl⟩, Nat.le_refl _, Nat.le_succ _⟩
theorem medC {w0 : World} {K : PH} {hs : List PH} (g cap s : Nat) (pre post : List Value) (xs : List Nat) (a b c lo hi : Nat) (n : Nat) (ha : lo <= a /\ a < hi) (hb : lo <= b /\ b < hi) (hcc : lo <= c /\ c < hi) (hh : hi <= xs.length) (hc : xs.length <= cap) (hl : xs.length <= 1099511627776) (hn : n <= 900) :
  Ct Tryz.prog w0 143 [.slice (some ⟨g, pre.length, none⟩) xs.length cap, .int .i64 ((a : Nat) : Int), .int .i64 ((b : Nat) : Int), .int .i64 ((c : Nat) : Int), .pointer (some ⟨s, 0, none⟩)] K (pt s #[.int .i64 ((n : Nat) : Int)] 3 :: pt g (uA pre xs post) 37 :: hs)
   (fun v K' hs' => K' = K /\ ∃ x m : Nat, hs' = pt s #[.int .i64 ((m : Nat) : Int)] 3 :: pt g (uA pre xs post) 37 :: hs /\ v = .int .i64 ((x : Nat) : Int) /\ (lo <= x /\ x < hi) /\ n <= m /\ m <= n + 3) := by
 refine enter Tryz.func143 (by kernel_rfl) rfl rfl rfl ?_
 refine sq (rg ?_)
 refine fin hT 1 rfl (th (sq (rg ?_)))
 refine cl hT 4 rfl (ord2C g cap s pre post xs a b n (by omega) (by omega) hc hl (by omega)) ?_
 rintro v16 K16 hs16 ⟨rfl, x1, y1, m1, rfl, rfl, h1, h2, h3⟩
 refine fin hT 5 rfl (th (sq (rg ?_)))
 refine cl hT 4 rfl (ord2C g cap s pre post xs y1 c m1 (by omega) (by omega) hc hl (by omega)) ?_
 rintro v24 K24 hs24 ⟨rfl, x2, y2, m2, rfl, rfl, h4, h5, h6⟩
 refine fin hT 5 rfl (th (sq (rg ?_)))
 refine cl hT 4 rfl (ord2C g cap s pre post xs x1 x2 m2 (by omega) (by omega) hc hl (by omega)) ?_
 rintro v32 K32 hs32 ⟨rfl, x3, y3, m3, rfl, rfl, h7, h8, h9⟩
 refine fin hT 5 rfl (th (sq (rg ?_)))
 refine fin hT 2 rfl (th (rt ?_))
 exact ret1 rfl rfl ⟨rfl, y3, m3, rfl, rfl, by omega, by omega, by omega⟩
theorem medAC {w0 : World} {K : PH} {hs : List PH} (g cap s : Nat) (pre post : List Value) (xs : List Nat) (a lo hi : Nat) (n : Nat) (ha : lo + 1 <= a /\ a + 1 < hi) (hh : hi <= xs.length) (hc : xs.length <= cap) (hl : xs.length <= 1099511627776) (hn : n <= 900) :
  Ct Tryz.prog w0 142 [.slice (some ⟨g, pre.length, none⟩) xs.length cap, .int .i64 ((a : Nat) : Int), .pointer (some ⟨s, 0, none⟩)] K (pt s #[.int .i64 ((n : Nat) : Int)] 3 :: pt g (uA pre xs post) 37 :: hs)
   (fun v K' hs' => K' = K /\ ∃ x m : Nat, hs' = pt s #[.int .i64 ((m : Nat) : Int)] 3 :: pt g (uA pre xs post) 37 :: hs /\ v = .int .i64 ((x : Nat) : Int) /\ (lo <= x /\ x < hi) /\ n <= m /\ m <= n + 3) := by
 refine enter Tryz.func142 (by kernel_rfl) rfl rfl rfl ?_
 refine sq (rg ?_)
 refine fin hT 1 rfl (th (sq (rg ?_)))
 refine ar hT 2 rfl (v' := .int .i64 ((a - 1 : Nat) : Int)) (by rw [show ((a : Nat) : Int) - 1 = ((a - 1 : Nat) : Int) from by omega]; exact i64w (by omega)) ?_
 refine ar hT 2 rfl (i64w (x := ((a + 1 : Nat) : Int)) (by omega)) ?_
 refine cl hT 1 rfl (medC g cap s pre post xs (a - 1) a (a + 1) lo hi n (by omega) (by omega) (by omega) hh hc hl hn) ?_
 rintro v14 K14 hs14 ⟨rfl, x, m, rfl, rfl, h1, h2, h3⟩
 refine fin hT 1 rfl (th (rt ?_))
 exact ret1 rfl rfl ⟨rfl, x, m, rfl, rfl, h1, h2, h3⟩
end Go.Proofs.YtcncpbolcigpnaaGreat
end
section
namespace Go.Proofs.YtcncpbolcigpnaaGreat
open Go.En
attribute [local irreducible] Code.wp wpList Calls
theorem quoN (n m : Nat) (h : n < 9223372036854775808) : Value.int .i64 (IntKind.i64.wrap (((n : Nat) : Int).tdiv ((m : Nat) : Int))) = .int .i64 ((n / m : Nat) : Int) := by
 have h2 : ((n : Nat) : Int).tdiv ((m : Nat) : Int) = ((n / m : Nat) : Int) := by rw [Int.ofNat_tdiv]
 rw [h2]
 have h3 : n / m <= n := Nat.div_le_self n m
 generalize n / m = z at h3 ⊢
 exact i64w (by omega)
theorem pivC {w0 : World} {K : PH} {hs : List PH} (g cap : Nat) (pre post : List Value) (xs : List Nat) (a b : Nat) (hab : a + 8 <= b) (hb : b <= xs.length) (hc : xs.length <= cap) (hl : xs.length <= 1099511627776) :
  Ct Tryz.prog w0 130 [.slice (some ⟨g, pre.length, none⟩) xs.length cap, .int .i64 ((a : Nat) : Int), .int .i64 ((b : Nat) : Int)] K (pt g (uA pre xs post) 37 :: hs)
   (fun v K' hs' => K' = K /\ hs' = pt g (uA pre xs post) 37 :: hs /\ ∃ x h : Nat, v = .tuple #[.int .i64 ((x : Nat) : Int), .int .i64 ((h : Nat) : Int)] /\ (a <= x /\ x < b) /\ h <= 2) := by
 refine enter Tryz.func130 (by kernel_rfl) rfl rfl rfl ?_
 refine sq (rg ?_)
 refine fin hT 2 rfl (th (sq (rg ?_)))
 refine ar hT 2 rfl (v' := .int .i64 ((b - a : Nat) : Int)) (by rw [show ((b : Nat) : Int) - ((a : Nat) : Int) = ((b - a : Nat) : Int) from by omega]; exact i64w (by omega)) ?_
 refine fin hT 1 rfl (th (sq (rg ?_)))
 refine al hT 0 (.int .i64 0) rfl (by kernel_rfl) fun b9 => ?_
 refine fin hT 0 rfl (th (sq (rg ?_)))
 obtain ⟨q, hq⟩ : ∃ q, q = (b - a) / 4 := ⟨_, rfl⟩
 have hq1 : 4 * q <= b - a /\ 2 <= q := by omega
 refine ar hT 2 rfl (v' := .int .i64 ((q : Nat) : Int)) (by rw [hq]; exact quoN (b - a) 4 (by omega)) ?_
 refine ar hT 0 rfl (i64w (x := ((q * 1 : Nat) : Int)) (by omega)) ?_
 refine ar hT 0 rfl (i64w (x := ((a + q * 1 : Nat) : Int)) (by omega)) ?_
 refine fin hT 1 rfl (th (sq (rg ?_)))
 refine ar hT 2 rfl (v' := .int .i64 ((q : Nat) : Int)) (by rw [hq]; exact quoN (b - a) 4 (by omega)) ?_
 refine ar hT 0 rfl (i64w (x := ((q * 2 : Nat) : Int)) (by omega)) ?_
 refine ar hT 0 rfl (i64w (x := ((a + q * 2 : Nat) : Int)) (by omega)) ?_
 refine fin hT 1 rfl (th (sq (rg ?_)))
 refine ar hT 2 rfl (v' := .int .i64 ((q : Nat) : Int)) (by rw [hq]; exact quoN (b - a) 4 (by omega)) ?_
 refine ar hT 0 rfl (i64w (x := ((q * 3 : Nat) : Int)) (by omega)) ?_
 refine ar hT 0 rfl (i64w (x := ((a + q * 3 : Nat) : Int)) (by omega)) ?_
 refine fin hT 1 rfl (th ?_)
 refine sq (sq (rg ?_))
 refine cmp hT 1 rfl (fun h32 => ?_) (fun h32 => absurd (by omega) h32)
 refine fin hT 0 rfl (th (ifT rfl ?_))
 refine jn (σ := Nat × Nat × Nat × Nat) (fun s => [(0, .slice (some ⟨g, pre.length, none⟩) xs.length cap), (9, .pointer (some ⟨b9, 0, none⟩)), (10, .int .i64 ((s.1 : Nat) : Int)), (11, .int .i64 ((s.2.1 : Nat) : Int)), (12, .int .i64 ((s.2.2.1 : Nat) : Int))])
  (fun s => pt b9 #[.int .i64 ((s.2.2.2 : Nat) : Int)] 3 :: pt g (uA pre xs post) 37 :: hs) (fun s => (a <= s.1 /\ s.1 < b) /\ (a <= s.2.1 /\ s.2.1 < b) /\ (a <= s.2.2.1 /\ s.2.2.1 < b) /\ s.2.2.2 <= 9) ?_ ?_
 ·refine sq (rg ?_)
  refine cmpS hT 1 rfl fun b34 h34 => ?_
  refine fin hT 0 rfl (th (ifP h34 rfl (fun e4 => ?_) (fun e4 => ?_)))
  ·refine sq (rg ?_)
   refine cl hT 2 rfl (medAC g cap b9 pre post xs (a + q * 1) a b 0 (by omega) hb hc hl (by omega)) ?_
   rintro v37 K37 hs37 ⟨rfl, x1, m1, rfl, rfl, h1, h2, h3⟩
   refine fin hT 1 rfl (th (sq (rg ?_)))
   refine cl hT 2 rfl (medAC g cap b9 pre post xs (a + q * 2) a b m1 (by omega) hb hc hl (by omega)) ?_
   rintro v40 K40 hs40 ⟨rfl, x2, m2, rfl, rfl, h4, h5, h6⟩
   refine fin hT 1 rfl (th (rg ?_))
   refine cl hT 2 rfl (medAC g cap b9 pre post xs (a + q * 3) a b m2 (by omega) hb hc hl (by omega)) ?_
   rintro v43 K43 hs43 ⟨rfl, x3, m3, rfl, rfl, h7, h8, h9⟩
   refine fin hT 1 rfl ?_
   exact jx (x1, x2, x3, m3) ⟨h1, h4, h7, by dsimp only; omega⟩ ⟨rfl, rfl, rfl, rfl, rfl, trivial⟩ rfl rfl
  ·refine sk ?_
   exact jx (a + q * 1, a + q * 2, a + q * 3, 0) ⟨by dsimp only; omega, by dsimp only; omega, by dsimp only; omega, by dsimp only; omega⟩ ⟨rfl, rfl, rfl, rfl, rfl, trivial⟩ rfl rfl
 ·rintro ⟨i, j, k, n⟩ ⟨hi, hj, hk, hn⟩
  dsimp only at *
  refine rg ?_
  refine cl hT 4 rfl (medC g cap b9 pre post xs i j k a b n hi hj hk hb hc hl (by omega)) ?_
  rintro v48 K48 hs48 ⟨rfl, x, m, rfl, rfl, h1, h2, h3⟩
  refine fin hT 1 rfl (th (sq (rg ?_)))
  refine ldp hT 0 0 rfl rfl rfl ?_
  refine fin hT 0 rfl (th (bk (sq (rg ?_))))
  refine cmpS hT 0 rfl fun b52 h52 => ?_
  refine fin hT 1 rfl (th (ifP h52 rfl (fun e6 => ?_) (fun e6 => ?_)))
  ·refine sq (rg ?_)
   refine fin hT 3 rfl (th (rt (rB (WQ.drop ?_))))
   exact ret2 rfl rfl rfl ⟨rfl, rfl, x, 1, rfl, h1, by decide⟩
  ·refine sq (rg ?_)
   refine cmpS hT 0 rfl fun b55 h55 => ?_
   refine fin hT 1 rfl (th (ifP h55 rfl (fun e8 => ?_) (fun e8 => ?_)))
   ·refine sq (rg ?_)
    refine fin hT 3 rfl (th (rt (rB (WQ.drop ?_))))
    exact ret2 rfl rfl rfl ⟨rfl, rfl, x, 2, rfl, h1, by decide⟩
   ·refine sq (rg ?_)
    refine fin hT 3 rfl (th (rt (rB (WQ.drop ?_))))
    exact ret2 rfl rfl rfl ⟨rfl, rfl, x, 0, rfl, h1, by decide⟩
end Go.Proofs.YtcncpbolcigpnaaGreat
end
section
namespace Go.Proofs.YtcncpbolcigpnaaGreat
open Go.En
attribute [local irreducible] Code.wp wpList Calls
theorem revRC {w0 : World} {K : PH} {hs : List PH} (g cap : Nat) (pre post : List Value) (xs : List Nat) (a b : Nat) (hab : a < b) (hb : b <= xs.length) (hc : xs.length <= cap) (hl : xs.length <= 1099511627776) :
  Ct Tryz.prog w0 131 [.slice (some ⟨g, pre.length, none⟩) xs.length cap, .int .i64 ((a : Nat) : Int), .int .i64 ((b : Nat) : Int)] K (pt g (uA pre xs post) 37 :: hs)
   (fun v K' hs' => K' = K /\ ∃ ys, hs' = pt g (uA pre ys post) 37 :: hs /\ SegP a b xs ys) := by
 refine enter Tryz.func131 (by kernel_rfl) rfl rfl rfl ?_
 refine sq (rg ?_)
 refine fin hT 2 rfl (th (sq (rg ?_)))
 refine ar hT 1 rfl (v' := .int .i64 ((b - 1 : Nat) : Int)) (by rw [show ((b : Nat) : Int) - 1 = ((b - 1 : Nat) : Int) from by omega]; exact i64w (by omega)) ?_
 refine fin hT 1 rfl (th (bk ?_))
 refine loop (σ := Nat × Nat × List Nat) (fun s => [(0, .slice (some ⟨g, pre.length, none⟩) xs.length cap), (6, .int .i64 ((s.1 : Nat) : Int)), (7, .int .i64 ((s.2.1 : Nat) : Int))]) (fun _ => K) (fun s => pt g (uA pre s.2.2 post) 37 :: hs)
  (fun s => a <= s.1 /\ s.1 <= b /\ s.2.1 < b /\ SegP a b xs s.2.2) (fun s => b - s.1) (a, b - 1, xs) ⟨Nat.le_refl _, by dsimp only; omega, by dsimp only; omega, SegP.refl _ _ _⟩ ⟨rfl, rfl, rfl, trivial⟩ rfl rfl ?_
 rintro ⟨i, j, ys⟩ ⟨hi1, hi2, hj, hP⟩
 dsimp only at *
 have hyl : ys.length = xs.length := hP.len
 refine sq (sq (rg ?_))
 refine cmpS hT 2 rfl fun b13 h13 => ?_
 refine fin hT 0 rfl (th (ifP h13 rfl (fun e2 => ?_) (fun e2 => ?_)))
 ·have hij : i < j := by omega
  have hgi : (uA pre ys post)[pre.length + i]? = some (.int .u64 ((ys.getD i 0 : Nat) : Int)) := uA_get (by omega)
  have hgj : (uA pre ys post)[pre.length + j]? = some (.int .u64 ((ys.getD j 0 : Nat) : Int)) := uA_get (by omega)
  have hgj2 : (uA pre (ys.set i (ys.getD j 0)) post)[pre.length + j]? = some (.int .u64 (((ys.set i (ys.getD j 0)).getD j 0 : Nat) : Int)) := uA_get (by rw [List.length_set]; omega)
  refine sk (th (bk (sq (rga [pt g (uA pre ys post) 37] 13 [0, 2, 4, 6, 8, 10, 12, 14, 16, 18, 20, 22, 24, 27, 28, 31] (by simp) (by kernel_rfl) (by kernel_rfl) ?_))))
  refine dixs hT (by kernel_rfl) 6 j rfl rfl (by omega) ?_
  simp only [add_mk, Nat.mul_one]
  refine dldpw hT (by kernel_rfl) 0 0 rfl (by kernel_rfl) rfl hgj ?_
  refine dixs hT (by kernel_rfl) 2 i rfl rfl (by omega) ?_
  simp only [add_mk, Nat.mul_one]
  refine dldpw hT (by kernel_rfl) 0 0 rfl (by kernel_rfl) rfl hgi ?_
  refine dixs hT (by kernel_rfl) 0 i rfl rfl (by omega) ?_
  simp only [add_mk, Nat.mul_one]
  refine dact hT (by kernel_rfl) 0 rfl ?_
  refine stp hT 0 0 rfl rfl hgi rfl ?_
  refine dnext (.inl (by kernel_rfl)) ?_
  refine dixs hT (by kernel_rfl) 0 j rfl rfl (by omega) ?_
  simp only [add_mk, Nat.mul_one]
  refine dact hT (by kernel_rfl) 0 rfl ?_
  refine WL.hs (pt g (uA pre (ys.set i (ys.getD j 0)) post) 37 :: hs) (congrArg (fun z => pt g z 37 :: hs) (uA_set (by omega))) ?_
  refine stp hT 0 0 rfl rfl hgj2 rfl ?_
  refine dnext (.inl (by kernel_rfl)) ?_
  refine dend hT (by kernel_rfl) 0 rfl (th (sq (rg ?_)))
  refine ar hT 1 rfl (i64w (x := ((i + 1 : Nat) : Int)) (by omega)) ?_
  refine fin hT 1 rfl (th (rg ?_))
  refine ar hT 1 rfl (v' := .int .i64 ((j - 1 : Nat) : Int)) (by rw [show ((j : Nat) : Int) - 1 = ((j - 1 : Nat) : Int) from by omega]; exact i64w (by omega)) ?_
  refine fin hT 1 rfl (bl ?_)
  exact again (x := (i, j, ys)) (i + 1, j - 1, swp i j ys) ⟨rfl, rfl, rfl, trivial⟩ rfl (congrArg (fun z => pt g z 37 :: hs) (uA_set (by rw [List.length_set]; omega))) ⟨by dsimp only; omega, by dsimp only; omega, by dsimp only; omega, hP.trans (SegP.swp ⟨by omega, by omega⟩ ⟨by omega, by omega⟩ (by omega))⟩ (by dsimp only; omega)
 ·refine ex (xt (xt (xb ?_)))
  exact end0 rfl ⟨rfl, ys, rfl, hP⟩
end Go.Proofs.YtcncpbolcigpnaaGreat
end
section
namespace Go.En
def HpX (f lo hi : Nat) (ex : Nat -> Prop) (xs : List Nat) : Prop := ∀ i c, lo <= i -> ¬ ex i -> (c = 2 * i + 1 \/ c = 2 * i + 2) -> c < hi -> xs.getD (f + c) 0 <= xs.getD (f + i) 0
def SftI (f lo hi r : Nat) (xs : List Nat) : Prop :=
 HpX f lo hi (fun i => i = r) xs /\ ∀ p c, lo <= p -> (r = 2 * p + 1 \/ r = 2 * p + 2) -> (c = 2 * r + 1 \/ c = 2 * r + 2) -> c < hi -> xs.getD (f + c) 0 <= xs.getD (f + p) 0
theorem SftI.start {f lo hi : Nat} {xs : List Nat} (h : HpX f (lo + 1) hi (fun _ => False) xs) : SftI f lo hi lo xs :=
 ⟨fun i c h1 h2 h3 h4 => h i c (by omega) (by simp) h3 h4, fun p c h1 h2 => by omega⟩
theorem SftI.leaf {f lo hi r : Nat} {xs : List Nat} (h : SftI f lo hi r xs) (hr : hi <= 2 * r + 1) : HpX f lo hi (fun _ => False) xs := fun i c h1 _ h3 h4 => by
 by_cases e : i = r
 ·subst e; omega
 ·exact h.1 i c h1 e h3 h4
theorem SftI.stop {f lo hi r k : Nat} {xs : List Nat} (h : SftI f lo hi r xs) (hk : ∀ c, (c = 2 * r + 1 \/ c = 2 * r + 2) -> c < hi -> xs.getD (f + c) 0 <= xs.getD (f + k) 0) (hle : xs.getD (f + k) 0 <= xs.getD (f + r) 0) : HpX f lo hi (fun _ => False) xs := fun i c h1 _ h3 h4 => by
 by_cases e : i = r
 ·subst e; exact Nat.le_trans (hk c h3 h4) hle
 ·exact h.1 i c h1 e h3 h4
theorem SftI.sink {f lo hi r k : Nat} {xs : List Nat} (h : SftI f lo hi r xs) (hlo : lo <= r) (hk0 : k = 2 * r + 1 \/ k = 2 * r + 2) (hkh : k < hi) (hl : f + hi <= xs.length) (hk : ∀ c, (c = 2 * r + 1 \/ c = 2 * r + 2) -> c < hi -> xs.getD (f + c) 0 <= xs.getD (f + k) 0) (hlt : xs.getD (f + r) 0 < xs.getD (f + k) 0) : SftI f lo hi k (swp (f + r) (f + k) xs) := by
 have hg : ∀ z, (swp (f + r) (f + k) xs).getD (f + z) 0 = if z = k then xs.getD (f + r) 0 else if z = r then xs.getD (f + k) 0 else xs.getD (f + z) 0 := by
  intro z
  rw [swp_getD (by omega) (by omega)]
  by_cases e1 : z = k
  ·rw [if_pos e1, if_pos (by omega)]
  ·rw [if_neg e1, if_neg (by omega)]
   by_cases e2 : z = r
   ·rw [if_pos e2, if_pos (by omega)]
   ·rw [if_neg e2, if_neg (by omega)]
 constructor
 ·intro i c h1 h2 h3 h4
  rw [hg, hg]
  rw [if_neg h2]
  by_cases e2 : i = r
  ·subst e2
   rw [if_pos rfl]
   by_cases e1 : c = k
   ·rw [if_pos e1]; omega
   ·rw [if_neg e1, if_neg (by omega)]
    exact hk c h3 h4
  ·rw [if_neg e2]
   by_cases e1 : c = k
   ·omega
   ·rw [if_neg e1]
    by_cases e3 : c = r
    ·rw [if_pos e3]
     exact h.2 i k h1 (by omega) hk0 hkh
    ·rw [if_neg e3]
     exact h.1 i c h1 e2 h3 h4
 ·intro p c h1 h2 h3 h4
  have hp : p = r := by omega
  subst hp
  rw [hg, hg, if_neg (by omega), if_neg (by omega), if_neg (by omega), if_pos rfl]
  exact h.1 k c (by omega) (by omega) h3 h4
end Go.En
end
section
namespace Go.Proofs.YtcncpbolcigpnaaGreat
open Go.En
attribute [local irreducible] Code.wp wpList Calls
theorem siftC {w0 : World} {K : PH} {hs : List PH} (g cap : Nat) (pre post : List Value) (xs : List Nat) (lo hi f : Nat) (hb : f + hi <= xs.length) (hc : xs.length <= cap) (hl : xs.length <= 1099511627776) (hlo : lo <= hi) (hp : HpX f (lo + 1) hi (fun _ => False) xs) :
  Ct Tryz.prog w0 139 [.slice (some ⟨g, pre.length, none⟩) xs.length cap, .int .i64 ((lo : Nat) : Int), .int .i64 ((hi : Nat) : Int), .int .i64 ((f : Nat) : Int)] K (pt g (uA pre xs post) 37 :: hs)
   (fun v K' hs' => K' = K /\ ∃ ys, hs' = pt g (uA pre ys post) 37 :: hs /\ SegP (f + lo) (f + hi) xs ys /\ HpX f lo hi (fun _ => False) ys) := by
 refine enter Tryz.func139 (by kernel_rfl) rfl rfl rfl ?_
 refine sq (rg ?_)
 refine fin hT 2 rfl (th (bk ?_))
 refine loop (σ := Nat × List Nat) (fun s => [(0, .slice (some ⟨g, pre.length, none⟩) xs.length cap), (2, .int .i64 ((hi : Nat) : Int)), (3, .int .i64 ((f : Nat) : Int)), (8, .int .i64 ((s.1 : Nat) : Int))]) (fun _ => K) (fun s => pt g (uA pre s.2 post) 37 :: hs)
  (fun s => lo <= s.1 /\ s.1 <= hi /\ SegP (f + lo) (f + hi) xs s.2 /\ SftI f lo hi s.1 s.2) (fun s => hi - s.1) (lo, xs) ⟨Nat.le_refl _, hlo, SegP.refl _ _ _, SftI.start hp⟩ ⟨rfl, rfl, rfl, rfl, trivial⟩ rfl rfl ?_
 rintro ⟨r, ys⟩ ⟨hr1, hr2, hP, hS⟩
 dsimp only at *
 have hyl : ys.length = xs.length := hP.len
 refine bk (sq (rg ?_))
 refine ar hT 1 rfl (i64w (x := ((2 * r : Nat) : Int)) (by omega)) ?_
 refine ar hT 0 rfl (i64w (x := ((2 * r + 1 : Nat) : Int)) (by omega)) ?_
 refine fin hT 1 rfl (th (sq (sq (rg ?_))))
 refine cmpS hT 2 rfl fun b16 h16 => ?_
 refine fin hT 0 rfl (th (ifP h16 rfl (fun e2 => ?_) (fun e2 => ?_)))
 ·refine ex (xt (xn rfl (xt (xb ?_))))
  exact end0 rfl ⟨rfl, ys, rfl, hP, hS.leaf (by omega)⟩
 ·have hch : 2 * r + 1 < hi := by omega
  refine sk (th ?_)
  refine jn (σ := Nat) (fun k => [(0, .slice (some ⟨g, pre.length, none⟩) xs.length cap), (2, .int .i64 ((hi : Nat) : Int)), (3, .int .i64 ((f : Nat) : Int)), (8, .int .i64 ((r : Nat) : Int)), (9, .int .i64 ((k : Nat) : Int))]) (fun _ => pt g (uA pre ys post) 37 :: hs)
   (fun k => (k = 2 * r + 1 \/ k = 2 * r + 2) /\ k < hi /\ ∀ c, (c = 2 * r + 1 \/ c = 2 * r + 2) -> c < hi -> ys.getD (f + c) 0 <= ys.getD (f + k) 0) ?_ ?_
  ·refine sq (rga [pt g (uA pre ys post) 37] 20 [0, 2, 4, 6, 8, 10, 12, 14, 16, 18, 20, 22, 24, 26, 28, 30, 32, 34, 37, 38] (by simp) (by kernel_rfl) (by kernel_rfl) ?_)
   refine dar hT (by kernel_rfl) 1 rfl (i64w (x := ((2 * r + 1 + 1 : Nat) : Int)) (by omega)) ?_
   refine dcmp hT (by kernel_rfl) 1 (2 * r + 1 + 1 < hi) rfl (by simp; omega) (fun h3 => ?_) (fun h3 => ?_)
   ·refine dar hT (by kernel_rfl) 4 rfl (i64w (x := ((f + (2 * r + 1) : Nat) : Int)) (by omega)) ?_
    refine dixs hT (by kernel_rfl) 0 (f + (2 * r + 1)) rfl rfl (by omega) ?_
    simp only [add_mk, Nat.mul_one]
    refine dldp hT (by kernel_rfl) 0 0 rfl rfl (uA_get (by omega)) ?_
    refine dar hT (by kernel_rfl) 3 rfl (i64w (x := ((f + (2 * r + 1) : Nat) : Int)) (by omega)) ?_
    refine dar hT (by kernel_rfl) 0 rfl (i64w (x := ((f + (2 * r + 1) + 1 : Nat) : Int)) (by omega)) ?_
    refine dixs hT (by kernel_rfl) 0 (f + (2 * r + 1) + 1) rfl rfl (by omega) ?_
    simp only [add_mk, Nat.mul_one]
    refine dldp hT (by kernel_rfl) 0 0 rfl rfl (uA_get (by omega)) ?_
    refine dact hT (by kernel_rfl) 0 rfl ?_
    refine cl hT 0 rfl (lessC (ys.getD (f + (2 * r + 1)) 0) (ys.getD (f + (2 * r + 1) + 1) 0)) ?_
    rintro v35 K35 hs35 ⟨rfl, rfl, rfl⟩
    refine dnex [pt g (uA pre ys post) 37] (by simp) (by simp) rfl ?_
    by_cases hlt : ys.getD (f + (2 * r + 1)) 0 < ys.getD (f + (2 * r + 1) + 1) 0
    ·rw [decide_eq_true hlt]
     refine dend hT (by kernel_rfl) 1 rfl (th (ifT rfl ?_))
     refine rg ?_
     refine ar hT 1 rfl (i64w (x := ((2 * r + 1 + 1 : Nat) : Int)) (by omega)) ?_
     refine fin hT 1 rfl ?_
     refine jx (2 * r + 1 + 1) ⟨.inr rfl, h3, fun c h4 h5 => ?_⟩ ⟨rfl, rfl, rfl, rfl, rfl, trivial⟩ rfl rfl
     rcases h4 with rfl | rfl
     ·exact Nat.le_of_lt hlt
     ·exact Nat.le_refl _
    ·rw [decide_eq_false hlt]
     refine dend hT (by kernel_rfl) 1 rfl (th (ifF rfl (sk ?_)))
     refine jx (2 * r + 1) ⟨.inl rfl, hch, fun c h4 h5 => ?_⟩ ⟨rfl, rfl, rfl, rfl, rfl, trivial⟩ rfl rfl
     rcases h4 with rfl | rfl
     ·exact Nat.le_refl _
     ·exact Nat.le_of_not_lt hlt
   ·refine dact hT (by kernel_rfl) 14 rfl ?_
    refine WL.pures hT 1 rfl ?_
    refine dnex [pt g (uA pre ys post) 37] (by simp) (by simp) rfl ?_
    refine dend hT (by kernel_rfl) 1 rfl (th (ifF rfl (sk ?_)))
    refine jx (2 * r + 1) ⟨.inl rfl, hch, fun c h4 h5 => ?_⟩ ⟨rfl, rfl, rfl, rfl, rfl, trivial⟩ rfl rfl
    have : c = 2 * r + 1 := by omega
    rw [this]; exact Nat.le_refl _
  ·rintro k ⟨hk1, hk2, hk3⟩
   have hrl : f + r < ys.length := by omega
   have hkl : f + k < ys.length := by omega
   have hgr : (uA pre ys post)[pre.length + (f + r)]? = some (.int .u64 ((ys.getD (f + r) 0 : Nat) : Int)) := uA_get hrl
   have hgk : (uA pre ys post)[pre.length + (f + k)]? = some (.int .u64 ((ys.getD (f + k) 0 : Nat) : Int)) := uA_get hkl
   have hgk2 : (uA pre (ys.set (f + r) (ys.getD (f + k) 0)) post)[pre.length + (f + k)]? = some (.int .u64 (((ys.set (f + r) (ys.getD (f + k) 0)).getD (f + k) 0 : Nat) : Int)) := uA_get (by rw [List.length_set]; exact hkl)
   refine sq (sq (rga [pt g (uA pre ys post) 37] 14 [0, 2, 4, 6, 8, 10, 12, 14, 16, 18, 20, 22, 25, 26] (by simp) (by kernel_rfl) (by kernel_rfl) ?_))
   refine dar hT (by kernel_rfl) 3 rfl (i64w (x := ((f + r : Nat) : Int)) (by omega)) ?_
   refine dixs hT (by kernel_rfl) 0 (f + r) rfl rfl (by omega) ?_
   simp only [add_mk, Nat.mul_one]
   refine dldp hT (by kernel_rfl) 0 0 rfl rfl hgr ?_
   refine dar hT (by kernel_rfl) 3 rfl (i64w (x := ((f + k : Nat) : Int)) (by omega)) ?_
   refine dixs hT (by kernel_rfl) 0 (f + k) rfl rfl (by omega) ?_
   simp only [add_mk, Nat.mul_one]
   refine dldp hT (by kernel_rfl) 0 0 rfl rfl hgk ?_
   refine dact hT (by kernel_rfl) 0 rfl ?_
   refine cl hT 0 rfl (lessC (ys.getD (f + r) 0) (ys.getD (f + k) 0)) ?_
   rintro v51 K51 hs51 ⟨rfl, rfl, rfl⟩
   refine dnex [pt g (uA pre ys post) 37] (by simp) (by simp) rfl ?_
   by_cases hlt : ys.getD (f + r) 0 < ys.getD (f + k) 0
   ·rw [decide_eq_true hlt]
    refine dend hT (by kernel_rfl) 1 rfl (th (ifF rfl ?_))
    refine sk (th (sq (rga [pt g (uA pre ys post) 37] 21 [0, 2, 4, 6, 8, 10, 12, 14, 16, 18, 20, 22, 24, 26, 28, 30, 32, 34, 36, 38, 40, 43, 44, 47] (by simp) (by kernel_rfl) (by kernel_rfl) ?_)))
    refine dar hT (by kernel_rfl) 3 rfl (i64w (x := ((f + r : Nat) : Int)) (by omega)) ?_
    refine dar hT (by kernel_rfl) 3 rfl (i64w (x := ((f + k : Nat) : Int)) (by omega)) ?_
    refine dar hT (by kernel_rfl) 3 rfl (i64w (x := ((f + k : Nat) : Int)) (by omega)) ?_
    refine dixs hT (by kernel_rfl) 0 (f + k) rfl rfl (by omega) ?_
    simp only [add_mk, Nat.mul_one]
    refine dldpw hT (by kernel_rfl) 0 0 rfl (by kernel_rfl) rfl hgk ?_
    refine dar hT (by kernel_rfl) 3 rfl (i64w (x := ((f + r : Nat) : Int)) (by omega)) ?_
    refine dixs hT (by kernel_rfl) 0 (f + r) rfl rfl (by omega) ?_
    simp only [add_mk, Nat.mul_one]
    refine dldpw hT (by kernel_rfl) 0 0 rfl (by kernel_rfl) rfl hgr ?_
    refine dixs hT (by kernel_rfl) 0 (f + r) rfl rfl (by omega) ?_
    simp only [add_mk, Nat.mul_one]
    refine dact hT (by kernel_rfl) 0 rfl ?_
    refine stp hT 0 0 rfl rfl hgr rfl ?_
    refine dnext (.inl (by kernel_rfl)) ?_
    refine dixs hT (by kernel_rfl) 0 (f + k) rfl rfl (by omega) ?_
    simp only [add_mk, Nat.mul_one]
    refine dact hT (by kernel_rfl) 0 rfl ?_
    refine WL.hs (pt g (uA pre (ys.set (f + r) (ys.getD (f + k) 0)) post) 37 :: hs) (congrArg (fun z => pt g z 37 :: hs) (uA_set hrl)) ?_
    refine stp hT 0 0 rfl rfl hgk2 rfl ?_
    refine dnext (.inl (by kernel_rfl)) ?_
    refine dend hT (by kernel_rfl) 0 rfl (th (rg ?_))
    refine fin hT 2 rfl (bl ?_)
    exact again (x := (r, ys)) (k, swp (f + r) (f + k) ys) ⟨rfl, rfl, rfl, rfl, trivial⟩ rfl (congrArg (fun z => pt g z 37 :: hs) (uA_set (by rw [List.length_set]; exact hkl))) ⟨by dsimp only; omega, by dsimp only; omega, hP.trans (SegP.swp ⟨by omega, by omega⟩ ⟨by omega, by omega⟩ (by omega)), hS.sink hr1 hk1 hk2 (by omega) hk3 hlt⟩ (by dsimp only; omega)
   ·rw [decide_eq_false hlt]
    refine dend hT (by kernel_rfl) 1 rfl (th (ifT rfl ?_))
    refine rt (rT (rB (rT (rB ?_))))
    exact ret0 rfl ⟨rfl, ys, rfl, hP, hS.stop hk3 (by omega)⟩
end Go.Proofs.YtcncpbolcigpnaaGreat
end
section
namespace Go.En
theorem HpX.max {f n : Nat} {xs : List Nat} (h : HpX f 0 n (fun _ => False) xs) : ∀ c, c < n -> xs.getD (f + c) 0 <= xs.getD (f + 0) 0
 | 0, _ => Nat.le_refl _
 | c + 1, hc => by
  have hp : c / 2 < c + 1 := by omega
  have h1 := h (c / 2) (c + 1) (Nat.zero_le _) (by simp) (by omega) hc
  have h2 := HpX.max h (c / 2) (by omega)
  exact Nat.le_trans h1 h2
theorem HpX.none {f lo hi : Nat} {xs : List Nat} (h : hi <= 2 * lo + 1) : HpX f lo hi (fun _ => False) xs := fun i c h1 _ h3 h4 => by omega
theorem split3 {a b : Nat} (xs : List Nat) (hab : a <= b) : xs = xs.take a ++ ((xs.drop a).take (b - a) ++ xs.drop b) := by
 have h1 : xs.drop b = (xs.drop a).drop (b - a) := by rw [List.drop_drop]; congr 1; omega
 rw [h1, List.take_append_drop, List.take_append_drop]
theorem SegP.seg {a b : Nat} {xs ys : List Nat} (h : SegP a b xs ys) (hab : a <= b) : ((ys.drop a).take (b - a)).Perm ((xs.drop a).take (b - a)) := by
 have e1 : ys.take a = xs.take a := by
  apply List.ext_getElem?
  intro i
  by_cases hi : i < a
  ·rw [List.getElem?_take_of_lt hi, List.getElem?_take_of_lt hi, h.out i (.inl hi)]
  ·rw [List.getElem?_eq_none (by simp; omega), List.getElem?_eq_none (by simp; omega)]
 have e2 : ys.drop b = xs.drop b := by
  apply List.ext_getElem?
  intro i
  rw [List.getElem?_drop, List.getElem?_drop, h.out (b + i) (.inr (by omega))]
 have hp := h.perm
 rw [split3 xs hab, split3 ys hab, e1, e2] at hp
 exact (List.perm_append_right_iff _).1 ((List.perm_append_left_iff _).1 hp)
theorem SegP.mem {a b : Nat} {xs ys : List Nat} (h : SegP a b xs ys) (hb : b <= xs.length) {p : Nat} (h1 : a <= p) (h2 : p < b) : ∃ q, a <= q /\ q < b /\ ys.getD p 0 = xs.getD q 0 := by
 have hs := h.seg (by omega)
 have hyl := h.len
 have hm : ys.getD p 0 ∈ (ys.drop a).take (b - a) := by
  rw [List.mem_iff_getElem?]
  refine ⟨p - a, ?_⟩
  rw [List.getElem?_take_of_lt (by omega), List.getElem?_drop, show a + (p - a) = p from by omega, List.getD_eq_getElem?_getD, List.getElem?_eq_getElem (by omega)]
  rfl
 obtain ⟨i, hi⟩ := List.mem_iff_getElem?.1 (hs.mem_iff.1 hm)
 have hil := (List.getElem?_eq_some_iff.1 hi).1
 simp only [List.length_take, List.length_drop] at hil
 rw [List.getElem?_take_of_lt (by omega), List.getElem?_drop] at hi
 exact ⟨a + i, by omega, by omega, by rw [List.getD_eq_getElem?_getD (l := xs), hi]; rfl⟩
def HsI (f n hi : Nat) (xs : List Nat) : Prop := HpX f 0 n (fun _ => False) xs /\ ∀ p q, n <= q -> q < hi -> p < q -> xs.getD (f + p) 0 <= xs.getD (f + q) 0
theorem HsI.swap {f i hi : Nat} {xs : List Nat} (h : HsI f (i + 1) hi xs) (hh : i < hi) (hl : f + hi <= xs.length) : HpX f (0 + 1) i (fun _ => False) (swp f (f + i) xs) := fun j c h1 h2 h3 h4 => by
 rw [swp_getD (by omega) (by omega), swp_getD (by omega) (by omega), if_neg (by omega), if_neg (by omega), if_neg (by omega), if_neg (by omega)]
 exact h.1 j c (Nat.zero_le _) (by simp) h3 (by omega)
theorem HsI.step {f i hi : Nat} {xs zs : List Nat} (h : HsI f (i + 1) hi xs) (hh : i < hi) (hl : f + hi <= xs.length) (hP : SegP (f + 0) (f + i) (swp f (f + i) xs) zs) (hz : HpX f 0 i (fun _ => False) zs) : HsI f i hi zs := by
 refine ⟨hz, fun p q h1 h2 h3 => ?_⟩
 have hsl := swp_len f (f + i) xs
 have hz1 : ∀ z, i <= z -> z < hi -> zs.getD (f + z) 0 = (swp f (f + i) xs).getD (f + z) 0 := fun z g1 g2 => by
  rw [List.getD_eq_getElem?_getD, hP.out (f + z) (.inr (by omega)), List.getD_eq_getElem?_getD]
 have hs : ∀ z, z < hi -> (swp f (f + i) xs).getD (f + z) 0 = if z = i then xs.getD f 0 else if z = 0 then xs.getD (f + i) 0 else xs.getD (f + z) 0 := fun z g => by
  rw [swp_getD (by omega) (by omega)]
  by_cases e1 : z = i
  ·rw [if_pos e1, if_pos (by omega)]
  ·rw [if_neg e1, if_neg (by omega)]
   by_cases e2 : z = 0
   ·rw [if_pos e2, if_pos (by omega)]
   ·rw [if_neg e2, if_neg (by omega)]
 have hlow : ∀ z, z < i -> ∃ y, y <= i /\ zs.getD (f + z) 0 = xs.getD (f + y) 0 := fun z g => by
  obtain ⟨w, w1, w2, w3⟩ := hP.mem (by omega) (p := f + z) (by omega) (by omega)
  rw [w3, show w = f + (w - f) from by omega, hs (w - f) (by omega)]
  by_cases e1 : w - f = i
  ·exact ⟨0, Nat.zero_le _, by rw [if_pos e1]; rfl⟩
  ·rw [if_neg e1]
   by_cases e2 : w - f = 0
   ·exact ⟨i, Nat.le_refl _, by rw [if_pos e2]⟩
   ·exact ⟨w - f, by omega, by rw [if_neg e2]⟩
 have hmax : ∀ y, y <= i -> xs.getD (f + y) 0 <= xs.getD f 0 := fun y g => h.1.max y (by omega)
 have hbig : ∀ y q, y <= i -> i < q -> q < hi -> xs.getD (f + y) 0 <= xs.getD (f + q) 0 := fun y q g1 g2 g3 => h.2 y q (by omega) g3 (by omega)
 rw [hz1 q h1 h2, hs q h2]
 by_cases e : q = i
 ·rw [if_pos e]
  obtain ⟨y, g1, g2⟩ := hlow p (by omega)
  rw [g2]
  exact hmax y g1
 ·rw [if_neg e, if_neg (by omega)]
  by_cases e1 : p < i
  ·obtain ⟨y, g1, g2⟩ := hlow p e1
   rw [g2]
   exact hbig y q g1 (by omega) h2
  ·rw [hz1 p (by omega) (by omega), hs p (by omega)]
   by_cases e2 : p = i
   ·rw [if_pos e2]
    exact hbig 0 q (Nat.zero_le _) (by omega) h2
   ·rw [if_neg e2, if_neg (by omega)]
    exact h.2 p q (by omega) h2 h3
theorem HsI.start {f hi : Nat} {xs : List Nat} (h : HpX f 0 hi (fun _ => False) xs) : HsI f hi hi xs := ⟨h, fun p q h1 h2 => by omega⟩
theorem HsI.done {a b : Nat} {xs : List Nat} (h : HsI a 0 (b - a) xs) : Srt a b xs := fun i j h1 h2 h3 => by
 have := h.2 (i - a) (j - a) (Nat.zero_le _) (by omega) (by omega)
 rwa [show a + (i - a) = i from by omega, show a + (j - a) = j from by omega] at this
end Go.En
end
section
namespace Go.Proofs.YtcncpbolcigpnaaGreat
open Go.En
attribute [local irreducible] Code.wp wpList Calls
theorem heapC {w0 : World} {K : PH} {hs : List PH} (g cap : Nat) (pre post : List Value) (xs : List Nat) (a b : Nat) (hab : a < b) (hb : b <= xs.length) (hc : xs.length <= cap) (hl : xs.length <= 1099511627776) :
  Ct Tryz.prog w0 128 [.slice (some ⟨g, pre.length, none⟩) xs.length cap, .int .i64 ((a : Nat) : Int), .int .i64 ((b : Nat) : Int)] K (pt g (uA pre xs post) 37 :: hs)
   (fun v K' hs' => K' = K /\ ∃ ys, hs' = pt g (uA pre ys post) 37 :: hs /\ SegP a b xs ys /\ Srt a b ys) := by
 obtain ⟨hi, hhi⟩ : ∃ hi, hi = b - a := ⟨_, rfl⟩
 refine enter Tryz.func128 (by kernel_rfl) rfl rfl rfl ?_
 refine sq (rg ?_)
 refine fin hT 2 rfl (th (sq (rg ?_)))
 refine fin hT 1 rfl (th (sq (rg ?_)))
 refine ar hT 2 rfl (v' := .int .i64 ((hi : Nat) : Int)) (by rw [show ((b : Nat) : Int) - ((a : Nat) : Int) = ((hi : Nat) : Int) from by omega]; exact i64w (by omega)) ?_
 refine fin hT 1 rfl (th (sq (sq (rg ?_))))
 refine ar hT 1 rfl (v' := .int .i64 ((hi - 1 : Nat) : Int)) (by rw [show ((hi : Nat) : Int) - 1 = ((hi - 1 : Nat) : Int) from by omega]; exact i64w (by omega)) ?_
 refine ar hT 0 rfl (v' := .int .i64 ((((hi - 1) / 2 + 1 : Nat) : Int) - 1)) (by rw [show ((((hi - 1) / 2 + 1 : Nat) : Int) - 1) = (((hi - 1) / 2 : Nat) : Int) from by omega]; exact quoN (hi - 1) 2 (by omega)) ?_
 refine fin hT 1 rfl (th (bk ?_))
 refine loop (σ := Nat × List Nat) (fun s => [(0, .slice (some ⟨g, pre.length, none⟩) xs.length cap), (6, .int .i64 ((a : Nat) : Int)), (7, .int .i64 0), (8, .int .i64 ((hi : Nat) : Int)), (9, .int .i64 (((s.1 : Nat) : Int) - 1))]) (fun _ => K) (fun s => pt g (uA pre s.2 post) 37 :: hs)
  (fun s => s.1 <= hi /\ SegP a b xs s.2 /\ HpX a s.1 hi (fun _ => False) s.2) (fun s => s.1) ((hi - 1) / 2 + 1, xs) ⟨by dsimp only; omega, SegP.refl _ _ _, HpX.none (by omega)⟩ ⟨rfl, rfl, rfl, rfl, rfl, trivial⟩ rfl rfl ?_
 rintro ⟨n, ys⟩ ⟨hn, hP, hH⟩
 dsimp only at *
 have hyl : ys.length = xs.length := hP.len
 refine sq (sq (rg ?_))
 refine cmpS hT 1 rfl fun b19 h19 => ?_
 refine fin hT 0 rfl (th (ifP h19 rfl (fun e2 => ?_) (fun e2 => ?_)))
 ·obtain ⟨k, rfl⟩ : ∃ k, n = k + 1 := ⟨n - 1, by omega⟩
  rw [show ((k + 1 : Nat) : Int) - 1 = ((k : Nat) : Int) from by omega]
  refine sk (th (sq (bk (rg ?_))))
  have hs1 := siftC (w0 := w0) (K := K) (hs := hs) g cap pre post ys k hi a (by omega) (by omega) (by omega) (by omega) hH
  rw [hyl] at hs1
  refine cl hT 4 rfl hs1 ?_
  rintro v26 K26 hs26 ⟨rfl, zs, rfl, hQ, hH2⟩
  refine fin hT 0 rfl (bl (th (rg ?_)))
  refine ar hT 1 rfl (i64w (by omega)) ?_
  refine fin hT 1 rfl ?_
  exact again (x := (k + 1, ys)) (k, zs) ⟨rfl, rfl, rfl, rfl, rfl, trivial⟩ rfl rfl ⟨by dsimp only; omega, hP.trans (hQ.wide (by omega) (by omega)), hH2⟩ (by dsimp only; omega)
 ·obtain rfl : n = 0 := by omega
  refine ex (xt (xt (xb (th (sq (rg ?_))))))
  refine ar hT 1 rfl (i64w (by omega)) ?_
  refine fin hT 1 rfl (th (bk ?_))
  refine loop (σ := Nat × List Nat) (fun s => [(0, .slice (some ⟨g, pre.length, none⟩) xs.length cap), (6, .int .i64 ((a : Nat) : Int)), (7, .int .i64 0), (10, .int .i64 (((s.1 : Nat) : Int) - 1))]) (fun _ => K) (fun s => pt g (uA pre s.2 post) 37 :: hs)
   (fun s => s.1 <= hi /\ SegP a b xs s.2 /\ HsI a s.1 hi s.2) (fun s => s.1) (hi, ys) ⟨Nat.le_refl _, hP, HsI.start hH⟩ ⟨rfl, rfl, rfl, rfl, trivial⟩ rfl rfl ?_
  rintro ⟨n, zs⟩ ⟨hn2, hQ, hI⟩
  dsimp only at *
  have hzl : zs.length = xs.length := hQ.len
  refine sq (sq (rg ?_))
  refine cmpS hT 1 rfl fun b30 h30 => ?_
  refine fin hT 0 rfl (th (ifP h30 rfl (fun e4 => ?_) (fun e4 => ?_)))
  ·obtain ⟨k, rfl⟩ : ∃ k, n = k + 1 := ⟨n - 1, by omega⟩
   rw [show ((k + 1 : Nat) : Int) - 1 = ((k : Nat) : Int) from by omega]
   have hg0 : (uA pre zs post)[pre.length + a]? = some (.int .u64 ((zs.getD a 0 : Nat) : Int)) := uA_get (by omega)
   have hgk : (uA pre zs post)[pre.length + (a + k)]? = some (.int .u64 ((zs.getD (a + k) 0 : Nat) : Int)) := uA_get (by omega)
   have hgk2 : (uA pre (zs.set a (zs.getD (a + k) 0)) post)[pre.length + (a + k)]? = some (.int .u64 (((zs.set a (zs.getD (a + k) 0)).getD (a + k) 0 : Nat) : Int)) := uA_get (by rw [List.length_set]; omega)
   refine sk (th (sq (bk (sq (rga [pt g (uA pre zs post) 37] 17 [0, 2, 4, 6, 8, 10, 12, 14, 16, 18, 20, 22, 24, 26, 28, 30, 32, 35, 36, 39] (by simp) (by kernel_rfl) (by kernel_rfl) ?_)))))
   refine dar hT (by kernel_rfl) 5 rfl (i64w (x := ((a + k : Nat) : Int)) (by omega)) ?_
   refine dar hT (by kernel_rfl) 3 rfl (i64w (x := ((a + k : Nat) : Int)) (by omega)) ?_
   refine dixs hT (by kernel_rfl) 0 (a + k) rfl rfl (by omega) ?_
   simp only [add_mk, Nat.mul_one]
   refine dldpw hT (by kernel_rfl) 0 0 rfl (by kernel_rfl) rfl hgk ?_
   refine dixs hT (by kernel_rfl) 2 a rfl rfl (by omega) ?_
   simp only [add_mk, Nat.mul_one]
   refine dldpw hT (by kernel_rfl) 0 0 rfl (by kernel_rfl) rfl hg0 ?_
   refine dixs hT (by kernel_rfl) 0 a rfl rfl (by omega) ?_
   simp only [add_mk, Nat.mul_one]
   refine dact hT (by kernel_rfl) 0 rfl ?_
   refine stp hT 0 0 rfl rfl hg0 rfl ?_
   refine dnext (.inl (by kernel_rfl)) ?_
   refine dixs hT (by kernel_rfl) 0 (a + k) rfl rfl (by omega) ?_
   simp only [add_mk, Nat.mul_one]
   refine dact hT (by kernel_rfl) 0 rfl ?_
   refine WL.hs (pt g (uA pre (zs.set a (zs.getD (a + k) 0)) post) 37 :: hs) (congrArg (fun z => pt g z 37 :: hs) (uA_set (by omega))) ?_
   refine stp hT 0 0 rfl rfl hgk2 rfl ?_
   refine WL.hs (pt g (uA pre (swp a (a + k) zs) post) 37 :: hs) (congrArg (fun z => pt g z 37 :: hs) (uA_set (by rw [List.length_set]; omega))) ?_
   refine dnext (.inl (by kernel_rfl)) ?_
   refine dend hT (by kernel_rfl) 0 rfl (th (rg ?_))
   have hs1 := siftC (w0 := w0) (K := K) (hs := hs) g cap pre post (swp a (a + k) zs) 0 k a (by rw [swp_len]; omega) (by rw [swp_len]; omega) (by rw [swp_len]; omega) (Nat.zero_le _) (hI.swap (by omega) (by omega))
   rw [swp_len, hzl] at hs1
   refine cl hT 4 rfl hs1 ?_
   rintro v55 K55 hs55 ⟨rfl, us, rfl, hU, hH2⟩
   refine fin hT 0 rfl (bl (th (rg ?_)))
   refine ar hT 1 rfl (i64w (by omega)) ?_
   refine fin hT 1 rfl ?_
   exact again (x := (k + 1, zs)) (k, us) ⟨rfl, rfl, rfl, rfl, trivial⟩ rfl rfl ⟨by dsimp only; omega, (hQ.trans (SegP.swp ⟨by omega, by omega⟩ ⟨by omega, by omega⟩ (by omega))).trans (hU.wide (by omega) (by omega)), hI.step (by omega) (by omega) hU hH2⟩ (by dsimp only; omega)
  ·obtain rfl : n = 0 := by omega
   refine ex (xt (xt (xb ?_)))
   subst hhi
   exact end0 rfl ⟨rfl, zs, rfl, hQ, hI.done⟩
end Go.Proofs.YtcncpbolcigpnaaGreat
end
section
namespace Go.En
structure PrtI (P Q : Nat -> Nat -> Prop) (a b i j : Nat) (xs : List Nat) : Prop where
 i1 : a + 1 <= i
 ij : i <= j + 1
 jb : j + 1 <= b
 lo : ∀ p, a + 1 <= p -> p < i -> P (xs.getD p 0) (xs.getD a 0)
 hi : ∀ p, j < p -> p < b -> Q (xs.getD p 0) (xs.getD a 0)
theorem PrtI.start (P Q : Nat -> Nat -> Prop) {a b : Nat} {xs : List Nat} (h : a < b) : PrtI P Q a b (a + 1) (b - 1) xs :=
 ⟨Nat.le_refl _, by omega, by omega, fun p h1 h2 => by omega, fun p h1 h2 => by omega⟩
theorem PrtI.up {P Q : Nat -> Nat -> Prop} {a b i j : Nat} {xs : List Nat} (h : PrtI P Q a b i j xs) (hij : i <= j) (hp : P (xs.getD i 0) (xs.getD a 0)) : PrtI P Q a b (i + 1) j xs :=
 ⟨by have := h.i1; omega, by omega, h.jb, fun p h1 h2 => by
  by_cases e : p = i
  ·rw [e]; exact hp
  ·exact h.lo p h1 (by omega), h.hi⟩
theorem PrtI.down {P Q : Nat -> Nat -> Prop} {a b i j : Nat} {xs : List Nat} (h : PrtI P Q a b i j xs) (hij : i <= j) (hq : Q (xs.getD j 0) (xs.getD a 0)) : PrtI P Q a b i (j - 1) xs :=
 ⟨h.i1, by omega, by have := h.jb; omega, h.lo, fun p h1 h2 => by
  by_cases e : p = j
  ·rw [e]; exact hq
  ·exact h.hi p (by have := h.i1; omega) h2⟩
theorem PrtI.swap {P Q : Nat -> Nat -> Prop} {a b i j : Nat} {xs : List Nat} (h : PrtI P Q a b i j xs) (hij : i < j) (hl : b <= xs.length) (hp : P (xs.getD j 0) (xs.getD a 0)) (hq : Q (xs.getD i 0) (xs.getD a 0)) : PrtI P Q a b (i + 1) (j - 1) (swp i j xs) := by
 have h1 := h.i1
 have h2 := h.jb
 have hg : ∀ k, (swp i j xs).getD k 0 = if k = j then xs.getD i 0 else if k = i then xs.getD j 0 else xs.getD k 0 := swp_getD (by omega) (by omega)
 have ha : (swp i j xs).getD a 0 = xs.getD a 0 := by rw [hg, if_neg (by omega), if_neg (by omega)]
 refine ⟨by omega, by omega, by omega, fun p h3 h4 => ?_, fun p h3 h4 => ?_⟩
 ·rw [ha, hg, if_neg (by omega)]
  by_cases e : p = i
  ·rw [if_pos e]; exact hp
  ·rw [if_neg e]; exact h.lo p h3 (by omega)
 ·rw [ha, hg]
  by_cases e : p = j
  ·rw [if_pos e]; exact hq
  ·rw [if_neg e, if_neg (by omega)]; exact h.hi p (by omega) h4
theorem PrtI.last {P Q : Nat -> Nat -> Prop} {a b j : Nat} {xs : List Nat} (h : PrtI P Q a b (j + 1) j xs) (hl : b <= xs.length) :
  (∀ p, a <= p -> p < j -> P ((swp j a xs).getD p 0) ((swp j a xs).getD j 0)) /\ ∀ p, j < p -> p < b -> Q ((swp j a xs).getD p 0) ((swp j a xs).getD j 0) := by
 have h1 := h.i1
 have h2 := h.jb
 have hg : ∀ k, (swp j a xs).getD k 0 = if k = a then xs.getD j 0 else if k = j then xs.getD a 0 else xs.getD k 0 := swp_getD (by omega) (by omega)
 have hj : (swp j a xs).getD j 0 = xs.getD a 0 := by
  rw [hg]
  by_cases e : j = a
  ·rw [if_pos e, e]
  ·rw [if_neg e, if_pos rfl]
 refine ⟨fun p h3 h4 => ?_, fun p h3 h4 => ?_⟩
 ·rw [hj, hg]
  by_cases e : p = a
  ·rw [if_pos e]; exact h.lo j (by omega) (by omega)
  ·rw [if_neg e, if_neg (by omega)]; exact h.lo p (by omega) (by omega)
 ·rw [hj, hg, if_neg (by omega), if_neg (by omega)]; exact h.hi p h3 h4
theorem Srt.join {a b m : Nat} {xs : List Nat} (h1 : Srt a m xs) (h2 : Srt (m + 1) b xs) (hlo : ∀ p, a <= p -> p < m -> xs.getD p 0 <= xs.getD m 0) (hhi : ∀ p, m < p -> p < b -> xs.getD m 0 <= xs.getD p 0) : Srt a b xs := fun i j g1 g2 g3 => by
 by_cases e1 : j < m
 ·exact h1 i j g1 g2 e1
 ·by_cases e2 : j = m
  ·subst e2; exact hlo i g1 g2
  ·by_cases e3 : i = m
   ·subst e3; exact hhi j (by omega) g3
   ·by_cases e4 : i < m
    ·exact Nat.le_trans (hlo i g1 e4) (hhi j (by omega) g3)
    ·exact h2 i j (by omega) g2 g3
end Go.En
end
section
namespace Go.Proofs.YtcncpbolcigpnaaGreat
open Go.En
attribute [local irreducible] Code.wp wpList Calls
theorem parEC {w0 : World} {K : PH} {hs : List PH} (g cap : Nat) (pre post : List Value) (xs : List Nat) (a b pv : Nat) (hab : a < b) (hpv : a <= pv /\ pv < b) (hb : b <= xs.length) (hc : xs.length <= cap) (hl : xs.length <= 1099511627776) :
  Ct Tryz.prog w0 134 [.slice (some ⟨g, pre.length, none⟩) xs.length cap, .int .i64 ((a : Nat) : Int), .int .i64 ((b : Nat) : Int), .int .i64 ((pv : Nat) : Int)] K (pt g (uA pre xs post) 37 :: hs)
   (fun v K' hs' => K' = K /\ ∃ ys, ∃ i : Nat, hs' = pt g (uA pre ys post) 37 :: hs /\ v = .int .i64 ((i : Nat) : Int) /\ SegP a b xs ys /\ a + 1 <= i /\ i <= b /\ (∀ p, a + 1 <= p -> p < i -> ys.getD p 0 <= ys.getD a 0) /\ (∀ p, i <= p -> p < b -> ys.getD a 0 < ys.getD p 0) /\ ys.getD a 0 = xs.getD pv 0) := by
 refine enter Tryz.func134 (by kernel_rfl) rfl rfl rfl ?_
 refine sq (rg ?_)
 have hgi : (uA pre xs post)[pre.length + a]? = some (.int .u64 ((xs.getD a 0 : Nat) : Int)) := uA_get (by omega)
 have hgj : (uA pre xs post)[pre.length + pv]? = some (.int .u64 ((xs.getD pv 0 : Nat) : Int)) := uA_get (by omega)
 have hgj2 : (uA pre (xs.set a (xs.getD pv 0)) post)[pre.length + pv]? = some (.int .u64 (((xs.set a (xs.getD pv 0)).getD pv 0 : Nat) : Int)) := uA_get (by rw [List.length_set]; omega)
 refine fin hT 1 rfl (th (sq (rga [pt g (uA pre xs post) 37] 13 [0, 2, 4, 6, 8, 10, 12, 14, 16, 18, 20, 22, 24, 27, 28, 31] (by simp) (by kernel_rfl) (by kernel_rfl) ?_)))
 refine dixs hT (by kernel_rfl) 6 pv rfl rfl (by omega) ?_
 simp only [add_mk, Nat.mul_one]
 refine dldpw hT (by kernel_rfl) 0 0 rfl (by kernel_rfl) rfl hgj ?_
 refine dixs hT (by kernel_rfl) 2 a rfl rfl (by omega) ?_
 simp only [add_mk, Nat.mul_one]
 refine dldpw hT (by kernel_rfl) 0 0 rfl (by kernel_rfl) rfl hgi ?_
 refine dixs hT (by kernel_rfl) 0 a rfl rfl (by omega) ?_
 simp only [add_mk, Nat.mul_one]
 refine dact hT (by kernel_rfl) 0 rfl ?_
 refine stp hT 0 0 rfl rfl hgi rfl ?_
 refine dnext (.inl (by kernel_rfl)) ?_
 refine dixs hT (by kernel_rfl) 0 pv rfl rfl (by omega) ?_
 simp only [add_mk, Nat.mul_one]
 refine dact hT (by kernel_rfl) 0 rfl ?_
 refine WL.hs (pt g (uA pre (xs.set a (xs.getD pv 0)) post) 37 :: hs) (congrArg (fun z => pt g z 37 :: hs) (uA_set (by omega))) ?_
 refine stp hT 0 0 rfl rfl hgj2 rfl ?_
 refine WL.hs (pt g (uA pre (swp a pv xs) post) 37 :: hs) (congrArg (fun z => pt g z 37 :: hs) (uA_set (by rw [List.length_set]; omega))) ?_
 refine dnext (.inl (by kernel_rfl)) ?_
 refine dend hT (by kernel_rfl) 0 rfl (th (sq (rg ?_)))
 have hswl := swp_len a pv xs
 have hva : (swp a pv xs).getD a 0 = xs.getD pv 0 := by
  rw [swp_getD (by omega) (by omega)]
  by_cases e : a = pv
  ·rw [if_pos e, e]
  ·rw [if_neg e, if_pos rfl]
 refine ar hT 1 rfl (i64w (x := ((a + 1 : Nat) : Int)) (by omega)) ?_
 refine ar hT 1 rfl (v' := .int .i64 ((b - 1 : Nat) : Int)) (by rw [show ((b : Nat) : Int) - 1 = ((b - 1 : Nat) : Int) from by omega]; exact i64w (by omega)) ?_
 refine fin hT 2 rfl (th (sq (bk ?_)))
 refine loop (σ := Nat × Nat × List Nat) (fun s => [(0, .slice (some ⟨g, pre.length, none⟩) xs.length cap), (1, .int .i64 ((a : Nat) : Int)), (9, .int .i64 ((s.1 : Nat) : Int)), (10, .int .i64 ((s.2.1 : Nat) : Int))]) (fun _ => K) (fun s => pt g (uA pre s.2.2 post) 37 :: hs)
  (fun s => SegP a b xs s.2.2 /\ PrtI (fun x y => x <= y) (fun x y => y < x) a b s.1 s.2.1 s.2.2 /\ s.2.2.getD a 0 = xs.getD pv 0) (fun s => s.2.1 + 1 - s.1) (a + 1, b - 1, swp a pv xs) ⟨SegP.swp ⟨by omega, by omega⟩ ⟨by omega, by omega⟩ hb, PrtI.start _ _ hab, hva⟩ ⟨rfl, rfl, rfl, rfl, trivial⟩ rfl rfl ?_
 rintro ⟨i0, j0, ys⟩ ⟨hP, hI0, hv0⟩
 dsimp only at *
 have hyl : ys.length = xs.length := hP.len
 refine bk ?_
 refine jn (σ := Nat) (fun i => [(0, .slice (some ⟨g, pre.length, none⟩) xs.length cap), (1, .int .i64 ((a : Nat) : Int)), (9, .int .i64 ((i : Nat) : Int)), (10, .int .i64 ((j0 : Nat) : Int))]) (fun _ => pt g (uA pre ys post) 37 :: hs) (fun i => i0 <= i /\ PrtI (fun x y => x <= y) (fun x y => y < x) a b i j0 ys /\ (i <= j0 -> ys.getD a 0 < ys.getD i 0)) ?_ ?_
 ·refine bk ?_
  refine loop (σ := Nat) (fun i => [(0, .slice (some ⟨g, pre.length, none⟩) xs.length cap), (1, .int .i64 ((a : Nat) : Int)), (9, .int .i64 ((i : Nat) : Int)), (10, .int .i64 ((j0 : Nat) : Int))]) (fun _ => K) (fun _ => pt g (uA pre ys post) 37 :: hs) (fun i => i0 <= i /\ PrtI (fun x y => x <= y) (fun x y => y < x) a b i j0 ys) (fun i => j0 + 1 - i) i0 ⟨Nat.le_refl _, hI0⟩ ⟨rfl, rfl, rfl, rfl, trivial⟩ rfl rfl ?_
  rintro i ⟨hi0, hI⟩
  have q1 := hI.i1
  have q2 := hI.ij
  have q3 := hI.jb
  refine sq (sq (rga [pt g (uA pre ys post) 37] 15 [0, 2, 4, 6, 8, 10, 12, 14, 16, 18, 20, 22, 25, 26, 28] (by simp) (by kernel_rfl) (by kernel_rfl) ?_))
  refine dcmp hT (by kernel_rfl) 2 (i <= j0) rfl (by simp) (fun h1 => ?_) (fun h1 => ?_)
  ·refine dixs hT (by kernel_rfl) 3 a rfl rfl (by omega) ?_
   simp only [add_mk, Nat.mul_one]
   refine dldp hT (by kernel_rfl) 0 0 rfl rfl (uA_get (by omega)) ?_
   refine dixs hT (by kernel_rfl) 2 i rfl rfl (by omega) ?_
   simp only [add_mk, Nat.mul_one]
   refine dldp hT (by kernel_rfl) 0 0 rfl rfl (uA_get (by omega)) ?_
   refine dact hT (by kernel_rfl) 0 rfl ?_
   refine cl hT 0 rfl (lessC (ys.getD a 0) (ys.getD i 0)) ?_
   rintro v41 K41 hs41 ⟨rfl, rfl, rfl⟩
   refine dnex [pt g (uA pre ys post) 37] (by simp) (by simp) rfl ?_
   by_cases hlt : ys.getD a 0 < ys.getD i 0
   ·rw [decide_eq_true hlt]
    refine dend hT (by kernel_rfl) 2 rfl (th (ifF rfl ?_))
    refine ex (xt (xt (xb ?_)))
    exact jx i ⟨hi0, hI, fun _ => hlt⟩ ⟨rfl, rfl, rfl, rfl, trivial⟩ rfl rfl
   ·rw [decide_eq_false hlt]
    refine dend hT (by kernel_rfl) 2 rfl (th (ifT rfl ?_))
    refine sk (th (bk (rg ?_)))
    refine ar hT 1 rfl (i64w (x := ((i + 1 : Nat) : Int)) (by omega)) ?_
    refine fin hT 1 rfl (bl ?_)
    exact again (x := i) (i + 1) ⟨rfl, rfl, rfl, rfl, trivial⟩ rfl rfl ⟨by omega, hI.up h1 (Nat.le_of_not_lt hlt)⟩ (by omega)
  ·refine dact hT (by kernel_rfl) 9 rfl ?_
   refine WL.pures hT 1 rfl ?_
   refine dnex [pt g (uA pre ys post) 37] (by simp) (by simp) rfl ?_
   refine dend hT (by kernel_rfl) 2 rfl (th (ifF rfl ?_))
   refine ex (xt (xt (xb ?_)))
   exact jx i ⟨hi0, hI, fun h => absurd h h1⟩ ⟨rfl, rfl, rfl, rfl, trivial⟩ rfl rfl
 ·rintro i ⟨hi0, hI, hq⟩
  refine jn (σ := Nat) (fun j => [(0, .slice (some ⟨g, pre.length, none⟩) xs.length cap), (1, .int .i64 ((a : Nat) : Int)), (9, .int .i64 ((i : Nat) : Int)), (10, .int .i64 ((j : Nat) : Int))]) (fun _ => pt g (uA pre ys post) 37 :: hs) (fun j => j <= j0 /\ PrtI (fun x y => x <= y) (fun x y => y < x) a b i j ys /\ (i <= j -> ys.getD a 0 < ys.getD i 0) /\ (i <= j -> ys.getD j 0 <= ys.getD a 0)) ?_ ?_
  ·refine bk ?_
   refine loop (σ := Nat) (fun j => [(0, .slice (some ⟨g, pre.length, none⟩) xs.length cap), (1, .int .i64 ((a : Nat) : Int)), (9, .int .i64 ((i : Nat) : Int)), (10, .int .i64 ((j : Nat) : Int))]) (fun _ => K) (fun _ => pt g (uA pre ys post) 37 :: hs) (fun j => j <= j0 /\ PrtI (fun x y => x <= y) (fun x y => y < x) a b i j ys) (fun j => j + 1 - i) j0 ⟨Nat.le_refl _, hI⟩ ⟨rfl, rfl, rfl, rfl, trivial⟩ rfl rfl ?_
   rintro j ⟨hj0, hJ⟩
   have q1 := hJ.i1
   have q2 := hJ.ij
   have q3 := hJ.jb
   refine sq (sq (rga [pt g (uA pre ys post) 37] 14 [0, 2, 4, 6, 8, 10, 12, 14, 16, 18, 20, 22, 25, 26] (by simp) (by kernel_rfl) (by kernel_rfl) ?_))
   refine dcmp hT (by kernel_rfl) 2 (i <= j) rfl (by simp) (fun h1 => ?_) (fun h1 => ?_)
   ·refine dixs hT (by kernel_rfl) 3 a rfl rfl (by omega) ?_
    simp only [add_mk, Nat.mul_one]
    refine dldp hT (by kernel_rfl) 0 0 rfl rfl (uA_get (by omega)) ?_
    refine dixs hT (by kernel_rfl) 2 j rfl rfl (by omega) ?_
    simp only [add_mk, Nat.mul_one]
    refine dldp hT (by kernel_rfl) 0 0 rfl rfl (uA_get (by omega)) ?_
    refine dact hT (by kernel_rfl) 0 rfl ?_
    refine cl hT 0 rfl (lessC (ys.getD a 0) (ys.getD j 0)) ?_
    rintro v58 K58 hs58 ⟨rfl, rfl, rfl⟩
    refine dnex [pt g (uA pre ys post) 37] (by simp) (by simp) rfl ?_
    by_cases hlt : ys.getD a 0 < ys.getD j 0
    ·rw [decide_eq_true hlt]
     refine dend hT (by kernel_rfl) 1 rfl (th (ifT rfl ?_))
     refine sk (th (bk (rg ?_)))
     refine ar hT 1 rfl (v' := .int .i64 ((j - 1 : Nat) : Int)) (by rw [show ((j : Nat) : Int) - 1 = ((j - 1 : Nat) : Int) from by omega]; exact i64w (by omega)) ?_
     refine fin hT 1 rfl (bl ?_)
     exact again (x := j) (j - 1) ⟨rfl, rfl, rfl, rfl, trivial⟩ rfl rfl ⟨by omega, hJ.down h1 hlt⟩ (by omega)
    ·rw [decide_eq_false hlt]
     refine dend hT (by kernel_rfl) 1 rfl (th (ifF rfl ?_))
     refine ex (xt (xt (xb ?_)))
     exact jx j ⟨hj0, hJ, fun h => hq (by omega), fun _ => Nat.le_of_not_lt hlt⟩ ⟨rfl, rfl, rfl, rfl, trivial⟩ rfl rfl
   ·refine dact hT (by kernel_rfl) 9 rfl ?_
    refine WL.pures hT 1 rfl ?_
    refine dnex [pt g (uA pre ys post) 37] (by simp) (by simp) rfl ?_
    refine dend hT (by kernel_rfl) 1 rfl (th (ifF rfl ?_))
    refine ex (xt (xt (xb ?_)))
    exact jx j ⟨hj0, hJ, fun h => absurd h h1, fun h => absurd h h1⟩ ⟨rfl, rfl, rfl, rfl, trivial⟩ rfl rfl
  ·rintro j ⟨hj0, hJ, hqi, hqj⟩
   have q1 := hJ.i1
   have q2 := hJ.ij
   have q3 := hJ.jb
   refine sq (sq (rg ?_))
   refine cmpS hT 2 rfl fun b64 h64 => ?_
   refine fin hT 0 rfl (th (ifP h64 rfl (fun e6 => ?_) (fun e6 => ?_)))
   ·obtain rfl : i = j + 1 := by omega
    refine ex (xt (xn rfl (xt (xb (th (sq (rg ?_)))))))
    refine fin hT 2 rfl (th (rt ?_))
    exact ret1 rfl rfl ⟨rfl, ys, j + 1, rfl, rfl, hP, by omega, by omega, hJ.lo, fun p g1 g2 => hJ.hi p (by omega) g2, hv0⟩
   ·have hij : i < j := by
     rcases Nat.lt_or_ge i j with h | h
     ·exact h
     ·have h1 := hqi (by omega)
      have h2 := hqj (by omega)
      have : i = j := by omega
      subst this
      omega
    have hgi : (uA pre ys post)[pre.length + i]? = some (.int .u64 ((ys.getD i 0 : Nat) : Int)) := uA_get (by omega)
    have hgj : (uA pre ys post)[pre.length + j]? = some (.int .u64 ((ys.getD j 0 : Nat) : Int)) := uA_get (by omega)
    have hgj2 : (uA pre (ys.set i (ys.getD j 0)) post)[pre.length + j]? = some (.int .u64 (((ys.set i (ys.getD j 0)).getD j 0 : Nat) : Int)) := uA_get (by rw [List.length_set]; omega)
    refine sk (th (sq (rga [pt g (uA pre ys post) 37] 13 [0, 2, 4, 6, 8, 10, 12, 14, 16, 18, 20, 22, 24, 27, 28, 31] (by simp) (by kernel_rfl) (by kernel_rfl) ?_)))
    refine dixs hT (by kernel_rfl) 6 j rfl rfl (by omega) ?_
    simp only [add_mk, Nat.mul_one]
    refine dldpw hT (by kernel_rfl) 0 0 rfl (by kernel_rfl) rfl hgj ?_
    refine dixs hT (by kernel_rfl) 2 i rfl rfl (by omega) ?_
    simp only [add_mk, Nat.mul_one]
    refine dldpw hT (by kernel_rfl) 0 0 rfl (by kernel_rfl) rfl hgi ?_
    refine dixs hT (by kernel_rfl) 0 i rfl rfl (by omega) ?_
    simp only [add_mk, Nat.mul_one]
    refine dact hT (by kernel_rfl) 0 rfl ?_
    refine stp hT 0 0 rfl rfl hgi rfl ?_
    refine dnext (.inl (by kernel_rfl)) ?_
    refine dixs hT (by kernel_rfl) 0 j rfl rfl (by omega) ?_
    simp only [add_mk, Nat.mul_one]
    refine dact hT (by kernel_rfl) 0 rfl ?_
    refine WL.hs (pt g (uA pre (ys.set i (ys.getD j 0)) post) 37 :: hs) (congrArg (fun z => pt g z 37 :: hs) (uA_set (by omega))) ?_
    refine stp hT 0 0 rfl rfl hgj2 rfl ?_
    refine WL.hs (pt g (uA pre (swp i j ys) post) 37 :: hs) (congrArg (fun z => pt g z 37 :: hs) (uA_set (by rw [List.length_set]; omega))) ?_
    refine dnext (.inl (by kernel_rfl)) ?_
    refine dend hT (by kernel_rfl) 0 rfl (th (sq (rg ?_)))
    refine ar hT 1 rfl (i64w (x := ((i + 1 : Nat) : Int)) (by omega)) ?_
    refine fin hT 1 rfl (th (rg ?_))
    refine ar hT 1 rfl (v' := .int .i64 ((j - 1 : Nat) : Int)) (by rw [show ((j : Nat) : Int) - 1 = ((j - 1 : Nat) : Int) from by omega]; exact i64w (by omega)) ?_
    refine fin hT 1 rfl (bl ?_)
    exact again (x := (i0, j0, ys)) (i + 1, j - 1, swp i j ys) ⟨rfl, rfl, rfl, rfl, trivial⟩ rfl rfl ⟨hP.trans (SegP.swp ⟨by omega, by omega⟩ ⟨by omega, by omega⟩ (by omega)), hJ.swap hij (by omega) (hqj (by omega)) (hqi (by omega)), by rw [swp_getD (by omega) (by omega), if_neg (by omega), if_neg (by omega)]; exact hv0⟩ (by dsimp only; omega)
end Go.Proofs.YtcncpbolcigpnaaGreat
end
section
namespace Go.En
def LoB (a b : Nat) (xs : List Nat) : Prop := ∀ p q, p < a -> a <= q -> q < b -> xs.getD p 0 <= xs.getD q 0
theorem SegP.outD {a b : Nat} {xs ys : List Nat} (h : SegP a b xs ys) {i : Nat} (hi : i < a \/ b <= i) : ys.getD i 0 = xs.getD i 0 := by
 rw [List.getD_eq_getElem?_getD, h.out i hi, List.getD_eq_getElem?_getD]
theorem LoB.zero (b : Nat) (xs : List Nat) : LoB 0 b xs := fun p q h => by omega
theorem LoB.perm {a b : Nat} {xs ys : List Nat} (h : LoB a b xs) (hP : SegP a b xs ys) (hb : b <= xs.length) : LoB a b ys := fun p q h1 h2 h3 => by
 obtain ⟨r, r1, r2, r3⟩ := hP.mem hb h2 h3
 rw [hP.outD (.inl h1), r3]
 exact h p r h1 r1 r2
theorem LoB.cut {a b m : Nat} {xs : List Nat} (h : LoB a b xs) (hm : m <= b) : LoB a m xs := fun p q h1 h2 h3 => h p q h1 h2 (by omega)
theorem Srt.same {a b : Nat} {xs ys : List Nat} (h : Srt a b xs) (he : ∀ p, a <= p -> p < b -> ys.getD p 0 = xs.getD p 0) : Srt a b ys := fun i j h1 h2 h3 => by
 rw [he i h1 (by omega), he j (by omega) h3]
 exact h i j h1 h2 h3
def Rst (a b c d : Nat) (xs : List Nat) : Prop := ∀ zs, SegP c d xs zs -> Srt c d zs -> Srt a b zs
theorem Rst.self (a b : Nat) (xs : List Nat) : Rst a b a b xs := fun _ _ h => h
theorem Rst.step {a b c d : Nat} {xs ys : List Nat} (h : Rst a b c d xs) (hP : SegP c d xs ys) : Rst a b c d ys := fun zs h1 h2 => h zs (hP.trans h1) h2
structure PtA (c d m : Nat) (ys : List Nat) : Prop where
 m1 : c <= m
 m2 : m < d
 lo : ∀ p, c <= p -> p < m -> ys.getD p 0 <= ys.getD m 0
 hi : ∀ p, m < p -> p < d -> ys.getD m 0 <= ys.getD p 0
theorem PtA.left {c d m : Nat} {ys zs : List Nat} (h : PtA c d m ys) (hP : SegP c m ys zs) (hd : d <= ys.length) : PtA c d m zs := by
 have h2 := h.m2
 refine ⟨h.m1, h.m2, fun p p1 p2 => ?_, fun p p1 p2 => ?_⟩
 ·obtain ⟨q, q1, q2, q3⟩ := hP.mem (by omega) p1 p2
  rw [q3, hP.outD (.inr (Nat.le_refl _))]
  exact h.lo q q1 q2
 ·rw [hP.outD (.inr (Nat.le_refl _)), hP.outD (i := p) (.inr (by omega))]
  exact h.hi p p1 p2
theorem PtA.right {c d m : Nat} {ys zs : List Nat} (h : PtA c d m ys) (hP : SegP (m + 1) d ys zs) (hd : d <= ys.length) : PtA c d m zs := by
 have h2 := h.m2
 refine ⟨h.m1, h.m2, fun p p1 p2 => ?_, fun p p1 p2 => ?_⟩
 ·rw [hP.outD (i := p) (.inl (by omega)), hP.outD (.inl (Nat.lt_succ_self _))]
  exact h.lo p p1 p2
 ·obtain ⟨q, q1, q2, q3⟩ := hP.mem hd (by omega) p2
  rw [q3, hP.outD (.inl (Nat.lt_succ_self _))]
  exact h.hi q (by omega) q2
theorem PtA.loB {c d m : Nat} {ys : List Nat} (h : PtA c d m ys) (hl : LoB c d ys) : LoB (m + 1) d ys := fun p q h1 h2 h3 => by
 have g1 := h.m1
 by_cases e : p < c
 ·exact hl p q e (by omega) h3
 ·by_cases e2 : p = m
  ·rw [e2]; exact h.hi q (by omega) h3
  ·exact Nat.le_trans (h.lo p (by omega) (by omega)) (h.hi q (by omega) h3)
theorem Rst.left {a b c d m : Nat} {ys zs : List Nat} (h : Rst a b c d ys) (hA : PtA c d m ys) (hd : d <= ys.length) (hP : SegP c m ys zs) (hS : Srt c m zs) : Rst a b (m + 1) d zs := fun us h1 h2 => by
 have g1 := hA.m1
 have g2 := hA.m2
 have hA2 := (hA.left hP hd).right h1 (by rw [hP.len]; exact hd)
 refine h us ((hP.wide (Nat.le_refl _) (by omega)).trans (h1.wide (by omega) (Nat.le_refl _))) (Srt.join (m := m) (hS.same fun p p1 p2 => h1.outD (.inl (by omega))) h2 hA2.lo hA2.hi)
theorem Rst.right {a b c d m : Nat} {ys zs : List Nat} (h : Rst a b c d ys) (hA : PtA c d m ys) (hd : d <= ys.length) (hP : SegP (m + 1) d ys zs) (hS : Srt (m + 1) d zs) : Rst a b c m zs := fun us h1 h2 => by
 have g1 := hA.m1
 have g2 := hA.m2
 have hA2 := (hA.right hP hd).left h1 (by rw [hP.len]; exact hd)
 refine h us ((hP.wide (by omega) (Nat.le_refl _)).trans (h1.wide (Nat.le_refl _) (by omega))) (Srt.join (m := m) h2 (hS.same fun p p1 p2 => h1.outD (.inr (by omega))) hA2.lo hA2.hi)
theorem Rst.equal {a b c d i : Nat} {ys : List Nat} (h : Rst a b c d ys) (hc : 0 < c) (hci : c + 1 <= i) (hid : i <= d) (hd : d <= ys.length) (hl : LoB c d ys) (hle : ys.getD c 0 <= ys.getD (c - 1) 0) (h1 : ∀ p, c + 1 <= p -> p < i -> ys.getD p 0 <= ys.getD c 0) (h2 : ∀ p, i <= p -> p < d -> ys.getD c 0 < ys.getD p 0) :
  Rst a b i d ys /\ LoB i d ys := by
 have heq : ∀ p, c <= p -> p < i -> ys.getD p 0 = ys.getD c 0 := fun p p1 p2 => by
  by_cases e : p = c
  ·rw [e]
  ·have := h1 p (by omega) p2
   have := hl (c - 1) p (by omega) p1 (by omega)
   omega
 refine ⟨fun us g1 g2 => h us (g1.wide (by omega) (Nat.le_refl _)) fun p q q1 q2 q3 => ?_, fun p q q1 q2 q3 => ?_⟩
 ·by_cases e1 : q < i
  ·rw [g1.outD (i := p) (.inl (by omega)), g1.outD (i := q) (.inl (by omega)), heq p q1 (by omega), heq q (by omega) e1]
   exact Nat.le_refl _
  ·by_cases e2 : p < i
   ·obtain ⟨r, r1, r2, r3⟩ := g1.mem hd (by omega : i <= q) q3
    rw [g1.outD (i := p) (.inl e2), heq p q1 e2, r3]
    exact Nat.le_of_lt (h2 r r1 r2)
   ·exact g2 p q (by omega) q2 q3
 ·by_cases e : p < c
  ·exact hl p q e (by omega) q3
  ·rw [heq p (by omega) q1]
   exact Nat.le_of_lt (h2 q q2 q3)
theorem Srt.one {a b : Nat} {xs : List Nat} (h : b <= a + 1) : Srt a b xs := fun i j h1 h2 h3 => by omega
theorem Srt.snoc {a b : Nat} {xs : List Nat} (h : Srt a b xs) (hab : a < b) (hle : xs.getD (b - 1) 0 <= xs.getD b 0) : Srt a (b + 1) xs := fun i j h1 h2 h3 => by
 by_cases e : j = b
 ·rw [e]
  by_cases e2 : i = b - 1
  ·rw [e2]; exact hle
  ·exact Nat.le_trans (h i (b - 1) h1 (by omega) (by omega)) hle
 ·exact h i j h1 h2 (by omega)
end Go.En
end
section
namespace Go.Proofs.YtcncpbolcigpnaaGreat
open Go.En
attribute [local irreducible] Code.wp wpList Calls
theorem parC {w0 : World} {K : PH} {hs : List PH} (g cap : Nat) (pre post : List Value) (xs : List Nat) (a b pv : Nat) (hab : a < b) (hpv : a <= pv /\ pv < b) (hb : b <= xs.length) (hc : xs.length <= cap) (hl : xs.length <= 1099511627776) :
  Ct Tryz.prog w0 135 [.slice (some ⟨g, pre.length, none⟩) xs.length cap, .int .i64 ((a : Nat) : Int), .int .i64 ((b : Nat) : Int), .int .i64 ((pv : Nat) : Int)] K (pt g (uA pre xs post) 37 :: hs)
   (fun v K' hs' => K' = K /\ ∃ ys, ∃ m : Nat, ∃ t : Bool, hs' = pt g (uA pre ys post) 37 :: hs /\ v = .tuple #[.int .i64 ((m : Nat) : Int), .bool t] /\ SegP a b xs ys /\ PtA a b m ys) := by
 refine enter Tryz.func135 (by kernel_rfl) rfl rfl rfl ?_
 refine sq (rg ?_)
 refine fin hT 2 rfl (th (sq ?_))
 have hgi : (uA pre xs post)[pre.length + a]? = some (.int .u64 ((xs.getD a 0 : Nat) : Int)) := uA_get (by omega)
 have hgj : (uA pre xs post)[pre.length + pv]? = some (.int .u64 ((xs.getD pv 0 : Nat) : Int)) := uA_get (by omega)
 have hgj2 : (uA pre (xs.set a (xs.getD pv 0)) post)[pre.length + pv]? = some (.int .u64 (((xs.set a (xs.getD pv 0)).getD pv 0 : Nat) : Int)) := uA_get (by rw [List.length_set]; omega)
 refine rga [pt g (uA pre xs post) 37] 13 [0, 2, 4, 6, 8, 10, 12, 14, 16, 18, 20, 22, 24, 27, 28, 31] (by simp) (by kernel_rfl) (by kernel_rfl) ?_
 refine dixs hT (by kernel_rfl) 6 pv rfl rfl (by omega) ?_
 simp only [add_mk, Nat.mul_one]
 refine dldpw hT (by kernel_rfl) 0 0 rfl (by kernel_rfl) rfl hgj ?_
 refine dixs hT (by kernel_rfl) 2 a rfl rfl (by omega) ?_
 simp only [add_mk, Nat.mul_one]
 refine dldpw hT (by kernel_rfl) 0 0 rfl (by kernel_rfl) rfl hgi ?_
 refine dixs hT (by kernel_rfl) 0 a rfl rfl (by omega) ?_
 simp only [add_mk, Nat.mul_one]
 refine dact hT (by kernel_rfl) 0 rfl ?_
 refine stp hT 0 0 rfl rfl hgi rfl ?_
 refine dnext (.inl (by kernel_rfl)) ?_
 refine dixs hT (by kernel_rfl) 0 pv rfl rfl (by omega) ?_
 simp only [add_mk, Nat.mul_one]
 refine dact hT (by kernel_rfl) 0 rfl ?_
 refine WL.hs (pt g (uA pre (xs.set a (xs.getD pv 0)) post) 37 :: hs) (congrArg (fun z => pt g z 37 :: hs) (uA_set (by omega))) ?_
 refine stp hT 0 0 rfl rfl hgj2 rfl ?_
 refine WL.hs (pt g (uA pre (swp a pv xs) post) 37 :: hs) (congrArg (fun z => pt g z 37 :: hs) (uA_set (by rw [List.length_set]; omega))) ?_
 refine dnext (.inl (by kernel_rfl)) ?_
 refine dend hT (by kernel_rfl) 0 rfl (th (sq (rg ?_)))
 have hswl := swp_len a pv xs
 have hP0 : SegP a b xs (swp a pv xs) := SegP.swp ⟨by omega, by omega⟩ ⟨by omega, by omega⟩ hb
 refine ar hT 1 rfl (i64w (x := ((a + 1 : Nat) : Int)) (by omega)) ?_
 refine ar hT 1 rfl (v' := .int .i64 ((b - 1 : Nat) : Int)) (by rw [show ((b : Nat) : Int) - 1 = ((b - 1 : Nat) : Int) from by omega]; exact i64w (by omega)) ?_
 obtain ⟨ys, hys⟩ : ∃ ys, ys = swp a pv xs := ⟨_, rfl⟩
 rw [<- hys] at hswl hP0 ⊢
 clear hys
 have hyl : ys.length = xs.length := hswl
 refine fin hT 2 rfl (th (jn (σ := Nat) (fun i => [(0, .slice (some ⟨g, pre.length, none⟩) xs.length cap), (1, .int .i64 ((a : Nat) : Int)), (10, .int .i64 ((i : Nat) : Int)), (11, .int .i64 (((b - 1) : Nat) : Int))]) (fun _ => pt g (uA pre ys post) 37 :: hs) (fun i => (a + 1) <= i /\ PrtI (fun x y => x < y) (fun x y => y <= x) a b i (b - 1) ys /\ (i <= (b - 1) -> ys.getD a 0 <= ys.getD i 0)) ?_ ?_))
 ·refine bk ?_
  refine loop (σ := Nat) (fun i => [(0, .slice (some ⟨g, pre.length, none⟩) xs.length cap), (1, .int .i64 ((a : Nat) : Int)), (10, .int .i64 ((i : Nat) : Int)), (11, .int .i64 (((b - 1) : Nat) : Int))]) (fun _ => K) (fun _ => pt g (uA pre ys post) 37 :: hs) (fun i => (a + 1) <= i /\ PrtI (fun x y => x < y) (fun x y => y <= x) a b i (b - 1) ys) (fun i => (b - 1) + 1 - i) (a + 1) ⟨Nat.le_refl _, PrtI.start _ _ hab⟩ ⟨rfl, rfl, rfl, rfl, trivial⟩ rfl rfl ?_
  rintro i ⟨hi0, hI⟩
  have q1 := hI.i1
  have q2 := hI.ij
  have q3 := hI.jb
  refine sq (sq (rga [pt g (uA pre ys post) 37] 14 [0, 2, 4, 6, 8, 10, 12, 14, 16, 18, 20, 22, 25, 26] (by simp) (by kernel_rfl) (by kernel_rfl) ?_))
  refine dcmp hT (by kernel_rfl) 2 (i <= (b - 1)) rfl (by simp) (fun h1 => ?_) (fun h1 => ?_)
  ·refine dixs hT (by kernel_rfl) 3 i rfl rfl (by omega) ?_
   simp only [add_mk, Nat.mul_one]
   refine dldp hT (by kernel_rfl) 0 0 rfl rfl (uA_get (by omega)) ?_
   refine dixs hT (by kernel_rfl) 2 a rfl rfl (by omega) ?_
   simp only [add_mk, Nat.mul_one]
   refine dldp hT (by kernel_rfl) 0 0 rfl rfl (uA_get (by omega)) ?_
   refine dact hT (by kernel_rfl) 0 rfl ?_
   refine cl hT 0 rfl (lessC (ys.getD i 0) (ys.getD a 0)) ?_
   rintro v41 K41 hs41 ⟨rfl, rfl, rfl⟩
   refine dnex [pt g (uA pre ys post) 37] (by simp) (by simp) rfl ?_
   by_cases hlt : ys.getD i 0 < ys.getD a 0
   ·rw [decide_eq_true hlt]
    refine dend hT (by kernel_rfl) 1 rfl (th (ifT rfl ?_))
    refine sk (th (bk (rg ?_)))
    refine ar hT 1 rfl (i64w (x := ((i + 1 : Nat) : Int)) (by omega)) ?_
    refine fin hT 1 rfl (bl ?_)
    exact again (x := i) (i + 1) ⟨rfl, rfl, rfl, rfl, trivial⟩ rfl rfl ⟨by omega, hI.up h1 hlt⟩ (by omega)
   ·rw [decide_eq_false hlt]
    refine dend hT (by kernel_rfl) 1 rfl (th (ifF rfl ?_))
    refine ex (xt (xt (xb ?_)))
    exact jx i ⟨hi0, hI, fun _ => Nat.le_of_not_lt hlt⟩ ⟨rfl, rfl, rfl, rfl, trivial⟩ rfl rfl
  ·refine dact hT (by kernel_rfl) 9 rfl ?_
   refine WL.pures hT 1 rfl ?_
   refine dnex [pt g (uA pre ys post) 37] (by simp) (by simp) rfl ?_
   refine dend hT (by kernel_rfl) 1 rfl (th (ifF rfl ?_))
   refine ex (xt (xt (xb ?_)))
   exact jx i ⟨hi0, hI, fun h => absurd h h1⟩ ⟨rfl, rfl, rfl, rfl, trivial⟩ rfl rfl
 ·rintro i ⟨hi0, hI, hq⟩
  refine jn (σ := Nat) (fun j => [(0, .slice (some ⟨g, pre.length, none⟩) xs.length cap), (1, .int .i64 ((a : Nat) : Int)), (10, .int .i64 ((i : Nat) : Int)), (11, .int .i64 ((j : Nat) : Int))]) (fun _ => pt g (uA pre ys post) 37 :: hs) (fun j => j <= (b - 1) /\ PrtI (fun x y => x < y) (fun x y => y <= x) a b i j ys /\ (i <= j -> ys.getD a 0 <= ys.getD i 0) /\ (i <= j -> ys.getD j 0 < ys.getD a 0)) ?_ ?_
  ·refine bk ?_
   refine loop (σ := Nat) (fun j => [(0, .slice (some ⟨g, pre.length, none⟩) xs.length cap), (1, .int .i64 ((a : Nat) : Int)), (10, .int .i64 ((i : Nat) : Int)), (11, .int .i64 ((j : Nat) : Int))]) (fun _ => K) (fun _ => pt g (uA pre ys post) 37 :: hs) (fun j => j <= (b - 1) /\ PrtI (fun x y => x < y) (fun x y => y <= x) a b i j ys) (fun j => j + 1 - i) ((b - 1)) ⟨Nat.le_refl _, hI⟩ ⟨rfl, rfl, rfl, rfl, trivial⟩ rfl rfl ?_
   rintro j ⟨hj0, hJ⟩
   have q1 := hJ.i1
   have q2 := hJ.ij
   have q3 := hJ.jb
   refine sq (sq (rga [pt g (uA pre ys post) 37] 15 [0, 2, 4, 6, 8, 10, 12, 14, 16, 18, 20, 22, 25, 26, 28] (by simp) (by kernel_rfl) (by kernel_rfl) ?_))
   refine dcmp hT (by kernel_rfl) 2 (i <= j) rfl (by simp) (fun h1 => ?_) (fun h1 => ?_)
   ·refine dixs hT (by kernel_rfl) 3 j rfl rfl (by omega) ?_
    simp only [add_mk, Nat.mul_one]
    refine dldp hT (by kernel_rfl) 0 0 rfl rfl (uA_get (by omega)) ?_
    refine dixs hT (by kernel_rfl) 2 a rfl rfl (by omega) ?_
    simp only [add_mk, Nat.mul_one]
    refine dldp hT (by kernel_rfl) 0 0 rfl rfl (uA_get (by omega)) ?_
    refine dact hT (by kernel_rfl) 0 rfl ?_
    refine cl hT 0 rfl (lessC (ys.getD j 0) (ys.getD a 0)) ?_
    rintro v58 K58 hs58 ⟨rfl, rfl, rfl⟩
    refine dnex [pt g (uA pre ys post) 37] (by simp) (by simp) rfl ?_
    by_cases hlt : ys.getD j 0 < ys.getD a 0
    ·rw [decide_eq_true hlt]
     refine dend hT (by kernel_rfl) 2 rfl (th (ifF rfl ?_))
     refine ex (xt (xt (xb ?_)))
     exact jx j ⟨hj0, hJ, fun h => hq (by omega), fun _ => hlt⟩ ⟨rfl, rfl, rfl, rfl, trivial⟩ rfl rfl
    ·rw [decide_eq_false hlt]
     refine dend hT (by kernel_rfl) 2 rfl (th (ifT rfl ?_))
     refine sk (th (bk (rg ?_)))
     refine ar hT 1 rfl (v' := .int .i64 ((j - 1 : Nat) : Int)) (by rw [show ((j : Nat) : Int) - 1 = ((j - 1 : Nat) : Int) from by omega]; exact i64w (by omega)) ?_
     refine fin hT 1 rfl (bl ?_)
     exact again (x := j) (j - 1) ⟨rfl, rfl, rfl, rfl, trivial⟩ rfl rfl ⟨by omega, hJ.down h1 (Nat.le_of_not_lt hlt)⟩ (by omega)
   ·refine dact hT (by kernel_rfl) 9 rfl ?_
    refine WL.pures hT 1 rfl ?_
    refine dnex [pt g (uA pre ys post) 37] (by simp) (by simp) rfl ?_
    refine dend hT (by kernel_rfl) 2 rfl (th (ifF rfl ?_))
    refine ex (xt (xt (xb ?_)))
    exact jx j ⟨hj0, hJ, fun h => absurd h h1, fun h => absurd h h1⟩ ⟨rfl, rfl, rfl, rfl, trivial⟩ rfl rfl
  ·rintro j ⟨hj0, hJ, hqi, hqj⟩
   have q1 := hJ.i1
   have q2 := hJ.ij
   have q3 := hJ.jb
   refine sq (sq (rg ?_))
   refine cmpS hT 2 rfl fun b65 h65 => ?_
   refine fin hT 0 rfl (th (ifP h65 rfl (fun e6 => ?_) (fun e6 => ?_)))
   ·obtain rfl : i = j + 1 := by omega
    have hgi : (uA pre ys post)[pre.length + j]? = some (.int .u64 ((ys.getD j 0 : Nat) : Int)) := uA_get (by omega)
    have hgj : (uA pre ys post)[pre.length + a]? = some (.int .u64 ((ys.getD a 0 : Nat) : Int)) := uA_get (by omega)
    have hgj2 : (uA pre (ys.set j (ys.getD a 0)) post)[pre.length + a]? = some (.int .u64 (((ys.set j (ys.getD a 0)).getD a 0 : Nat) : Int)) := uA_get (by rw [List.length_set]; omega)
    refine sq (rga [pt g (uA pre ys post) 37] 13 [0, 2, 4, 6, 8, 10, 12, 14, 16, 18, 20, 22, 24, 27, 28, 31] (by simp) (by kernel_rfl) (by kernel_rfl) ?_)
    refine dixs hT (by kernel_rfl) 6 a rfl rfl (by omega) ?_
    simp only [add_mk, Nat.mul_one]
    refine dldpw hT (by kernel_rfl) 0 0 rfl (by kernel_rfl) rfl hgj ?_
    refine dixs hT (by kernel_rfl) 2 j rfl rfl (by omega) ?_
    simp only [add_mk, Nat.mul_one]
    refine dldpw hT (by kernel_rfl) 0 0 rfl (by kernel_rfl) rfl hgi ?_
    refine dixs hT (by kernel_rfl) 0 j rfl rfl (by omega) ?_
    simp only [add_mk, Nat.mul_one]
    refine dact hT (by kernel_rfl) 0 rfl ?_
    refine stp hT 0 0 rfl rfl hgi rfl ?_
    refine dnext (.inl (by kernel_rfl)) ?_
    refine dixs hT (by kernel_rfl) 0 a rfl rfl (by omega) ?_
    simp only [add_mk, Nat.mul_one]
    refine dact hT (by kernel_rfl) 0 rfl ?_
    refine WL.hs (pt g (uA pre (ys.set j (ys.getD a 0)) post) 37 :: hs) (congrArg (fun z => pt g z 37 :: hs) (uA_set (by omega))) ?_
    refine stp hT 0 0 rfl rfl hgj2 rfl ?_
    refine WL.hs (pt g (uA pre (swp j a ys) post) 37 :: hs) (congrArg (fun z => pt g z 37 :: hs) (uA_set (by rw [List.length_set]; omega))) ?_
    refine dnext (.inl (by kernel_rfl)) ?_
    refine dend hT (by kernel_rfl) 0 rfl (th (sq (rg ?_)))
    refine fin hT 3 rfl (th (rt ?_))
    have hA := hJ.last (by omega)
    exact ret2 rfl rfl rfl ⟨rfl, swp j a ys, j, true, rfl, rfl, hP0.trans (SegP.swp ⟨by omega, by omega⟩ ⟨by omega, by omega⟩ (by omega)), ⟨by omega, by omega, fun p p1 p2 => Nat.le_of_lt (hA.1 p p1 p2), hA.2⟩⟩
   ·have hij : i < j := by
     rcases Nat.lt_or_ge i j with h | h
     ·exact h
     ·have h1 := hqi (by omega)
      have h2 := hqj (by omega)
      have : i = j := by omega
      subst this
      omega
    have hgi : (uA pre ys post)[pre.length + i]? = some (.int .u64 ((ys.getD i 0 : Nat) : Int)) := uA_get (by omega)
    have hgj : (uA pre ys post)[pre.length + j]? = some (.int .u64 ((ys.getD j 0 : Nat) : Int)) := uA_get (by omega)
    have hgj2 : (uA pre (ys.set i (ys.getD j 0)) post)[pre.length + j]? = some (.int .u64 (((ys.set i (ys.getD j 0)).getD j 0 : Nat) : Int)) := uA_get (by rw [List.length_set]; omega)
    refine sk (th (sq (rga [pt g (uA pre ys post) 37] 13 [0, 2, 4, 6, 8, 10, 12, 14, 16, 18, 20, 22, 24, 27, 28, 31] (by simp) (by kernel_rfl) (by kernel_rfl) ?_)))
    refine dixs hT (by kernel_rfl) 6 j rfl rfl (by omega) ?_
    simp only [add_mk, Nat.mul_one]
    refine dldpw hT (by kernel_rfl) 0 0 rfl (by kernel_rfl) rfl hgj ?_
    refine dixs hT (by kernel_rfl) 2 i rfl rfl (by omega) ?_
    simp only [add_mk, Nat.mul_one]
    refine dldpw hT (by kernel_rfl) 0 0 rfl (by kernel_rfl) rfl hgi ?_
    refine dixs hT (by kernel_rfl) 0 i rfl rfl (by omega) ?_
    simp only [add_mk, Nat.mul_one]
    refine dact hT (by kernel_rfl) 0 rfl ?_
    refine stp hT 0 0 rfl rfl hgi rfl ?_
    refine dnext (.inl (by kernel_rfl)) ?_
    refine dixs hT (by kernel_rfl) 0 j rfl rfl (by omega) ?_
    simp only [add_mk, Nat.mul_one]
    refine dact hT (by kernel_rfl) 0 rfl ?_
    refine WL.hs (pt g (uA pre (ys.set i (ys.getD j 0)) post) 37 :: hs) (congrArg (fun z => pt g z 37 :: hs) (uA_set (by omega))) ?_
    refine stp hT 0 0 rfl rfl hgj2 rfl ?_
    refine WL.hs (pt g (uA pre (swp i j ys) post) 37 :: hs) (congrArg (fun z => pt g z 37 :: hs) (uA_set (by rw [List.length_set]; omega))) ?_
    refine dnext (.inl (by kernel_rfl)) ?_
    refine dend hT (by kernel_rfl) 0 rfl (th (sq (rg ?_)))
    refine ar hT 1 rfl (i64w (x := ((i + 1 : Nat) : Int)) (by omega)) ?_
    refine fin hT 1 rfl (th (sq (rg ?_)))
    refine ar hT 1 rfl (v' := .int .i64 ((j - 1 : Nat) : Int)) (by rw [show ((j : Nat) : Int) - 1 = ((j - 1 : Nat) : Int) from by omega]; exact i64w (by omega)) ?_
    have hJ2 := hJ.swap hij (by omega) (hqj (by omega)) (hqi (by omega))
    have hP2 : SegP a b xs (swp i j ys) := hP0.trans (SegP.swp ⟨by omega, by omega⟩ ⟨by omega, by omega⟩ (by omega))
    refine fin hT 1 rfl (th (jn (σ := Nat × List Nat) (fun s => [(0, .slice (some ⟨g, pre.length, none⟩) xs.length cap), (1, .int .i64 ((a : Nat) : Int)), (10, .int .i64 ((s.1 + 1 : Nat) : Int)), (11, .int .i64 ((s.1 : Nat) : Int))]) (fun s => pt g (uA pre s.2 post) 37 :: hs) (fun s => SegP a b xs s.2 /\ PrtI (fun x y => x < y) (fun x y => y <= x) a b (s.1 + 1) s.1 s.2) ?_ ?_))
    ·refine bk ?_
     refine loop (σ := Nat × Nat × List Nat) (fun s => [(0, .slice (some ⟨g, pre.length, none⟩) xs.length cap), (1, .int .i64 ((a : Nat) : Int)), (10, .int .i64 ((s.1 : Nat) : Int)), (11, .int .i64 ((s.2.1 : Nat) : Int))]) (fun _ => K) (fun s => pt g (uA pre s.2.2 post) 37 :: hs)
      (fun s => SegP a b xs s.2.2 /\ PrtI (fun x y => x < y) (fun x y => y <= x) a b s.1 s.2.1 s.2.2) (fun s => s.2.1 + 1 - s.1) (i + 1, j - 1, swp i j ys) ⟨hP2, hJ2⟩ ⟨rfl, rfl, rfl, rfl, trivial⟩ rfl rfl ?_
     clear hJ2 hP2 hij hgj2 hgj hgi e6 hqj hqi q3 q2 q1 hJ hj0 hq hI hi0
     clear h65 b65 j i hyl hP0 hswl ys
     rintro ⟨i0, j0, ys⟩ ⟨hP, hI0⟩
     dsimp only at *
     have hyl : ys.length = xs.length := hP.len
     refine bk ?_
     refine jn (σ := Nat) (fun i => [(0, .slice (some ⟨g, pre.length, none⟩) xs.length cap), (1, .int .i64 ((a : Nat) : Int)), (10, .int .i64 ((i : Nat) : Int)), (11, .int .i64 ((j0 : Nat) : Int))]) (fun _ => pt g (uA pre ys post) 37 :: hs) (fun i => i0 <= i /\ PrtI (fun x y => x < y) (fun x y => y <= x) a b i j0 ys /\ (i <= j0 -> ys.getD a 0 <= ys.getD i 0)) ?_ ?_
     ·refine bk ?_
      refine loop (σ := Nat) (fun i => [(0, .slice (some ⟨g, pre.length, none⟩) xs.length cap), (1, .int .i64 ((a : Nat) : Int)), (10, .int .i64 ((i : Nat) : Int)), (11, .int .i64 ((j0 : Nat) : Int))]) (fun _ => K) (fun _ => pt g (uA pre ys post) 37 :: hs) (fun i => i0 <= i /\ PrtI (fun x y => x < y) (fun x y => y <= x) a b i j0 ys) (fun i => j0 + 1 - i) i0 ⟨Nat.le_refl _, hI0⟩ ⟨rfl, rfl, rfl, rfl, trivial⟩ rfl rfl ?_
      rintro i ⟨hi0, hI⟩
      have q1 := hI.i1
      have q2 := hI.ij
      have q3 := hI.jb
      refine sq (sq (rga [pt g (uA pre ys post) 37] 14 [0, 2, 4, 6, 8, 10, 12, 14, 16, 18, 20, 22, 25, 26] (by simp) (by kernel_rfl) (by kernel_rfl) ?_))
      refine dcmp hT (by kernel_rfl) 2 (i <= j0) rfl (by simp) (fun h1 => ?_) (fun h1 => ?_)
      ·refine dixs hT (by kernel_rfl) 3 i rfl rfl (by omega) ?_
       simp only [add_mk, Nat.mul_one]
       refine dldp hT (by kernel_rfl) 0 0 rfl rfl (uA_get (by omega)) ?_
       refine dixs hT (by kernel_rfl) 2 a rfl rfl (by omega) ?_
       simp only [add_mk, Nat.mul_one]
       refine dldp hT (by kernel_rfl) 0 0 rfl rfl (uA_get (by omega)) ?_
       refine dact hT (by kernel_rfl) 0 rfl ?_
       refine cl hT 0 rfl (lessC (ys.getD i 0) (ys.getD a 0)) ?_
       rintro v41 K41 hs41 ⟨rfl, rfl, rfl⟩
       refine dnex [pt g (uA pre ys post) 37] (by simp) (by simp) rfl ?_
       by_cases hlt : ys.getD i 0 < ys.getD a 0
       ·rw [decide_eq_true hlt]
        refine dend hT (by kernel_rfl) 1 rfl (th (ifT rfl ?_))
        refine sk (th (bk (rg ?_)))
        refine ar hT 1 rfl (i64w (x := ((i + 1 : Nat) : Int)) (by omega)) ?_
        refine fin hT 1 rfl (bl ?_)
        exact again (x := i) (i + 1) ⟨rfl, rfl, rfl, rfl, trivial⟩ rfl rfl ⟨by omega, hI.up h1 hlt⟩ (by omega)
       ·rw [decide_eq_false hlt]
        refine dend hT (by kernel_rfl) 1 rfl (th (ifF rfl ?_))
        refine ex (xt (xt (xb ?_)))
        exact jx i ⟨hi0, hI, fun _ => Nat.le_of_not_lt hlt⟩ ⟨rfl, rfl, rfl, rfl, trivial⟩ rfl rfl
      ·refine dact hT (by kernel_rfl) 9 rfl ?_
       refine WL.pures hT 1 rfl ?_
       refine dnex [pt g (uA pre ys post) 37] (by simp) (by simp) rfl ?_
       refine dend hT (by kernel_rfl) 1 rfl (th (ifF rfl ?_))
       refine ex (xt (xt (xb ?_)))
       exact jx i ⟨hi0, hI, fun h => absurd h h1⟩ ⟨rfl, rfl, rfl, rfl, trivial⟩ rfl rfl
     ·rintro i ⟨hi0, hI, hq⟩
      refine jn (σ := Nat) (fun j => [(0, .slice (some ⟨g, pre.length, none⟩) xs.length cap), (1, .int .i64 ((a : Nat) : Int)), (10, .int .i64 ((i : Nat) : Int)), (11, .int .i64 ((j : Nat) : Int))]) (fun _ => pt g (uA pre ys post) 37 :: hs) (fun j => j <= j0 /\ PrtI (fun x y => x < y) (fun x y => y <= x) a b i j ys /\ (i <= j -> ys.getD a 0 <= ys.getD i 0) /\ (i <= j -> ys.getD j 0 < ys.getD a 0)) ?_ ?_
      ·refine bk ?_
       refine loop (σ := Nat) (fun j => [(0, .slice (some ⟨g, pre.length, none⟩) xs.length cap), (1, .int .i64 ((a : Nat) : Int)), (10, .int .i64 ((i : Nat) : Int)), (11, .int .i64 ((j : Nat) : Int))]) (fun _ => K) (fun _ => pt g (uA pre ys post) 37 :: hs) (fun j => j <= j0 /\ PrtI (fun x y => x < y) (fun x y => y <= x) a b i j ys) (fun j => j + 1 - i) (j0) ⟨Nat.le_refl _, hI⟩ ⟨rfl, rfl, rfl, rfl, trivial⟩ rfl rfl ?_
       rintro j ⟨hj0, hJ⟩
       have q1 := hJ.i1
       have q2 := hJ.ij
       have q3 := hJ.jb
       refine sq (sq (rga [pt g (uA pre ys post) 37] 15 [0, 2, 4, 6, 8, 10, 12, 14, 16, 18, 20, 22, 25, 26, 28] (by simp) (by kernel_rfl) (by kernel_rfl) ?_))
       refine dcmp hT (by kernel_rfl) 2 (i <= j) rfl (by simp) (fun h1 => ?_) (fun h1 => ?_)
       ·refine dixs hT (by kernel_rfl) 3 j rfl rfl (by omega) ?_
        simp only [add_mk, Nat.mul_one]
        refine dldp hT (by kernel_rfl) 0 0 rfl rfl (uA_get (by omega)) ?_
        refine dixs hT (by kernel_rfl) 2 a rfl rfl (by omega) ?_
        simp only [add_mk, Nat.mul_one]
        refine dldp hT (by kernel_rfl) 0 0 rfl rfl (uA_get (by omega)) ?_
        refine dact hT (by kernel_rfl) 0 rfl ?_
        refine cl hT 0 rfl (lessC (ys.getD j 0) (ys.getD a 0)) ?_
        rintro v58 K58 hs58 ⟨rfl, rfl, rfl⟩
        refine dnex [pt g (uA pre ys post) 37] (by simp) (by simp) rfl ?_
        by_cases hlt : ys.getD j 0 < ys.getD a 0
        ·rw [decide_eq_true hlt]
         refine dend hT (by kernel_rfl) 2 rfl (th (ifF rfl ?_))
         refine ex (xt (xt (xb ?_)))
         exact jx j ⟨hj0, hJ, fun h => hq (by omega), fun _ => hlt⟩ ⟨rfl, rfl, rfl, rfl, trivial⟩ rfl rfl
        ·rw [decide_eq_false hlt]
         refine dend hT (by kernel_rfl) 2 rfl (th (ifT rfl ?_))
         refine sk (th (bk (rg ?_)))
         refine ar hT 1 rfl (v' := .int .i64 ((j - 1 : Nat) : Int)) (by rw [show ((j : Nat) : Int) - 1 = ((j - 1 : Nat) : Int) from by omega]; exact i64w (by omega)) ?_
         refine fin hT 1 rfl (bl ?_)
         exact again (x := j) (j - 1) ⟨rfl, rfl, rfl, rfl, trivial⟩ rfl rfl ⟨by omega, hJ.down h1 (Nat.le_of_not_lt hlt)⟩ (by omega)
       ·refine dact hT (by kernel_rfl) 9 rfl ?_
        refine WL.pures hT 1 rfl ?_
        refine dnex [pt g (uA pre ys post) 37] (by simp) (by simp) rfl ?_
        refine dend hT (by kernel_rfl) 2 rfl (th (ifF rfl ?_))
        refine ex (xt (xt (xb ?_)))
        exact jx j ⟨hj0, hJ, fun h => absurd h h1, fun h => absurd h h1⟩ ⟨rfl, rfl, rfl, rfl, trivial⟩ rfl rfl
      ·rintro j ⟨hj0, hJ, hqi, hqj⟩
       have q1 := hJ.i1
       have q2 := hJ.ij
       have q3 := hJ.jb
       refine sq (sq (rg ?_))
       refine cmpS hT 2 rfl fun b134 h134 => ?_
       refine fin hT 0 rfl (th (ifP h134 rfl (fun e6 => ?_) (fun e6 => ?_)))
       ·obtain rfl : i = j + 1 := by omega
        refine ex (xt (xn rfl (xt (xb ?_))))
        exact jx (j, ys) ⟨hP, hJ⟩ ⟨rfl, rfl, rfl, rfl, trivial⟩ rfl rfl
       ·have hij : i < j := by
         rcases Nat.lt_or_ge i j with h | h
         ·exact h
         ·have h1 := hqi (by omega)
          have h2 := hqj (by omega)
          have : i = j := by omega
          subst this
          omega
        have hgi : (uA pre ys post)[pre.length + i]? = some (.int .u64 ((ys.getD i 0 : Nat) : Int)) := uA_get (by omega)
        have hgj : (uA pre ys post)[pre.length + j]? = some (.int .u64 ((ys.getD j 0 : Nat) : Int)) := uA_get (by omega)
        have hgj2 : (uA pre (ys.set i (ys.getD j 0)) post)[pre.length + j]? = some (.int .u64 (((ys.set i (ys.getD j 0)).getD j 0 : Nat) : Int)) := uA_get (by rw [List.length_set]; omega)
        refine sk (th (sq (rga [pt g (uA pre ys post) 37] 13 [0, 2, 4, 6, 8, 10, 12, 14, 16, 18, 20, 22, 24, 27, 28, 31] (by simp) (by kernel_rfl) (by kernel_rfl) ?_)))
        refine dixs hT (by kernel_rfl) 6 j rfl rfl (by omega) ?_
        simp only [add_mk, Nat.mul_one]
        refine dldpw hT (by kernel_rfl) 0 0 rfl (by kernel_rfl) rfl hgj ?_
        refine dixs hT (by kernel_rfl) 2 i rfl rfl (by omega) ?_
        simp only [add_mk, Nat.mul_one]
        refine dldpw hT (by kernel_rfl) 0 0 rfl (by kernel_rfl) rfl hgi ?_
        refine dixs hT (by kernel_rfl) 0 i rfl rfl (by omega) ?_
        simp only [add_mk, Nat.mul_one]
        refine dact hT (by kernel_rfl) 0 rfl ?_
        refine stp hT 0 0 rfl rfl hgi rfl ?_
        refine dnext (.inl (by kernel_rfl)) ?_
        refine dixs hT (by kernel_rfl) 0 j rfl rfl (by omega) ?_
        simp only [add_mk, Nat.mul_one]
        refine dact hT (by kernel_rfl) 0 rfl ?_
        refine WL.hs (pt g (uA pre (ys.set i (ys.getD j 0)) post) 37 :: hs) (congrArg (fun z => pt g z 37 :: hs) (uA_set (by omega))) ?_
        refine stp hT 0 0 rfl rfl hgj2 rfl ?_
        refine WL.hs (pt g (uA pre (swp i j ys) post) 37 :: hs) (congrArg (fun z => pt g z 37 :: hs) (uA_set (by rw [List.length_set]; omega))) ?_
        refine dnext (.inl (by kernel_rfl)) ?_
        refine dend hT (by kernel_rfl) 0 rfl (th (sq (rg ?_)))
        refine ar hT 1 rfl (i64w (x := ((i + 1 : Nat) : Int)) (by omega)) ?_
        refine fin hT 1 rfl (th (rg ?_))
        refine ar hT 1 rfl (v' := .int .i64 ((j - 1 : Nat) : Int)) (by rw [show ((j : Nat) : Int) - 1 = ((j - 1 : Nat) : Int) from by omega]; exact i64w (by omega)) ?_
        refine fin hT 1 rfl (bl ?_)
        exact again (x := (i0, j0, ys)) (i + 1, j - 1, swp i j ys) ⟨rfl, rfl, rfl, rfl, trivial⟩ rfl rfl ⟨hP.trans (SegP.swp ⟨by omega, by omega⟩ ⟨by omega, by omega⟩ (by omega)), hJ.swap hij (by omega) (hqj (by omega)) (hqi (by omega))⟩ (by dsimp only; omega)
    ·rintro ⟨j, ys⟩ ⟨hP, hJ⟩
     dsimp only at *
     have hyl : ys.length = xs.length := hP.len
     have q1 := hJ.i1
     have q2 := hJ.ij
     have q3 := hJ.jb
     have hgi : (uA pre ys post)[pre.length + j]? = some (.int .u64 ((ys.getD j 0 : Nat) : Int)) := uA_get (by omega)
     have hgj : (uA pre ys post)[pre.length + a]? = some (.int .u64 ((ys.getD a 0 : Nat) : Int)) := uA_get (by omega)
     have hgj2 : (uA pre (ys.set j (ys.getD a 0)) post)[pre.length + a]? = some (.int .u64 (((ys.set j (ys.getD a 0)).getD a 0 : Nat) : Int)) := uA_get (by rw [List.length_set]; omega)
     refine sq (rga [pt g (uA pre ys post) 37] 13 [0, 2, 4, 6, 8, 10, 12, 14, 16, 18, 20, 22, 24, 27, 28, 31] (by simp) (by kernel_rfl) (by kernel_rfl) ?_)
     refine dixs hT (by kernel_rfl) 6 a rfl rfl (by omega) ?_
     simp only [add_mk, Nat.mul_one]
     refine dldpw hT (by kernel_rfl) 0 0 rfl (by kernel_rfl) rfl hgj ?_
     refine dixs hT (by kernel_rfl) 2 j rfl rfl (by omega) ?_
     simp only [add_mk, Nat.mul_one]
     refine dldpw hT (by kernel_rfl) 0 0 rfl (by kernel_rfl) rfl hgi ?_
     refine dixs hT (by kernel_rfl) 0 j rfl rfl (by omega) ?_
     simp only [add_mk, Nat.mul_one]
     refine dact hT (by kernel_rfl) 0 rfl ?_
     refine stp hT 0 0 rfl rfl hgi rfl ?_
     refine dnext (.inl (by kernel_rfl)) ?_
     refine dixs hT (by kernel_rfl) 0 a rfl rfl (by omega) ?_
     simp only [add_mk, Nat.mul_one]
     refine dact hT (by kernel_rfl) 0 rfl ?_
     refine WL.hs (pt g (uA pre (ys.set j (ys.getD a 0)) post) 37 :: hs) (congrArg (fun z => pt g z 37 :: hs) (uA_set (by omega))) ?_
     refine stp hT 0 0 rfl rfl hgj2 rfl ?_
     refine WL.hs (pt g (uA pre (swp j a ys) post) 37 :: hs) (congrArg (fun z => pt g z 37 :: hs) (uA_set (by rw [List.length_set]; omega))) ?_
     refine dnext (.inl (by kernel_rfl)) ?_
     refine dend hT (by kernel_rfl) 0 rfl (th (sq (rg ?_)))
     refine fin hT 3 rfl (th (rt ?_))
     have hA := hJ.last (by omega)
     exact ret2 rfl rfl rfl ⟨rfl, swp j a ys, j, false, rfl, rfl, hP.trans (SegP.swp ⟨by omega, by omega⟩ ⟨by omega, by omega⟩ (by omega)), ⟨by omega, by omega, fun p p1 p2 => Nat.le_of_lt (hA.1 p p1 p2), hA.2⟩⟩
end Go.Proofs.YtcncpbolcigpnaaGreat
end
