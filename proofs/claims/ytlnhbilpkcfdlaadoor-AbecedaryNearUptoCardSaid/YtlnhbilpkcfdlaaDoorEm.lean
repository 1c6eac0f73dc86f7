/-
  Maps: what is known of a map's block; a look-up, a store, a length, a deletion; copies of slices.
-/
import Derived.Test.YtlnhbilpkcfdlaaDoorEr
import Derived.ChangeKeysEq
set_option linter.unusedSimpArgs false
set_option linter.unusedVariables false
namespace Go.En
set_option linter.unusedVariables false
set_option linter.unusedSectionVars false
attribute [local irreducible] Code.wp wpList Calls

/-! Keys: values told by names whose equality is decided. -/
def fk {κ : Type} [DecidableEq κ] (k : κ) : List (κ × Value) → Nat → Option (Nat × Value)
  | [], _ => none
  | (k', v) :: m, i => if k = k' then some (i, v) else fk k m (i + 1)
structure KeyOK (P : Program) (kt : Nat) {κ : Type} [DecidableEq κ] (enc : κ → Value) : Prop where
  chk : ∀ e k w, (Instr.checkKey e 10000 kt (enc k)).run P w = .ok () w
  fnd : ∀ (k : κ) (es : List MapEntry) (m : List (κ × Value)) w, es.map (fun e => (e.key, e.val)) = m.map (fun x => (enc x.1, x.2)) → (Instr.findKey kt (enc k) es).run P w = .ok (fk k m 0) w
  sam : ∀ k, Instr.sameBits 10000 (enc k) (enc k) = true
theorem fndNow {P : Program} {kt : Nat} {d : TypeDesc} {κ : Type} [DecidableEq κ] {enc : κ → Value} (h : ∀ a b, Instr.sameNow d (enc a) (enc b) = some (decide (a = b))) (k : κ) : ∀ (es : List MapEntry) (m : List (κ × Value)) (i : Nat),
    es.map (fun e => (e.key, e.val)) = m.map (fun x => (enc x.1, x.2)) → Instr.findNow d (enc k) es i = some (fk k m i)
  | [], [], i, _ => rfl
  | [], _ :: _, i, h0 => by simp at h0
  | _ :: _, [], i, h0 => by simp at h0
  | e :: es, (k', v) :: m, i, h0 => by
    simp only [List.map_cons, List.cons.injEq, Prod.mk.injEq] at h0
    obtain ⟨⟨h1, h2⟩, h3⟩ := h0
    simp only [Instr.findNow, h1, h, fk]
    by_cases hk : k = k'
    · simp [hk, h2]
    · simp [hk, fndNow (P := P) (kt := kt) h k es m (i + 1) h3]
theorem KeyOK.ofNow {P : Program} {kt : Nat} {d : TypeDesc} {κ : Type} [DecidableEq κ] {enc : κ → Value} (hu : P.underlying kt = some d) (h : ∀ a b, Instr.sameNow d (enc a) (enc b) = some (decide (a = b)))
    (hc : ∀ e k w, (Instr.checkKey e 10000 kt (enc k)).run P w = .ok () w) (hs : ∀ k, Instr.sameBits 10000 (enc k) (enc k) = true) : KeyOK P kt enc :=
  ⟨hc, fun k es m w h0 => by unfold Instr.findKey; rw [Sem.run_bind, run_underlying hu]; simp [Result.andThen, fndNow (P := P) (kt := kt) h k es m 0 h0], hs⟩
theorem keyInt {P : Program} {kt : Nat} {kk : IntKind} (hu : P.underlying kt = some (.int kk)) : KeyOK P kt (κ := Int) (fun n => .int kk n) :=
  KeyOK.ofNow hu (fun a b => by simp only [Instr.sameNow, if_true]; rfl) (fun e k w => by
    rw [show (10000 : Nat) = 9999 + 1 from rfl]
    unfold Instr.checkKey
    rw [Sem.run_bind, run_underlying hu]
    rfl) (fun k => by simp [Instr.sameBits])
theorem fndAsk {P : Program} {kt : Nat} {κ : Type} [DecidableEq κ] {enc : κ → Value} (h : ∀ a b w, (Op.equal kt (enc a) (enc b)).run P w = .ok (decide (a = b)) w) (k : κ) (w : World) : ∀ (es : List MapEntry) (m : List (κ × Value)) (i : Nat),
    es.map (fun e => (e.key, e.val)) = m.map (fun x => (enc x.1, x.2)) → (Instr.findAsking kt (enc k) es i).run P w = .ok (fk k m i) w
  | [], [], i, _ => rfl
  | [], _ :: _, i, h0 => by simp at h0
  | _ :: _, [], i, h0 => by simp at h0
  | e :: es, (k', v) :: m, i, h0 => by
    simp only [List.map_cons, List.cons.injEq, Prod.mk.injEq] at h0
    obtain ⟨⟨h1, h2⟩, h3⟩ := h0
    simp only [Instr.findAsking, h1]
    rw [Sem.run_bind, h]
    simp only [Result.andThen, fk]
    by_cases hk : k = k'
    · simp [hk, h2]
    · simp [hk, fndAsk h k w es m (i + 1) h3]
theorem KeyOK.ofAgg {P : Program} {kt : Nat} {d : TypeDesc} {κ : Type} [DecidableEq κ] {enc : κ → Value} (hu : P.underlying kt = some d) (hn : ∀ a b, Instr.sameNow d (enc a) (enc b) = none) (h : ∀ a b w, (Op.equal kt (enc a) (enc b)).run P w = .ok (decide (a = b)) w)
    (hc : ∀ e k w, (Instr.checkKey e 10000 kt (enc k)).run P w = .ok () w) (hs : ∀ k, Instr.sameBits 10000 (enc k) (enc k) = true) : KeyOK P kt enc :=
  ⟨hc, fun k es m w h0 => by
    unfold Instr.findKey
    rw [Sem.run_bind, run_underlying hu]
    simp only [Result.andThen]
    cases es with
    | nil =>
      cases m with
      | nil => rfl
      | cons x m => simp at h0
    | cons e es =>
      have e1 : Instr.findNow d (enc k) (e :: es) 0 = none := by
        cases m with
        | nil => simp at h0
        | cons x m =>
          simp only [List.map_cons, List.cons.injEq, Prod.mk.injEq] at h0
          simp [Instr.findNow, h0.1.1, hn]
      simp only [e1]
      exact fndAsk h k w _ m 0 h0, hs⟩

/-! A map's block. -/
def MpO {κ ν : Type} (enc : κ → Value) (encv : ν → Value) (h : PH) (b : Nat) (m : List (κ × ν)) : Prop :=
  ∃ es clock, h = sg b (.map es clock) ∧ es.toList.map (fun e => (e.key, e.val)) = m.map (fun x => (enc x.1, encv x.2)) ∧ (es.toList.map (·.born)).Pairwise (· < ·) ∧ ∀ e ∈ es.toList, e.born < clock
def mget {κ ν : Type} [DecidableEq κ] (k : κ) : List (κ × ν) → Option ν
  | [] => none
  | (k', v) :: m => if k = k' then some v else mget k m
def mset {κ ν : Type} [DecidableEq κ] (k : κ) (v : ν) : List (κ × ν) → List (κ × ν)
  | [] => [(k, v)]
  | (k', v') :: m => if k = k' then (k, v) :: m else (k', v') :: mset k v m
def mdel {κ ν : Type} [DecidableEq κ] (k : κ) : List (κ × ν) → List (κ × ν)
  | [] => []
  | (k', v') :: m => if k = k' then m else (k', v') :: mdel k m
theorem mget_mset {κ ν : Type} [DecidableEq κ] (k j : κ) (v : ν) : ∀ m : List (κ × ν), mget j (mset k v m) = if j = k then some v else mget j m
  | [] => by simp [mset, mget]
  | (k', v') :: m => by
    have ih := mget_mset k j v m
    by_cases h : k = k'
    · subst h
      by_cases hj : j = k <;> simp [mset, mget, hj]
    · by_cases hj : j = k'
      · subst hj
        have : ¬ j = k := fun e => h e.symm
        simp [mset, mget, h, this]
      · simp [mset, mget, h, hj, ih]
theorem mset_length {κ ν : Type} [DecidableEq κ] (k : κ) (v : ν) : ∀ m : List (κ × ν), (mset k v m).length = if (mget k m).isSome then m.length else m.length + 1
  | [] => by simp [mset, mget]
  | (k', v') :: m => by
    have ih := mset_length k v m
    by_cases h : k = k'
    · simp [mset, mget, h]
    · simp only [mset, mget, h, if_false, List.length_cons, ih]
      split <;> rfl
theorem mset_keys {κ ν : Type} [DecidableEq κ] (k : κ) (v : ν) : ∀ m : List (κ × ν), (mset k v m).map (·.1) = if (mget k m).isSome then m.map (·.1) else m.map (·.1) ++ [k]
  | [] => by simp [mset, mget]
  | (k', v') :: m => by
    have ih := mset_keys k v m
    by_cases h : k = k'
    · simp [mset, mget, h]
    · simp only [mset, mget, h, if_false, List.map_cons, ih]
      split <;> simp
theorem mget_mem {κ ν : Type} [DecidableEq κ] {k : κ} {v : ν} : ∀ {m : List (κ × ν)}, mget k m = some v → (k, v) ∈ m
  | [], h => by simp [mget] at h
  | (k', v') :: m, h => by
    simp only [mget] at h
    split at h
    · rename_i e; subst e; simp only [Option.some.injEq] at h; subst h; simp
    · exact List.mem_cons_of_mem _ (mget_mem h)
theorem mget_none {κ ν : Type} [DecidableEq κ] {k : κ} : ∀ {m : List (κ × ν)}, mget k m = none ↔ k ∉ m.map (·.1)
  | [] => by simp [mget]
  | (k', v') :: m => by
    have ih := mget_none (k := k) (m := m)
    by_cases h : k = k' <;> simp_all [mget]
theorem fk_get {κ ν : Type} [DecidableEq κ] {encv : ν → Value} (k : κ) : ∀ (m : List (κ × ν)) (i : Nat), (fk k (m.map fun x => (x.1, encv x.2)) i).map (·.2) = (mget k m).map encv
  | [], i => rfl
  | (k', v) :: m, i => by
    by_cases h : k = k'
    · simp [fk, mget, h]
    · simp [fk, mget, h, fk_get k m (i + 1)]
theorem fk_shift {κ : Type} [DecidableEq κ] (k : κ) : ∀ (m : List (κ × Value)) (i : Nat), fk k m i = (fk k m 0).map fun x => (i + x.1, x.2)
  | [], i => rfl
  | (k', v) :: m, i => by
    by_cases h : k = k'
    · simp [fk, h]
    · simp only [fk, h, if_false]
      rw [fk_shift k m (i + 1), fk_shift k m (0 + 1)]
      cases fk k m 0 with
      | none => rfl
      | some x => simp; omega
theorem MpO.empty {κ ν : Type} {enc : κ → Value} {encv : ν → Value} (b c : Nat) : MpO (κ := κ) (ν := ν) enc encv (sg b (.map #[] c)) b [] := ⟨#[], c, rfl, rfl, by simp, by simp⟩

section look
variable {κ ν : Type} [DecidableEq κ] {enc : κ → Value} {encv : ν → Value} {P : Program} {h : PH} {b : Nat} {m : List (κ × ν)}
def lkV (ok : Bool) (v : Value) (is : Bool) : Value := cond ok (.tuple #[v, .bool is]) v
theorem MpO.map (hm : MpO enc encv h b m) : ∃ es clock, h = sg b (.map es clock) ∧ es.toList.map (fun e => (e.key, e.val)) = (m.map fun x => (x.1, encv x.2)).map (fun x => (enc x.1, x.2)) := by
  obtain ⟨es, c, h1, h2, _⟩ := hm
  exact ⟨es, c, h1, by rw [h2]; simp⟩
theorem run_getMap {w : World} {es : Array MapEntry} {c : Nat} (h : w.heap[b]? = some (.map es c)) : (getObj b).run P w = .ok (.map es c) w := by simp [getObj, Sem.run, h]
theorem run_lookup {t kt et : Nat} {z : Value} (hu : P.underlying t = some (.map kt et)) (hK : KeyOK P kt enc) (hz : (P.info? et).bind (·.zero) = some z) (hm : MpO enc encv h b m) {w : World} (hw : ∀ b o, h b = some o → w.heap[b]? = some o) (k : κ) (ok : Bool) :
    (Instr.lookup t (.map (some b)) (enc k) ok).run P w = .ok (lkV ok (match mget k m with | some v => encv v | none => z) (mget k m).isSome) w := by
  obtain ⟨es, c, rfl, h2⟩ := hm.map
  have hb := hw b (.map es c) (by simp)
  have hf := hK.fnd k es.toList _ w h2
  have hg := fk_get (encv := encv) k m 0
  obtain ⟨i, hi, hz'⟩ := Option.bind_eq_some_iff.1 hz
  unfold Instr.lookup
  simp only [Sem.run_bind, run_underlying hu, Result.andThen, run_getMap hb, Sem.run_pure, hK.chk, hf]
  cases e : fk k (m.map fun x => (x.1, encv x.2)) 0 with
  | none =>
    rw [e] at hg
    have hn : mget k m = none := by cases h3 : mget k m with | none => rfl | some v => simp [h3] at hg
    simp only [hn]
    have : (zeroValue et).run P w = .ok z w := by simp [zeroValue, typeInfo, hi, hz']
    rw [Sem.run_bind, this]
    cases ok <;> rfl
  | some x =>
    rw [e] at hg
    obtain ⟨v, hv, hx⟩ : ∃ v, mget k m = some v ∧ x.2 = encv v := by
      cases h3 : mget k m with
      | none => simp [h3] at hg
      | some v => simp [h3] at hg; exact ⟨v, rfl, hg⟩
    simp only [hv, hx]
    cases ok <;> rfl
theorem run_lookup_nil {t kt et : Nat} {z : Value} (hu : P.underlying t = some (.map kt et)) (hK : KeyOK P kt enc) (hz : (P.info? et).bind (·.zero) = some z) {w : World} (k : κ) (ok : Bool) :
    (Instr.lookup t (.map none) (enc k) ok).run P w = .ok (lkV ok z false) w := by
  have hf := hK.fnd k [] [] w rfl
  obtain ⟨i, hi, hz'⟩ := Option.bind_eq_some_iff.1 hz
  unfold Instr.lookup
  simp only [Sem.run_bind, run_underlying hu, Result.andThen, Sem.run_pure, hK.chk, show (#[] : Array MapEntry).toList = [] from rfl, hf, fk]
  have : (zeroValue et).run P w = .ok z w := by simp [zeroValue, typeInfo, hi, hz']
  rw [this]
  cases ok <;> rfl
/-! What a store makes of the entries. -/
def eset (k v : Value) (c : Nat) : Option (Nat × Value) → List MapEntry → List MapEntry
  | some (i, _), es => es.modify i fun e => { e with key := k, val := v }
  | none, es => es ++ [{ key := k, val := v, born := c }]
theorem eset_map (k : κ) (v : ν) (c : Nat) : ∀ (es : List MapEntry) (m : List (κ × ν)), es.map (fun e => (e.key, e.val)) = m.map (fun x => (enc x.1, encv x.2)) →
    (eset (enc k) (encv v) c (fk k (m.map fun x => (x.1, encv x.2)) 0) es).map (fun e => (e.key, e.val)) = (mset k v m).map (fun x => (enc x.1, encv x.2))
  | [], [], _ => rfl
  | [], _ :: _, h0 => by simp at h0
  | _ :: _, [], h0 => by simp at h0
  | e :: es, (k', v') :: m, h0 => by
    simp only [List.map_cons, List.cons.injEq, Prod.mk.injEq] at h0
    obtain ⟨⟨h1, h2⟩, h3⟩ := h0
    have ih := eset_map k v c es m h3
    by_cases hk : k = k'
    · simp [fk, mset, hk, eset, h3]
    · simp only [List.map_cons, fk, mset, hk, if_false]
      rw [fk_shift]
      cases hf : fk k (m.map fun x => (x.1, encv x.2)) 0 with
      | none =>
        rw [hf] at ih
        simp only [eset, Option.map_none] at ih ⊢
        rw [List.cons_append, List.map_cons, ih, h1, h2]
      | some x =>
        rw [hf] at ih
        obtain ⟨i, x⟩ := x
        simp only [eset, Option.map_some] at ih ⊢
        rw [show 0 + 1 + i = i + 1 from by omega, List.modify_succ_cons, List.map_cons, ih, h1, h2]
theorem eset_born (k v : Value) (c : Nat) (f : Option (Nat × Value)) (es : List MapEntry) (h : (es.map (·.born)).Pairwise (· < ·)) (hc : ∀ e ∈ es, e.born < c) :
    ((eset k v c f es).map (·.born)).Pairwise (· < ·) ∧ ∀ e ∈ eset k v c f es, e.born < (match f with | some _ => c | none => c + 1) := by
  cases f with
  | none =>
    refine ⟨?_, ?_⟩
    · simp only [eset, List.map_append, List.map_cons, List.map_nil]
      rw [List.pairwise_append]
      refine ⟨h, by simp, ?_⟩
      intro a ha b hb
      simp only [List.mem_singleton] at hb
      obtain ⟨e, he, rfl⟩ := List.mem_map.1 ha
      subst hb
      exact hc e he
    · intro e he
      simp only [eset, List.mem_append, List.mem_singleton] at he
      rcases he with he | rfl
      · have := hc e he
        show e.born < c + 1
        omega
      · show c < c + 1
        omega
  | some x =>
    obtain ⟨i, x⟩ := x
    have e1 : (es.modify i fun e => { e with key := k, val := v }).map (·.born) = es.map (·.born) := by
      clear h hc
      induction es generalizing i with
      | nil => simp
      | cons e es ih =>
        cases i with
        | zero => simp
        | succ i => simp [ih]
    refine ⟨by simp only [eset]; rw [e1]; exact h, ?_⟩
    intro e he
    simp only [eset] at he
    have : e.born ∈ (es.modify i fun e => { e with key := k, val := v }).map (·.born) := List.mem_map.2 ⟨e, he, rfl⟩
    rw [e1] at this
    obtain ⟨e', he', hb⟩ := List.mem_map.1 this
    rw [← hb]; exact hc e' he'
theorem fk_key {es : List MapEntry} {m : List (κ × Value)} (k : κ) {i : Nat} {v : Value} (h0 : es.map (fun e => (e.key, e.val)) = m.map (fun x => (enc x.1, x.2))) (hf : fk k m 0 = some (i, v)) : (es[i]?).map (·.key) = some (enc k) := by
  induction m generalizing es i v with
  | nil => simp [fk] at hf
  | cons x m ih =>
    obtain ⟨k', v'⟩ := x
    cases es with
    | nil => simp at h0
    | cons e es =>
      simp only [List.map_cons, List.cons.injEq, Prod.mk.injEq] at h0
      obtain ⟨⟨h1, h2⟩, h3⟩ := h0
      by_cases hk : k = k'
      · simp only [fk, hk, if_true, Option.some.injEq, Prod.mk.injEq] at hf
        obtain ⟨rfl, rfl⟩ := hf
        simp [h1, hk]
      · simp only [fk, hk, if_false] at hf
        rw [fk_shift] at hf
        cases hf2 : fk k m 0 with
        | none => simp [hf2] at hf
        | some y =>
          rw [hf2] at hf
          simp only [Option.map_some, Option.some.injEq, Prod.mk.injEq] at hf
          obtain ⟨rfl, rfl⟩ := hf
          have := ih (i := y.1) (v := y.2) h3 hf2
          rw [show 0 + 1 + y.1 = y.1 + 1 from by omega]
          simpa using this
theorem run_mapUpdate {w0 : World} {K : PH} {hs : List PH} {t kt et i : Nat} (hu : P.underlying t = some (.map kt et)) (hK : KeyOK P kt enc) (hm : MpO enc encv h b m) {w : World} (s : Sat w0 w K hs) (hi : hs[i]? = some h) (k : κ) (v : ν) :
    ∃ h' w', MpO enc encv h' b (mset k v m) ∧ (Instr.mapUpdate t (.map (some b)) (enc k) (encv v)).run P w = .ok () w' ∧ Sat w0 w' K (hs.set i h') := by
  obtain ⟨es, c, rfl, h2, h3, h4⟩ := hm
  have h2' : es.toList.map (fun e => (e.key, e.val)) = (m.map fun x => (x.1, encv x.2)).map (fun x => (enc x.1, x.2)) := by rw [h2]; simp
  have hb : w.heap[b]? = some (.map es c) := s.own i _ hi b _ (by simp)
  have hf := hK.fnd k es.toList _ w h2'
  have e1 := eset_map (enc := enc) (encv := encv) k v c es.toList m h2
  have e2 := eset_born (enc k) (encv v) c (fk k (m.map fun x => (x.1, encv x.2)) 0) es.toList h3 h4
  have hset : ∀ o : Obj, (setObj b o).run P w = .ok () (w.putObj b o) := fun o => by simp [setObj, Sem.run, hb, World.putObj]
  unfold Instr.mapUpdate
  simp only [Sem.run_bind, run_underlying hu, Result.andThen, run_getMap hb, Sem.run_pure, hK.chk, hf]
  cases hk : fk k (m.map fun x => (x.1, encv x.2)) 0 with
  | none =>
    rw [hk] at e1 e2
    simp only [eset] at e1 e2
    refine ⟨sg b (.map (es.push { key := enc k, val := encv v, born := c }) (c + 1)), _, ⟨_, _, rfl, by rw [Array.toList_push]; exact e1, by rw [Array.toList_push]; exact e2.1, by rw [Array.toList_push]; exact e2.2⟩, hset _, s.putObj hi _⟩
  | some x =>
    obtain ⟨j, x⟩ := x
    rw [hk] at e1 e2
    simp only [eset] at e1 e2
    have hkey := fk_key (enc := enc) k h2' hk
    have hkey' : ((es[j]?).map (·.key)).getD (enc k) = enc k := by rw [← Array.getElem?_toList, hkey]; rfl
    have hst : (Instr.keyThatStays (enc k) (enc k)).run P w = .ok (enc k) w := by unfold Instr.keyThatStays; simp [hK.sam]
    refine ⟨sg b (.map (es.modify j fun e => { e with key := enc k, val := encv v }) c), w.putObj b (.map (es.modify j fun e => { e with key := enc k, val := encv v }) c), ⟨_, _, rfl, by rw [Array.toList_modify]; exact e1, by rw [Array.toList_modify]; exact e2.1, by rw [Array.toList_modify]; exact e2.2⟩, ?_, s.putObj hi _⟩
    simp only [hkey', Sem.run_bind, hst, Result.andThen]
    exact hset _
theorem run_maplen {t kt et ty : Nat} (hu : P.underlying t = some (.map kt et)) (hm : MpO enc encv h b m) {w : World} (hw : ∀ b o, h b = some o → w.heap[b]? = some o) : (Builtin.len_ #[t] ty #[.map (some b)]).run P w = .ok (.int .i64 m.length) w := by
  obtain ⟨es, c, rfl, h2, _⟩ := hm
  have hb := hw b (.map es c) (by simp)
  have hl : es.size = m.length := by have := congrArg List.length h2; simpa using this
  unfold Builtin.len_
  simp [Sem.run_bind, run_underlying hu, Result.andThen, run_getMap hb, hl, goInt]
end look

section rules
variable {P : Program} {T : Tab} {w0 : World} {ops : Array Oper} {Q : Exit → Act → World → Prop} {rest rest' : List Oper} {n : Nat} {l l' : Sl} {K : PH} {hs : List PH}
variable {κ ν : Type} [DecidableEq κ] {enc : κ → Value} {encv : ν → Value} {h : PH} {b : Nat} {m : List (κ × ν)}
/-- any operation that only looks, its value told -/
theorem opr (hT : TabOK P T) (k : Nat) {d : Nat} {o : Oper} {v : Value} (h0 : ovAt T ops n k rest l = some (d, o, rest', l')) (hv : ∀ a w, Ag n l' a → Sat w0 w K hs → (execOp a.eval o).run P w = .ok (.value v) w)
    (hk : WL P w0 ops Q rest' n ((d, v) :: l') K hs) : WL P w0 ops Q rest n l K hs := by
  unfold ovAt at h0
  split at h0
  · rename_i o' r l2 ho
    split at h0
    · rename_i d' hd
      cases hb : Nat.blt d' n with
      | false => simp [hb] at h0
      | true =>
        simp only [hb, cond_true, Option.some.injEq, Prod.mk.injEq] at h0
        obtain ⟨rfl, rfl, rfl, rfl⟩ := h0
        exact WL.at' hT ho fun hg => WL.val (R := fun u K' hs' => u = v ∧ K' = K ∧ hs' = hs) hd hb hg (fun A w ha hw => ⟨v, w, K, hs, hv A w ha hw, hw, rfl, rfl, rfl⟩) (fun u K' hs' ⟨h1, h2, h3⟩ => by subst h1; subst h2; subst h3; exact hk)
    · simp at h0
  · simp at h0
/-- an operation that acts on one owned heap, without a result -/
def osAt (T : Tab) (ops : Array Oper) (n k : Nat) (rest : List Oper) (l : Sl) : Option (Oper × List Oper × Sl) :=
  match opAt T ops n k rest l with
  | some (o, r, l') => match o.dst with
    | none => some (o, r, l')
    | some _ => none
  | none => none
theorem opu (hT : TabOK P T) (k : Nat) {o : Oper} {R : PH → List PH → Prop} (h0 : osAt T ops n k rest l = some (o, rest', l')) (hv : ∀ a w, Ag n l' a → Sat w0 w K hs → ∃ w' K' hs', (execOp a.eval o).run P w = .ok .skip w' ∧ Sat w0 w' K' hs' ∧ R K' hs')
    (hk : ∀ K' hs', R K' hs' → WL P w0 ops Q rest' n l' K' hs') : WL P w0 ops Q rest n l K hs := by
  unfold osAt at h0
  split at h0
  · rename_i o' r l2 ho
    split at h0
    · rename_i hd
      simp only [Option.some.injEq, Prod.mk.injEq] at h0
      obtain ⟨rfl, rfl, rfl⟩ := h0
      refine WL.at' hT ho fun hg => ?_
      intro a w ha hw
      obtain ⟨w', K', hs', hrun, hw', hR⟩ := hv a w ha hw
      have h1 := gOK_wanted ha hg
      unfold wpList
      rw [if_pos h1]
      refine .inl ?_
      unfold Oper.wp
      rw [hrun]
      simp only [Oper.upon, hd, Act.put]
      exact hk K' hs' hR _ _ ha hw'
    · simp at h0
  · simp at h0
/-- an operation whose value is told, that may act -/
theorem opa (hT : TabOK P T) (k : Nat) {d : Nat} {o : Oper} {R : Value → PH → List PH → Prop} (h0 : ovAt T ops n k rest l = some (d, o, rest', l')) (hv : ∀ a w, Ag n l' a → Sat w0 w K hs → ∃ v w' K' hs', (execOp a.eval o).run P w = .ok (.value v) w' ∧ Sat w0 w' K' hs' ∧ R v K' hs')
    (hk : ∀ v K' hs', R v K' hs' → WL P w0 ops Q rest' n ((d, v) :: l') K' hs') : WL P w0 ops Q rest n l K hs := by
  unfold ovAt at h0
  split at h0
  · rename_i o' r l2 ho
    split at h0
    · rename_i d' hd
      cases hb : Nat.blt d' n with
      | false => simp [hb] at h0
      | true =>
        simp only [hb, cond_true, Option.some.injEq, Prod.mk.injEq] at h0
        obtain ⟨rfl, rfl, rfl, rfl⟩ := h0
        exact WL.at' hT ho fun hg => WL.val hd hb hg hv hk
    · simp at h0
  · simp at h0
theorem Sat.inn {w : World} (s : Sat w0 w K hs) (hm : In K hs h) : ∀ b o, h b = some o → w.heap[b]? = some o := fun b o hb => s.block hm hb
/-- a map is made -/
def mkmAt (T : Tab) (ops : Array Oper) (n k : Nat) (rest : List Oper) (l : Sl) : Option (Nat × Oper × List Oper × Sl) :=
  match ovAt T ops n k rest l with
  | some (d, o, r, l') => match o.op with
    | .makeMap _ none => some (d, o, r, l')
    | _ => none
  | none => none
theorem mkmAt_spec {k d : Nat} {o : Oper} (h : mkmAt T ops n k rest l = some (d, o, rest', l')) : ovAt T ops n k rest l = some (d, o, rest', l') ∧ ∃ t, o.op = .makeMap t none := by
  unfold mkmAt at h
  split at h
  · rename_i d' o' r l2 ho
    split at h
    · rename_i t hop
      simp only [Option.some.injEq, Prod.mk.injEq] at h
      obtain ⟨rfl, rfl, rfl, rfl⟩ := h
      exact ⟨ho, t, hop⟩
    · simp at h
  · simp at h
theorem mkm (hT : TabOK P T) (k : Nat) {d : Nat} {o : Oper} (h0 : mkmAt T ops n k rest l = some (d, o, rest', l')) (hk : ∀ b, WL P w0 ops Q rest' n ((d, .map (some b)) :: l') K (sg b (.map #[] 0) :: hs)) : WL P w0 ops Q rest n l K hs := by
  obtain ⟨h1, t, hop⟩ := mkmAt_spec h0
  refine opa hT k (R := fun v K' hs' => ∃ b, v = .map (some b) ∧ K' = K ∧ hs' = sg b (.map #[] 0) :: hs) h1 (fun a w ha hw => ⟨.map (some w.heap.size), w.alloc (.map #[] 0), K, _, ?_, hw.alloc _, w.heap.size, rfl, rfl, rfl⟩) ?_
  · simp only [execOp, hop]
    simp [Instr.makeMap]
  · rintro v K' hs' ⟨b, rfl, rfl, rfl⟩
    exact hk b
/-- a look-up -/
def lkAt (T : Tab) (ops : Array Oper) (n k : Nat) (rest : List Oper) (l : Sl) : Option (Nat × Oper × Nat × Value × Value × Bool × List Oper × Sl) :=
  match ovAt T ops n k rest l with
  | some (d, o, r, l') => match o.op with
    | .lookup t x y ok => match ev l' x, ev l' y with
      | some u, some v => some (d, o, t, u, v, ok, r, l')
      | _, _ => none
    | _ => none
  | none => none
theorem lkAt_spec {k d t : Nat} {o : Oper} {u v : Value} {ok : Bool} (h : lkAt T ops n k rest l = some (d, o, t, u, v, ok, rest', l')) : ovAt T ops n k rest l = some (d, o, rest', l') ∧ ∃ x y, o.op = .lookup t x y ok ∧ ev l' x = some u ∧ ev l' y = some v := by
  unfold lkAt at h
  split at h
  · rename_i d' o' r l2 ho
    split at h
    · rename_i t' x y ok' hop
      split at h
      · rename_i u' v' hx hy
        simp only [Option.some.injEq, Prod.mk.injEq] at h
        obtain ⟨rfl, rfl, rfl, rfl, rfl, rfl, rfl, rfl⟩ := h
        exact ⟨ho, x, y, hop, hx, hy⟩
      · simp at h
    · simp at h
  · simp at h
theorem lku (hT : TabOK P T) (k : Nat) {d t kt et : Nat} {o : Oper} {z v : Value} {ok : Bool} (j : κ) (h0 : lkAt T ops n k rest l = some (d, o, t, .map (some b), v, ok, rest', l')) (hu : P.underlying t = some (.map kt et)) (hz : (P.info? et).bind (·.zero) = some z) (hK : KeyOK P kt enc) (hv : v = enc j) (hin : In K hs h) (hm : MpO enc encv h b m)
    (hk : WL P w0 ops Q rest' n ((d, lkV ok (match mget j m with | some v => encv v | none => z) (mget j m).isSome) :: l') K hs) : WL P w0 ops Q rest n l K hs := by
  obtain ⟨h1, x, y, hop, hx, hy⟩ := lkAt_spec h0
  subst hv
  refine opr hT k h1 (fun a w ha hw => ?_) hk
  have := run_lookup (P := P) hu hK hz hm (hw.inn hin) j ok
  simp only [execOp, hop, ha.ev hx, ha.ev hy]
  simp [this]
theorem lkn (hT : TabOK P T) (k : Nat) {d t kt et : Nat} {o : Oper} {z v : Value} {ok : Bool} (j : κ) (h0 : lkAt T ops n k rest l = some (d, o, t, .map none, v, ok, rest', l')) (hu : P.underlying t = some (.map kt et)) (hz : (P.info? et).bind (·.zero) = some z) (hK : KeyOK P kt enc) (hv : v = enc j)
    (hk : WL P w0 ops Q rest' n ((d, lkV ok z false) :: l') K hs) : WL P w0 ops Q rest n l K hs := by
  obtain ⟨h1, x, y, hop, hx, hy⟩ := lkAt_spec h0
  subst hv
  refine opr hT k h1 (fun a w ha hw => ?_) hk
  have := run_lookup_nil (P := P) (w := w) hu hK hz j ok
  simp only [execOp, hop, ha.ev hx, ha.ev hy]
  simp [this]
/-- a store into a map -/
def muAt (T : Tab) (ops : Array Oper) (n k : Nat) (rest : List Oper) (l : Sl) : Option (Oper × Nat × Value × Value × Value × List Oper × Sl) :=
  match osAt T ops n k rest l with
  | some (o, r, l') => match o.op with
    | .mapUpdate t x y z => match ev l' x, ev l' y, ev l' z with
      | some u, some v, some w => some (o, t, u, v, w, r, l')
      | _, _, _ => none
    | .insert t x y z => match ev l' x, ev l' y, ev l' z with
      | some u, some v, some w => some (o, t, u, v, w, r, l')
      | _, _, _ => none
    | _ => none
  | none => none
theorem muAt_spec {k t : Nat} {o : Oper} {u v y : Value} (h : muAt T ops n k rest l = some (o, t, u, v, y, rest', l')) : osAt T ops n k rest l = some (o, rest', l') ∧ ∀ a, Ag n l' a → execOp a.eval o = (do Instr.mapUpdate t u v y; pure .skip) := by
  unfold muAt at h
  split at h
  · rename_i o' r l2 ho
    split at h
    · rename_i t' x1 x2 x3 hop
      split at h
      · rename_i u' v' y' h1 h2 h3
        simp only [Option.some.injEq, Prod.mk.injEq] at h
        obtain ⟨rfl, rfl, rfl, rfl, rfl, rfl, rfl⟩ := h
        exact ⟨ho, fun a ha => by simp only [execOp, hop, ha.ev h1, ha.ev h2, ha.ev h3]⟩
      · simp at h
    · rename_i t' x1 x2 x3 hop
      split at h
      · rename_i u' v' y' h1 h2 h3
        simp only [Option.some.injEq, Prod.mk.injEq] at h
        obtain ⟨rfl, rfl, rfl, rfl, rfl, rfl, rfl⟩ := h
        exact ⟨ho, fun a ha => by simp only [execOp, hop, ha.ev h1, ha.ev h2, ha.ev h3]⟩
      · simp at h
    · simp at h
  · simp at h
theorem mpu (hT : TabOK P T) (k i : Nat) {t kt et : Nat} {o : Oper} {v y : Value} (j : κ) (x : ν) (h0 : muAt T ops n k rest l = some (o, t, .map (some b), v, y, rest', l')) (hi : hs[i]? = some h) (hu : P.underlying t = some (.map kt et)) (hK : KeyOK P kt enc) (hv : v = enc j) (hy : y = encv x) (hm : MpO enc encv h b m)
    (hk : ∀ h', MpO enc encv h' b (mset j x m) → WL P w0 ops Q rest' n l' K (hs.set i h')) : WL P w0 ops Q rest n l K hs := by
  obtain ⟨h1, h2⟩ := muAt_spec h0
  subst hv hy
  refine opu hT k (R := fun K' hs' => ∃ h', MpO enc encv h' b (mset j x m) ∧ K' = K ∧ hs' = hs.set i h') h1 (fun a w ha hw => ?_) ?_
  · obtain ⟨h', w', g1, g2, g3⟩ := run_mapUpdate (P := P) (t := t) (et := et) (i := i) hu hK hm hw hi j x
    refine ⟨w', K, _, ?_, g3, h', g1, rfl, rfl⟩
    rw [h2 a ha, Sem.run_bind, g2]
    rfl
  · rintro K' hs' ⟨h', g1, rfl, rfl⟩
    exact hk h' g1
/-- how many entries -/
def mlAt (T : Tab) (ops : Array Oper) (n k : Nat) (rest : List Oper) (l : Sl) : Option (Nat × Oper × Nat × Value × List Oper × Sl) :=
  match ovAt T ops n k rest l with
  | some (d, o, r, l') => match o.op with
    | .call { callee := .builtin .len, args, argTypes } => match args.toList, argTypes.toList with
      | [x], [t] => match ev l' x with
        | some u => some (d, o, t, u, r, l')
        | none => none
      | _, _ => none
    | _ => none
  | none => none
theorem mln (hT : TabOK P T) (k : Nat) {d t kt et : Nat} {o : Oper} (h0 : mlAt T ops n k rest l = some (d, o, t, .map (some b), rest', l')) (hu : P.underlying t = some (.map kt et)) (hin : In K hs h) (hm : MpO enc encv h b m)
    (hk : WL P w0 ops Q rest' n ((d, .int .i64 m.length) :: l') K hs) : WL P w0 ops Q rest n l K hs := by
  unfold mlAt at h0
  split at h0
  · rename_i d' o' r l2 ho
    split at h0
    · rename_i args argTypes hop
      split at h0
      · rename_i x t' e1 e2
        split at h0
        · rename_i u hx
          simp only [Option.some.injEq, Prod.mk.injEq] at h0
          obtain ⟨rfl, rfl, rfl, rfl, rfl, rfl⟩ := h0
          have a1' : args = #[x] := by cases args; simp_all
          have a2' : argTypes = #[t'] := by cases argTypes; simp_all
          subst a1' a2'
          refine opr hT k ho (fun a w ha hw => ?_) hk
          have := run_maplen (P := P) (ty := o'.type) (encv := encv) hu hm (hw.inn hin)
          simp only [execOp, hop]
          simp [resolve, invoke, builtin, ha.ev hx, this]
        · simp at h0
      · simp at h0
    · simp at h0
  · simp at h0
end rules

section opn
variable {P : Program} {T : Tab} {w0 : World} {ops : Array Oper} {Q : Exit → Act → World → Prop} {plan plan' : List Nat} {z : Nat} {listed listed' : Array Bool} {n : Nat} {l l' : Sl} {K K0 : PH} {hs A : List PH}
variable {κ ν : Type} [DecidableEq κ] {enc : κ → Value} {encv : ν → Value} {h : PH} {b : Nat} {m : List (κ × ν)}
/-- any operation that only looks at memory, where the order is open -/
def dlkAt (T : Tab) (ops : Array Oper) (n z k : Nat) (plan : List Nat) (L : Array Bool) (l : Sl) : Option (Nat × Oper × List Nat × Array Bool × Sl) :=
  match headAt T ops n z k plan L l with
  | some (p, o, r, L', l') => match Nat.beq (p % 2) 0, Nat.beq (p / 2) z, cond (Nat.blt z ops.size) (Region.waitsFor .any ops z (p / 2)) true, gOK ops l' o.guard, o.dst with
    | true, false, true, some true, some d => match Nat.blt d n with
      | true => some (d, o, r, L'.setIfInBounds (p / 2) true, l')
      | false => none
    | _, _, _, _, _ => none
  | none => none
theorem dopr (hT : TabOK P T) (hsel : Region.noSelect ops = true) (k : Nat) {d : Nat} {o : Oper} {v : Value} (h0 : dlkAt T ops n z k plan listed l = some (d, o, plan', listed', l')) (hv : ∀ a w, Ag n l' a → HasL K0 A w → (execOp a.eval o).run P w = .ok (.value v) w)
    (hk : WA P w0 ops Q K0 A z plan' listed' n ((d, v) :: l') K hs) : WA P w0 ops Q K0 A z plan listed n l K hs := by
  unfold dlkAt at h0
  split at h0
  · rename_i p o r L' l2 hh
    split at h0
    · rename_i dd hp hz hwf hg hd
      split at h0
      · rename_i hb
        simp only [Option.some.injEq, Prod.mk.injEq] at h0
        obtain ⟨rfl, rfl, rfl, rfl, rfl⟩ := h0
        obtain ⟨g1, g2⟩ := headAt_spec hh
        refine WA.pures hT hsel k g1 ?_
        have hp2 : p = 2 * (p / 2) := by have := Nat.eq_of_beq_eq_true hp; omega
        rw [hp2]
        refine WA.look g2 hsel hz hd hb (fun A' ha => .inl ⟨gOK_wanted ha hg, fun w hw => ?_⟩) hk
        obtain ⟨L, hcl, hun, hst⟩ := hw
        exact hv A' w ha (hst (closed_waits hcl hun hwf))
      · simp at h0
    · simp at h0
  · simp at h0
theorem HasL.inn {w : World} (s : HasL K A w) (hm : In K A h) : ∀ b o, h b = some o → w.heap[b]? = some o := by
  rcases hm with rfl | ⟨i, hi⟩
  · exact s.1
  · exact s.2 h (List.mem_of_getElem? hi)
def dluAt (T : Tab) (ops : Array Oper) (n z k : Nat) (plan : List Nat) (L : Array Bool) (l : Sl) : Option (Nat × Oper × Nat × Value × Value × Bool × List Nat × Array Bool × Sl) :=
  match dlkAt T ops n z k plan L l with
  | some (d, o, r, L', l') => match o.op with
    | .lookup t x y ok => match ev l' x, ev l' y with
      | some u, some v => some (d, o, t, u, v, ok, r, L', l')
      | _, _ => none
    | _ => none
  | none => none
theorem dlku (hT : TabOK P T) (hsel : Region.noSelect ops = true) (k : Nat) {d t kt et : Nat} {o : Oper} {zv v : Value} {ok : Bool} (j : κ) (h0 : dluAt T ops n z k plan listed l = some (d, o, t, .map (some b), v, ok, plan', listed', l')) (hu : P.underlying t = some (.map kt et)) (hz : (P.info? et).bind (·.zero) = some zv) (hK : KeyOK P kt enc) (hv : v = enc j) (hin : In K0 A h) (hm : MpO enc encv h b m)
    (hk : WA P w0 ops Q K0 A z plan' listed' n ((d, lkV ok (match mget j m with | some v => encv v | none => zv) (mget j m).isSome) :: l') K hs) : WA P w0 ops Q K0 A z plan listed n l K hs := by
  unfold dluAt at h0
  split at h0
  · rename_i d' o' r L' l2 ho
    split at h0
    · rename_i t' x y ok' hop
      split at h0
      · rename_i u' v' hx hy
        simp only [Option.some.injEq, Prod.mk.injEq] at h0
        obtain ⟨rfl, rfl, rfl, rfl, rfl, rfl, rfl, rfl, rfl⟩ := h0
        subst hv
        refine dopr hT hsel k ho (fun a w ha hw => ?_) hk
        have := run_lookup (P := P) hu hK hz hm (hw.inn hin) j ok'
        simp only [execOp, hop, ha.ev hx, ha.ev hy]
        simp [this]
      · simp at h0
    · simp at h0
  · simp at h0
theorem dlkn (hT : TabOK P T) (hsel : Region.noSelect ops = true) (k : Nat) {d t kt et : Nat} {o : Oper} {zv v : Value} {ok : Bool} (j : κ) (h0 : dluAt T ops n z k plan listed l = some (d, o, t, .map none, v, ok, plan', listed', l')) (hu : P.underlying t = some (.map kt et)) (hz : (P.info? et).bind (·.zero) = some zv) (hK : KeyOK P kt enc) (hv : v = enc j)
    (hk : WA P w0 ops Q K0 A z plan' listed' n ((d, lkV ok zv false) :: l') K hs) : WA P w0 ops Q K0 A z plan listed n l K hs := by
  unfold dluAt at h0
  split at h0
  · rename_i d' o' r L' l2 ho
    split at h0
    · rename_i t' x y ok' hop
      split at h0
      · rename_i u' v' hx hy
        simp only [Option.some.injEq, Prod.mk.injEq] at h0
        obtain ⟨rfl, rfl, rfl, rfl, rfl, rfl, rfl, rfl, rfl⟩ := h0
        subst hv
        refine dopr hT hsel k ho (fun a w ha hw => ?_) hk
        have := run_lookup_nil (P := P) (w := w) hu hK hz j ok'
        simp only [execOp, hop, ha.ev hx, ha.ev hy]
        simp [this]
      · simp at h0
    · simp at h0
  · simp at h0
end opn
end Go.En
