/-
  Rules: scopes without a jump, labels; entries of a map that are changed in place (a new key).
  Rules: make of a slice of structs; a struct stored into an element.
  Rule: append to a slice that is full, and is only read.
-/
import Derived.Test.YtlnhbilpkcfdlaaDoorEm
import Derived.Scope
import Derived.Test.YtlnhbilpkcfdlaaDoorEg
import Derived.Test.YtlnhbilpkcfdlaaDoorEx
import Derived.Test.YtlnhbilpkcfdlaaDoorEn
set_option linter.unusedSimpArgs false
set_option linter.unusedVariables false
namespace Go.En
set_option linter.unusedVariables false
section
variable {P : Program} {T : Tab} {w0 : World} {ops : Array Oper} {Q : Exit → Act → World → Prop} {rest rest' : List Oper} {n : Nat} {l l' : Sl} {K : PH} {hs : List PH}
theorem scp {c : Code} (h : WC P w0 c (Exit.noGoto Q) n l K hs) : WC P w0 (.scope c) Q n l K hs := fun a w ha hw => wp_scope_straight (h a w ha hw)
theorem lab {i : Nat} (h : WQ w0 Q .normal n l K hs) : WC P w0 (.label i) Q n l K hs := fun a w ha hw => wp_label (h a w ha hw)
theorem ngR (h : WQ w0 Q .ret n l K hs) : WQ w0 (Exit.noGoto Q) .ret n l K hs := h
theorem ngN (h : WQ w0 Q .normal n l K hs) : WQ w0 (Exit.noGoto Q) .normal n l K hs := h

/-- a new entry: its stamp is told -/
def meAt (T : Tab) (ops : Array Oper) (n k : Nat) (rest : List Oper) (l : Sl) : Option (Nat × Oper × Nat × Value × Value × List Oper × Sl) :=
  match ovAt T ops n k rest l with
  | some (d, o, r, l') => match o.op with
    | .mapEntry t x y => match ev l' x, ev l' y with
      | some u, some v => some (d, o, t, u, v, r, l')
      | _, _ => none
    | _ => none
  | none => none
theorem meAt_spec {k d t : Nat} {o : Oper} {u v : Value} (h : meAt T ops n k rest l = some (d, o, t, u, v, rest', l')) : ovAt T ops n k rest l = some (d, o, rest', l') ∧ ∀ a, Ag n l' a → execOp a.eval o = (do let x ← Instr.mapEntry t u v; pure (.value x)) := by
  unfold meAt at h
  split at h
  · rename_i d' o' r l2 ho
    split at h
    · rename_i t' x y hop
      split at h
      · rename_i u' v' hx hy
        simp only [Option.some.injEq, Prod.mk.injEq] at h
        obtain ⟨rfl, rfl, rfl, rfl, rfl, rfl, rfl⟩ := h
        exact ⟨ho, fun a ha => by simp only [execOp, hop, ha.ev hx, ha.ev hy]⟩
      · simp at h
    · simp at h
  · simp at h
def etsAt (T : Tab) (ops : Array Oper) (n k : Nat) (rest : List Oper) (l : Sl) : Option (Oper × Nat × Value × Value × Value × List Oper × Sl) :=
  match osAt T ops n k rest l with
  | some (o, r, l') => match o.op with
    | .entryStore t x y z => match ev l' x, ev l' y, ev l' z with
      | some u, some v, some w => some (o, t, u, v, w, r, l')
      | _, _, _ => none
    | _ => none
  | none => none
theorem etsAt_spec {k t : Nat} {o : Oper} {u v y : Value} (h : etsAt T ops n k rest l = some (o, t, u, v, y, rest', l')) : osAt T ops n k rest l = some (o, rest', l') ∧ ∀ a, Ag n l' a → execOp a.eval o = (do Instr.entryStore t u v y; pure .skip) := by
  unfold etsAt at h
  split at h
  · rename_i o' r l2 ho
    split at h
    · rename_i t' x1 x2 x3 hop
      split at h
      · rename_i u' v' y' h1 h2 h3
        simp only [Option.some.injEq, Prod.mk.injEq] at h
        obtain ⟨rfl, rfl, rfl, rfl, rfl, rfl, rfl⟩ := h
        exact ⟨ho, fun a ha => by simp only [execOp, hop, ha.ev h1, ha.ev h2, ha.ev h3]⟩
      · simp at h
    · simp at h
  · simp at h
variable {κ : Type} [DecidableEq κ] {enc : κ → Value} {h : PH} {b : Nat} {m : List (κ × Value)}
/-- a map whose last entry is new, of a stamp -/
def MpE (enc : κ → Value) (h : PH) (b : Nat) (m : List (κ × Value)) (k : κ) (c : Nat) : Prop :=
  ∃ es z, h = sg b (.map (es.push { key := enc k, val := z, born := c }) (c + 1)) ∧ MpO enc id (sg b (.map es c)) b m
omit [DecidableEq κ] in
theorem MpO.sg_eq {es : Array MapEntry} {c : Nat} (hm : MpO enc (id : Value → Value) (sg b (.map es c)) b m) : es.toList.map (fun e => (e.key, e.val)) = m.map (fun x => (enc x.1, x.2)) ∧ (es.toList.map (·.born)).Pairwise (· < ·) ∧ ∀ e ∈ es.toList, e.born < c := by
  obtain ⟨es', c', h1, h2, h3, h4⟩ := hm
  have h5 : (sg b (.map es c)) b = (sg b (.map es' c')) b := by rw [h1]
  simp only [sg, if_pos, Option.some.injEq, Obj.map.injEq] at h5
  obtain ⟨rfl, rfl⟩ := h5
  exact ⟨h2, h3, h4⟩
theorem mpe (hT : TabOK P T) (k i : Nat) {d t kt et : Nat} {o : Oper} {z v : Value} (j : κ) (h0 : meAt T ops n k rest l = some (d, o, t, .map (some b), v, rest', l')) (hi : hs[i]? = some h) (hu : P.underlying t = some (.map kt et)) (hz : (P.info? et).bind (·.zero) = some z) (hK : KeyOK P kt enc) (hv : v = enc j) (hm : MpO enc id h b m)
    (hno : mget j m = none) (hk : ∀ h' c, MpE enc h' b m j c → WL P w0 ops Q rest' n ((d, .tuple #[z, .int .i64 ((c : Nat) : Int)]) :: l') K (hs.set i h')) : WL P w0 ops Q rest n l K hs := by
  obtain ⟨h1, h2⟩ := meAt_spec h0
  subst hv
  refine opa hT k (R := fun v K' hs' => ∃ h' c, MpE enc h' b m j c ∧ v = .tuple #[z, .int .i64 ((c : Nat) : Int)] ∧ K' = K ∧ hs' = hs.set i h') h1 (fun a w ha hw => ?_) ?_
  · have hm0 := hm
    obtain ⟨es, c, rfl, g2, g3, g4⟩ := hm
    have hb : w.heap[b]? = some (.map es c) := hw.own i _ hi b _ (by simp)
    have hf := hK.fnd j es.toList (m.map fun x => (x.1, x.2)) w (by rw [g2]; simp)
    have hfn : fk j (m.map fun x => (x.1, x.2)) 0 = none := by
      have := fk_get (encv := (id : Value → Value)) j m 0
      rw [hno] at this
      simpa using this
    have hset : ∀ o : Obj, (setObj b o).run P w = .ok () (w.putObj b o) := fun o => by simp [setObj, Sem.run, hb, World.putObj]
    obtain ⟨iz, hiz, hz'⟩ := Option.bind_eq_some_iff.1 hz
    have hzz : (zeroValue et).run P w = .ok z w := by simp [zeroValue, typeInfo, hiz, hz']
    refine ⟨.tuple #[z, .int .i64 ((c : Nat) : Int)], w.putObj b (.map (es.push { key := enc j, val := z, born := c }) (c + 1)), K, hs.set i (sg b (.map (es.push { key := enc j, val := z, born := c }) (c + 1))), ?_, hw.putObj hi _, _, c, ⟨es, z, rfl, hm0⟩, rfl, rfl, rfl⟩
    rw [h2 a ha]
    unfold Instr.mapEntry
    simp only [Sem.run_bind, run_underlying hu, Result.andThen, run_getMap hb, Sem.run_pure, hK.chk, hf, hfn, hzz, hset]
    rfl
  · rintro v K' hs' ⟨h', c, g1, rfl, rfl, rfl⟩
    exact hk h' c g1
omit [DecidableEq κ] in
theorem ets (hT : TabOK P T) (k i : Nat) {t : Nat} {o : Oper} {x y : Value} {c : Nat} {j : κ} (h0 : etsAt T ops n k rest l = some (o, t, .map (some b), x, y, rest', l')) (hi : hs[i]? = some h) (hx : x = .int .i64 ((c : Nat) : Int)) (hm : MpE enc h b m j c)
    (hk : ∀ h', MpO enc id h' b (m ++ [(j, y)]) → WL P w0 ops Q rest' n l' K (hs.set i h')) : WL P w0 ops Q rest n l K hs := by
  obtain ⟨h1, h2⟩ := etsAt_spec h0
  subst hx
  refine opu hT k (R := fun K' hs' => ∃ h', MpO enc id h' b (m ++ [(j, y)]) ∧ K' = K ∧ hs' = hs.set i h') h1 (fun a w ha hw => ?_) ?_
  · obtain ⟨es, z, rfl, hm0⟩ := hm
    obtain ⟨g2, g3, g4⟩ := hm0.sg_eq
    have hb : w.heap[b]? = some (.map (es.push { key := enc j, val := z, born := c }) (c + 1)) := hw.own i _ hi b _ (by simp)
    have hset : ∀ o : Obj, (setObj b o).run P w = .ok () (w.putObj b o) := fun o => by simp [setObj, Sem.run, hb, World.putObj]
    have hfi : (es.push { key := enc j, val := z, born := c }).findIdx? (fun e => (e.born : Int) == ((c : Nat) : Int)) = some es.size := by
      rw [Array.findIdx?_eq_some_iff_getElem]
      refine ⟨by simp, by simp, fun q hq => ?_⟩
      rw [Array.getElem_push_lt hq]
      have := g4 es[q] (by simp)
      simp only [beq_eq_false_iff_ne, ne_eq, Bool.not_eq_true]
      omega
    have hmod : (es.push { key := enc j, val := z, born := c }).modify es.size (fun e => { e with val := y }) = es.push { key := enc j, val := y, born := c } := by
      apply Array.ext_getElem?
      intro q
      rw [Array.getElem?_modify]
      by_cases e : es.size = q
      · subst e
        simp
      · rw [if_neg e]
        simp only [Array.getElem?_push]
        rw [if_neg (Ne.symm e), if_neg (Ne.symm e)]
    refine ⟨w.putObj b (.map (es.push { key := enc j, val := y, born := c }) (c + 1)), K, hs.set i (sg b (.map (es.push { key := enc j, val := y, born := c }) (c + 1))), ?_, hw.putObj hi _, _, ⟨es.push { key := enc j, val := y, born := c }, c + 1, rfl, ?_, ?_, ?_⟩, rfl, rfl⟩
    · rw [h2 a ha]
      unfold Instr.entryStore
      have hai : (asInt (.int .i64 ((c : Nat) : Int))).run P w = .ok ((c : Nat) : Int) w := rfl
      simp only [Sem.run_bind, run_getMap hb, Result.andThen, hai, hfi, hmod, hset]
      rfl
    · rw [Array.toList_push, List.map_append, List.map_append, g2]; rfl
    · rw [Array.toList_push, List.map_append]
      rw [List.pairwise_append]
      refine ⟨g3, by simp, fun q hq r hr => ?_⟩
      obtain ⟨e, he, rfl⟩ := List.mem_map.1 hq
      simp only [List.map_cons, List.map_nil, List.mem_singleton] at hr
      subst hr
      exact g4 e he
    · intro e he
      rw [Array.toList_push] at he
      rcases List.mem_append.1 he with he | he
      · have := g4 e he; omega
      · simp only [List.mem_singleton] at he; subst he; exact Nat.lt_succ_self c
  · rintro K' hs' ⟨h', g1, rfl, rfl⟩
    exact hk h' g1
end
end Go.En
namespace Go.En
set_option linter.unusedVariables false
attribute [local irreducible] Code.wp wpList Calls
theorem flat_set {size : Nat} {cs : List (List Value)} (h : ∀ d ∈ cs, d.length = size) {i : Nat} (hi : i < cs.length) {v : List Value} (hv : v.length = size) :
    cs.flatten.take (i * size) ++ v ++ cs.flatten.drop (i * size + v.length) = (cs.set i v).flatten := by
  rw [flat_take i h, hv, show i * size + size = (i + 1) * size from by rw [Nat.add_mul, Nat.one_mul], flat_drop (i + 1) h, List.set_eq_take_append_cons_drop, if_pos hi]
  simp
/-- a new slice of zeroes, elements of some cells -/
theorem mksG {P : Program} {T : Tab} {w0 : World} {ops : Array Oper} {Q : Exit → Act → World → Prop} {rest rest' : List Oper} {n : Nat} {l l' : Sl} {K : PH} {hs : List PH}
    (hT : TabOK P T) (k : Nat) {d : Nat} {si : SlI} {i j : Int} (N : Nat) (zs : Array Value) (h0 : mslAt T ops n k rest l = some (d, si, i, j, rest', l')) (hi : i = (N : Int)) (hj : j = (N : Int)) (hz : si.zero.cells = zs) (hzl : zs.size = si.size) (hz0 : 0 < si.size) (hr : N * si.bytes ≤ roomBytes) (hN0 : 0 < N) (hN : N ≤ 16777216) (hb2 : si.bytes ≤ 1024)
    (hk : ∀ b, WL P w0 ops Q rest' n ((d, .slice (some ⟨b, 0, none⟩) N N) :: l') K (pt b (List.replicate N zs.toList).flatten.toArray si.elem :: hs)) : WL P w0 ops Q rest n l K hs := by
  unfold mslAt at h0
  split at h0
  · rename_i o r l2 ho
    split at h0
    · rename_i d' t x y hd hop
      split at h0
      · rename_i si' ii jj hb hsi hx hy
        simp only [Option.some.injEq, Prod.mk.injEq] at h0
        obtain ⟨rfl, rfl, rfl, rfl, rfl, rfl⟩ := h0
        subst hi hj
        obtain ⟨h1, im, h2, h3, h4, h5⟩ := hT.sl hsi
        refine WL.at' hT ho fun hg => WL.val (R := fun u K' hs' => ∃ b, u = .slice (some ⟨b, 0, none⟩) N N ∧ K' = K ∧ hs' = pt b (List.replicate N zs.toList).flatten.toArray si'.elem :: hs) hd hb hg
          (fun A w ha hw => ⟨.slice (some ⟨w.heap.size, 0, none⟩) N N, _, K, _, ?_, hw.alloc _, w.heap.size, rfl, rfl, rfl⟩) ?_
        · have e1 : IntKind.i64.wrap ((N : Nat) : Int) = (N : Int) := by simp [IntKind.wrap, IntKind.bits, IntKind.signed]; omega
          simp only [execOp, hop, ha.ev hx, ha.ev hy]
          rw [h5.symm] at hr hb2
          have hm : im.bytes * N ≤ 1024 * 16777216 := Nat.mul_le_mul hb2 hN
          have c2 : ¬ (281474976710656 : Int) < (im.bytes : Int) * (N : Int) := by have : ((im.bytes * N : Nat) : Int) = (im.bytes : Int) * (N : Int) := by push_cast; rfl
                                                                                   omega
          have c1 : ¬ ((N : Nat) : Int) < 0 := by omega
          have c3 : ¬ roomBytes < N * im.bytes := by omega
          have hzz : N ≠ 0 := by omega
          have hfl : ∀ d ∈ List.replicate N zs.toList, d.length = si'.size := fun d hd => by rw [(List.mem_replicate.1 hd).2]; simpa using hzl
          have hlen : (List.replicate N zs.toList).flatten.length = N * si'.size := by rw [flat_len hfl]; simp
          have hz2 : (Array.map (fun x => zs[x % zs.size]!) (Array.range (N * si'.size))) = (List.replicate N zs.toList).flatten.toArray := by
            apply Array.ext
            · simp [hlen]
            · intro i g1 g2
              have g3 : i < N * si'.size := by simpa using g1
              have g4 : i % si'.size < si'.size := Nat.mod_lt _ hz0
              have g5 : i / si'.size < N := (Nat.div_lt_iff_lt_mul hz0).2 g3
              have g6 := flat_get hfl (i := i / si'.size) (c := zs.toList) (by simp [g5]) (i % si'.size) (zs[i % si'.size]'(by omega)) (by simp [hzl, g4])
              rw [Nat.div_add_mod'] at g6
              simp only [Array.getElem_map, Array.getElem_range, List.getElem_toArray]
              have g7 := (List.getElem?_eq_some_iff.1 g6).2
              rw [g7, ← getElem!_pos zs (i % si'.size) (by omega)]
              exact congrArg (fun q => zs[i % q]!) hzl
          have hz4 : N * si'.size ≠ 0 := Nat.mul_ne_zero hzz (by omega)
          simp [Instr.makeSlice, asInt, asIntOf, run_underlying h1, sizeOf, typeInfo, h2, h4, e1, c1, c2, c3, askRoom, newRow, zeroValue, h3, hz, hz4, hz2, pt]
        · rintro u K' hs' ⟨b, rfl, rfl, rfl⟩
          exact hk b
      · simp at h0
    · simp at h0
  · simp at h0
end Go.En
namespace Go.En
set_option linter.unusedVariables false
attribute [local irreducible] Code.wp wpList Calls
theorem run_append_full {P : Program} {w0 w : World} {K : PH} {hs : List PH} (t ty e : TypeId) (i : TypeInfo) (z : Value) (ht : P.underlying t = some (.slice e)) (hi : P.info? e = some i) (hz : i.zero = some z)
    (hzs : z.cells.size = i.size) (s0 : Sat w0 w K hs) {hv h2 : PH} {ao ao2 : Option Addr} {n cap m c2 : Nat} {xs news : List Value} (hm1 : In K hs hv) (o : IsS hv ao n cap i.size xs) (hnone : ao = none → cap = 0)
    (hm : In K hs h2) (x : IsS h2 ao2 m c2 i.size news) (hsz : 0 < i.size) (hroom : ¬ n + m ≤ cap) (hb : (n + m) * i.bytes ≤ 140737488355328) (h63 : n + m ≤ maxLen) :
    ∃ ao' cap' h' w', (Builtin.append_ #[t, t] ty #[.slice ao n cap, .slice ao2 m c2]).run P w = .ok (.slice ao' (n + m) cap') w' ∧ Own h' ao' (n + m) cap' e i.size (xs ++ news) ∧ Sat w0 w' K (h' :: hs) := by
  have hlen : (xs ++ news).length = (n + m) * i.size := by rw [List.length_append, o.1, x.1, Nat.add_mul]
  have s : Sat w0 w K (em :: hs) := s0.addEm
  have hm0 : 0 < m := by have := o.2.1; omega
  obtain ⟨a2, rfl⟩ := x.addr hm0 hsz
  have hnews : ∀ (j : Nat) v, news[j]? = some v → w.cell? (a2.add j) = some v := fun j v hv => by
    obtain ⟨a', ha, hc⟩ := x.2.2 j v hv
    cases ha
    exact s0.cell hm hc
  have grown : ∀ old, old < n + m → Own (pt w.heap.size (xs.toArray ++ news.toArray ++ Builtin.zeroCells z.cells (grownCap w (n + m) old e - (n + m))) e) (some ⟨w.heap.size, 0, none⟩) (n + m) (grownCap w (n + m) old e) e i.size (xs ++ news) ∧
      Sat w0 (w.drew.alloc (.cells (xs.toArray ++ news.toArray ++ Builtin.zeroCells z.cells (grownCap w (n + m) old e - (n + m))) e)) K ((em :: hs).set 0 (pt w.heap.size (xs.toArray ++ news.toArray ++ Builtin.zeroCells z.cells (grownCap w (n + m) old e - (n + m))) e)) := by
    intro old ho
    have hge := grownCap_ge w (n + m) old e
    have hcm : grownCap w (n + m) old e ≤ maxLen := grownCap_le_maxLen w (n + m) old e h63
    refine ⟨⟨hlen, hge, hcm, .inr ⟨_, 0, _, rfl, rfl, ?_, ?_⟩⟩, ?_⟩
    · simp only [Array.size_append, List.size_toArray, size_zeroCells, hzs, o.1, x.1, ← Nat.add_mul, Nat.zero_add]
      congr 1
      omega
    · simp only [Array.toList_append, List.append_assoc, List.drop_zero]
      rw [← List.append_assoc, ← hlen]
      exact List.take_left
    · refine s.upd (i := 0) rfl rfl rfl rfl (by simp) ?_ ?_ ?_
      · intro b ob hb'
        simp only [pt, sg] at hb'
        split at hb'
        · rename_i e1; subst e1; cases hb'; exact heap_alloc_new w.drew _
        · cases hb'
      · intro b hb' _
        exact RowKit.Below.heap_alloc w.drew _ b hb'
      · intro b ob hb' _
        simp only [pt, sg] at hb'
        split at hb'
        · rename_i e1; omega
        · cases hb'
  cases ao with
  | none =>
    obtain rfl := hnone rfl
    obtain rfl : n = 0 := by have := o.2.1; omega
    obtain rfl : xs = [] := List.eq_nil_of_length_eq_zero (by simpa using o.1)
    have hr := run_append_nil (P := P) w t ty e i z ht hi hz a2 m c2 news x.1 hnews hm0 (by simp only [maxLen] at h63; omega) (by simp only [Nat.zero_add] at hb; omega)
    have hgr := grown 0 (by omega)
    simp only [Nat.zero_add, List.nil_append, Array.empty_append] at hgr ⊢
    exact ⟨_, _, _, _, hr, hgr.1, hgr.2⟩
  | some a =>
    have holds : ∀ (k : Nat) u, xs[k]? = some u → w.cell? (a.add k) = some u := fun k u hu => by
      obtain ⟨a', ha, hc⟩ := o.2.2 k u hu
      cases ha
      exact s0.cell hm1 hc
    have hr := run_append_grow (P := P) w t ty e i z ht hi hz a n cap xs o.1 holds a2 m c2 news x.1 hnews (by omega) (by simp only [maxLen] at h63; omega) (growslice_fits (by omega) hb)
    have hgr := grown cap (by omega)
    exact ⟨_, _, _, _, hr, hgr.1, hgr.2⟩
theorem appf {P : Program} {T : Tab} {w0 : World} {ops : Array Oper} {Q : Exit → Act → World → Prop} {rest rest' : List Oper} {n : Nat} {l l' : Sl} {K : PH} {hs : List PH}
    (hT : TabOK P T) (k : Nat) {d : Nat} {si : SlI} {ao ao2 : Option Addr} {n1 c1 n2 c2 : Nat} {hv h2 : PH} {xs news : List Value} (h0 : apAt T ops n k rest l = some (d, si, (ao, n1, c1), (ao2, n2, c2), rest', l'))
    (hm1 : In K hs hv) (o : IsS hv ao n1 c1 si.size xs) (hnone : ao = none → c1 = 0) (hm : In K hs h2) (x : IsS h2 ao2 n2 c2 si.size news) (hz : si.zero.cells.size = si.size) (hsz : 0 < si.size) (hroom : ¬ n1 + n2 ≤ c1)
    (hb : (n1 + n2) * si.bytes ≤ 140737488355328) (h63 : n1 + n2 ≤ maxLen)
    (hk : ∀ ao' cap' h', Own h' ao' (n1 + n2) cap' si.elem si.size (xs ++ news) → WL P w0 ops Q rest' n ((d, .slice ao' (n1 + n2) cap') :: l') K (h' :: hs)) : WL P w0 ops Q rest n l K hs := by
  unfold apAt at h0
  split at h0
  · rename_i oo r l2 ho
    split at h0
    · rename_i d' args argTypes hd hop
      split at h0
      · rename_i x' y' t t' e1 e2
        split at h0
        · rename_i si' a1 m1 k1 a2 m2 k2 hb' htt hsi hx hy
          simp only [Option.some.injEq, Prod.mk.injEq] at h0
          obtain ⟨rfl, rfl, ⟨rfl, rfl, rfl⟩, ⟨rfl, rfl, rfl⟩, rfl, rfl⟩ := h0
          have htt' : t = t' := Nat.eq_of_beq_eq_true htt
          subst htt'
          have a1' : args = #[x', y'] := by cases args; simp_all
          have a2' : argTypes = #[t, t] := by cases argTypes; simp_all
          subst a1'
          subst a2'
          obtain ⟨g1, ii, g2, g3, g4, g5⟩ := hT.sl hsi
          refine WL.at' hT ho fun hg => WL.val (R := fun u K' hs' => ∃ ao' cap' h', u = .slice ao' (m1 + m2) cap' ∧ Own h' ao' (m1 + m2) cap' si'.elem si'.size (xs ++ news) ∧ K' = K ∧ hs' = h' :: hs) hd hb' hg
            (fun A w ha hw => ?_) ?_
          · rw [← g4] at o x hz hsz
            rw [← g5] at hb
            obtain ⟨ao', cap', h', w', hr, ho', hs'⟩ := run_append_full (P := P) t oo.type si'.elem ii si'.zero g1 g2 g3 hz hw hm1 o hnone hm x hsz hroom hb h63
            refine ⟨_, w', K, _, ?_, hs', ao', cap', h', rfl, by rw [← g4]; exact ho', rfl, rfl⟩
            simp only [execOp, hop]
            simp [resolve, invoke, builtin, ha.ev hx, ha.ev hy, hr]
          · rintro u K' hs' ⟨ao', cap', h', rfl, ho', rfl, rfl⟩
            exact hk ao' cap' h' ho'
        · simp at h0
      · simp at h0
    · simp at h0
  · simp at h0
end Go.En
