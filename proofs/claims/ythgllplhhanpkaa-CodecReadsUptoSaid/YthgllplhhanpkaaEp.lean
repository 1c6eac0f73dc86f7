/-
  The rules of the engine: elements of slices, parts of slices, append, calls.
-/
import Derived.Test.YthgllplhhanpkaaEo
namespace Go.En
set_option linter.unusedVariables false

theorem run_firstCells_isS {P : Program} {w0 w : World} {K : PH} {hs : List PH} (s : Sat w0 w K hs) {h : PH} (hm : In K hs h) {ao : Option Addr} {n cap size : Nat} {xs : List Value} (x : IsS h ao n cap size xs) :
    (Builtin.firstCells size n (.slice ao n cap)).run P w = .ok xs.toArray w := by
  obtain ⟨h1, h2, h3⟩ := x
  cases ao with
  | none =>
    have : xs = [] := by
      cases xs with
      | nil => rfl
      | cons u r => obtain ⟨a, ha, _⟩ := h3 0 u (by simp); cases ha
    subst this
    simp [run_firstCells_none]
  | some a =>
    refine run_firstCells_some (P := P) w size n a n cap xs h1 fun j u hu => ?_
    obtain ⟨a', ha, hc⟩ := h3 j u hu
    cases ha
    exact s.cell hm hc
theorem take_drop_splice {α : Type} (cur xs news : List α) (off k : Nat) (h : (cur.drop off).take k = xs) (hk : off + k + news.length ≤ cur.length) :
    ((cur.take (off + k) ++ news ++ cur.drop (off + k + news.length)).drop off).take (k + news.length) = xs ++ news := by
  have e1 : cur.take (off + k) = cur.take off ++ xs := by rw [← h, List.take_add]
  have hl : (cur.take off).length = off := by simp; omega
  have hx : xs.length = k := by rw [← h]; simp; omega
  rw [e1, List.append_assoc, List.append_assoc, List.drop_append_of_le_length (by omega), List.drop_of_length_le (by omega), List.nil_append, ← List.append_assoc,
    show k + news.length = (xs ++ news).length from by simp; omega]
  exact List.take_left
theorem run_append_Own {P : Program} {w0 w : World} {K : PH} {hs : List PH} (t ty e : TypeId) (i : TypeInfo) (z : Value) (ht : P.underlying t = some (.slice e)) (hi : P.info? e = some i) (hz : i.zero = some z)
    (hzs : z.cells.size = i.size) (s : Sat w0 w K hs) {j : Nat} {h h2 : PH} (hj : hs[j]? = some h) {ao ao2 : Option Addr} {n cap m c2 : Nat} {xs news : List Value} (o : Own h ao n cap e i.size xs)
    (hm : In K hs h2) (x : IsS h2 ao2 m c2 i.size news) (hsz : 0 < i.size) (h1 : ∀ u ∈ news, u.oneCell' = true) (hb : (n + m) * i.bytes ≤ 140737488355328) (h63 : n + m ≤ maxLen) :
    ∃ ao' cap' h' w', (Builtin.append_ #[t, t] ty #[.slice ao n cap, .slice ao2 m c2]).run P w = .ok (.slice ao' (n + m) cap') w' ∧ Own h' ao' (n + m) cap' e i.size (xs ++ news) ∧ Sat w0 w' K (hs.set j h') := by
  have hf := run_firstCells_isS (P := P) s hm x
  have hlen : (xs ++ news).length = (n + m) * i.size := by rw [List.length_append, o.1, x.1, Nat.add_mul]
  have hos := o.isS
  obtain ⟨o1, o2, o3, o4⟩ := o
  by_cases hroom : n + m ≤ cap
  · rcases o4 with ⟨rfl, rfl, rfl⟩ | ⟨g, off, cur, rfl, rfl, hcs, htk⟩
    · obtain rfl : n = 0 := by omega
      obtain rfl : m = 0 := by omega
      obtain rfl : xs = [] := List.eq_nil_of_length_eq_zero (by simpa using o1)
      obtain rfl : news = [] := List.eq_nil_of_length_eq_zero (by simpa using x.1)
      refine ⟨none, 0, em, w, ?_, Own.nil e i.size, ?_⟩
      · simp [Builtin.append_, run_underlying ht, sizeOf, typeInfo, hi, Builtin.lenOf, hf]
      · have : hs.set j em = hs := by
          have hjl : j < hs.length := (List.getElem?_eq_some_iff.1 hj).1
          have e2 : hs[j] = em := by rw [List.getElem?_eq_getElem hjl] at hj; exact Option.some.inj hj
          rw [← e2]; exact List.set_getElem_self hjl
        rw [this]; exact s
    · have hg : w.heap[g]? = some (.cells cur e (0, 0)) := s.own j _ hj g _ (by simp)
      have hfit : off + n * i.size + news.length ≤ cur.size := by
        rw [x.1, hcs, Nat.add_assoc, ← Nat.add_mul]
        exact Nat.add_le_add_left (Nat.mul_le_mul_right _ hroom) _
      have hst := run_storeCells_at P g (off + n * i.size) e news 0 cur w hg (by simpa using hfit) h1
      simp only [Nat.add_zero] at hst
      refine ⟨some ⟨g, off, none⟩, cap, _, _, ?_, ⟨hlen, hroom, o3, .inr ⟨g, off, (cur.toList.take (off + n * i.size) ++ news ++ cur.toList.drop (off + n * i.size + news.length)).toArray, rfl, rfl, ?_, ?_⟩⟩, s.setRow hj _⟩
      · simp [Builtin.append_, run_underlying ht, sizeOf, typeInfo, hi, Builtin.lenOf, hroom, hf, add_mk, hst]
      · have : cur.toList.length = cur.size := Array.length_toList
        simp only [List.size_toArray, List.length_append, List.length_take, List.length_drop, this]
        omega
      · have h5 := take_drop_splice cur.toList xs news off (n * i.size) htk (by simpa using hfit)
        rw [x.1] at h5
        simpa [Nat.add_mul, x.1] using h5
  · have hm0 : 0 < m := by omega
    obtain ⟨a2, rfl⟩ := x.addr hm0 hsz
    have hnews : ∀ (j : Nat) v, news[j]? = some v → w.cell? (a2.add j) = some v := fun j v hv => by
      obtain ⟨a', ha, hc⟩ := x.2.2 j v hv
      cases ha
      exact s.cell hm hc
    have grown : ∀ old, old < n + m → Own (pt w.heap.size (xs.toArray ++ news.toArray ++ Builtin.zeroCells z.cells (grownCap w (n + m) old e - (n + m))) e) (some ⟨w.heap.size, 0, none⟩) (n + m) (grownCap w (n + m) old e) e i.size (xs ++ news) ∧
        Sat w0 (w.drew.alloc (.cells (xs.toArray ++ news.toArray ++ Builtin.zeroCells z.cells (grownCap w (n + m) old e - (n + m))) e)) K (hs.set j (pt w.heap.size (xs.toArray ++ news.toArray ++ Builtin.zeroCells z.cells (grownCap w (n + m) old e - (n + m))) e)) := by
      intro old ho
      have hge := grownCap_ge w (n + m) old e
      have hcm : grownCap w (n + m) old e ≤ maxLen := grownCap_le_maxLen w (n + m) old e h63
      refine ⟨⟨hlen, hge, hcm, .inr ⟨_, 0, _, rfl, rfl, ?_, ?_⟩⟩, ?_⟩
      · simp only [Array.size_append, List.size_toArray, size_zeroCells, hzs, o1, x.1, ← Nat.add_mul, Nat.zero_add]
        congr 1
        omega
      · simp only [Array.toList_append, List.append_assoc, List.drop_zero]
        rw [← List.append_assoc, ← hlen]
        exact List.take_left
      · refine s.upd hj rfl rfl rfl (by simp) ?_ ?_ ?_
        · intro b ob hb'
          simp only [pt, sg] at hb'
          split at hb'
          · rename_i e1; subst e1; cases hb'; exact heap_alloc_new w.drew _
          · cases hb'
        · intro b hb' _
          exact RowKit.Below.heap_alloc w.drew _ b hb'
        · intro b ob hb' _
          simp only [pt, sg] at hb'
          split at hb'
          · rename_i e1; omega
          · cases hb'
    rcases o4 with ⟨rfl, rfl, rfl⟩ | ⟨g, off, cur, rfl, rfl, hcs, htk⟩
    · obtain rfl : n = 0 := by omega
      obtain rfl : xs = [] := List.eq_nil_of_length_eq_zero (by simpa using o1)
      have hr := run_append_nil (P := P) w t ty e i z ht hi hz a2 m c2 news x.1 hnews hm0 (by simp only [maxLen] at h63; omega) (by simp only [Nat.zero_add] at hb; omega)
      have hgr := grown 0 (by omega)
      simp only [Nat.zero_add, List.nil_append, Array.empty_append] at hgr ⊢
      exact ⟨_, _, _, _, hr, hgr.1, hgr.2⟩
    · have holds : ∀ (k : Nat) u, xs[k]? = some u → w.cell? ((⟨g, off, none⟩ : Addr).add k) = some u := fun k u hu => by
        obtain ⟨a', ha, hc⟩ := hos.2.2 k u hu
        cases ha
        exact s.cell (.inr ⟨j, hj⟩) hc
      have hr := run_append_grow (P := P) w t ty e i z ht hi hz ⟨g, off, none⟩ n cap xs o1 holds a2 m c2 news x.1 hnews (by omega) (by simp only [maxLen] at h63; omega) (growslice_fits (by omega) hb)
      have hgr := grown cap (by omega)
      exact ⟨_, _, _, _, hr, hgr.1, hgr.2⟩

section rules
variable {P : Program} {T : Tab} {w0 : World} {ops : Array Oper} {Q : Exit → Act → World → Prop} {rest rest' : List Oper} {n : Nat} {l l' : Sl} {K : PH} {hs : List PH}

/-- append to an owned slice -/
def apAt (T : Tab) (ops : Array Oper) (n k : Nat) (rest : List Oper) (l : Sl) : Option (Nat × SlI × (Option Addr × Nat × Nat) × (Option Addr × Nat × Nat) × List Oper × Sl) :=
  match opAt T ops n k rest l with
  | some (o, r, l') => match o.dst, o.op with
    | some d, .call { callee := .builtin .append, args, argTypes } => match args.toList, argTypes.toList with
      | [x, y], [t, t'] => match Nat.blt d n, Nat.beq t t', asc T.sls t, ev l' x, ev l' y with
        | true, true, some si, some (.slice a1 n1 c1), some (.slice a2 n2 c2) => some (d, si, (a1, n1, c1), (a2, n2, c2), r, l')
        | _, _, _, _, _ => none
      | _, _ => none
    | _, _ => none
  | none => none
theorem app (hT : TabOK P T) (k i : Nat) {d : Nat} {si : SlI} {ao ao2 : Option Addr} {n1 c1 n2 c2 : Nat} {h h2 : PH} {xs news : List Value} (h0 : apAt T ops n k rest l = some (d, si, (ao, n1, c1), (ao2, n2, c2), rest', l'))
    (hi : hs[i]? = some h) (o : Own h ao n1 c1 si.elem si.size xs) (hm : In K hs h2) (x : IsS h2 ao2 n2 c2 si.size news) (hz : si.zero.cells.size = si.size) (hsz : 0 < si.size) (h1 : ∀ u ∈ news, u.oneCell' = true)
    (hb : (n1 + n2) * si.bytes ≤ 140737488355328) (h63 : n1 + n2 ≤ maxLen)
    (hk : ∀ ao' cap' h', Own h' ao' (n1 + n2) cap' si.elem si.size (xs ++ news) → WL P w0 ops Q rest' n ((d, .slice ao' (n1 + n2) cap') :: l') K (hs.set i h')) : WL P w0 ops Q rest n l K hs := by
  unfold apAt at h0
  split at h0
  · rename_i oo r l2 ho
    split at h0
    · rename_i d' args argTypes hd hop
      split at h0
      · rename_i x' y' t t' e1 e2
        split at h0
        · rename_i si' a1 m1 k1 a2 m2 k2 hb' htt hsi hx hy
          simp only [Option.some.injEq, Prod.mk.injEq] at h0
          obtain ⟨rfl, rfl, ⟨rfl, rfl, rfl⟩, ⟨rfl, rfl, rfl⟩, rfl, rfl⟩ := h0
          have htt' : t = t' := Nat.eq_of_beq_eq_true htt
          subst htt'
          have a1' : args = #[x', y'] := by cases args; simp_all
          have a2' : argTypes = #[t, t] := by cases argTypes; simp_all
          subst a1'
          subst a2'
          obtain ⟨g1, ii, g2, g3, g4, g5⟩ := hT.sl hsi
          refine WL.at' hT ho fun hg => WL.val (R := fun u K' hs' => ∃ ao' cap' h', u = .slice ao' (m1 + m2) cap' ∧ Own h' ao' (m1 + m2) cap' si'.elem si'.size (xs ++ news) ∧ K' = K ∧ hs' = hs.set i h') hd hb' hg
            (fun A w ha hw => ?_) ?_
          · rw [← g4] at o x hz hsz
            rw [← g5] at hb
            obtain ⟨ao', cap', h', w', hr, ho', hs'⟩ := run_append_Own (P := P) t oo.type si'.elem ii si'.zero g1 g2 g3 hz hw hi o hm x hsz h1 hb h63
            refine ⟨_, w', K, _, ?_, hs', ao', cap', h', rfl, by rw [← g4]; exact ho', rfl, rfl⟩
            simp only [execOp, hop]
            simp [resolve, invoke, builtin, ha.ev hx, ha.ev hy, hr]
          · rintro u K' hs' ⟨ao', cap', h', rfl, ho', rfl, rfl⟩
            exact hk ao' cap' h' ho'
        · simp at h0
      · simp at h0
    · simp at h0
  · simp at h0

/-- the address of an element -/
def ixAt (T : Tab) (ops : Array Oper) (n k : Nat) (rest : List Oper) (l : Sl) : Option (Nat × SlI × (Option Addr × Nat × Nat) × Int × List Oper × Sl) :=
  match opAt T ops n k rest l with
  | some (o, r, l') => match o.dst, o.op with
    | some d, .indexAddr t x i => match Nat.blt d n, asc T.sls t, ev l' x, ev l' i with
      | true, some si, some (.slice a1 n1 c1), some (.int _ j) => some (d, si, (a1, n1, c1), j, r, l')
      | _, _, _, _ => none
    | _, _ => none
  | _ => none
theorem ixs (hT : TabOK P T) (k : Nat) {d : Nat} {si : SlI} {ao : Option Addr} {n1 c1 : Nat} {i : Int} {h : PH} {xs : List Value} (j : Nat)
    (h0 : ixAt T ops n k rest l = some (d, si, (ao, n1, c1), i, rest', l')) (hj : i = (j : Int)) (x : IsS h ao n1 c1 si.size xs) (hjn : j < n1) (hsz : 0 < si.size)
    (hk : ∀ a, ao = some a → WL P w0 ops Q rest' n ((d, .pointer (some (a.add (j * si.size)))) :: l') K hs) : WL P w0 ops Q rest n l K hs := by
  unfold ixAt at h0
  split at h0
  · rename_i o r l2 ho
    split at h0
    · rename_i d' t x' i' hd hop
      split at h0
      · rename_i si' a1 m1 k1 kk jj hb hsi hx hi
        simp only [Option.some.injEq, Prod.mk.injEq] at h0
        obtain ⟨rfl, rfl, ⟨rfl, rfl, rfl⟩, rfl, rfl, rfl⟩ := h0
        subst hj
        obtain ⟨g1, ii, g2, g3, g4, g5⟩ := hT.sl hsi
        obtain ⟨a, rfl⟩ := x.addr hjn hsz
        refine WL.at' hT ho fun hg => WL.val (R := fun u K' hs' => u = .pointer (some (a.add (j * si'.size))) ∧ K' = K ∧ hs' = hs) hd hb hg (fun A w ha hw => ⟨_, w, K, hs, ?_, hw, rfl, rfl, rfl⟩) ?_
        · have h1 : (j : Int) < (m1 : Int) := by omega
          simp only [execOp, hop, ha.ev hx, ha.ev hi]
          simp [Instr.indexAt, asIntOf, run_underlying g1, sizeOf, typeInfo, g2, g4, hjn]
        · rintro u K' hs' ⟨rfl, rfl, rfl⟩
          exact hk a rfl
      · simp at h0
    · simp at h0
  · simp at h0
/-- the address of an element of one cell, and what is there -/
theorem ix1 (hT : TabOK P T) (k : Nat) {d : Nat} {si : SlI} {ao : Option Addr} {n1 c1 : Nat} {i : Int} {h : PH} {xs : List Value} {u : Value} (j : Nat)
    (h0 : ixAt T ops n k rest l = some (d, si, (ao, n1, c1), i, rest', l')) (hj : i = (j : Int)) (hsz : si.size = 1) (x : IsS h ao n1 c1 1 xs) (hu : xs[j]? = some u)
    (hk : ∀ a, Cell h a u → WL P w0 ops Q rest' n ((d, .pointer (some a)) :: l') K hs) : WL P w0 ops Q rest n l K hs := by
  have hjn : j < n1 := by
    have h1 := (List.getElem?_eq_some_iff.1 hu).1
    have h2 := x.1
    omega
  refine ixs hT k j h0 hj (h := h) (xs := xs) (by rw [hsz]; exact x) hjn (by omega) fun a ha => ?_
  obtain ⟨a', ha', hc⟩ := x.2.2 j u hu
  rw [ha] at ha'
  cases ha'
  rw [hsz, Nat.mul_one]
  exact hk _ hc
/-- a part of a slice -/
def slAt (T : Tab) (ops : Array Oper) (n k : Nat) (rest : List Oper) (l : Sl) : Option (Nat × SlI × (Option Addr × Nat × Nat) × Option Int × Option Int × List Oper × Sl) :=
  match opAt T ops n k rest l with
  | some (o, r, l') => match o.dst, o.op with
    | some d, .slice t x none none none => match Nat.blt d n, asc T.sls t, ev l' x with
      | true, some si, some (.slice a1 n1 c1) => some (d, si, (a1, n1, c1), none, none, r, l')
      | _, _, _ => none
    | some d, .slice t x (some lo) none none => match Nat.blt d n, asc T.sls t, ev l' x, ev l' lo with
      | true, some si, some (.slice a1 n1 c1), some (.int _ i) => some (d, si, (a1, n1, c1), some i, none, r, l')
      | _, _, _, _ => none
    | some d, .slice t x none (some hi) none => match Nat.blt d n, asc T.sls t, ev l' x, ev l' hi with
      | true, some si, some (.slice a1 n1 c1), some (.int _ i) => some (d, si, (a1, n1, c1), none, some i, r, l')
      | _, _, _, _ => none
    | some d, .slice t x (some lo) (some hi) none => match Nat.blt d n, asc T.sls t, ev l' x, ev l' lo, ev l' hi with
      | true, some si, some (.slice a1 n1 c1), some (.int _ i), some (.int _ j) => some (d, si, (a1, n1, c1), some i, some j, r, l')
      | _, _, _, _, _ => none
    | _, _ => none
  | _ => none
/-- where a part of a slice begins -/
def cutA (ao : Option Addr) (cap lo size : Nat) : Option Addr := if cap = lo then ao else ao.map (·.add (lo * size))
theorem slAt_run {k d : Nat} {si : SlI} {ao : Option Addr} {n1 c1 : Nat} {lo hi : Option Int} (hT : TabOK P T) (L H : Nat)
    (h0 : slAt T ops n k rest l = some (d, si, (ao, n1, c1), lo, hi, rest', l')) (hL : lo.getD 0 = (L : Int)) (hH : hi.getD n1 = (H : Int)) (h1 : L ≤ H) (h2 : H ≤ c1) :
    ∃ o, opAt T ops n k rest l = some (o, rest', l') ∧ o.dst = some d ∧ Nat.blt d n = true ∧
      ∀ a w, Ag n l' a → (execOp a.eval o).run P w = .ok (.value (.slice (cutA ao c1 L si.size) (H - L) (c1 - L))) w := by
  unfold slAt at h0
  split at h0
  · rename_i o r l2 ho
    have hLH : (L : Int) ≤ (H : Int) := by omega
    have hHc : (H : Int) ≤ (c1 : Int) := by omega
    split at h0
    · rename_i d' t x hd hop
      split at h0
      · rename_i si' a1 m1 k1 hb hsi hx
        simp only [Option.some.injEq, Prod.mk.injEq] at h0
        obtain ⟨rfl, rfl, ⟨rfl, rfl, rfl⟩, rfl, rfl, rfl, rfl⟩ := h0
        refine ⟨o, ho, hd, hb, fun a w ha => ?_⟩
        obtain ⟨g1, ii, g2, g3, g4, g5⟩ := hT.sl hsi
        simp only [Option.getD_none] at hL hH
        obtain rfl : L = 0 := by omega
        obtain rfl : m1 = H := by omega
        simp only [execOp, hop, ha.ev hx]
        simp [Instr.sliceAt, Instr.slice, run_underlying g1, Instr.sliceBounds, sizeOf, typeInfo, g2, cutA]
      · simp at h0
    · rename_i d' t x lo' hd hop
      split at h0
      · rename_i si' a1 m1 k1 kk i hb hsi hx hi
        simp only [Option.some.injEq, Prod.mk.injEq] at h0
        obtain ⟨rfl, rfl, ⟨rfl, rfl, rfl⟩, rfl, rfl, rfl, rfl⟩ := h0
        refine ⟨o, ho, hd, hb, fun a w ha => ?_⟩
        obtain ⟨g1, ii, g2, g3, g4, g5⟩ := hT.sl hsi
        simp only [Option.getD_none, Option.getD_some] at hL hH
        subst hL
        obtain rfl : m1 = H := by omega
        simp only [execOp, hop, ha.ev hx, Option.map_some, ha.ev hi]
        simp [Instr.sliceAt, Instr.slice, run_underlying g1, Instr.sliceBounds, Instr.sliceBound, asIntOf, sizeOf, typeInfo, g2, g4, cutA, h1]
      · simp at h0
    · rename_i d' t x hi' hd hop
      split at h0
      · rename_i si' a1 m1 k1 kk i hb hsi hx hi
        simp only [Option.some.injEq, Prod.mk.injEq] at h0
        obtain ⟨rfl, rfl, ⟨rfl, rfl, rfl⟩, rfl, rfl, rfl, rfl⟩ := h0
        refine ⟨o, ho, hd, hb, fun a w ha => ?_⟩
        obtain ⟨g1, ii, g2, g3, g4, g5⟩ := hT.sl hsi
        simp only [Option.getD_none, Option.getD_some] at hL hH
        obtain rfl : L = 0 := by omega
        subst hH
        simp only [execOp, hop, ha.ev hx, Option.map_some, ha.ev hi]
        simp [Instr.sliceAt, Instr.slice, run_underlying g1, Instr.sliceBounds, Instr.sliceBound, asIntOf, sizeOf, typeInfo, g2, cutA, h2]
      · simp at h0
    · rename_i d' t x lo' hi' hd hop
      split at h0
      · rename_i si' a1 m1 k1 kk i kk2 j hb hsi hx hi hj
        simp only [Option.some.injEq, Prod.mk.injEq] at h0
        obtain ⟨rfl, rfl, ⟨rfl, rfl, rfl⟩, rfl, rfl, rfl, rfl⟩ := h0
        refine ⟨o, ho, hd, hb, fun a w ha => ?_⟩
        obtain ⟨g1, ii, g2, g3, g4, g5⟩ := hT.sl hsi
        simp only [Option.getD_some] at hL hH
        subst hL
        subst hH
        simp only [execOp, hop, ha.ev hx, Option.map_some, ha.ev hi, ha.ev hj]
        simp [Instr.sliceAt, Instr.slice, run_underlying g1, Instr.sliceBounds, Instr.sliceBound, asIntOf, sizeOf, typeInfo, g2, g4, cutA, h1, h2]
      · simp at h0
    · simp at h0
  · simp at h0
theorem IsS.cut {h : PH} {ao : Option Addr} {n1 c1 size : Nat} {xs ys : List Value} (x : IsS h ao n1 c1 size xs) (L N : Nat) (hN : L + N ≤ n1) (hy : (xs.drop (L * size)).take (N * size) = ys) :
    IsS h (cutA ao c1 L size) N (c1 - L) size ys := by
  obtain ⟨h1, h2, h3⟩ := x
  have hle : L * size + N * size ≤ xs.length := by rw [h1, ← Nat.add_mul]; exact Nat.mul_le_mul_right _ hN
  refine ⟨by rw [← hy]; simp; omega, by omega, fun j u hu => ?_⟩
  rw [← hy] at hu
  have hj : j < N * size := by
    have := (List.getElem?_eq_some_iff.1 hu).1
    simp at this
    omega
  rw [List.getElem?_take_of_lt hj, List.getElem?_drop] at hu
  obtain ⟨a, ha, hc⟩ := h3 _ u hu
  have hN0 : N ≠ 0 := fun e => by rw [e] at hj; omega
  refine ⟨a.add (L * size), by rw [cutA, if_neg (by omega), ha]; rfl, ?_⟩
  have : (a.add (L * size)).add j = a.add (L * size + j) := by
    obtain ⟨b, o, sp⟩ := a
    obtain ⟨hsp, _⟩ := hc
    unfold Addr.add
    by_cases h0 : L * size = 0
    · simp [h0]
    · by_cases h4 : j = 0
      · subst h4; simp [h0]
      · simp [h0, h4, Nat.add_assoc]
  rw [this]
  exact hc
/-- a part of what can be read -/
theorem sl (hT : TabOK P T) (k : Nat) {d : Nat} {si : SlI} {ao : Option Addr} {n1 c1 : Nat} {lo hi : Option Int} {h : PH} {xs ys : List Value} (L N : Nat)
    (h0 : slAt T ops n k rest l = some (d, si, (ao, n1, c1), lo, hi, rest', l')) (x : IsS h ao n1 c1 si.size xs) (hL : lo.getD 0 = (L : Int)) (hH : hi.getD n1 = ((L + N : Nat) : Int)) (hN : L + N ≤ n1)
    (hy : (xs.drop (L * si.size)).take (N * si.size) = ys)
    (hk : ∀ ao' cap', IsS h ao' N cap' si.size ys → WL P w0 ops Q rest' n ((d, .slice ao' N cap') :: l') K hs) : WL P w0 ops Q rest n l K hs := by
  obtain ⟨o, ho, hd, hb, hrun⟩ := slAt_run (P := P) hT L (L + N) h0 hL hH (by omega) (by have := x.2.1; omega)
  refine WL.at' hT ho fun hg => WL.val (R := fun u K' hs' => u = .slice (cutA ao c1 L si.size) N (c1 - L) ∧ K' = K ∧ hs' = hs) hd hb hg (fun A w ha hw => ⟨_, w, K, hs, hrun A w ha, hw, ?_, rfl, rfl⟩) ?_
  · rw [Nat.add_sub_cancel_left]
  · rintro u K' hs' ⟨rfl, rfl, rfl⟩
    exact hk _ _ (x.cut L N hN hy)

/-! Calls. -/
theorem WL.enter {o : Oper} {d g : Nat} {vs : List Value} {R : Value → PH → List PH → Prop} (hd : o.dst = some d) (hb : Nat.blt d n = true) (hg : gOK ops l o.guard = some true)
    (h : ∀ a w, Ag n l a → (execOp a.eval o).run P w = .ok (.enter g vs.toArray) w) (hc : Ct P w0 g vs K hs R)
    (hk : ∀ v K' hs', R v K' hs' → WL P w0 ops Q rest n ((d, v) :: l) K' hs') : WL P w0 ops Q (o :: rest) n l K hs := by
  intro a w ha hw
  have h1 := gOK_wanted ha hg
  unfold wpList
  rw [if_pos h1]
  refine .inl ?_
  unfold Oper.wp
  rw [h a w ha]
  simp only [Oper.upon]
  refine (hc.2 w hw).mono ?_
  rintro e w' ⟨v, K', hs', rfl, hR, hw'⟩
  simp only [hd]
  exact hk v K' hs' hR _ _ (ha.put hb) hw'
def clAt (T : Tab) (ops : Array Oper) (n k : Nat) (rest : List Oper) (l : Sl) : Option (Nat × Nat × List Value × List Oper × Sl) :=
  match opAt T ops n k rest l with
  | some (o, r, l') => match o.dst, o.op with
    | some d, .call { callee := .value f, args, .. } => match Nat.blt d n, ev l' f, args.toList.mapM (ev l') with
      | true, some (.func (.func g) first captured), some vs => some (d, g, first.toList ++ (vs ++ captured.toList), r, l')
      | _, _, _ => none
    | _, _ => none
  | _ => none
theorem ev_map {a : Act} {nn : Nat} {l : Sl} (ha : Ag nn l a) : ∀ (ps : List Operand) (vs : List Value), ps.mapM (ev l) = some vs → ps.map a.eval = vs
  | [], vs, h => by simp at h; subst h; rfl
  | p :: ps, vs, h => by
    simp only [List.mapM_cons] at h
    cases h1 : ev l p with
    | none => simp [h1] at h
    | some v =>
      cases h2 : ps.mapM (ev l) with
      | none => simp [h1, h2] at h
      | some r =>
        simp [h1, h2] at h
        subst h
        simp [ha.ev h1, ev_map ha ps r h2]
theorem cl (hT : TabOK P T) (k : Nat) {d g : Nat} {vs : List Value} {R : Value → PH → List PH → Prop} (h0 : clAt T ops n k rest l = some (d, g, vs, rest', l')) (hc : Ct P w0 g vs K hs R)
    (hk : ∀ v K' hs', R v K' hs' → WL P w0 ops Q rest' n ((d, v) :: l') K' hs') : WL P w0 ops Q rest n l K hs := by
  unfold clAt at h0
  split at h0
  · rename_i o r l2 ho
    split at h0
    · rename_i d' f args ats hd hop
      split at h0
      · rename_i g' first captured vs' hb hf hvs
        simp only [Option.some.injEq, Prod.mk.injEq] at h0
        obtain ⟨rfl, rfl, rfl, rfl, rfl⟩ := h0
        refine WL.at' hT ho fun hg => WL.enter hd hb hg (fun A w ha => ?_) hc hk
        have h6 := ev_map ha _ _ hvs
        have h7 : args.map A.eval = vs'.toArray := by
          apply Array.ext'
          simpa using h6
        have hcal := hc.1
        unfold callable at hcal
        simp only [execOp, hop]
        cases hfn : P.funcs[g']? with
        | none => simp [hfn] at hcal
        | some fn =>
          simp only [hfn, Bool.and_eq_true, Bool.not_eq_true'] at hcal
          have hbn : ¬ fn.body = none := fun e => by simp [e] at hcal
          have hnm : ¬ fn.name = "runtime.NumGoroutine" := by simpa using hcal.2
          simp [resolve, h7, ha.ev hf, Deferred.ofValue, invoke, callFunc, hfn, hbn, hnm]
      · simp at h0
    · simp at h0
  · simp at h0
end rules
end Go.En
