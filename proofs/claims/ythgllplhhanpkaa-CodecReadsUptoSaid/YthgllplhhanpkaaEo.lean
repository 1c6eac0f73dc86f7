/-
  The rules of the engine on memory and calls.
-/
import Derived.Test.YthgllplhhanpkaaEm
namespace Go.En
set_option linter.unusedVariables false

/-! Slices. 'IsS': what can be read; 'Own': what can be written and appended to. -/
def IsS (h : PH) (ao : Option Addr) (n cap size : Nat) (xs : List Value) : Prop :=
  xs.length = n * size ∧ n ≤ cap ∧ ∀ (j : Nat) u, xs[j]? = some u → ∃ a, ao = some a ∧ Cell h (a.add j) u
def Own (h : PH) (ao : Option Addr) (n cap e size : Nat) (xs : List Value) : Prop :=
  xs.length = n * size ∧ n ≤ cap ∧ cap ≤ maxLen ∧ ((ao = none ∧ cap = 0 ∧ h = em) ∨
    ∃ g off cur, ao = some ⟨g, off, none⟩ ∧ h = pt g cur e ∧ cur.size = off + cap * size ∧ (cur.toList.drop off).take (n * size) = xs)
theorem add_mk (g off k : Nat) : (⟨g, off, none⟩ : Addr).add k = ⟨g, off + k, none⟩ := by unfold Addr.add; split <;> simp_all
theorem Own.isS {h : PH} {ao : Option Addr} {n cap e size : Nat} {xs : List Value} (o : Own h ao n cap e size xs) : IsS h ao n cap size xs := by
  obtain ⟨h1, h2, _, h3⟩ := o
  refine ⟨h1, h2, ?_⟩
  rcases h3 with ⟨rfl, rfl, rfl⟩ | ⟨g, off, cur, rfl, rfl, hs, ht⟩
  · intro j u hu
    have : n = 0 := by omega
    subst this
    have : xs = [] := List.eq_nil_of_length_eq_zero (by simpa using h1)
    subst this
    simp at hu
  · intro j u hu
    refine ⟨_, rfl, ?_⟩
    rw [add_mk]
    refine Cell.pt ?_
    rw [← ht] at hu
    have hj : j < n * size := by
      have := (List.getElem?_eq_some_iff.1 hu).1
      simp at this
      omega
    rw [List.getElem?_take_of_lt hj, List.getElem?_drop] at hu
    simpa using hu
theorem Own.nil (e size : Nat) : Own em none 0 0 e size [] := ⟨by simp, Nat.le_refl _, Nat.zero_le _, .inl ⟨rfl, rfl, rfl⟩⟩
theorem IsS.nil (h : PH) (ao : Option Addr) (cap size : Nat) : IsS h ao 0 cap size [] := ⟨by simp, Nat.zero_le _, by simp⟩
theorem Own.ofPt {b : Nat} {c : Array Value} {e n size : Nat} (h1 : c.size = n * size) (h2 : n ≤ maxLen) : Own (pt b c e) (some ⟨b, 0, none⟩) n n e size c.toList :=
  ⟨by simpa using h1, Nat.le_refl _, h2, .inr ⟨b, 0, c, rfl, rfl, by omega, by rw [List.drop_zero, ← h1, ← Array.length_toList]; exact List.take_length⟩⟩
theorem IsS.addr {h : PH} {ao : Option Addr} {n cap size : Nat} {xs : List Value} (x : IsS h ao n cap size xs) {j : Nat} (hj : j < n) (hs : 0 < size) : ∃ a, ao = some a := by
  obtain ⟨h1, _, h3⟩ := x
  have : 0 < xs.length := by rw [h1]; exact Nat.mul_pos (by omega) hs
  obtain ⟨a, ha, _⟩ := h3 0 xs[0] (by simp)
  exact ⟨a, ha⟩

section rules
variable {P : Program} {T : Tab} {w0 : World} {ops : Array Oper} {Q : Exit → Act → World → Prop} {rest rest' : List Oper} {n : Nat} {l l' : Sl} {K : PH} {hs : List PH}

/-! Load, store of one cell. -/
theorem run_load1 {w : World} (hT : TabOK P T) {t : Nat} {k : UK} (hk : asc T.kinds t = some k) (h1 : k.one = true) {a : Addr} {v : Value} (hc : w.cell? a = some v) :
    (Instr.loadAt t (.pointer (some a))).run P w = .ok v w := by
  obtain ⟨d, i, hd, hi, hs, hf⟩ := hT.one hk h1
  have hagg : (isAgg t).run P w = .ok false w := by
    cases d <;> cases k <;> simp [UK.fits, UK.one] at hf h1 <;> simp [isAgg, run_underlying hd]
  simp [Instr.loadAt, Instr.sureAddr, loadVar, hagg, hc]
theorem run_store1 {w : World} (hT : TabOK P T) {t : Nat} {k : UK} (hk : asc T.kinds t = some k) (h1 : k.one = true) {a : Addr} {v u : Value} (hc : w.cell? a = some u) (hf : w.frozen? a = false) (hv : v.oneCell' = true) :
    (Instr.storeAt t (.pointer (some a)) v).run P w = .ok () (w.setCell a v) := by
  obtain ⟨d, i, hd, hi, hs, _⟩ := hT.one hk h1
  have hcells : v.cells = #[v] := by cases v <;> simp [Value.oneCell', Value.cells] at hv ⊢
  have hadd : a.add 0 = a := by simp [Addr.add]
  simp [Instr.storeAt, Instr.sureAddr, storeVar, hcells, sizeOf, typeInfo, hi, hs, storeCells, hadd, run_store P w a v _ hv, hc, hf]
def ldAt (T : Tab) (ops : Array Oper) (n k : Nat) (rest : List Oper) (l : Sl) : Option (Nat × Addr × List Oper × Sl) :=
  match opAt T ops n k rest l with
  | some (o, r, l') => match o.dst, o.op with
    | some d, .load t x => match Nat.blt d n, asc T.kinds t, ev l' x with
      | true, some kd, some (.pointer (some a)) => cond kd.one (some (d, a, r, l')) none
      | _, _, _ => none
    | _, _ => none
  | none => none
theorem ld (hT : TabOK P T) (k : Nat) {d : Nat} {a : Addr} {v : Value} {h : PH} (h0 : ldAt T ops n k rest l = some (d, a, rest', l')) (hm : In K hs h) (hc : Cell h a v)
    (hk : WL P w0 ops Q rest' n ((d, v) :: l') K hs) : WL P w0 ops Q rest n l K hs := by
  unfold ldAt at h0
  split at h0
  · rename_i o r l2 ho
    split at h0
    · rename_i d' t x hd hop
      split at h0
      · rename_i kd a' hb hkd hx
        cases h1 : kd.one with
        | false => simp [h1] at h0
        | true =>
          simp only [h1, cond_true, Option.some.injEq, Prod.mk.injEq] at h0
          obtain ⟨rfl, rfl, rfl, rfl⟩ := h0
          refine WL.at' hT ho fun hg => WL.val (R := fun u K' hs' => u = v ∧ K' = K ∧ hs' = hs) hd hb hg (fun A w ha hw => ⟨v, w, K, hs, ?_, hw, rfl, rfl, rfl⟩) ?_
          · have h2 := run_load1 (P := P) hT hkd h1 (hw.cell hm hc)
            simp only [execOp, hop, ha.ev hx]
            simp [h2]
          · rintro u K' hs' ⟨rfl, rfl, rfl⟩
            exact hk
      · simp at h0
    · simp at h0
  · simp at h0
/-- a cell of a block that is known whole -/
theorem ldp (hT : TabOK P T) (k i : Nat) {d b off ty : Nat} {v : Value} {c : Array Value} {fr : Nat × Nat} (h0 : ldAt T ops n k rest l = some (d, ⟨b, off, none⟩, rest', l')) (hi : hs[i]? = some (pt b c ty fr)) (hv : c[off]? = some v)
    (hk : WL P w0 ops Q rest' n ((d, v) :: l') K hs) : WL P w0 ops Q rest n l K hs :=
  ld hT k h0 (.inr ⟨i, hi⟩) (Cell.pt hv) hk
def stAt (T : Tab) (ops : Array Oper) (n k : Nat) (rest : List Oper) (l : Sl) : Option (Addr × Value × List Oper × Sl) :=
  match opAt T ops n k rest l with
  | some (o, r, l') => match o.dst, o.op with
    | none, .store t x y => match asc T.kinds t, ev l' x, ev l' y with
      | some kd, some (.pointer (some a)), some v => cond kd.one (some (a, v, r, l')) none
      | _, _, _ => none
    | _, _ => none
  | none => none
theorem stp (hT : TabOK P T) (k i : Nat) {b off ty : Nat} {v u : Value} {c : Array Value} (h0 : stAt T ops n k rest l = some (⟨b, off, none⟩, v, rest', l')) (hi : hs[i]? = some (pt b c ty)) (hu : c[off]? = some u) (hv : v.oneCell' = true)
    (hk : WL P w0 ops Q rest' n l' K (hs.set i (pt b (c.setIfInBounds off v) ty))) : WL P w0 ops Q rest n l K hs := by
  unfold stAt at h0
  split at h0
  · rename_i o r l2 ho
    split at h0
    · rename_i t x y hd hop
      split at h0
      · rename_i kd a' v' hkd hx hy
        cases h1 : kd.one with
        | false => simp [h1] at h0
        | true =>
          simp only [h1, cond_true, Option.some.injEq, Prod.mk.injEq] at h0
          obtain ⟨rfl, rfl, rfl, rfl⟩ := h0
          refine WL.at' hT ho fun hg => WL.skp hd hg (fun A w ha hw => ⟨_, ?_, hw.setCell hi (off := off) v'⟩) hk
          have hb : w.heap[b]? = some (.cells c ty (0, 0)) := hw.own i _ hi b _ (by simp)
          have hc : w.cell? ⟨b, off, none⟩ = some u := hw.cell (.inr ⟨i, hi⟩) (Cell.pt hu)
          have hf : w.frozen? ⟨b, off, none⟩ = false := by simp [World.frozen?, hb]
          have h2 := run_store1 (P := P) hT hkd h1 hc hf hv
          simp only [execOp, hop, ha.ev hx, ha.ev hy]
          simp [h2]
      · simp at h0
    · simp at h0
  · simp at h0
/-! New blocks. -/
def bxAt (T : Tab) (ops : Array Oper) (n k : Nat) (rest : List Oper) (l : Sl) : Option (Nat × Nat × Value × List Oper × Sl) :=
  match opAt T ops n k rest l with
  | some (o, r, l') => match o.dst, o.op with
    | some d, .box e x => match Nat.blt d n, ev l' x with
      | true, some v => some (d, e, v, r, l')
      | _, _ => none
    | _, _ => none
  | none => none
theorem bx (hT : TabOK P T) (k : Nat) {d e : Nat} {v : Value} (h0 : bxAt T ops n k rest l = some (d, e, v, rest', l'))
    (hk : ∀ b, WL P w0 ops Q rest' n ((d, .pointer (some ⟨b, 0, none⟩)) :: l') K (pt b v.cells e :: hs)) : WL P w0 ops Q rest n l K hs := by
  unfold bxAt at h0
  split at h0
  · rename_i o r l2 ho
    split at h0
    · rename_i d' e' x hd hop
      split at h0
      · rename_i v' hb hx
        simp only [Option.some.injEq, Prod.mk.injEq] at h0
        obtain ⟨rfl, rfl, rfl, rfl, rfl⟩ := h0
        refine WL.at' hT ho fun hg => WL.val (R := fun u K' hs' => ∃ b, u = .pointer (some ⟨b, 0, none⟩) ∧ K' = K ∧ hs' = pt b v'.cells e' :: hs) hd hb hg
          (fun A w ha hw => ⟨.pointer (some ⟨w.heap.size, 0, none⟩), _, K, _, ?_, hw.alloc _, w.heap.size, rfl, rfl, rfl⟩) ?_
        · simp only [execOp, hop, ha.ev hx]
          simp [Instr.box, newVar, newRow]
        · rintro u K' hs' ⟨b, rfl, rfl, rfl⟩
          exact hk b
      · simp at h0
    · simp at h0
  · simp at h0
def alAt (T : Tab) (ops : Array Oper) (n k : Nat) (rest : List Oper) (l : Sl) : Option (Nat × Nat × List Oper × Sl) :=
  match opAt T ops n k rest l with
  | some (o, r, l') => match o.dst, o.op with
    | some d, .alloc e => match Nat.blt d n with
      | true => some (d, e, r, l')
      | _ => none
    | _, _ => none
  | none => none
theorem al (hT : TabOK P T) (k : Nat) {d e : Nat} (z : Value) (h0 : alAt T ops n k rest l = some (d, e, rest', l')) (hz : (P.info? e).bind (·.zero) = some z)
    (hk : ∀ b, WL P w0 ops Q rest' n ((d, .pointer (some ⟨b, 0, none⟩)) :: l') K (pt b z.cells e :: hs)) : WL P w0 ops Q rest n l K hs := by
  unfold alAt at h0
  split at h0
  · rename_i o r l2 ho
    split at h0
    · rename_i d' e' hd hop
      split at h0
      · rename_i hb
        simp only [Option.some.injEq, Prod.mk.injEq] at h0
        obtain ⟨rfl, rfl, rfl, rfl⟩ := h0
        refine WL.at' hT ho fun hg => WL.val (R := fun u K' hs' => ∃ b, u = .pointer (some ⟨b, 0, none⟩) ∧ K' = K ∧ hs' = pt b z.cells e' :: hs) hd hb hg
          (fun A w ha hw => ⟨.pointer (some ⟨w.heap.size, 0, none⟩), _, K, _, ?_, hw.alloc _, w.heap.size, rfl, rfl, rfl⟩) ?_
        · obtain ⟨i, hi, hz'⟩ := Option.bind_eq_some_iff.1 hz
          simp only [execOp, hop]
          simp [Instr.alloc, newVar, newRow, zeroValue, typeInfo, hi, hz']
        · rintro u K' hs' ⟨b, rfl, rfl, rfl⟩
          exact hk b
      · simp at h0
    · simp at h0
  · simp at h0
/-- a slice's literal -/
def bsAt (T : Tab) (ops : Array Oper) (n k : Nat) (rest : List Oper) (l : Sl) : Option (Nat × SlI × Nat × List (Nat × Value) × List Oper × Sl) :=
  match opAt T ops n k rest l with
  | some (o, r, l') => match o.dst, o.op with
    | some d, .buildSlice t len parts => match Nat.blt d n, asc T.sls t, parts.toList.mapM (fun x => (ev l' x.2).map (fun v => (x.1, v))) with
      | true, some si, some vs => some (d, si, len, vs, r, l')
      | _, _, _ => none
    | _, _ => none
  | none => none
theorem evs_map {a : Act} {nn : Nat} {l : Sl} (ha : Ag nn l a) : ∀ (ps : List (Nat × Operand)) (vs : List (Nat × Value)), ps.mapM (fun x => (ev l x.2).map (fun v => (x.1, v))) = some vs → ps.map (fun x => (x.1, a.eval x.2)) = vs
  | [], vs, h => by simp at h; subst h; rfl
  | p :: ps, vs, h => by
    simp only [List.mapM_cons] at h
    cases h1 : ev l p.2 with
    | none => simp [h1] at h
    | some v =>
      cases h2 : ps.mapM (fun x => (ev l x.2).map (fun v => (x.1, v))) with
      | none => simp [h1, h2] at h
      | some r =>
        simp [h1, h2] at h
        subst h
        simp [ha.ev h1, evs_map ha ps r h2]
theorem lit (hT : TabOK P T) (k : Nat) {d len : Nat} {si : SlI} {vs : List (Nat × Value)} (cells : Array Value) (h0 : bsAt T ops n k rest l = some (d, si, len, vs, rest', l')) (hlen : len * si.size ≤ 16777216)
    (hf : Instr.fill (fun i => some (i * si.size, si.size)) ((Array.range (len * si.size)).map (fun i => (if len * si.size = 0 then (#[] : Array Value) else si.zero.cells)[i % (if len * si.size = 0 then (#[] : Array Value) else si.zero.cells).size]!)) vs = some cells)
    (hk : ∀ b, WL P w0 ops Q rest' n ((d, .slice (some ⟨b, 0, none⟩) len len) :: l') K (pt b cells si.elem :: hs)) : WL P w0 ops Q rest n l K hs := by
  unfold bsAt at h0
  split at h0
  · rename_i o r l2 ho
    split at h0
    · rename_i d' t len' parts hd hop
      split at h0
      · rename_i si' vs' hb hsi hvs
        simp only [Option.some.injEq, Prod.mk.injEq] at h0
        obtain ⟨rfl, rfl, rfl, rfl, rfl, rfl⟩ := h0
        refine WL.at' hT ho fun hg => WL.val (R := fun u K' hs' => ∃ b, u = .slice (some ⟨b, 0, none⟩) len' len' ∧ K' = K ∧ hs' = pt b cells si'.elem :: hs) hd hb hg
          (fun A w ha hw => ⟨.slice (some ⟨w.heap.size, 0, none⟩) len' len', _, K, _, ?_, hw.alloc _, w.heap.size, rfl, rfl, rfl⟩) ?_
        · obtain ⟨h1, i, h2, h3, h4, h5⟩ := hT.sl hsi
          have h6 := evs_map ha _ _ hvs
          have h7 : (parts.map fun (i, x) => (i, A.eval x)).toList = vs' := by simpa using h6
          simp only [execOp, hop]
          have h8 : ¬ (16777216 < len' * si'.size) := by omega
          by_cases hz : len' * si'.size = 0
          · rw [if_pos hz] at hf
            simp [Instr.buildSlice, run_underlying h1, sizeOf, typeInfo, h2, h4, hz, newRow, zeroValue, h3]
            rw [h6]
            simp [hz] at hf
            simp [hf]
          · simp only [if_neg hz] at hf
            simp [Instr.buildSlice, run_underlying h1, sizeOf, typeInfo, h2, h4, h8, hz, newRow, zeroValue, h3]
            rw [h6]
            simp [hf]
        · rintro u K' hs' ⟨b, rfl, rfl, rfl⟩
          exact hk b
      · simp at h0
    · simp at h0
  · simp at h0
end rules
end Go.En
