/-
  The rules of the engine: pure runs, tests, arithmetic, memory, calls.
-/
import Derived.Test.YthgllplhhanpkaaEn
namespace Go.En
set_option linter.unusedVariables false

abbrev sg (b : Nat) (o : Obj) : PH := fun x => if x = b then some o else none
abbrev pt (b : Nat) (c : Array Value) (ty : Nat) (fr : Nat × Nat := (0, 0)) : PH := sg b (.cells c ty fr)
def em : PH := fun _ => none
def Cell (h : PH) (a : Addr) (v : Value) : Prop := a.spot = none ∧ ∃ c ty fr, h a.block = some (.cells c ty fr) ∧ c[a.off]? = some v
def In (K : PH) (hs : List PH) (h : PH) : Prop := h = K ∨ ∃ i : Nat, hs[i]? = some h

section mem
variable {w0 w w' : World} {K : PH} {hs : List PH}
theorem Sat.block (s : Sat w0 w K hs) {h : PH} (hi : In K hs h) {b : Nat} {o : Obj} (hb : h b = some o) : w.heap[b]? = some o := by
  rcases hi with rfl | ⟨i, hi⟩
  · exact s.imm b o hb
  · exact s.own i h hi b o hb
theorem Sat.cell (s : Sat w0 w K hs) {h : PH} (hi : In K hs h) {a : Addr} {v : Value} (hc : Cell h a v) : w.cell? a = some v := by
  obtain ⟨hsp, c, ty, fr, hb, hv⟩ := hc
  have := s.block hi hb
  simp [World.cell?, this, hsp, hv]
theorem lt_of_some {w : World} {b : Nat} {o : Obj} (h : w.heap[b]? = some o) : b < w.heap.size := (Array.getElem?_eq_some_iff.1 h).1
theorem Sat.alloc (s : Sat w0 w K hs) (o : Obj) : Sat w0 (w.alloc o) K (sg w.heap.size o :: hs) := by
  have old : ∀ b, b < w.heap.size → (w.alloc o).heap[b]? = w.heap[b]? := fun b hb => RowKit.Below.heap_alloc w o b hb
  refine ⟨s.os, s.tape, s.output, ?_, ?_, ?_, ?_, ?_⟩
  · have := s.size; simp; omega
  · intro b o' h
    have := s.imm b o' h
    rw [old b (lt_of_some this)]; exact this
  · intro i h hi b o' hb
    cases i with
    | zero =>
      simp only [List.getElem?_cons_zero, Option.some.injEq] at hi
      subst hi
      simp only [sg] at hb
      split at hb
      · rename_i e; subst e; cases hb; exact heap_alloc_new w o
      · cases hb
    | succ i =>
      have := s.own i h (by simpa using hi) b o' hb
      rw [old b (lt_of_some this)]; exact this
  · intro i h hi b o' hb
    cases i with
    | zero =>
      simp only [List.getElem?_cons_zero, Option.some.injEq] at hi
      subst hi
      simp only [sg] at hb
      split at hb
      · rename_i e
        subst e
        cases hk : K w.heap.size with
        | none => rfl
        | some x => have := lt_of_some (s.imm _ _ hk); omega
      · cases hb
    | succ i => exact s.apart i h (by simpa using hi) b o' hb
  · intro i j h h' hi hj hij b o' hb
    cases i with
    | zero =>
      simp only [List.getElem?_cons_zero, Option.some.injEq] at hi
      subst hi
      simp only [sg] at hb
      split at hb
      · rename_i e
        subst e
        cases j with
        | zero => omega
        | succ j =>
          cases hk : h' w.heap.size with
          | none => rfl
          | some x => have := lt_of_some (s.own j h' (by simpa using hj) _ _ hk); omega
      · cases hb
    | succ i =>
      cases j with
      | zero =>
        simp only [List.getElem?_cons_zero, Option.some.injEq] at hj
        subst hj
        have := lt_of_some (s.own i h (by simpa using hi) b o' hb)
        simp only [sg]
        rw [if_neg (by omega)]
      | succ j => exact s.sep i j h h' (by simpa using hi) (by simpa using hj) (by omega) b o' hb
/-- one owned heap is changed within its own blocks and new ones -/
theorem Sat.upd (s : Sat w0 w K hs) {i : Nat} {h h' : PH} (hi : hs[i]? = some h) (hos : w'.os = w.os) (htp : w'.tape = w.tape) (hout : w'.output = w.output) (hsz : w.heap.size ≤ w'.heap.size)
    (hin : ∀ b o, h' b = some o → w'.heap[b]? = some o) (hout' : ∀ b, b < w.heap.size → h b = none → w'.heap[b]? = w.heap[b]?) (hdom : ∀ b o, h' b = some o → h b = none → w.heap.size ≤ b) :
    Sat w0 w' K (hs.set i h') := by
  have hil : i < hs.length := (List.getElem?_eq_some_iff.1 hi).1
  refine ⟨hos.trans s.os, htp.trans s.tape, hout.trans s.output, Nat.le_trans s.size hsz, ?_, ?_, ?_, ?_⟩
  · intro b o hb
    have h1 := s.imm b o hb
    rw [hout' b (lt_of_some h1) ?_]
    · exact h1
    · cases hh : h b with
      | none => rfl
      | some x => have := s.apart i h hi b x hh; rw [this] at hb; cases hb
  · intro j g hj b o hb
    by_cases hij : i = j
    · subst hij
      rw [List.getElem?_set_self hil] at hj
      cases hj
      exact hin b o hb
    · rw [List.getElem?_set_ne hij] at hj
      have h1 := s.own j g hj b o hb
      rw [hout' b (lt_of_some h1) (s.sep j i g h hj hi (Ne.symm hij) b o hb)]
      exact h1
  · intro j g hj b o hb
    by_cases hij : i = j
    · subst hij
      rw [List.getElem?_set_self hil] at hj
      cases hj
      cases hh : h b with
      | some x => exact s.apart i h hi b x hh
      | none =>
        have := hdom b o hb hh
        cases hk : K b with
        | none => rfl
        | some x => have := lt_of_some (s.imm b x hk); omega
    · rw [List.getElem?_set_ne hij] at hj
      exact s.apart j g hj b o hb
  · intro j k g g' hj hk hjk b o hb
    by_cases hij : i = j
    · subst hij
      rw [List.getElem?_set_self hil] at hj
      cases hj
      rw [List.getElem?_set_ne hjk] at hk
      cases hh : h b with
      | some x => exact s.sep i k h g' hi hk hjk b x hh
      | none =>
        have := hdom b o hb hh
        cases hg : g' b with
        | none => rfl
        | some x => have := lt_of_some (s.own k g' hk b x hg); omega
    · rw [List.getElem?_set_ne hij] at hj
      by_cases hik : i = k
      · subst hik
        rw [List.getElem?_set_self hil] at hk
        cases hk
        cases hg : h' b with
        | none => rfl
        | some x =>
          have h1 := lt_of_some (s.own j g hj b o hb)
          have h2 := s.sep j i g h hj hi (Ne.symm hij) b o hb
          have := hdom b x hg h2
          omega
      · rw [List.getElem?_set_ne hik] at hk
        exact s.sep j k g g' hj hk hjk b o hb
theorem Sat.setRow (s : Sat w0 w K hs) {i b : Nat} {c : Array Value} {ty : Nat} {fr : Nat × Nat} (hi : hs[i]? = some (pt b c ty fr)) (c' : Array Value) :
    Sat w0 (w.setRow b c') K (hs.set i (pt b c' ty fr)) := by
  have hb : w.heap[b]? = some (.cells c ty fr) := s.own i _ hi b _ (by simp)
  refine s.upd hi rfl rfl rfl (by simp [World.setRow]) ?_ ?_ ?_
  · intro x o hx
    simp only [pt, sg] at hx
    split at hx
    · rename_i e; subst e; cases hx; exact setRow_heap w _ c c' ty fr hb
    · cases hx
  · intro x hx hn
    simp only [pt, sg] at hn
    split at hn
    · cases hn
    · rename_i e; exact setRow_other w b x c' e
  · intro x o hx hn
    simp only [pt, sg] at hx hn
    split at hx
    · rename_i e; rw [if_pos e] at hn; cases hn
    · cases hx
theorem Sat.setCell (s : Sat w0 w K hs) {i b off : Nat} {c : Array Value} {ty : Nat} {fr : Nat × Nat} (hi : hs[i]? = some (pt b c ty fr)) (v : Value) :
    Sat w0 (w.setCell ⟨b, off, none⟩ v) K (hs.set i (pt b (c.setIfInBounds off v) ty fr)) := by
  have hb : w.heap[b]? = some (.cells c ty fr) := s.own i _ hi b _ (by simp)
  rw [setCell_eq_setRow w b off c ty fr v hb]
  exact s.setRow hi _
theorem Sat.addEm (s : Sat w0 w K hs) : Sat w0 w K (em :: hs) := by
  refine ⟨s.os, s.tape, s.output, s.size, s.imm, ?_, ?_, ?_⟩
  · intro i h hi b o hb
    cases i with
    | zero => simp only [List.getElem?_cons_zero, Option.some.injEq] at hi; subst hi; simp [em] at hb
    | succ i => exact s.own i h (by simpa using hi) b o hb
  · intro i h hi b o hb
    cases i with
    | zero => simp only [List.getElem?_cons_zero, Option.some.injEq] at hi; subst hi; simp [em] at hb
    | succ i => exact s.apart i h (by simpa using hi) b o hb
  · intro i j h h' hi hj hij b o hb
    cases i with
    | zero => simp only [List.getElem?_cons_zero, Option.some.injEq] at hi; subst hi; simp [em] at hb
    | succ i =>
      cases j with
      | zero => simp only [List.getElem?_cons_zero, Option.some.injEq] at hj; subst hj; rfl
      | succ j => exact s.sep i j h h' (by simpa using hi) (by simpa using hj) (by omega) b o hb
theorem Cell.pt {b off : Nat} {c : Array Value} {ty : Nat} {fr : Nat × Nat} {v : Value} (h : c[off]? = some v) : Cell (pt b c ty fr) ⟨b, off, none⟩ v :=
  ⟨rfl, c, ty, fr, by simp, h⟩
end mem

/-! Runs of pure operations. -/
def pureN (T : Tab) (ops : Array Oper) (n : Nat) : Nat → List Oper → Sl → Option (List Oper × Sl)
  | 0, r, l => some (r, l)
  | _ + 1, [], _ => none
  | k + 1, o :: r, l => match o.dst with
    | none => none
    | some d => match Nat.blt d n, gOK ops l o.guard with
      | true, some true => match pureOp T l o.op with
        | some v => pureN T ops n k r ((d, v) :: l)
        | none => none
      | true, some false => pureN T ops n k r ((d, undef) :: l)
      | _, _ => none
section rules
variable {P : Program} {T : Tab} {w0 : World} {ops : Array Oper} {Q : Exit → Act → World → Prop} {rest rest' : List Oper} {n : Nat} {l l' : Sl} {K : PH} {hs : List PH}
theorem WL.val {o : Oper} {d : Nat} {R : Value → PH → List PH → Prop} (hd : o.dst = some d) (hb : Nat.blt d n = true) (hg : gOK ops l o.guard = some true)
    (h : ∀ a w, Ag n l a → Sat w0 w K hs → ∃ v w' K' hs', (execOp a.eval o).run P w = .ok (.value v) w' ∧ Sat w0 w' K' hs' ∧ R v K' hs')
    (hk : ∀ v K' hs', R v K' hs' → WL P w0 ops Q rest n ((d, v) :: l) K' hs') : WL P w0 ops Q (o :: rest) n l K hs := by
  intro a w ha hw
  obtain ⟨v, w', K', hs', hrun, hw', hR⟩ := h a w ha hw
  have h1 := gOK_wanted ha hg
  unfold wpList
  rw [if_pos h1]
  refine .inl ?_
  unfold Oper.wp
  rw [hrun]
  simp only [Oper.upon, hd]
  exact hk v K' hs' hR _ _ (ha.put hb) hw'
theorem WL.skp {o : Oper} {K' : PH} {hs' : List PH} (hd : o.dst = none) (hg : gOK ops l o.guard = some true)
    (h : ∀ a w, Ag n l a → Sat w0 w K hs → ∃ w', (execOp a.eval o).run P w = .ok .skip w' ∧ Sat w0 w' K' hs')
    (hk : WL P w0 ops Q rest n l K' hs') : WL P w0 ops Q (o :: rest) n l K hs := by
  intro a w ha hw
  obtain ⟨w', hrun, hw'⟩ := h a w ha hw
  have h1 := gOK_wanted ha hg
  unfold wpList
  rw [if_pos h1]
  refine .inl ?_
  unfold Oper.wp
  rw [hrun]
  simp only [Oper.upon, hd, Act.put]
  exact hk _ _ ha hw'
theorem WL.unwanted {o : Oper} {d : Nat} (hd : o.dst = some d) (hb : Nat.blt d n = true) (hg : gOK ops l o.guard = some false)
    (hk : WL P w0 ops Q rest n ((d, undef) :: l) K hs) : WL P w0 ops Q (o :: rest) n l K hs := by
  intro a w ha hw
  have h1 := gOK_wanted ha hg
  unfold wpList
  rw [if_neg (by simp [h1]), hd]
  exact hk _ _ (ha.put hb) hw
theorem WL.pure1 (hT : TabOK P T) {o : Oper} {d : Nat} {v : Value} (hd : o.dst = some d) (hb : Nat.blt d n = true) (hg : gOK ops l o.guard = some true) (hv : pureOp T l o.op = some v)
    (hk : WL P w0 ops Q rest n ((d, v) :: l) K hs) : WL P w0 ops Q (o :: rest) n l K hs :=
  WL.val (R := fun u K' hs' => u = v ∧ K' = K ∧ hs' = hs) hd hb hg (fun a w ha hw => ⟨v, w, K, hs, pureOp_run hT hv ha w, hw, rfl, rfl, rfl⟩)
    (fun u K' hs' ⟨h1, h2, h3⟩ => by subst h1; subst h2; subst h3; exact hk)
theorem WL.pures (hT : TabOK P T) : ∀ (k : Nat) {rest : List Oper} {l : Sl}, pureN T ops n k rest l = some (rest', l') → WL P w0 ops Q rest' n l' K hs → WL P w0 ops Q rest n l K hs
  | 0, rest, l, h, hk => by simp only [pureN, Option.some.injEq, Prod.mk.injEq] at h; obtain ⟨rfl, rfl⟩ := h; exact hk
  | k + 1, [], l, h, hk => by simp [pureN] at h
  | k + 1, o :: r, l, h, hk => by
    simp only [pureN] at h
    cases hd : o.dst with
    | none => simp [hd] at h
    | some d =>
      simp only [hd] at h
      cases hb : Nat.blt d n with
      | false => simp [hb] at h
      | true =>
        cases hg : gOK ops l o.guard with
        | none => simp [hb, hg] at h
        | some g =>
          cases g with
          | true =>
            simp only [hb, hg] at h
            cases hv : pureOp T l o.op with
            | none => simp [hv] at h
            | some v =>
              simp only [hv] at h
              exact WL.pure1 hT hd hb hg hv (WL.pures hT k h hk)
          | false =>
            simp only [hb, hg] at h
            exact WL.unwanted hd hb hg (WL.pures hT k h hk)
/-- the operation behind k pure ones -/
def opAt (T : Tab) (ops : Array Oper) (n k : Nat) (rest : List Oper) (l : Sl) : Option (Oper × List Oper × Sl) :=
  match pureN T ops n k rest l with
  | some (o :: r, l') => match gOK ops l' o.guard with
    | some true => some (o, r, l')
    | _ => none
  | _ => none
theorem WL.at' (hT : TabOK P T) {k : Nat} {o : Oper} (h : opAt T ops n k rest l = some (o, rest', l')) (hk : gOK ops l' o.guard = some true → WL P w0 ops Q (o :: rest') n l' K hs) : WL P w0 ops Q rest n l K hs := by
  unfold opAt at h
  split at h
  · rename_i o' r' l2 hp
    split at h
    · rename_i hg
      simp only [Option.some.injEq, Prod.mk.injEq] at h
      obtain ⟨rfl, rfl, rfl⟩ := h
      exact WL.pures hT k hp (hk hg)
    · simp at h
  · simp at h
/-- the value of the pure operation behind k others -/
def valAt (T : Tab) (ops : Array Oper) (n k : Nat) (rest : List Oper) (l : Sl) : Option (Nat × Value × List Oper × Sl) :=
  match opAt T ops n k rest l with
  | some (o, r, l') => match o.dst with
    | some d => match Nat.blt d n, pureOp T l' o.op with
      | true, some v => some (d, v, r, l')
      | _, _ => none
    | none => none
  | none => none
theorem valAt_spec {k d : Nat} {v : Value} (h : valAt T ops n k rest l = some (d, v, rest', l')) : ∃ o, opAt T ops n k rest l = some (o, rest', l') ∧ o.dst = some d ∧ Nat.blt d n = true ∧ pureOp T l' o.op = some v := by
  unfold valAt at h
  split at h
  · rename_i o r l2 ho
    split at h
    · rename_i d' hd
      split at h
      · rename_i hb hv
        simp only [Option.some.injEq, Prod.mk.injEq] at h
        obtain ⟨rfl, rfl, rfl, rfl⟩ := h
        exact ⟨o, ho, hd, hb, hv⟩
      · simp at h
    · simp at h
  · simp at h
/-- arithmetic: the value in another form -/
theorem ar (hT : TabOK P T) (k : Nat) {d : Nat} {v v' : Value} (h : valAt T ops n k rest l = some (d, v, rest', l')) (he : v = v') (hk : WL P w0 ops Q rest' n ((d, v') :: l') K hs) :
    WL P w0 ops Q rest n l K hs := by
  obtain ⟨o, ho, hd, hb, hv⟩ := valAt_spec h
  subst he
  exact WL.at' hT ho fun hg => WL.pure1 hT hd hb hg hv hk
/-- a test on numbers -/
def cmpP : BinOp → Int → Int → Option Prop
  | .lss, a, b => some (a < b)
  | .leq, a, b => some (a ≤ b)
  | .gtr, a, b => some (b < a)
  | .geq, a, b => some (b ≤ a)
  | .eql, a, b => some (a = b)
  | .neq, a, b => some (¬ a = b)
  | _, _, _ => none
def cmpAt (T : Tab) (ops : Array Oper) (n k : Nat) (rest : List Oper) (l : Sl) : Option (Nat × Prop × List Oper × Sl) :=
  match opAt T ops n k rest l with
  | some (o, r, l') => match o.dst, o.op with
    | some d, .binOp op _ x y _ => match Nat.blt d n, ev l' x, ev l' y with
      | true, some (.int k a), some (.int k' b) => match decide (k = k'), cmpP op a b with
        | true, some p => some (d, p, r, l')
        | _, _ => none
      | _, _, _ => none
    | _, _ => none
  | none => none
theorem cmp (hT : TabOK P T) (k : Nat) {d : Nat} {p : Prop} (h : cmpAt T ops n k rest l = some (d, p, rest', l'))
    (hy : p → WL P w0 ops Q rest' n ((d, .bool true) :: l') K hs) (hn : ¬ p → WL P w0 ops Q rest' n ((d, .bool false) :: l') K hs) : WL P w0 ops Q rest n l K hs := by
  unfold cmpAt at h
  split at h
  · rename_i o r l2 ho
    split at h
    · rename_i d' op ty x y ty' hd hop
      split at h
      · rename_i k1 a k2 b hb hx hy'
        split at h
        · rename_i p' hk hp
          simp only [Option.some.injEq, Prod.mk.injEq] at h
          obtain ⟨rfl, rfl, rfl, rfl⟩ := h
          have hk' : k1 = k2 := of_decide_eq_true hk
          subst hk'
          have key : ∀ b', pureBin op (.int k1 a) (.int k1 b) = some (.bool b') → (p' ↔ b' = true) → WL P w0 ops Q rest n l K hs := fun b' hb' hiff => by
            refine WL.at' hT ho fun hg => WL.pure1 hT hd hb hg (v := .bool b') (by rw [hop]; simp only [pureOp, hx, hy', hb']) ?_
            cases b' with
            | true => exact hy (hiff.2 rfl)
            | false => exact hn (fun hp' => by have := hiff.1 hp'; cases this)
          cases op <;> simp only [cmpP, Option.some.injEq, reduceCtorEq] at hp <;> subst hp
          · exact key (a == b) (by simp [pureBin]) (by simp)
          · exact key (a != b) (by simp [pureBin]) (by simp)
          · exact key (decide (a < b)) (by simp [pureBin]) (by simp)
          · exact key (decide (a ≤ b)) (by simp [pureBin]) (by simp)
          · exact key (decide (a > b)) (by simp [pureBin]) (by simp)
          · exact key (decide (a ≥ b)) (by simp [pureBin]) (by simp)
        · simp at h
      · simp at h
    · simp at h
  · simp at h
/-- a test that is a Bool -/
theorem cb (hT : TabOK P T) (k : Nat) {d : Nat} {b : Bool} (h : valAt T ops n k rest l = some (d, .bool b, rest', l'))
    (hy : b = true → WL P w0 ops Q rest' n ((d, .bool true) :: l') K hs) (hn : b = false → WL P w0 ops Q rest' n ((d, .bool false) :: l') K hs) : WL P w0 ops Q rest n l K hs := by
  cases b with
  | true => exact ar hT k h rfl (hy rfl)
  | false => exact ar hT k h rfl (hn rfl)
/-- the region's end -/
theorem fin (hT : TabOK P T) (k : Nat) (h : pureN T ops n k rest l = some ([], l')) (hk : WQ w0 Q .normal n l' K hs) : WL P w0 ops Q rest n l K hs :=
  WL.pures hT k h (nl hk)
end rules
end Go.En
