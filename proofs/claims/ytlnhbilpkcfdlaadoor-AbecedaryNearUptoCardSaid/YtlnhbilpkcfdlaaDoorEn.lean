/-
  An engine of small rules for stepping through a function: frames are lists of slots, memory is a list of owned partial heaps beside an immutable one. No program in sight.
  The rules of the engine: pure runs, tests, arithmetic, memory, calls.
  The rules of the engine on memory and calls.
  The rules of the engine: elements of slices, parts of slices, append, calls.
  The rules of the engine: other orders of the owned heaps; what is let go; numbers.
-/
import Derived.WalkKit
import Derived.ProofKit
import Derived.Deep.LoopGhost
set_option linter.unusedSimpArgs false
set_option linter.unusedVariables false
namespace Go.En

abbrev Sl := List (Nat × Value)
def look : Sl → Nat → Option Value
  | [], _ => none
  | (k, v) :: r, t => cond (Nat.beq k t) (some v) (look r t)

structure Ag (n : Nat) (l : Sl) (a : Act) : Prop where
  size : a.tmps.size = n
  defers : a.defers = []
  slot : ∀ t v, look l t = some v → a.tmps[t]? = some v

theorem Ag.put {n : Nat} {l : Sl} {a : Act} {d : Nat} {v : Value} (h : Ag n l a) (hd : Nat.blt d n = true) :
    Ag n ((d, v) :: l) (a.put (some d) v) := by
  have hd' : d < n := Nat.le_of_ble_eq_true hd
  refine ⟨by simp [Act.put, h.size], h.defers, fun t u hu => ?_⟩
  simp only [look] at hu
  cases e : Nat.beq d t with
  | true =>
    have : d = t := Nat.eq_of_beq_eq_true e
    subst this
    rw [e] at hu
    simp only [cond_true, Option.some.injEq] at hu
    subst hu
    simp [Act.put, h.size, hd']
  | false =>
    rw [e] at hu
    simp only [cond_false] at hu
    have hne : d ≠ t := Nat.ne_of_beq_eq_false e
    rw [← h.slot t u hu]
    simp [Act.put, hne]

def ev (l : Sl) : Operand → Option Value
  | .tmp t => look l t
  | .const v => some v
  | .global g => some (.pointer (some ⟨g, 0, none⟩))
  | .func f => some (.func (.func f) #[] #[])

theorem Ag.ev {n : Nat} {l : Sl} {a : Act} (h : Ag n l a) {x : Operand} {v : Value} (hx : ev l x = some v) : a.eval x = v := by
  cases x with
  | tmp t => simp [Act.eval, h.slot t v hx]
  | const u => simpa [En.ev, Act.eval] using hx
  | global g => simpa [En.ev, Act.eval] using hx
  | func f => simpa [En.ev, Act.eval] using hx

/-- a frame that knows less -/
def Sub (l : Sl) : Sl → Prop
  | [] => True
  | (k, v) :: r => look l k = some v ∧ Sub l r
theorem Sub.look {l : Sl} : ∀ {l2 : Sl}, Sub l l2 → ∀ t v, look l2 t = some v → look l t = some v
  | [], _, t, v, h => by simp [En.look] at h
  | (k, u) :: r, hs, t, v, h => by
    simp only [En.look] at h
    cases e : Nat.beq k t with
    | true =>
      have : k = t := Nat.eq_of_beq_eq_true e
      subst this
      rw [e] at h
      simp only [cond_true, Option.some.injEq] at h
      subst h
      exact hs.1
    | false =>
      rw [e] at h
      exact Sub.look hs.2 t v h
theorem Ag.sub {n : Nat} {l l2 : Sl} {a : Act} (h : Ag n l a) (hs : Sub l l2) : Ag n l2 a :=
  ⟨h.size, h.defers, fun t v ht => h.slot t v (hs.look t v ht)⟩

/-! Memory. -/
abbrev PH := Nat → Option Obj
structure Sat (w0 w : World) (K : PH) (hs : List PH) : Prop where
  os : w.os = w0.os
  tape : w.tape = w0.tape
  output : w.output = w0.output
  size : w0.heap.size ≤ w.heap.size
  imm : ∀ b o, K b = some o → w.heap[b]? = some o
  own : ∀ (i : Nat) h, hs[i]? = some h → ∀ b o, h b = some o → w.heap[b]? = some o
  apart : ∀ (i : Nat) h, hs[i]? = some h → ∀ b o, h b = some o → K b = none
  sep : ∀ (i j : Nat) h h', hs[i]? = some h → hs[j]? = some h' → i ≠ j → ∀ b o, h b = some o → h' b = none

theorem Sat.drew {w0 w : World} {K : PH} {hs : List PH} (h : Sat w0 w K hs) : Sat w0 w.drew K hs :=
  ⟨h.os, h.tape, h.output, h.size, h.imm, h.own, h.apart, h.sep⟩
theorem Sat.dropHead {w0 w : World} {K : PH} {h : PH} {hs : List PH} (s : Sat w0 w K (h :: hs)) : Sat w0 w K hs :=
  ⟨s.os, s.tape, s.output, s.size, s.imm, fun i x hx => s.own (i + 1) x (by simpa using hx), fun i x hx => s.apart (i + 1) x (by simpa using hx),
    fun i j x y hx hy hij => s.sep (i + 1) (j + 1) x y (by simpa using hx) (by simpa using hy) (by omega)⟩

def WL (P : Program) (w0 : World) (ops : Array Oper) (Q : Exit → Act → World → Prop) (rest : List Oper) (n : Nat) (l : Sl) (K : PH) (hs : List PH) : Prop :=
  ∀ a w, Ag n l a → Sat w0 w K hs → wpList P ops Q rest a w
def WC (P : Program) (w0 : World) (c : Code) (Q : Exit → Act → World → Prop) (n : Nat) (l : Sl) (K : PH) (hs : List PH) : Prop :=
  ∀ a w, Ag n l a → Sat w0 w K hs → c.wp P Q a w
def WQ (w0 : World) (Q : Exit → Act → World → Prop) (e : Exit) (n : Nat) (l : Sl) (K : PH) (hs : List PH) : Prop :=
  ∀ a w, Ag n l a → Sat w0 w K hs → Q e a w

section code
variable {P : Program} {w0 : World} {Q : Exit → Act → World → Prop} {n : Nat} {l : Sl} {K : PH} {hs : List PH}
theorem sq {x y : Code} (h : WC P w0 x (Exit.then (y.wp P Q) Q) n l K hs) : WC P w0 (.seq x y) Q n l K hs :=
  fun a w ha hw => wp_seq (h a w ha hw)
theorem rg {id : Nat} {o : List Oper} (h : WL P w0 o.toArray Q o n l K hs) : WC P w0 (.region id o.toArray false) Q n l K hs :=
  fun a w ha hw => wp_region_lit (h a w ha hw)
theorem bk {id : Nat} {c : Code} (h : WC P w0 c (Exit.inBlock id Q) n l K hs) : WC P w0 (.block id c) Q n l K hs :=
  fun a w ha hw => wp_block (h a w ha hw)
theorem ex {id : Nat} (h : WQ w0 Q (.exit id) n l K hs) : WC P w0 (.exit id) Q n l K hs :=
  fun a w ha hw => wp_exit (h a w ha hw)
theorem rt (h : WQ w0 Q .ret n l K hs) : WC P w0 .ret Q n l K hs :=
  fun a w ha hw => wp_ret (h a w ha hw)
theorem sk (h : WQ w0 Q .normal n l K hs) : WC P w0 .skip Q n l K hs :=
  fun a w ha hw => wp_skip (h a w ha hw)
theorem ifT {c : Operand} {x y : Code} (hc : ev l c = some (.bool true)) (h : WC P w0 x Q n l K hs) : WC P w0 (.cond c x y) Q n l K hs :=
  fun a w ha hw => wp_cond_true (ha.ev hc) (h a w ha hw)
theorem ifF {c : Operand} {x y : Code} (hc : ev l c = some (.bool false)) (h : WC P w0 y Q n l K hs) : WC P w0 (.cond c x y) Q n l K hs :=
  fun a w ha hw => wp_cond_false (ha.ev hc) (h a w ha hw)
theorem ifB {c : Operand} {x y : Code} {b : Bool} (hc : ev l c = some (.bool b)) (h : b = true → WC P w0 x Q n l K hs) (h' : b = false → WC P w0 y Q n l K hs) :
    WC P w0 (.cond c x y) Q n l K hs :=
  fun a w ha hw => wp_cond_split (ha.ev hc) (fun e => h e a w ha hw) (fun e => h' e a w ha hw)
/-! what comes behind -/
theorem nl {ops : Array Oper} (h : WQ w0 Q .normal n l K hs) : WL P w0 ops Q [] n l K hs := fun a w ha hw => wpList_nil (h a w ha hw)
theorem th {y : Code} {Q' : Exit → Act → World → Prop} (h : WC P w0 y Q n l K hs) : WQ w0 (Exit.then (y.wp P Q) Q') .normal n l K hs := h
theorem bl {id : Nat} (h : WQ w0 Q .normal n l K hs) : WQ w0 (Exit.inBlock id Q) .normal n l K hs := h
theorem xt {id : Nat} {N : Act → World → Prop} (h : WQ w0 Q (.exit id) n l K hs) : WQ w0 (Exit.then N Q) (.exit id) n l K hs := h
theorem xb {id : Nat} (h : WQ w0 Q .normal n l K hs) : WQ w0 (Exit.inBlock id Q) (.exit id) n l K hs := fun a w ha hw => by
  simpa [Exit.inBlock] using h a w ha hw
theorem xn {id id' : Nat} (hne : Nat.beq id' id = false) (h : WQ w0 Q (.exit id') n l K hs) : WQ w0 (Exit.inBlock id Q) (.exit id') n l K hs := fun a w ha hw => by
  have : id' ≠ id := Nat.ne_of_beq_eq_false hne
  simpa [Exit.inBlock, this] using h a w ha hw
theorem rT {N : Act → World → Prop} (h : WQ w0 Q .ret n l K hs) : WQ w0 (Exit.then N Q) .ret n l K hs := h
theorem rB {id : Nat} (h : WQ w0 Q .ret n l K hs) : WQ w0 (Exit.inBlock id Q) .ret n l K hs := h
theorem WC.sub {c : Code} {l2 : Sl} (hs' : Sub l l2) (h : WC P w0 c Q n l2 K hs) : WC P w0 c Q n l K hs := fun a w ha hw => h a w (ha.sub hs') hw
/-- a loop: 'x' is what a round's head is like; its frame, its memory; a measure. -/
theorem loop {σ : Type} {body : Code} (F : σ → Sl) (HK : σ → PH) (H : σ → List PH) (J : σ → Prop) (μ : σ → Nat) (x0 : σ) (h0 : J x0) (hF : Sub l (F x0)) (hK : K = HK x0) (hH : hs = H x0)
    (round : ∀ x, J x → WC P w0 body (Exit.then (fun a w => ∃ x', J x' ∧ μ x' < μ x ∧ Ag n (F x') a ∧ Sat w0 w (HK x') (H x')) Q) n (F x) (HK x) (H x)) :
    WC P w0 (.loop body) Q n l K hs := fun a w ha hw => by
  subst hK
  subst hH
  refine wp_loop_ghost (fun m a w => ∃ x, J x ∧ μ x = m ∧ Ag n (F x) a ∧ Sat w0 w (HK x) (H x)) (μ x0) ⟨x0, h0, rfl, ha.sub hF, hw⟩ ?_
  rintro m a w ⟨x, hJ, rfl, hA, hS⟩
  refine wp_mono (round x hJ a w hA hS) ?_
  intro e a' w' hq
  cases e with
  | normal =>
    obtain ⟨x', h1, h2, h3, h4⟩ := hq
    exact ⟨μ x', h2, x', h1, rfl, h3, h4⟩
  | exit id => exact hq
  | goto l => exact hq
  | ret => exact hq
  | panic ch => exact hq
  | outgrown => exact hq
/-- a round's end -/
theorem again {σ : Type} {F : σ → Sl} {HK : σ → PH} {H : σ → List PH} {J : σ → Prop} {μ : σ → Nat} {x : σ} {Q' : Exit → Act → World → Prop} (x' : σ) (hF : Sub l (F x')) (hK : K = HK x') (hH : hs = H x')
    (h1 : J x') (h2 : μ x' < μ x) : WQ w0 (Exit.then (fun a w => ∃ x', J x' ∧ μ x' < μ x ∧ Ag n (F x') a ∧ Sat w0 w (HK x') (H x')) Q') .normal n l K hs := fun a w ha hw => by
  subst hK
  subst hH
  exact ⟨x', h1, h2, ha.sub hF, hw⟩
end code

/-! Functions. -/
def callable (P : Program) (f : FuncId) : Bool := match P.funcs[f]? with
  | some fn => fn.body.isSome && !(fn.name == "runtime.NumGoroutine")
  | none => false
def endR (w0 : World) (R : Value → PH → List PH → Prop) : Ending → World → Prop := fun e w' => ∃ v K' hs', e = .returned v ∧ R v K' hs' ∧ Sat w0 w' K' hs'
/-- what a call comes to -/
def Ct (P : Program) (w0 : World) (f : FuncId) (args : List Value) (K : PH) (hs : List PH) (R : Value → PH → List PH → Prop) : Prop :=
  callable P f = true ∧ ∀ w, Sat w0 w K hs → Calls P f args.toArray w (endR w0 R)
theorem Ct.mono {P : Program} {w0 : World} {f : FuncId} {args : List Value} {K : PH} {hs : List PH} {R R' : Value → PH → List PH → Prop} (h : Ct P w0 f args K hs R) (hr : ∀ v K' hs', R v K' hs' → R' v K' hs') :
    Ct P w0 f args K hs R' :=
  ⟨h.1, fun w hw => (h.2 w hw).mono fun _ _ ⟨v, K', hs', h1, h2, h3⟩ => ⟨v, K', hs', h1, hr _ _ _ h2, h3⟩⟩
def params : Nat → List Value → Sl
  | _, [] => []
  | i, v :: r => (i, v) :: params (i + 1) r
theorem look_params : ∀ (args : List Value) (i t : Nat) (v : Value), look (params i args) t = some v → i ≤ t ∧ args[t - i]? = some v
  | [], i, t, v, h => by simp [params, look] at h
  | u :: r, i, t, v, h => by
    simp only [params, look] at h
    cases e : Nat.beq i t with
    | true =>
      have : i = t := Nat.eq_of_beq_eq_true e
      subst this
      rw [e] at h
      simp only [cond_true, Option.some.injEq] at h
      simp [h]
    | false =>
      rw [e] at h
      obtain ⟨h1, h2⟩ := look_params r (i + 1) t v h
      refine ⟨by omega, ?_⟩
      rw [show t - i = (t - (i + 1)) + 1 from by omega]
      simpa using h2
theorem enter {P : Program} {w0 : World} {f : FuncId} {fn : Func} {c : Code} {n : Nat} {args : List Value} {K : PH} {hs : List PH} {R : Value → PH → List PH → Prop}
    (hf : P.funcs[f]? = some fn) (hcal : callable P f = true) (hb : fn.body = some c) (hn : fn.ntmps = n) (hl : Nat.ble args.length n = true)
    (h : WC P w0 c (bodyPost P fn (endR w0 R)) n (params 0 args) K hs) : Ct P w0 f args K hs R := by
  refine ⟨hcal, fun w hw => calls_of_wp hf hb (h _ w ⟨?_, rfl, ?_⟩ hw)⟩
  · have := Nat.le_of_ble_eq_true hl
    simp [hn]
    omega
  · intro t v ht
    obtain ⟨h1, h2⟩ := look_params args 0 t v ht
    have h3 : args[t]? = some v := by simpa using h2
    have h4 : t < args.length := (List.getElem?_eq_some_iff.1 h3).1
    have h5 : args[t] = v := by rw [List.getElem?_eq_getElem h4] at h3; exact Option.some.inj h3
    simp [Array.getElem?_append, h4, h5]
section ret
variable {P : Program} {w0 : World} {fn : Func} {R : Value → PH → List PH → Prop} {n : Nat} {l : Sl} {K : PH} {hs : List PH}
theorem ret0 (hr : fn.results = #[]) (h : R (.tuple #[]) K hs) : WQ w0 (bodyPost P fn (endR w0 R)) .ret n l K hs :=
  fun _ _ ha hw => bodyPost_ret (results_none hr _ _ _) ha.defers ⟨_, _, _, rfl, h, hw⟩
theorem end0 (hr : fn.results = #[]) (h : R (.tuple #[]) K hs) : WQ w0 (bodyPost P fn (endR w0 R)) .normal n l K hs :=
  fun _ _ ha hw => bodyPost_end (results_none hr _ _ _) ha.defers ⟨_, _, _, rfl, h, hw⟩
theorem ret1 {t : Nat} {v : Value} (hr : fn.results = #[.tmp t]) (hv : look l t = some v) (h : R v K hs) : WQ w0 (bodyPost P fn (endR w0 R)) .ret n l K hs :=
  fun _ _ ha hw => bodyPost_ret (results_tmp hr _ _ _) ha.defers ⟨_, _, _, rfl, by simpa [ha.slot t v hv] using h, hw⟩
theorem ret2 {t u : Nat} {v x : Value} (hr : fn.results = #[.tmp t, .tmp u]) (hv : look l t = some v) (hx : look l u = some x) (h : R (.tuple #[v, x]) K hs) : WQ w0 (bodyPost P fn (endR w0 R)) .ret n l K hs :=
  fun _ _ ha hw => bodyPost_ret (results_tmp2 hr _ _ _) ha.defers ⟨_, _, _, rfl, by simpa [ha.slot t v hv, ha.slot u x hx] using h, hw⟩
theorem ret3 {t u s : Nat} {v x y : Value} (hr : fn.results = #[.tmp t, .tmp u, .tmp s]) (hv : look l t = some v) (hx : look l u = some x) (hy : look l s = some y) (h : R (.tuple #[v, x, y]) K hs) :
    WQ w0 (bodyPost P fn (endR w0 R)) .ret n l K hs :=
  fun _ _ ha hw => bodyPost_ret (v := .tuple #[v, x, y]) (by simp [results, hr, ha.slot t v hv, ha.slot u x hx, ha.slot s y hy, go_sem]) ha.defers ⟨_, _, _, rfl, h, hw⟩
end ret

/-! One operation. -/
def gOK (ops : Array Oper) (l : Sl) : Option (Nat × Bool) → Option Bool
  | none => some true
  | some (j, want) => match ops[j]? with
    | some o => match o.dst with
      | some d => match look l d with
        | some (.bool b) => some (b == want)
        | some (.tuple _) => some false
        | _ => none
      | none => none
    | none => none
theorem gOK_wanted {ops : Array Oper} {n : Nat} {l : Sl} {a : Act} {o : Oper} {b : Bool} (ha : Ag n l a) (h : gOK ops l o.guard = some b) : Region.wanted o (yielded ops a.tmps) = b := by
  unfold gOK at h
  unfold Region.wanted
  split at h
  · rename_i e; simp [e] at *; exact h
  · rename_i j want e
    rw [e]
    simp only
    cases hj : ops[j]? with
    | none => simp [hj] at h
    | some oj =>
      simp only [hj] at h
      cases hd : oj.dst with
      | none => simp [hd] at h
      | some d =>
        simp only [hd] at h
        cases hl : look l d with
        | none => simp [hl] at h
        | some v =>
          simp only [hl] at h
          have h4 := ha.slot d _ hl
          cases v <;> simp at h
          · simp [yielded, hj, hd, h4, ← h]
          · simp [yielded, hj, hd, h4, ← h]

/-! The pure operations. -/
inductive UK where
  | int (k : IntKind) | bool | str | slice | ptr | map | fn | other
def UK.fits : UK → TypeDesc → Bool
  | .int k, .int k' => k == k'
  | .bool, .bool => true
  | .str, .string => true
  | .slice, .slice _ => true
  | .ptr, .pointer _ => true
  | .map, .map _ _ => true
  | .fn, .func _ _ _ => true
  | .other, _ => true
  | _, _ => false
def asc {α : Type} : List (Nat × α) → Nat → Option α
  | [], _ => none
  | (k, v) :: r, t => cond (Nat.beq k t) (some v) (asc r t)
theorem asc_mem {α : Type} : ∀ (l : List (Nat × α)) (t : Nat) (v : α), asc l t = some v → (t, v) ∈ l
  | [], _, _, h => by simp [asc] at h
  | (k, u) :: r, t, v, h => by
    simp only [asc] at h
    cases e : Nat.beq k t with
    | true =>
      have : k = t := Nat.eq_of_beq_eq_true e
      subst this
      rw [e] at h
      simp only [cond_true, Option.some.injEq] at h
      simp [h]
    | false =>
      rw [e] at h
      exact List.mem_cons_of_mem _ (asc_mem r t v h)
/-- what of a program's types the pure steps look at: kinds of types; where a struct's field lies (struct * 64 + field) -/
structure SlI where
  elem : Nat
  size : Nat
  bytes : Nat
  zero : Value
structure Tab where
  kinds : List (Nat × UK)
  flds : List (Nat × Nat)
  sls : List (Nat × SlI)
def UK.one : UK → Bool
  | .other => false
  | _ => true
def Tab.kindOK (P : Program) (x : Nat × UK) : Bool := match P.underlying x.1 with
  | some d => x.2.fits d && (!x.2.one || (match P.info? x.1 with | some i => i.size == 1 | none => false))
  | none => false
def slInfo (P : Program) (t : Nat) : Option SlI := match P.underlying t with
  | some (.slice e) => match P.info? e with
    | some i => match i.zero with
      | some z => some ⟨e, i.size, i.bytes, z⟩
      | none => none
    | none => none
  | _ => none
def Tab.fldOK (P : Program) (x : Nat × Nat) : Bool := match P.underlying (x.1 / 64) with
  | some (.struct fs) => match fs[x.1 % 64]? with
    | some fd => fd.offset == x.2 && (match P.info? fd.type with | some i => i.size != 0 | none => false)
    | none => false
  | _ => false
structure TabOK (P : Program) (T : Tab) : Prop where
  kinds : T.kinds.all (Tab.kindOK P) = true
  flds : T.flds.all (Tab.fldOK P) = true
  sls : T.sls.map (fun x => slInfo P x.1) = T.sls.map (fun x => some x.2)
theorem TabOK.sl {P : Program} {T : Tab} (h : TabOK P T) {t : Nat} {s : SlI} (hs : asc T.sls t = some s) :
    P.underlying t = some (.slice s.elem) ∧ ∃ i, P.info? s.elem = some i ∧ i.zero = some s.zero ∧ i.size = s.size ∧ i.bytes = s.bytes := by
  have h1 : slInfo P t = some s := by
    have := asc_mem _ _ _ hs
    obtain ⟨k, hk⟩ := List.getElem?_of_mem this
    have h2 := congrArg (fun l => l[k]?) h.sls
    simpa [hk] using h2
  unfold slInfo at h1
  split at h1
  · rename_i e he
    split at h1
    · rename_i i hi
      split at h1
      · rename_i z hz
        simp only [Option.some.injEq] at h1
        subst h1
        exact ⟨he, i, hi, hz, rfl, rfl⟩
      · simp at h1
    · simp at h1
  · simp at h1
theorem TabOK.one {P : Program} {T : Tab} (h : TabOK P T) {t : Nat} {k : UK} (hk : asc T.kinds t = some k) (h1 : k.one = true) : ∃ d i, P.underlying t = some d ∧ P.info? t = some i ∧ i.size = 1 ∧ k.fits d = true := by
  have := List.all_eq_true.1 h.kinds _ (asc_mem _ _ _ hk)
  unfold Tab.kindOK at this
  cases e : P.underlying t with
  | none => simp [e] at this
  | some d =>
    simp only [e, h1, Bool.not_true, Bool.false_or, Bool.and_eq_true] at this
    obtain ⟨h2, h3⟩ := this
    cases e2 : P.info? t with
    | none => simp [e2] at h3
    | some i => exact ⟨d, i, rfl, rfl, by simpa [e2] using h3, h2⟩
theorem TabOK.kind {P : Program} {T : Tab} (h : TabOK P T) {t : Nat} {k : UK} (hk : asc T.kinds t = some k) : ∃ d, P.underlying t = some d ∧ k.fits d = true := by
  have := List.all_eq_true.1 h.kinds _ (asc_mem _ _ _ hk)
  unfold Tab.kindOK at this
  cases e : P.underlying t with
  | none => simp [e] at this
  | some d =>
    simp only [e, Bool.and_eq_true] at this
    exact ⟨d, rfl, this.1⟩
theorem TabOK.int {P : Program} {T : Tab} (h : TabOK P T) {t : Nat} {k : IntKind} (hk : asc T.kinds t = some (.int k)) : P.underlying t = some (.int k) := by
  obtain ⟨d, h1, h2⟩ := h.kind hk
  cases d <;> simp [UK.fits] at h2
  subst h2
  exact h1
theorem TabOK.fld {P : Program} {T : Tab} (h : TabOK P T) {s f off : Nat} (hf : Nat.blt f 64 = true) (hk : asc T.flds (s * 64 + f) = some off) (a : Addr) (w : World) :
    (Instr.fieldAt s (.pointer (some a)) f).run P w = .ok (.pointer (some (a.add off))) w := by
  have := List.all_eq_true.1 h.flds _ (asc_mem _ _ _ hk)
  have hf' : f < 64 := Nat.le_of_ble_eq_true hf
  unfold Tab.fldOK at this
  rw [show (s * 64 + f, off).1 / 64 = s from by simp; omega, show (s * 64 + f, off).1 % 64 = f from by simp; omega] at this
  cases e : P.underlying s with
  | none => simp [e] at this
  | some d =>
    cases d <;> simp [e] at this
    rename_i fs
    cases e2 : fs[f]? with
    | none => simp [e2] at this
    | some fd =>
      simp only [e2, Bool.and_eq_true, beq_iff_eq] at this
      obtain ⟨h1, h2⟩ := this
      cases e3 : P.info? fd.type with
      | none => simp [e3] at h2
      | some i =>
        have h3 : ¬ i.size = 0 := by simpa [e3] using h2
        simp [Instr.fieldAt, run_underlying e, e2, Instr.sureAddr, fieldPlace, sizeOf, typeInfo, e3, h3, h1, go_sem]
def pureBin (op : BinOp) (u v : Value) : Option Value :=
  match u, v with
  | .int k a, .int k' b => match op with
    | .shl => cond (decide (0 ≤ b)) (some (.int k (k.wrap (a * 2 ^ (min b.toNat k.bits))))) none
    | .shr => cond (decide (0 ≤ b)) (some (.int k (a.fdiv (2 ^ (min b.toNat k.bits))))) none
    | op => cond (decide (k = k')) (match op with
      | .add => some (.int k (k.wrap (a + b)))
      | .sub => some (.int k (k.wrap (a - b)))
      | .mul => some (.int k (k.wrap (a * b)))
      | .quo => cond (decide (b = 0)) none (some (.int k (k.wrap (a.tdiv b))))
      | .rem => cond (decide (b = 0)) none (some (.int k (a.tmod b)))
      | .and => some (.int k (k.wrap (BitVec.ofInt k.bits a &&& BitVec.ofInt k.bits b).toNat))
      | .or => some (.int k (k.wrap (BitVec.ofInt k.bits a ||| BitVec.ofInt k.bits b).toNat))
      | .xor => some (.int k (k.wrap (BitVec.ofInt k.bits a ^^^ BitVec.ofInt k.bits b).toNat))
      | .andNot => some (.int k (k.wrap (BitVec.ofInt k.bits a &&& ~~~BitVec.ofInt k.bits b).toNat))
      | .eql => some (.bool (a == b))
      | .neq => some (.bool (a != b))
      | .lss => some (.bool (decide (a < b)))
      | .leq => some (.bool (decide (a ≤ b)))
      | .gtr => some (.bool (decide (a > b)))
      | .geq => some (.bool (decide (a ≥ b)))
      | _ => none) none
  | .string a, .string b => match op with
    | .eql => some (.bool (a.toList == b.toList))
    | .neq => some (.bool !(a.toList == b.toList))
    | _ => none
  | _, _ => none
def eqNil (T : Tab) (t : Nat) (op : BinOp) (u v : Value) : Option Value :=
  match op, asc T.kinds t, u, v with
  | .eql, some .ptr, .pointer a, .pointer none => some (.bool a.isNone)
  | .neq, some .ptr, .pointer a, .pointer none => some (.bool !a.isNone)
  | .eql, some .slice, .slice a _ _, .slice none _ _ => some (.bool a.isNone)
  | .neq, some .slice, .slice a _ _, .slice none _ _ => some (.bool !a.isNone)
  | .eql, some .map, .map a, .map none => some (.bool a.isNone)
  | .neq, some .map, .map a, .map none => some (.bool !a.isNone)
  | .eql, some .bool, .bool a, .bool b => some (.bool (a == b))
  | .neq, some .bool, .bool a, .bool b => some (.bool !(a == b))
  | _, _, _, _ => none
def pureUn (op : UnOp) (u : Value) : Option Value :=
  match op, u with
  | .not, .bool b => some (.bool !b)
  | .neg, .int k n => some (.int k (k.wrap (0 - n)))
  | .xor, .int k n => some (.int k (k.wrap (BitVec.ofInt k.bits (if k.signed then -1 else k.max) ^^^ BitVec.ofInt k.bits n).toNat))
  | _, _ => none
def pureLen (T : Tab) (t : Nat) (u : Value) : Option Value :=
  match u with
  | .slice _ n _ => match asc T.kinds t with | some .slice => some (.int .i64 n) | _ => none
  | .string s => match asc T.kinds t with | some .str => some (.int .i64 s.size) | _ => none
  | _ => none
def pureOp (T : Tab) (l : Sl) : Op → Option Value
  | .move x | .assign x => ev l x
  | .pick c a b => match ev l c with
    | some (.bool c') => cond c' (ev l a) (ev l b)
    | _ => none
  | .nilCheck x => match ev l x with
    | some (.pointer (some a)) => some (.pointer (some a))
    | some (.func (.func f) first captured) => some (.func (.func f) first captured)
    | _ => none
  | .binOp op t x y _ => match ev l x, ev l y with
    | some u, some v => match pureBin op u v with
      | some r => some r
      | none => eqNil T t op u v
    | _, _ => none
  | .unOp op _ x => match ev l x with
    | some u => pureUn op u
    | none => none
  | .extract t i => match ev l t with
    | some (.tuple vs) => vs[i]?
    | _ => none
  | .convert s d x => match asc T.kinds s, ev l x, asc T.kinds d with
    | some _, some (.int _ n), some (.int k) => some (.int k (k.wrap n))
    | _, _, _ => none
  | .fieldAddr s x f => match ev l x with
    | some (.pointer (some a)) => match Nat.blt f 64, asc T.flds (s * 64 + f) with
      | true, some off => some (.pointer (some (a.add off)))
      | _, _ => none
    | _ => none
  | .call { callee := .builtin .len, args, argTypes } => match args.toList, argTypes.toList with
    | [x], [t] => match ev l x with
      | some u => pureLen T t u
      | none => none
    | _, _ => none
  | .call { callee := .builtin .max, args, .. } => match args.toList with
    | [x, y] => match ev l x, ev l y with
      | some (.int k a), some (.int _ b) => some (.int k (if b > a then b else a))
      | _, _ => none
    | _ => none
  | .call { callee := .builtin .min, args, .. } => match args.toList with
    | [x, y] => match ev l x, ev l y with
      | some (.int k a), some (.int _ b) => some (.int k (if b < a then b else a))
      | _, _ => none
    | [x, y, z] => match ev l x, ev l y, ev l z with
      | some (.int k a), some (.int _ b), some (.int _ c) => some (.int k (if c < (if b < a then b else a) then c else (if b < a then b else a)))
      | _, _, _ => none
    | [x, y, z, u] => match ev l x, ev l y, ev l z, ev l u with
      | some (.int k a), some (.int _ b), some (.int _ c), some (.int _ d) => some (.int k (if d < (if c < (if b < a then b else a) then c else (if b < a then b else a)) then d else (if c < (if b < a then b else a) then c else (if b < a then b else a))))
      | _, _, _, _ => none
    | _ => none
  | .makeFunc fn first captured => match first.toList, captured.toList.mapM (ev l) with
    | [], some vs => some (.func fn #[] vs.toArray)
    | _, _ => none
  | _ => none

theorem pureBin_run {P : Program} {op : BinOp} {u v r : Value} (h : pureBin op u v = some r) (t : TypeId) (w : World) : (binOp op t u v).run P w = .ok r w := by
  unfold pureBin at h
  split at h
  · rename_i k a k' b
    split at h
    · cases e : decide (0 ≤ b) with
      | false => simp [e] at h
      | true =>
        rw [e] at h
        simp only [cond_true, Option.some.injEq] at h
        subst h
        have hb : ¬ b < 0 := by have := of_decide_eq_true e; omega
        simp [binOp, Op.shift, hb, go_sem]
    · cases e : decide (0 ≤ b) with
      | false => simp [e] at h
      | true =>
        rw [e] at h
        simp only [cond_true, Option.some.injEq] at h
        subst h
        have hb : ¬ b < 0 := by have := of_decide_eq_true e; omega
        simp [binOp, Op.shift, hb, go_sem]
    · by_cases hk : k = k'
      · subst hk
        simp only [decide_true, cond_true] at h
        split at h <;> first
          | (simp only [Option.some.injEq] at h; subst h; simp [binOp, Op.intArith, Op.intBits, Op.intCmp, go_sem]; done)
          | (by_cases hb : b = 0
             · simp [hb] at h
             · simp only [hb, decide_false, cond_false, Option.some.injEq] at h; subst h; simp [binOp, Op.intDiv, hb, go_sem])
          | (simp at h; done)
      · simp [hk] at h
  · split at h <;> first
      | (simp only [Option.some.injEq] at h; subst h; simp [binOp, Op.stringOp, go_sem]; done)
      | (simp at h; done)
  · simp at h
theorem pureUn_run {P : Program} {op : UnOp} {u r : Value} (h : pureUn op u = some r) (w : World) : (Op.unary op u).run P w = .ok r w := by
  unfold pureUn at h
  split at h <;> first
    | (simp only [Option.some.injEq] at h; subst h; simp [Op.unary, Op.intArith, Op.intBits, go_sem]; done)
    | (simp at h; done)
theorem pureLen_run {P : Program} {T : Tab} (hT : TabOK P T) {t : Nat} {u r : Value} (h : pureLen T t u = some r) (ty : TypeId) (w : World) : (Builtin.len_ #[t] ty #[u]).run P w = .ok r w := by
  unfold pureLen at h
  split at h
  · split at h
    · rename_i e
      obtain ⟨d, h1, h2⟩ := hT.kind e
      cases d <;> simp [UK.fits] at h2
      simp only [Option.some.injEq] at h
      subst h
      simp [Builtin.len_, run_underlying h1, goInt, go_sem]
    · simp at h
  · split at h
    · rename_i e
      obtain ⟨d, h1, h2⟩ := hT.kind e
      cases d <;> simp [UK.fits] at h2
      simp only [Option.some.injEq] at h
      subst h
      simp [Builtin.len_, run_underlying h1, goInt, go_sem]
    · simp at h
  · simp at h
theorem eqGuard_plain {P : Program} {op : BinOp} {u v r : Value} (h : pureBin op u v = some r) (t : TypeId) (x y : Operand) (w : World) : (eqGuard op t x y u v).run P w = .ok () w := by
  unfold pureBin at h
  unfold eqGuard
  split at h
  · split <;> simp [go_sem]
  · split <;> simp [go_sem]
  · simp at h
theorem run_equal {P : Program} {t : Nat} {u v : Value} {b : Bool} {w : World} (h : ∀ d, (Op.equalIn (d + 1) t u v).run P w = .ok b w) : (Op.equal t u v).run P w = .ok b w := h 9999
theorem run_equalIn_nil {P : Program} {T : Tab} (hT : TabOK P T) {t : Nat} {op : BinOp} {u v r : Value} (h : eqNil T t op u v = some r) (x y : Operand) (w : World) :
    (eqGuard op t x y u v).run P w = .ok () w ∧ (binOp op t u v).run P w = .ok r w := by
  unfold eqNil at h
  split at h
  · rename_i e
    obtain ⟨d, h1, h2⟩ := hT.kind e
    cases d <;> simp [UK.fits] at h2
    simp only [Option.some.injEq] at h
    subst h
    rename_i a _
    cases a <;> exact ⟨by simp [eqGuard], by simp only [binOp]; rw [Sem.run_bind, run_equal (fun d => by simp [Op.equalIn, run_underlying h1]; try rfl)]; rfl⟩
  · rename_i e
    obtain ⟨d, h1, h2⟩ := hT.kind e
    cases d <;> simp [UK.fits] at h2
    simp only [Option.some.injEq] at h
    subst h
    rename_i a _
    cases a <;> exact ⟨by simp [eqGuard], by simp only [binOp]; rw [Sem.run_bind, run_equal (fun d => by simp [Op.equalIn, run_underlying h1]; try rfl)]; rfl⟩
  · rename_i a _ _ _ _ e
    obtain ⟨d, h1, h2⟩ := hT.kind e
    cases d <;> simp [UK.fits] at h2
    simp only [Option.some.injEq] at h
    subst h
    cases a <;> exact ⟨by simp [eqGuard], by simp only [binOp]; rw [Sem.run_bind, run_equal (fun d => by simp [Op.equalIn, run_underlying h1]; try rfl)]; rfl⟩
  · rename_i a _ _ _ _ e
    obtain ⟨d, h1, h2⟩ := hT.kind e
    cases d <;> simp [UK.fits] at h2
    simp only [Option.some.injEq] at h
    subst h
    cases a <;> exact ⟨by simp [eqGuard], by simp only [binOp]; rw [Sem.run_bind, run_equal (fun d => by simp [Op.equalIn, run_underlying h1]; try rfl)]; rfl⟩
  · rename_i e
    obtain ⟨d, h1, h2⟩ := hT.kind e
    cases d <;> simp [UK.fits] at h2
    simp only [Option.some.injEq] at h
    subst h
    rename_i a _ _
    cases a <;> exact ⟨by simp [eqGuard], by simp only [binOp]; rw [Sem.run_bind, run_equal (fun d => by simp [Op.equalIn, run_underlying h1]; try rfl)]; rfl⟩
  · rename_i e
    obtain ⟨d, h1, h2⟩ := hT.kind e
    cases d <;> simp [UK.fits] at h2
    simp only [Option.some.injEq] at h
    subst h
    rename_i a _ _
    cases a <;> exact ⟨by simp [eqGuard], by simp only [binOp]; rw [Sem.run_bind, run_equal (fun d => by simp [Op.equalIn, run_underlying h1]; try rfl)]; rfl⟩
  · rename_i e
    obtain ⟨d, h1, h2⟩ := hT.kind e
    cases d <;> simp [UK.fits] at h2
    simp only [Option.some.injEq] at h
    subst h
    exact ⟨by simp [eqGuard], by simp only [binOp]; rw [Sem.run_bind, run_equal (fun d => by simp [Op.equalIn, run_underlying h1]; try rfl)]; rfl⟩
  · rename_i e
    obtain ⟨d, h1, h2⟩ := hT.kind e
    cases d <;> simp [UK.fits] at h2
    simp only [Option.some.injEq] at h
    subst h
    exact ⟨by simp [eqGuard], by simp only [binOp]; rw [Sem.run_bind, run_equal (fun d => by simp [Op.equalIn, run_underlying h1]; try rfl)]; rfl⟩
  · simp at h
theorem evl_map {l : Sl} {ρ : Operand → Value} (hρ : ∀ x v, ev l x = some v → ρ x = v) : ∀ (ps : List Operand) (vs : List Value), ps.mapM (ev l) = some vs → ps.map ρ = vs
  | [], vs, h => by simp at h; subst h; rfl
  | p :: ps, vs, h => by
    simp only [List.mapM_cons] at h
    cases h1 : ev l p with
    | none => simp [h1] at h
    | some v =>
      cases h2 : ps.mapM (ev l) with
      | none => simp [h1, h2] at h
      | some r =>
        simp [h1, h2] at h
        subst h
        simp [hρ _ _ h1, evl_map hρ ps r h2]
theorem pureOp_run {P : Program} {T : Tab} (hT : TabOK P T) {n : Nat} {l : Sl} {a : Act} {o : Oper} {v : Value} (h : pureOp T l o.op = some v) (ha : Ag n l a) (w : World) :
    (execOp a.eval o).run P w = .ok (.value v) w := by
  obtain ⟨dst, op, type, pos, after, guard⟩ := o
  simp only at h
  have hρ : ∀ x v, ev l x = some v → a.eval x = v := fun _ _ hx => ha.ev hx
  clear ha
  generalize a.eval = ρ at *
  unfold pureOp at h
  unfold execOp
  split at h
  · simp [hρ _ _ h, go_sem]
  · simp [hρ _ _ h, go_sem]
  · rename_i c x y
    cases hc : ev l c with
    | none => simp [hc] at h
    | some vc =>
      rw [hc] at h
      cases vc <;> simp only [reduceCtorEq] at h
      rename_i b
      cases b with
      | true => simp only [cond_true] at h; simp [hρ _ _ hc, hρ _ _ h, asBool, go_sem]
      | false => simp only [cond_false] at h; simp [hρ _ _ hc, hρ _ _ h, asBool, go_sem]
  · rename_i x
    split at h
    · rename_i e
      simp only [Option.some.injEq] at h
      subst h
      simp [hρ _ _ e, go_sem]
    · rename_i e
      simp only [Option.some.injEq] at h
      subst h
      simp [hρ _ _ e, go_sem]
    · simp at h
  · rename_i op ty x y ty'
    split at h
    · rename_i u1 u2 e1 e2
      split at h
      · rename_i r hr
        simp only [Option.some.injEq] at h
        subst h
        have h1 := pureBin_run (P := P) hr ty w
        have h2 := eqGuard_plain (P := P) hr ty x y w
        simp only [hρ _ _ e1, hρ _ _ e2]
        simp [h1, h2, go_sem]
      · obtain ⟨h2, h1⟩ := run_equalIn_nil hT h x y w
        simp only [hρ _ _ e1, hρ _ _ e2]
        simp [h1, h2]
    · simp at h
  · split at h
    · rename_i e
      have h1 := pureUn_run (P := P) h w
      simp [hρ _ _ e, h1, go_sem]
    · simp at h
  · split at h
    · rename_i e
      simp [hρ _ _ e, Instr.extract, h, go_sem]
    · simp at h
  · rename_i s d x
    split at h
    · rename_i k1 kk n k e1 e2 e3
      simp only [Option.some.injEq] at h
      subst h
      obtain ⟨d1, g1, _⟩ := hT.kind e1
      simp [hρ _ _ e2, convert, run_underlying g1, run_underlying (hT.int e3), Conv.intToInt, go_sem]
    · simp at h
  · rename_i s x f
    split at h
    · rename_i e
      split at h
      · rename_i e1 e2
        simp only [Option.some.injEq] at h
        subst h
        have h3 := hT.fld e1 e2 (by assumption) w
        simp [hρ _ _ e, h3]
      · simp at h
    · simp at h
  · rename_i args argTypes
    split at h
    · rename_i x t e1 e2
      split at h
      · rename_i u e3
        have a1 : args = #[x] := by cases args; simp_all
        have a2 : argTypes = #[t] := by cases argTypes; simp_all
        subst a1
        subst a2
        simp [resolve, invoke, builtin, hρ _ _ e3, pureLen_run hT h, go_sem]
      · simp at h
    · simp at h
  · rename_i args argTypes
    split at h
    · rename_i x y e1
      split at h
      · rename_i e3 e4
        have a1 : args = #[x, y] := by cases args; simp_all
        subst a1
        simp only [Option.some.injEq] at h
        subst h
        simp [resolve, invoke, builtin, hρ _ _ e3, hρ _ _ e4, Builtin.max_, Builtin.max2, go_sem]
      · simp at h
    · simp at h
  · rename_i args argTypes
    split at h
    · rename_i x y e1
      split at h
      · rename_i e3 e4
        have a1 : args = #[x, y] := by cases args; simp_all
        subst a1
        simp only [Option.some.injEq] at h
        subst h
        simp [resolve, invoke, builtin, hρ _ _ e3, hρ _ _ e4, Builtin.min_, Builtin.min2, go_sem]
      · simp at h
    · rename_i x y z e1
      split at h
      · rename_i e3 e4 e5
        have a1 : args = #[x, y, z] := by cases args; simp_all
        subst a1
        simp only [Option.some.injEq] at h
        subst h
        simp [resolve, invoke, builtin, hρ _ _ e3, hρ _ _ e4, hρ _ _ e5, Builtin.min_, Builtin.min2, go_sem]
      · simp at h
    · rename_i x y z u e1
      split at h
      · rename_i e3 e4 e5 e6
        have a1 : args = #[x, y, z, u] := by cases args; simp_all
        subst a1
        simp only [Option.some.injEq] at h
        subst h
        simp [resolve, invoke, builtin, hρ _ _ e3, hρ _ _ e4, hρ _ _ e5, hρ _ _ e6, Builtin.min_, Builtin.min2, go_sem]
      · simp at h
    · simp at h
  · rename_i fn first captured
    split at h
    · rename_i vs e1 e2
      have a1 : first = #[] := by cases first; simp_all
      subst a1
      have h6 := evl_map hρ _ _ e2
      have h7 : captured.map ρ = vs.toArray := by
        apply Array.ext'
        simpa using h6
      simp only [Option.some.injEq] at h
      subst h
      simp [Instr.makeFunc, go_sem, h7]
    · simp at h
  · simp at h
end Go.En
namespace Go.En
set_option linter.unusedVariables false

abbrev sg (b : Nat) (o : Obj) : PH := fun x => if x = b then some o else none
abbrev pt (b : Nat) (c : Array Value) (ty : Nat) (fr : Nat × Nat := (0, 0)) : PH := sg b (.cells c ty fr)
def em : PH := fun _ => none
def Cell (h : PH) (a : Addr) (v : Value) : Prop := a.spot = none ∧ ∃ c ty fr, h a.block = some (.cells c ty fr) ∧ c[a.off]? = some v
def In (K : PH) (hs : List PH) (h : PH) : Prop := h = K ∨ ∃ i : Nat, hs[i]? = some h

section mem
variable {w0 w w' : World} {K : PH} {hs : List PH}
theorem Sat.block (s : Sat w0 w K hs) {h : PH} (hi : In K hs h) {b : Nat} {o : Obj} (hb : h b = some o) : w.heap[b]? = some o := by
  rcases hi with rfl | ⟨i, hi⟩
  · exact s.imm b o hb
  · exact s.own i h hi b o hb
theorem Sat.cell (s : Sat w0 w K hs) {h : PH} (hi : In K hs h) {a : Addr} {v : Value} (hc : Cell h a v) : w.cell? a = some v := by
  obtain ⟨hsp, c, ty, fr, hb, hv⟩ := hc
  have := s.block hi hb
  simp [World.cell?, this, hsp, hv]
theorem lt_of_some {w : World} {b : Nat} {o : Obj} (h : w.heap[b]? = some o) : b < w.heap.size := (Array.getElem?_eq_some_iff.1 h).1
theorem Sat.alloc (s : Sat w0 w K hs) (o : Obj) : Sat w0 (w.alloc o) K (sg w.heap.size o :: hs) := by
  have old : ∀ b, b < w.heap.size → (w.alloc o).heap[b]? = w.heap[b]? := fun b hb => RowKit.Below.heap_alloc w o b hb
  refine ⟨s.os, s.tape, s.output, ?_, ?_, ?_, ?_, ?_⟩
  · have := s.size; simp; omega
  · intro b o' h
    have := s.imm b o' h
    rw [old b (lt_of_some this)]; exact this
  · intro i h hi b o' hb
    cases i with
    | zero =>
      simp only [List.getElem?_cons_zero, Option.some.injEq] at hi
      subst hi
      simp only [sg] at hb
      split at hb
      · rename_i e; subst e; cases hb; exact heap_alloc_new w o
      · cases hb
    | succ i =>
      have := s.own i h (by simpa using hi) b o' hb
      rw [old b (lt_of_some this)]; exact this
  · intro i h hi b o' hb
    cases i with
    | zero =>
      simp only [List.getElem?_cons_zero, Option.some.injEq] at hi
      subst hi
      simp only [sg] at hb
      split at hb
      · rename_i e
        subst e
        cases hk : K w.heap.size with
        | none => rfl
        | some x => have := lt_of_some (s.imm _ _ hk); omega
      · cases hb
    | succ i => exact s.apart i h (by simpa using hi) b o' hb
  · intro i j h h' hi hj hij b o' hb
    cases i with
    | zero =>
      simp only [List.getElem?_cons_zero, Option.some.injEq] at hi
      subst hi
      simp only [sg] at hb
      split at hb
      · rename_i e
        subst e
        cases j with
        | zero => omega
        | succ j =>
          cases hk : h' w.heap.size with
          | none => rfl
          | some x => have := lt_of_some (s.own j h' (by simpa using hj) _ _ hk); omega
      · cases hb
    | succ i =>
      cases j with
      | zero =>
        simp only [List.getElem?_cons_zero, Option.some.injEq] at hj
        subst hj
        have := lt_of_some (s.own i h (by simpa using hi) b o' hb)
        simp only [sg]
        rw [if_neg (by omega)]
      | succ j => exact s.sep i j h h' (by simpa using hi) (by simpa using hj) (by omega) b o' hb
/-- one owned heap is changed within its own blocks and new ones -/
theorem Sat.upd (s : Sat w0 w K hs) {i : Nat} {h h' : PH} (hi : hs[i]? = some h) (hos : w'.os = w.os) (htp : w'.tape = w.tape) (hout : w'.output = w.output) (hsz : w.heap.size ≤ w'.heap.size)
    (hin : ∀ b o, h' b = some o → w'.heap[b]? = some o) (hout' : ∀ b, b < w.heap.size → h b = none → w'.heap[b]? = w.heap[b]?) (hdom : ∀ b o, h' b = some o → h b = none → w.heap.size ≤ b) :
    Sat w0 w' K (hs.set i h') := by
  have hil : i < hs.length := (List.getElem?_eq_some_iff.1 hi).1
  refine ⟨hos.trans s.os, htp.trans s.tape, hout.trans s.output, Nat.le_trans s.size hsz, ?_, ?_, ?_, ?_⟩
  · intro b o hb
    have h1 := s.imm b o hb
    rw [hout' b (lt_of_some h1) ?_]
    · exact h1
    · cases hh : h b with
      | none => rfl
      | some x => have := s.apart i h hi b x hh; rw [this] at hb; cases hb
  · intro j g hj b o hb
    by_cases hij : i = j
    · subst hij
      rw [List.getElem?_set_self hil] at hj
      cases hj
      exact hin b o hb
    · rw [List.getElem?_set_ne hij] at hj
      have h1 := s.own j g hj b o hb
      rw [hout' b (lt_of_some h1) (s.sep j i g h hj hi (Ne.symm hij) b o hb)]
      exact h1
  · intro j g hj b o hb
    by_cases hij : i = j
    · subst hij
      rw [List.getElem?_set_self hil] at hj
      cases hj
      cases hh : h b with
      | some x => exact s.apart i h hi b x hh
      | none =>
        have := hdom b o hb hh
        cases hk : K b with
        | none => rfl
        | some x => have := lt_of_some (s.imm b x hk); omega
    · rw [List.getElem?_set_ne hij] at hj
      exact s.apart j g hj b o hb
  · intro j k g g' hj hk hjk b o hb
    by_cases hij : i = j
    · subst hij
      rw [List.getElem?_set_self hil] at hj
      cases hj
      rw [List.getElem?_set_ne hjk] at hk
      cases hh : h b with
      | some x => exact s.sep i k h g' hi hk hjk b x hh
      | none =>
        have := hdom b o hb hh
        cases hg : g' b with
        | none => rfl
        | some x => have := lt_of_some (s.own k g' hk b x hg); omega
    · rw [List.getElem?_set_ne hij] at hj
      by_cases hik : i = k
      · subst hik
        rw [List.getElem?_set_self hil] at hk
        cases hk
        cases hg : h' b with
        | none => rfl
        | some x =>
          have h1 := lt_of_some (s.own j g hj b o hb)
          have h2 := s.sep j i g h hj hi (Ne.symm hij) b o hb
          have := hdom b x hg h2
          omega
      · rw [List.getElem?_set_ne hik] at hk
        exact s.sep j k g g' hj hk hjk b o hb
theorem Sat.setRow (s : Sat w0 w K hs) {i b : Nat} {c : Array Value} {ty : Nat} {fr : Nat × Nat} (hi : hs[i]? = some (pt b c ty fr)) (c' : Array Value) :
    Sat w0 (w.setRow b c') K (hs.set i (pt b c' ty fr)) := by
  have hb : w.heap[b]? = some (.cells c ty fr) := s.own i _ hi b _ (by simp)
  refine s.upd hi rfl rfl rfl (by simp [World.setRow]) ?_ ?_ ?_
  · intro x o hx
    simp only [pt, sg] at hx
    split at hx
    · rename_i e; subst e; cases hx; exact setRow_heap w _ c c' ty fr hb
    · cases hx
  · intro x hx hn
    simp only [pt, sg] at hn
    split at hn
    · cases hn
    · rename_i e; exact setRow_other w b x c' e
  · intro x o hx hn
    simp only [pt, sg] at hx hn
    split at hx
    · rename_i e; rw [if_pos e] at hn; cases hn
    · cases hx
theorem Sat.setCell (s : Sat w0 w K hs) {i b off : Nat} {c : Array Value} {ty : Nat} {fr : Nat × Nat} (hi : hs[i]? = some (pt b c ty fr)) (v : Value) :
    Sat w0 (w.setCell ⟨b, off, none⟩ v) K (hs.set i (pt b (c.setIfInBounds off v) ty fr)) := by
  have hb : w.heap[b]? = some (.cells c ty fr) := s.own i _ hi b _ (by simp)
  rw [setCell_eq_setRow w b off c ty fr v hb]
  exact s.setRow hi _
theorem Sat.addEm (s : Sat w0 w K hs) : Sat w0 w K (em :: hs) := by
  refine ⟨s.os, s.tape, s.output, s.size, s.imm, ?_, ?_, ?_⟩
  · intro i h hi b o hb
    cases i with
    | zero => simp only [List.getElem?_cons_zero, Option.some.injEq] at hi; subst hi; simp [em] at hb
    | succ i => exact s.own i h (by simpa using hi) b o hb
  · intro i h hi b o hb
    cases i with
    | zero => simp only [List.getElem?_cons_zero, Option.some.injEq] at hi; subst hi; simp [em] at hb
    | succ i => exact s.apart i h (by simpa using hi) b o hb
  · intro i j h h' hi hj hij b o hb
    cases i with
    | zero => simp only [List.getElem?_cons_zero, Option.some.injEq] at hi; subst hi; simp [em] at hb
    | succ i =>
      cases j with
      | zero => simp only [List.getElem?_cons_zero, Option.some.injEq] at hj; subst hj; rfl
      | succ j => exact s.sep i j h h' (by simpa using hi) (by simpa using hj) (by omega) b o hb
theorem Cell.pt {b off : Nat} {c : Array Value} {ty : Nat} {fr : Nat × Nat} {v : Value} (h : c[off]? = some v) : Cell (pt b c ty fr) ⟨b, off, none⟩ v :=
  ⟨rfl, c, ty, fr, by simp, h⟩
end mem

/-! Runs of pure operations. -/
def pureN (T : Tab) (ops : Array Oper) (n : Nat) : Nat → List Oper → Sl → Option (List Oper × Sl)
  | 0, r, l => some (r, l)
  | _ + 1, [], _ => none
  | k + 1, o :: r, l => match o.dst with
    | none => none
    | some d => match Nat.blt d n, gOK ops l o.guard with
      | true, some true => match pureOp T l o.op with
        | some v => pureN T ops n k r ((d, v) :: l)
        | none => none
      | true, some false => pureN T ops n k r ((d, undef) :: l)
      | _, _ => none
section rules
variable {P : Program} {T : Tab} {w0 : World} {ops : Array Oper} {Q : Exit → Act → World → Prop} {rest rest' : List Oper} {n : Nat} {l l' : Sl} {K : PH} {hs : List PH}
theorem WL.val {o : Oper} {d : Nat} {R : Value → PH → List PH → Prop} (hd : o.dst = some d) (hb : Nat.blt d n = true) (hg : gOK ops l o.guard = some true)
    (h : ∀ a w, Ag n l a → Sat w0 w K hs → ∃ v w' K' hs', (execOp a.eval o).run P w = .ok (.value v) w' ∧ Sat w0 w' K' hs' ∧ R v K' hs')
    (hk : ∀ v K' hs', R v K' hs' → WL P w0 ops Q rest n ((d, v) :: l) K' hs') : WL P w0 ops Q (o :: rest) n l K hs := by
  intro a w ha hw
  obtain ⟨v, w', K', hs', hrun, hw', hR⟩ := h a w ha hw
  have h1 := gOK_wanted ha hg
  unfold wpList
  rw [if_pos h1]
  refine .inl ?_
  unfold Oper.wp
  rw [hrun]
  simp only [Oper.upon, hd]
  exact hk v K' hs' hR _ _ (ha.put hb) hw'
theorem WL.skp {o : Oper} {K' : PH} {hs' : List PH} (hd : o.dst = none) (hg : gOK ops l o.guard = some true)
    (h : ∀ a w, Ag n l a → Sat w0 w K hs → ∃ w', (execOp a.eval o).run P w = .ok .skip w' ∧ Sat w0 w' K' hs')
    (hk : WL P w0 ops Q rest n l K' hs') : WL P w0 ops Q (o :: rest) n l K hs := by
  intro a w ha hw
  obtain ⟨w', hrun, hw'⟩ := h a w ha hw
  have h1 := gOK_wanted ha hg
  unfold wpList
  rw [if_pos h1]
  refine .inl ?_
  unfold Oper.wp
  rw [hrun]
  simp only [Oper.upon, hd, Act.put]
  exact hk _ _ ha hw'
theorem WL.unwanted {o : Oper} {d : Nat} (hd : o.dst = some d) (hb : Nat.blt d n = true) (hg : gOK ops l o.guard = some false)
    (hk : WL P w0 ops Q rest n ((d, undef) :: l) K hs) : WL P w0 ops Q (o :: rest) n l K hs := by
  intro a w ha hw
  have h1 := gOK_wanted ha hg
  unfold wpList
  rw [if_neg (by simp [h1]), hd]
  exact hk _ _ (ha.put hb) hw
theorem WL.pure1 (hT : TabOK P T) {o : Oper} {d : Nat} {v : Value} (hd : o.dst = some d) (hb : Nat.blt d n = true) (hg : gOK ops l o.guard = some true) (hv : pureOp T l o.op = some v)
    (hk : WL P w0 ops Q rest n ((d, v) :: l) K hs) : WL P w0 ops Q (o :: rest) n l K hs :=
  WL.val (R := fun u K' hs' => u = v ∧ K' = K ∧ hs' = hs) hd hb hg (fun a w ha hw => ⟨v, w, K, hs, pureOp_run hT hv ha w, hw, rfl, rfl, rfl⟩)
    (fun u K' hs' ⟨h1, h2, h3⟩ => by subst h1; subst h2; subst h3; exact hk)
theorem WL.pures (hT : TabOK P T) : ∀ (k : Nat) {rest : List Oper} {l : Sl}, pureN T ops n k rest l = some (rest', l') → WL P w0 ops Q rest' n l' K hs → WL P w0 ops Q rest n l K hs
  | 0, rest, l, h, hk => by simp only [pureN, Option.some.injEq, Prod.mk.injEq] at h; obtain ⟨rfl, rfl⟩ := h; exact hk
  | k + 1, [], l, h, hk => by simp [pureN] at h
  | k + 1, o :: r, l, h, hk => by
    simp only [pureN] at h
    cases hd : o.dst with
    | none => simp [hd] at h
    | some d =>
      simp only [hd] at h
      cases hb : Nat.blt d n with
      | false => simp [hb] at h
      | true =>
        cases hg : gOK ops l o.guard with
        | none => simp [hb, hg] at h
        | some g =>
          cases g with
          | true =>
            simp only [hb, hg] at h
            cases hv : pureOp T l o.op with
            | none => simp [hv] at h
            | some v =>
              simp only [hv] at h
              exact WL.pure1 hT hd hb hg hv (WL.pures hT k h hk)
          | false =>
            simp only [hb, hg] at h
            exact WL.unwanted hd hb hg (WL.pures hT k h hk)
/-- the operation behind k pure ones -/
def opAt (T : Tab) (ops : Array Oper) (n k : Nat) (rest : List Oper) (l : Sl) : Option (Oper × List Oper × Sl) :=
  match pureN T ops n k rest l with
  | some (o :: r, l') => match gOK ops l' o.guard with
    | some true => some (o, r, l')
    | _ => none
  | _ => none
theorem WL.at' (hT : TabOK P T) {k : Nat} {o : Oper} (h : opAt T ops n k rest l = some (o, rest', l')) (hk : gOK ops l' o.guard = some true → WL P w0 ops Q (o :: rest') n l' K hs) : WL P w0 ops Q rest n l K hs := by
  unfold opAt at h
  split at h
  · rename_i o' r' l2 hp
    split at h
    · rename_i hg
      simp only [Option.some.injEq, Prod.mk.injEq] at h
      obtain ⟨rfl, rfl, rfl⟩ := h
      exact WL.pures hT k hp (hk hg)
    · simp at h
  · simp at h
/-- the value of the pure operation behind k others -/
def valAt (T : Tab) (ops : Array Oper) (n k : Nat) (rest : List Oper) (l : Sl) : Option (Nat × Value × List Oper × Sl) :=
  match opAt T ops n k rest l with
  | some (o, r, l') => match o.dst with
    | some d => match Nat.blt d n, pureOp T l' o.op with
      | true, some v => some (d, v, r, l')
      | _, _ => none
    | none => none
  | none => none
theorem valAt_spec {k d : Nat} {v : Value} (h : valAt T ops n k rest l = some (d, v, rest', l')) : ∃ o, opAt T ops n k rest l = some (o, rest', l') ∧ o.dst = some d ∧ Nat.blt d n = true ∧ pureOp T l' o.op = some v := by
  unfold valAt at h
  split at h
  · rename_i o r l2 ho
    split at h
    · rename_i d' hd
      split at h
      · rename_i hb hv
        simp only [Option.some.injEq, Prod.mk.injEq] at h
        obtain ⟨rfl, rfl, rfl, rfl⟩ := h
        exact ⟨o, ho, hd, hb, hv⟩
      · simp at h
    · simp at h
  · simp at h
/-- arithmetic: the value in another form -/
theorem ar (hT : TabOK P T) (k : Nat) {d : Nat} {v v' : Value} (h : valAt T ops n k rest l = some (d, v, rest', l')) (he : v = v') (hk : WL P w0 ops Q rest' n ((d, v') :: l') K hs) :
    WL P w0 ops Q rest n l K hs := by
  obtain ⟨o, ho, hd, hb, hv⟩ := valAt_spec h
  subst he
  exact WL.at' hT ho fun hg => WL.pure1 hT hd hb hg hv hk
/-- a test on numbers -/
def cmpP : BinOp → Int → Int → Option Prop
  | .lss, a, b => some (a < b)
  | .leq, a, b => some (a ≤ b)
  | .gtr, a, b => some (b < a)
  | .geq, a, b => some (b ≤ a)
  | .eql, a, b => some (a = b)
  | .neq, a, b => some (¬ a = b)
  | _, _, _ => none
def cmpAt (T : Tab) (ops : Array Oper) (n k : Nat) (rest : List Oper) (l : Sl) : Option (Nat × Prop × List Oper × Sl) :=
  match opAt T ops n k rest l with
  | some (o, r, l') => match o.dst, o.op with
    | some d, .binOp op _ x y _ => match Nat.blt d n, ev l' x, ev l' y with
      | true, some (.int k a), some (.int k' b) => match decide (k = k'), cmpP op a b with
        | true, some p => some (d, p, r, l')
        | _, _ => none
      | _, _, _ => none
    | _, _ => none
  | none => none
theorem cmp (hT : TabOK P T) (k : Nat) {d : Nat} {p : Prop} (h : cmpAt T ops n k rest l = some (d, p, rest', l'))
    (hy : p → WL P w0 ops Q rest' n ((d, .bool true) :: l') K hs) (hn : ¬ p → WL P w0 ops Q rest' n ((d, .bool false) :: l') K hs) : WL P w0 ops Q rest n l K hs := by
  unfold cmpAt at h
  split at h
  · rename_i o r l2 ho
    split at h
    · rename_i d' op ty x y ty' hd hop
      split at h
      · rename_i k1 a k2 b hb hx hy'
        split at h
        · rename_i p' hk hp
          simp only [Option.some.injEq, Prod.mk.injEq] at h
          obtain ⟨rfl, rfl, rfl, rfl⟩ := h
          have hk' : k1 = k2 := of_decide_eq_true hk
          subst hk'
          have key : ∀ b', pureBin op (.int k1 a) (.int k1 b) = some (.bool b') → (p' ↔ b' = true) → WL P w0 ops Q rest n l K hs := fun b' hb' hiff => by
            refine WL.at' hT ho fun hg => WL.pure1 hT hd hb hg (v := .bool b') (by rw [hop]; simp only [pureOp, hx, hy', hb']) ?_
            cases b' with
            | true => exact hy (hiff.2 rfl)
            | false => exact hn (fun hp' => by have := hiff.1 hp'; cases this)
          cases op <;> simp only [cmpP, Option.some.injEq, reduceCtorEq] at hp <;> subst hp
          · exact key (a == b) (by simp [pureBin]) (by simp)
          · exact key (a != b) (by simp [pureBin]) (by simp)
          · exact key (decide (a < b)) (by simp [pureBin]) (by simp)
          · exact key (decide (a ≤ b)) (by simp [pureBin]) (by simp)
          · exact key (decide (a > b)) (by simp [pureBin]) (by simp)
          · exact key (decide (a ≥ b)) (by simp [pureBin]) (by simp)
        · simp at h
      · simp at h
    · simp at h
  · simp at h
/-- a test that is a Bool -/
theorem cb (hT : TabOK P T) (k : Nat) {d : Nat} {b : Bool} (h : valAt T ops n k rest l = some (d, .bool b, rest', l'))
    (hy : b = true → WL P w0 ops Q rest' n ((d, .bool true) :: l') K hs) (hn : b = false → WL P w0 ops Q rest' n ((d, .bool false) :: l') K hs) : WL P w0 ops Q rest n l K hs := by
  cases b with
  | true => exact ar hT k h rfl (hy rfl)
  | false => exact ar hT k h rfl (hn rfl)
/-- the region's end -/
theorem fin (hT : TabOK P T) (k : Nat) (h : pureN T ops n k rest l = some ([], l')) (hk : WQ w0 Q .normal n l' K hs) : WL P w0 ops Q rest n l K hs :=
  WL.pures hT k h (nl hk)
end rules
end Go.En
namespace Go.En
set_option linter.unusedVariables false

/-! Slices. 'IsS': what can be read; 'Own': what can be written and appended to. -/
def IsS (h : PH) (ao : Option Addr) (n cap size : Nat) (xs : List Value) : Prop :=
  xs.length = n * size ∧ n ≤ cap ∧ ∀ (j : Nat) u, xs[j]? = some u → ∃ a, ao = some a ∧ Cell h (a.add j) u
def Own (h : PH) (ao : Option Addr) (n cap e size : Nat) (xs : List Value) : Prop :=
  xs.length = n * size ∧ n ≤ cap ∧ cap ≤ maxLen ∧ ((ao = none ∧ cap = 0 ∧ h = em) ∨
    ∃ g off cur, ao = some ⟨g, off, none⟩ ∧ h = pt g cur e ∧ cur.size = off + cap * size ∧ (cur.toList.drop off).take (n * size) = xs)
theorem add_mk (g off k : Nat) : (⟨g, off, none⟩ : Addr).add k = ⟨g, off + k, none⟩ := by unfold Addr.add; split <;> simp_all
theorem Own.isS {h : PH} {ao : Option Addr} {n cap e size : Nat} {xs : List Value} (o : Own h ao n cap e size xs) : IsS h ao n cap size xs := by
  obtain ⟨h1, h2, _, h3⟩ := o
  refine ⟨h1, h2, ?_⟩
  rcases h3 with ⟨rfl, rfl, rfl⟩ | ⟨g, off, cur, rfl, rfl, hs, ht⟩
  · intro j u hu
    have : n = 0 := by omega
    subst this
    have : xs = [] := List.eq_nil_of_length_eq_zero (by simpa using h1)
    subst this
    simp at hu
  · intro j u hu
    refine ⟨_, rfl, ?_⟩
    rw [add_mk]
    refine Cell.pt ?_
    rw [← ht] at hu
    have hj : j < n * size := by
      have := (List.getElem?_eq_some_iff.1 hu).1
      simp at this
      omega
    rw [List.getElem?_take_of_lt hj, List.getElem?_drop] at hu
    simpa using hu
theorem Own.nil (e size : Nat) : Own em none 0 0 e size [] := ⟨by simp, Nat.le_refl _, Nat.zero_le _, .inl ⟨rfl, rfl, rfl⟩⟩
theorem IsS.nil (h : PH) (ao : Option Addr) (cap size : Nat) : IsS h ao 0 cap size [] := ⟨by simp, Nat.zero_le _, by simp⟩
theorem Own.ofPt {b : Nat} {c : Array Value} {e n size : Nat} (h1 : c.size = n * size) (h2 : n ≤ maxLen) : Own (pt b c e) (some ⟨b, 0, none⟩) n n e size c.toList :=
  ⟨by simpa using h1, Nat.le_refl _, h2, .inr ⟨b, 0, c, rfl, rfl, by omega, by rw [List.drop_zero, ← h1, ← Array.length_toList]; exact List.take_length⟩⟩
theorem IsS.addr {h : PH} {ao : Option Addr} {n cap size : Nat} {xs : List Value} (x : IsS h ao n cap size xs) {j : Nat} (hj : j < n) (hs : 0 < size) : ∃ a, ao = some a := by
  obtain ⟨h1, _, h3⟩ := x
  have : 0 < xs.length := by rw [h1]; exact Nat.mul_pos (by omega) hs
  obtain ⟨a, ha, _⟩ := h3 0 xs[0] (by simp)
  exact ⟨a, ha⟩

section rules
variable {P : Program} {T : Tab} {w0 : World} {ops : Array Oper} {Q : Exit → Act → World → Prop} {rest rest' : List Oper} {n : Nat} {l l' : Sl} {K : PH} {hs : List PH}

/-! Load, store of one cell. -/
theorem run_load1 {w : World} (hT : TabOK P T) {t : Nat} {k : UK} (hk : asc T.kinds t = some k) (h1 : k.one = true) {a : Addr} {v : Value} (hc : w.cell? a = some v) :
    (Instr.loadAt t (.pointer (some a))).run P w = .ok v w := by
  obtain ⟨d, i, hd, hi, hs, hf⟩ := hT.one hk h1
  have hagg : (isAgg t).run P w = .ok false w := by
    cases d <;> cases k <;> simp [UK.fits, UK.one] at hf h1 <;> simp [isAgg, run_underlying hd]
  simp [Instr.loadAt, Instr.sureAddr, loadVar, hagg, hc]
theorem run_store1 {w : World} (hT : TabOK P T) {t : Nat} {k : UK} (hk : asc T.kinds t = some k) (h1 : k.one = true) {a : Addr} {v u : Value} (hc : w.cell? a = some u) (hf : w.frozen? a = false) (hv : v.oneCell' = true) :
    (Instr.storeAt t (.pointer (some a)) v).run P w = .ok () (w.setCell a v) := by
  obtain ⟨d, i, hd, hi, hs, _⟩ := hT.one hk h1
  have hcells : v.cells = #[v] := by cases v <;> simp [Value.oneCell', Value.cells] at hv ⊢
  have hadd : a.add 0 = a := by simp [Addr.add]
  simp [Instr.storeAt, Instr.sureAddr, storeVar, hcells, sizeOf, typeInfo, hi, hs, storeCells, hadd, run_store P w a v _ hv, hc, hf]
def ldAt (T : Tab) (ops : Array Oper) (n k : Nat) (rest : List Oper) (l : Sl) : Option (Nat × Addr × List Oper × Sl) :=
  match opAt T ops n k rest l with
  | some (o, r, l') => match o.dst, o.op with
    | some d, .load t x => match Nat.blt d n, asc T.kinds t, ev l' x with
      | true, some kd, some (.pointer (some a)) => cond kd.one (some (d, a, r, l')) none
      | _, _, _ => none
    | _, _ => none
  | none => none
theorem ld (hT : TabOK P T) (k : Nat) {d : Nat} {a : Addr} {v : Value} {h : PH} (h0 : ldAt T ops n k rest l = some (d, a, rest', l')) (hm : In K hs h) (hc : Cell h a v)
    (hk : WL P w0 ops Q rest' n ((d, v) :: l') K hs) : WL P w0 ops Q rest n l K hs := by
  unfold ldAt at h0
  split at h0
  · rename_i o r l2 ho
    split at h0
    · rename_i d' t x hd hop
      split at h0
      · rename_i kd a' hb hkd hx
        cases h1 : kd.one with
        | false => simp [h1] at h0
        | true =>
          simp only [h1, cond_true, Option.some.injEq, Prod.mk.injEq] at h0
          obtain ⟨rfl, rfl, rfl, rfl⟩ := h0
          refine WL.at' hT ho fun hg => WL.val (R := fun u K' hs' => u = v ∧ K' = K ∧ hs' = hs) hd hb hg (fun A w ha hw => ⟨v, w, K, hs, ?_, hw, rfl, rfl, rfl⟩) ?_
          · have h2 := run_load1 (P := P) hT hkd h1 (hw.cell hm hc)
            simp only [execOp, hop, ha.ev hx]
            simp [h2]
          · rintro u K' hs' ⟨rfl, rfl, rfl⟩
            exact hk
      · simp at h0
    · simp at h0
  · simp at h0
/-- a cell of a block that is known whole -/
theorem ldp (hT : TabOK P T) (k i : Nat) {d b off ty : Nat} {v : Value} {c : Array Value} {fr : Nat × Nat} (h0 : ldAt T ops n k rest l = some (d, ⟨b, off, none⟩, rest', l')) (hi : hs[i]? = some (pt b c ty fr)) (hv : c[off]? = some v)
    (hk : WL P w0 ops Q rest' n ((d, v) :: l') K hs) : WL P w0 ops Q rest n l K hs :=
  ld hT k h0 (.inr ⟨i, hi⟩) (Cell.pt hv) hk
def stAt (T : Tab) (ops : Array Oper) (n k : Nat) (rest : List Oper) (l : Sl) : Option (Addr × Value × List Oper × Sl) :=
  match opAt T ops n k rest l with
  | some (o, r, l') => match o.dst, o.op with
    | none, .store t x y => match asc T.kinds t, ev l' x, ev l' y with
      | some kd, some (.pointer (some a)), some v => cond kd.one (some (a, v, r, l')) none
      | _, _, _ => none
    | _, _ => none
  | none => none
theorem stp (hT : TabOK P T) (k i : Nat) {b off ty : Nat} {v u : Value} {c : Array Value} (h0 : stAt T ops n k rest l = some (⟨b, off, none⟩, v, rest', l')) (hi : hs[i]? = some (pt b c ty)) (hu : c[off]? = some u) (hv : v.oneCell' = true)
    (hk : WL P w0 ops Q rest' n l' K (hs.set i (pt b (c.setIfInBounds off v) ty))) : WL P w0 ops Q rest n l K hs := by
  unfold stAt at h0
  split at h0
  · rename_i o r l2 ho
    split at h0
    · rename_i t x y hd hop
      split at h0
      · rename_i kd a' v' hkd hx hy
        cases h1 : kd.one with
        | false => simp [h1] at h0
        | true =>
          simp only [h1, cond_true, Option.some.injEq, Prod.mk.injEq] at h0
          obtain ⟨rfl, rfl, rfl, rfl⟩ := h0
          refine WL.at' hT ho fun hg => WL.skp hd hg (fun A w ha hw => ⟨_, ?_, hw.setCell hi (off := off) v'⟩) hk
          have hb : w.heap[b]? = some (.cells c ty (0, 0)) := hw.own i _ hi b _ (by simp)
          have hc : w.cell? ⟨b, off, none⟩ = some u := hw.cell (.inr ⟨i, hi⟩) (Cell.pt hu)
          have hf : w.frozen? ⟨b, off, none⟩ = false := by simp [World.frozen?, hb]
          have h2 := run_store1 (P := P) hT hkd h1 hc hf hv
          simp only [execOp, hop, ha.ev hx, ha.ev hy]
          simp [h2]
      · simp at h0
    · simp at h0
  · simp at h0
/-! New blocks. -/
def bxAt (T : Tab) (ops : Array Oper) (n k : Nat) (rest : List Oper) (l : Sl) : Option (Nat × Nat × Value × List Oper × Sl) :=
  match opAt T ops n k rest l with
  | some (o, r, l') => match o.dst, o.op with
    | some d, .box e x => match Nat.blt d n, ev l' x with
      | true, some v => some (d, e, v, r, l')
      | _, _ => none
    | _, _ => none
  | none => none
theorem bx (hT : TabOK P T) (k : Nat) {d e : Nat} {v : Value} (h0 : bxAt T ops n k rest l = some (d, e, v, rest', l'))
    (hk : ∀ b, WL P w0 ops Q rest' n ((d, .pointer (some ⟨b, 0, none⟩)) :: l') K (pt b v.cells e :: hs)) : WL P w0 ops Q rest n l K hs := by
  unfold bxAt at h0
  split at h0
  · rename_i o r l2 ho
    split at h0
    · rename_i d' e' x hd hop
      split at h0
      · rename_i v' hb hx
        simp only [Option.some.injEq, Prod.mk.injEq] at h0
        obtain ⟨rfl, rfl, rfl, rfl, rfl⟩ := h0
        refine WL.at' hT ho fun hg => WL.val (R := fun u K' hs' => ∃ b, u = .pointer (some ⟨b, 0, none⟩) ∧ K' = K ∧ hs' = pt b v'.cells e' :: hs) hd hb hg
          (fun A w ha hw => ⟨.pointer (some ⟨w.heap.size, 0, none⟩), _, K, _, ?_, hw.alloc _, w.heap.size, rfl, rfl, rfl⟩) ?_
        · simp only [execOp, hop, ha.ev hx]
          simp [Instr.box, newVar, newRow]
        · rintro u K' hs' ⟨b, rfl, rfl, rfl⟩
          exact hk b
      · simp at h0
    · simp at h0
  · simp at h0
def alAt (T : Tab) (ops : Array Oper) (n k : Nat) (rest : List Oper) (l : Sl) : Option (Nat × Nat × List Oper × Sl) :=
  match opAt T ops n k rest l with
  | some (o, r, l') => match o.dst, o.op with
    | some d, .alloc e => match Nat.blt d n with
      | true => some (d, e, r, l')
      | _ => none
    | _, _ => none
  | none => none
theorem al (hT : TabOK P T) (k : Nat) {d e : Nat} (z : Value) (h0 : alAt T ops n k rest l = some (d, e, rest', l')) (hz : (P.info? e).bind (·.zero) = some z)
    (hk : ∀ b, WL P w0 ops Q rest' n ((d, .pointer (some ⟨b, 0, none⟩)) :: l') K (pt b z.cells e :: hs)) : WL P w0 ops Q rest n l K hs := by
  unfold alAt at h0
  split at h0
  · rename_i o r l2 ho
    split at h0
    · rename_i d' e' hd hop
      split at h0
      · rename_i hb
        simp only [Option.some.injEq, Prod.mk.injEq] at h0
        obtain ⟨rfl, rfl, rfl, rfl⟩ := h0
        refine WL.at' hT ho fun hg => WL.val (R := fun u K' hs' => ∃ b, u = .pointer (some ⟨b, 0, none⟩) ∧ K' = K ∧ hs' = pt b z.cells e' :: hs) hd hb hg
          (fun A w ha hw => ⟨.pointer (some ⟨w.heap.size, 0, none⟩), _, K, _, ?_, hw.alloc _, w.heap.size, rfl, rfl, rfl⟩) ?_
        · obtain ⟨i, hi, hz'⟩ := Option.bind_eq_some_iff.1 hz
          simp only [execOp, hop]
          simp [Instr.alloc, newVar, newRow, zeroValue, typeInfo, hi, hz']
        · rintro u K' hs' ⟨b, rfl, rfl, rfl⟩
          exact hk b
      · simp at h0
    · simp at h0
  · simp at h0
/-- a slice's literal -/
def bsAt (T : Tab) (ops : Array Oper) (n k : Nat) (rest : List Oper) (l : Sl) : Option (Nat × SlI × Nat × List (Nat × Value) × List Oper × Sl) :=
  match opAt T ops n k rest l with
  | some (o, r, l') => match o.dst, o.op with
    | some d, .buildSlice t len parts => match Nat.blt d n, asc T.sls t, parts.toList.mapM (fun x => (ev l' x.2).map (fun v => (x.1, v))) with
      | true, some si, some vs => some (d, si, len, vs, r, l')
      | _, _, _ => none
    | _, _ => none
  | none => none
theorem evs_map {a : Act} {nn : Nat} {l : Sl} (ha : Ag nn l a) : ∀ (ps : List (Nat × Operand)) (vs : List (Nat × Value)), ps.mapM (fun x => (ev l x.2).map (fun v => (x.1, v))) = some vs → ps.map (fun x => (x.1, a.eval x.2)) = vs
  | [], vs, h => by simp at h; subst h; rfl
  | p :: ps, vs, h => by
    simp only [List.mapM_cons] at h
    cases h1 : ev l p.2 with
    | none => simp [h1] at h
    | some v =>
      cases h2 : ps.mapM (fun x => (ev l x.2).map (fun v => (x.1, v))) with
      | none => simp [h1, h2] at h
      | some r =>
        simp [h1, h2] at h
        subst h
        simp [ha.ev h1, evs_map ha ps r h2]
theorem lit (hT : TabOK P T) (k : Nat) {d len : Nat} {si : SlI} {vs : List (Nat × Value)} (cells : Array Value) (h0 : bsAt T ops n k rest l = some (d, si, len, vs, rest', l')) (hlen : len * si.size ≤ 16777216)
    (hf : Instr.fill (fun i => some (i * si.size, si.size)) ((Array.range (len * si.size)).map (fun i => (if len * si.size = 0 then (#[] : Array Value) else si.zero.cells)[i % (if len * si.size = 0 then (#[] : Array Value) else si.zero.cells).size]!)) vs = some cells)
    (hk : ∀ b, WL P w0 ops Q rest' n ((d, .slice (some ⟨b, 0, none⟩) len len) :: l') K (pt b cells si.elem :: hs)) : WL P w0 ops Q rest n l K hs := by
  unfold bsAt at h0
  split at h0
  · rename_i o r l2 ho
    split at h0
    · rename_i d' t len' parts hd hop
      split at h0
      · rename_i si' vs' hb hsi hvs
        simp only [Option.some.injEq, Prod.mk.injEq] at h0
        obtain ⟨rfl, rfl, rfl, rfl, rfl, rfl⟩ := h0
        refine WL.at' hT ho fun hg => WL.val (R := fun u K' hs' => ∃ b, u = .slice (some ⟨b, 0, none⟩) len' len' ∧ K' = K ∧ hs' = pt b cells si'.elem :: hs) hd hb hg
          (fun A w ha hw => ⟨.slice (some ⟨w.heap.size, 0, none⟩) len' len', _, K, _, ?_, hw.alloc _, w.heap.size, rfl, rfl, rfl⟩) ?_
        · obtain ⟨h1, i, h2, h3, h4, h5⟩ := hT.sl hsi
          have h6 := evs_map ha _ _ hvs
          have h7 : (parts.map fun (i, x) => (i, A.eval x)).toList = vs' := by simpa using h6
          simp only [execOp, hop]
          have h8 : ¬ (16777216 < len' * si'.size) := by omega
          by_cases hz : len' * si'.size = 0
          · rw [if_pos hz] at hf
            simp [Instr.buildSlice, run_underlying h1, sizeOf, typeInfo, h2, h4, hz, newRow, zeroValue, h3]
            rw [h6]
            simp [hz] at hf
            simp [hf]
          · simp only [if_neg hz] at hf
            simp [Instr.buildSlice, run_underlying h1, sizeOf, typeInfo, h2, h4, h8, hz, newRow, zeroValue, h3]
            rw [h6]
            simp [hf]
        · rintro u K' hs' ⟨b, rfl, rfl, rfl⟩
          exact hk b
      · simp at h0
    · simp at h0
  · simp at h0
end rules
end Go.En
namespace Go.En
set_option linter.unusedVariables false

theorem run_firstCells_isS {P : Program} {w0 w : World} {K : PH} {hs : List PH} (s : Sat w0 w K hs) {h : PH} (hm : In K hs h) {ao : Option Addr} {n cap size : Nat} {xs : List Value} (x : IsS h ao n cap size xs) :
    (Builtin.firstCells size n (.slice ao n cap)).run P w = .ok xs.toArray w := by
  obtain ⟨h1, h2, h3⟩ := x
  cases ao with
  | none =>
    have : xs = [] := by
      cases xs with
      | nil => rfl
      | cons u r => obtain ⟨a, ha, _⟩ := h3 0 u (by simp); cases ha
    subst this
    simp [run_firstCells_none]
  | some a =>
    refine run_firstCells_some (P := P) w size n a n cap xs h1 fun j u hu => ?_
    obtain ⟨a', ha, hc⟩ := h3 j u hu
    cases ha
    exact s.cell hm hc
theorem take_drop_splice {α : Type} (cur xs news : List α) (off k : Nat) (h : (cur.drop off).take k = xs) (hk : off + k + news.length ≤ cur.length) :
    ((cur.take (off + k) ++ news ++ cur.drop (off + k + news.length)).drop off).take (k + news.length) = xs ++ news := by
  have e1 : cur.take (off + k) = cur.take off ++ xs := by rw [← h, List.take_add]
  have hl : (cur.take off).length = off := by simp; omega
  have hx : xs.length = k := by rw [← h]; simp; omega
  rw [e1, List.append_assoc, List.append_assoc, List.drop_append_of_le_length (by omega), List.drop_of_length_le (by omega), List.nil_append, ← List.append_assoc,
    show k + news.length = (xs ++ news).length from by simp; omega]
  exact List.take_left
theorem run_append_Own {P : Program} {w0 w : World} {K : PH} {hs : List PH} (t ty e : TypeId) (i : TypeInfo) (z : Value) (ht : P.underlying t = some (.slice e)) (hi : P.info? e = some i) (hz : i.zero = some z)
    (hzs : z.cells.size = i.size) (s : Sat w0 w K hs) {j : Nat} {h h2 : PH} (hj : hs[j]? = some h) {ao ao2 : Option Addr} {n cap m c2 : Nat} {xs news : List Value} (o : Own h ao n cap e i.size xs)
    (hm : In K hs h2) (x : IsS h2 ao2 m c2 i.size news) (hsz : 0 < i.size) (h1 : ∀ u ∈ news, u.oneCell' = true) (hb : (n + m) * i.bytes ≤ 140737488355328) (h63 : n + m ≤ maxLen) :
    ∃ ao' cap' h' w', (Builtin.append_ #[t, t] ty #[.slice ao n cap, .slice ao2 m c2]).run P w = .ok (.slice ao' (n + m) cap') w' ∧ Own h' ao' (n + m) cap' e i.size (xs ++ news) ∧ Sat w0 w' K (hs.set j h') := by
  have hf := run_firstCells_isS (P := P) s hm x
  have hlen : (xs ++ news).length = (n + m) * i.size := by rw [List.length_append, o.1, x.1, Nat.add_mul]
  have hos := o.isS
  obtain ⟨o1, o2, o3, o4⟩ := o
  by_cases hroom : n + m ≤ cap
  · rcases o4 with ⟨rfl, rfl, rfl⟩ | ⟨g, off, cur, rfl, rfl, hcs, htk⟩
    · obtain rfl : n = 0 := by omega
      obtain rfl : m = 0 := by omega
      obtain rfl : xs = [] := List.eq_nil_of_length_eq_zero (by simpa using o1)
      obtain rfl : news = [] := List.eq_nil_of_length_eq_zero (by simpa using x.1)
      refine ⟨none, 0, em, w, ?_, Own.nil e i.size, ?_⟩
      · simp [Builtin.append_, run_underlying ht, sizeOf, typeInfo, hi, Builtin.lenOf, hf]
      · have : hs.set j em = hs := by
          have hjl : j < hs.length := (List.getElem?_eq_some_iff.1 hj).1
          have e2 : hs[j] = em := by rw [List.getElem?_eq_getElem hjl] at hj; exact Option.some.inj hj
          rw [← e2]; exact List.set_getElem_self hjl
        rw [this]; exact s
    · have hg : w.heap[g]? = some (.cells cur e (0, 0)) := s.own j _ hj g _ (by simp)
      have hfit : off + n * i.size + news.length ≤ cur.size := by
        rw [x.1, hcs, Nat.add_assoc, ← Nat.add_mul]
        exact Nat.add_le_add_left (Nat.mul_le_mul_right _ hroom) _
      have hst := run_storeCells_at P g (off + n * i.size) e news 0 cur w hg (by simpa using hfit) h1
      simp only [Nat.add_zero] at hst
      refine ⟨some ⟨g, off, none⟩, cap, _, _, ?_, ⟨hlen, hroom, o3, .inr ⟨g, off, (cur.toList.take (off + n * i.size) ++ news ++ cur.toList.drop (off + n * i.size + news.length)).toArray, rfl, rfl, ?_, ?_⟩⟩, s.setRow hj _⟩
      · simp [Builtin.append_, run_underlying ht, sizeOf, typeInfo, hi, Builtin.lenOf, hroom, hf, add_mk, hst]
      · have : cur.toList.length = cur.size := Array.length_toList
        simp only [List.size_toArray, List.length_append, List.length_take, List.length_drop, this]
        omega
      · have h5 := take_drop_splice cur.toList xs news off (n * i.size) htk (by simpa using hfit)
        rw [x.1] at h5
        simpa [Nat.add_mul, x.1] using h5
  · have hm0 : 0 < m := by omega
    obtain ⟨a2, rfl⟩ := x.addr hm0 hsz
    have hnews : ∀ (j : Nat) v, news[j]? = some v → w.cell? (a2.add j) = some v := fun j v hv => by
      obtain ⟨a', ha, hc⟩ := x.2.2 j v hv
      cases ha
      exact s.cell hm hc
    have grown : ∀ old, old < n + m → Own (pt w.heap.size (xs.toArray ++ news.toArray ++ Builtin.zeroCells z.cells (grownCap w (n + m) old e - (n + m))) e) (some ⟨w.heap.size, 0, none⟩) (n + m) (grownCap w (n + m) old e) e i.size (xs ++ news) ∧
        Sat w0 (w.drew.alloc (.cells (xs.toArray ++ news.toArray ++ Builtin.zeroCells z.cells (grownCap w (n + m) old e - (n + m))) e)) K (hs.set j (pt w.heap.size (xs.toArray ++ news.toArray ++ Builtin.zeroCells z.cells (grownCap w (n + m) old e - (n + m))) e)) := by
      intro old ho
      have hge := grownCap_ge w (n + m) old e
      have hcm : grownCap w (n + m) old e ≤ maxLen := grownCap_le_maxLen w (n + m) old e h63
      refine ⟨⟨hlen, hge, hcm, .inr ⟨_, 0, _, rfl, rfl, ?_, ?_⟩⟩, ?_⟩
      · simp only [Array.size_append, List.size_toArray, size_zeroCells, hzs, o1, x.1, ← Nat.add_mul, Nat.zero_add]
        congr 1
        omega
      · simp only [Array.toList_append, List.append_assoc, List.drop_zero]
        rw [← List.append_assoc, ← hlen]
        exact List.take_left
      · refine s.upd hj rfl rfl rfl (by simp) ?_ ?_ ?_
        · intro b ob hb'
          simp only [pt, sg] at hb'
          split at hb'
          · rename_i e1; subst e1; cases hb'; exact heap_alloc_new w.drew _
          · cases hb'
        · intro b hb' _
          exact RowKit.Below.heap_alloc w.drew _ b hb'
        · intro b ob hb' _
          simp only [pt, sg] at hb'
          split at hb'
          · rename_i e1; omega
          · cases hb'
    rcases o4 with ⟨rfl, rfl, rfl⟩ | ⟨g, off, cur, rfl, rfl, hcs, htk⟩
    · obtain rfl : n = 0 := by omega
      obtain rfl : xs = [] := List.eq_nil_of_length_eq_zero (by simpa using o1)
      have hr := run_append_nil (P := P) w t ty e i z ht hi hz a2 m c2 news x.1 hnews hm0 (by simp only [maxLen] at h63; omega) (by simp only [Nat.zero_add] at hb; omega)
      have hgr := grown 0 (by omega)
      simp only [Nat.zero_add, List.nil_append, Array.empty_append] at hgr ⊢
      exact ⟨_, _, _, _, hr, hgr.1, hgr.2⟩
    · have holds : ∀ (k : Nat) u, xs[k]? = some u → w.cell? ((⟨g, off, none⟩ : Addr).add k) = some u := fun k u hu => by
        obtain ⟨a', ha, hc⟩ := hos.2.2 k u hu
        cases ha
        exact s.cell (.inr ⟨j, hj⟩) hc
      have hr := run_append_grow (P := P) w t ty e i z ht hi hz ⟨g, off, none⟩ n cap xs o1 holds a2 m c2 news x.1 hnews (by omega) (by simp only [maxLen] at h63; omega) (growslice_fits (by omega) hb)
      have hgr := grown cap (by omega)
      exact ⟨_, _, _, _, hr, hgr.1, hgr.2⟩

section rules
variable {P : Program} {T : Tab} {w0 : World} {ops : Array Oper} {Q : Exit → Act → World → Prop} {rest rest' : List Oper} {n : Nat} {l l' : Sl} {K : PH} {hs : List PH}

/-- append to an owned slice -/
def apAt (T : Tab) (ops : Array Oper) (n k : Nat) (rest : List Oper) (l : Sl) : Option (Nat × SlI × (Option Addr × Nat × Nat) × (Option Addr × Nat × Nat) × List Oper × Sl) :=
  match opAt T ops n k rest l with
  | some (o, r, l') => match o.dst, o.op with
    | some d, .call { callee := .builtin .append, args, argTypes } => match args.toList, argTypes.toList with
      | [x, y], [t, t'] => match Nat.blt d n, Nat.beq t t', asc T.sls t, ev l' x, ev l' y with
        | true, true, some si, some (.slice a1 n1 c1), some (.slice a2 n2 c2) => some (d, si, (a1, n1, c1), (a2, n2, c2), r, l')
        | _, _, _, _, _ => none
      | _, _ => none
    | _, _ => none
  | none => none
theorem app (hT : TabOK P T) (k i : Nat) {d : Nat} {si : SlI} {ao ao2 : Option Addr} {n1 c1 n2 c2 : Nat} {h h2 : PH} {xs news : List Value} (h0 : apAt T ops n k rest l = some (d, si, (ao, n1, c1), (ao2, n2, c2), rest', l'))
    (hi : hs[i]? = some h) (o : Own h ao n1 c1 si.elem si.size xs) (hm : In K hs h2) (x : IsS h2 ao2 n2 c2 si.size news) (hz : si.zero.cells.size = si.size) (hsz : 0 < si.size) (h1 : ∀ u ∈ news, u.oneCell' = true)
    (hb : (n1 + n2) * si.bytes ≤ 140737488355328) (h63 : n1 + n2 ≤ maxLen)
    (hk : ∀ ao' cap' h', Own h' ao' (n1 + n2) cap' si.elem si.size (xs ++ news) → WL P w0 ops Q rest' n ((d, .slice ao' (n1 + n2) cap') :: l') K (hs.set i h')) : WL P w0 ops Q rest n l K hs := by
  unfold apAt at h0
  split at h0
  · rename_i oo r l2 ho
    split at h0
    · rename_i d' args argTypes hd hop
      split at h0
      · rename_i x' y' t t' e1 e2
        split at h0
        · rename_i si' a1 m1 k1 a2 m2 k2 hb' htt hsi hx hy
          simp only [Option.some.injEq, Prod.mk.injEq] at h0
          obtain ⟨rfl, rfl, ⟨rfl, rfl, rfl⟩, ⟨rfl, rfl, rfl⟩, rfl, rfl⟩ := h0
          have htt' : t = t' := Nat.eq_of_beq_eq_true htt
          subst htt'
          have a1' : args = #[x', y'] := by cases args; simp_all
          have a2' : argTypes = #[t, t] := by cases argTypes; simp_all
          subst a1'
          subst a2'
          obtain ⟨g1, ii, g2, g3, g4, g5⟩ := hT.sl hsi
          refine WL.at' hT ho fun hg => WL.val (R := fun u K' hs' => ∃ ao' cap' h', u = .slice ao' (m1 + m2) cap' ∧ Own h' ao' (m1 + m2) cap' si'.elem si'.size (xs ++ news) ∧ K' = K ∧ hs' = hs.set i h') hd hb' hg
            (fun A w ha hw => ?_) ?_
          · rw [← g4] at o x hz hsz
            rw [← g5] at hb
            obtain ⟨ao', cap', h', w', hr, ho', hs'⟩ := run_append_Own (P := P) t oo.type si'.elem ii si'.zero g1 g2 g3 hz hw hi o hm x hsz h1 hb h63
            refine ⟨_, w', K, _, ?_, hs', ao', cap', h', rfl, by rw [← g4]; exact ho', rfl, rfl⟩
            simp only [execOp, hop]
            simp [resolve, invoke, builtin, ha.ev hx, ha.ev hy, hr]
          · rintro u K' hs' ⟨ao', cap', h', rfl, ho', rfl, rfl⟩
            exact hk ao' cap' h' ho'
        · simp at h0
      · simp at h0
    · simp at h0
  · simp at h0

/-- the address of an element -/
def ixAt (T : Tab) (ops : Array Oper) (n k : Nat) (rest : List Oper) (l : Sl) : Option (Nat × SlI × (Option Addr × Nat × Nat) × Int × List Oper × Sl) :=
  match opAt T ops n k rest l with
  | some (o, r, l') => match o.dst, o.op with
    | some d, .indexAddr t x i => match Nat.blt d n, asc T.sls t, ev l' x, ev l' i with
      | true, some si, some (.slice a1 n1 c1), some (.int _ j) => some (d, si, (a1, n1, c1), j, r, l')
      | _, _, _, _ => none
    | _, _ => none
  | _ => none
theorem ixs (hT : TabOK P T) (k : Nat) {d : Nat} {si : SlI} {ao : Option Addr} {n1 c1 : Nat} {i : Int} {h : PH} {xs : List Value} (j : Nat)
    (h0 : ixAt T ops n k rest l = some (d, si, (ao, n1, c1), i, rest', l')) (hj : i = (j : Int)) (x : IsS h ao n1 c1 si.size xs) (hjn : j < n1) (hsz : 0 < si.size)
    (hk : ∀ a, ao = some a → WL P w0 ops Q rest' n ((d, .pointer (some (a.add (j * si.size)))) :: l') K hs) : WL P w0 ops Q rest n l K hs := by
  unfold ixAt at h0
  split at h0
  · rename_i o r l2 ho
    split at h0
    · rename_i d' t x' i' hd hop
      split at h0
      · rename_i si' a1 m1 k1 kk jj hb hsi hx hi
        simp only [Option.some.injEq, Prod.mk.injEq] at h0
        obtain ⟨rfl, rfl, ⟨rfl, rfl, rfl⟩, rfl, rfl, rfl⟩ := h0
        subst hj
        obtain ⟨g1, ii, g2, g3, g4, g5⟩ := hT.sl hsi
        obtain ⟨a, rfl⟩ := x.addr hjn hsz
        refine WL.at' hT ho fun hg => WL.val (R := fun u K' hs' => u = .pointer (some (a.add (j * si'.size))) ∧ K' = K ∧ hs' = hs) hd hb hg (fun A w ha hw => ⟨_, w, K, hs, ?_, hw, rfl, rfl, rfl⟩) ?_
        · have h1 : (j : Int) < (m1 : Int) := by omega
          simp only [execOp, hop, ha.ev hx, ha.ev hi]
          simp [Instr.indexAt, asIntOf, run_underlying g1, sizeOf, typeInfo, g2, g4, hjn]
        · rintro u K' hs' ⟨rfl, rfl, rfl⟩
          exact hk a rfl
      · simp at h0
    · simp at h0
  · simp at h0
/-- the address of an element of one cell, and what is there -/
theorem ix1 (hT : TabOK P T) (k : Nat) {d : Nat} {si : SlI} {ao : Option Addr} {n1 c1 : Nat} {i : Int} {h : PH} {xs : List Value} {u : Value} (j : Nat)
    (h0 : ixAt T ops n k rest l = some (d, si, (ao, n1, c1), i, rest', l')) (hj : i = (j : Int)) (hsz : si.size = 1) (x : IsS h ao n1 c1 1 xs) (hu : xs[j]? = some u)
    (hk : ∀ a, Cell h a u → WL P w0 ops Q rest' n ((d, .pointer (some a)) :: l') K hs) : WL P w0 ops Q rest n l K hs := by
  have hjn : j < n1 := by
    have h1 := (List.getElem?_eq_some_iff.1 hu).1
    have h2 := x.1
    omega
  refine ixs hT k j h0 hj (h := h) (xs := xs) (by rw [hsz]; exact x) hjn (by omega) fun a ha => ?_
  obtain ⟨a', ha', hc⟩ := x.2.2 j u hu
  rw [ha] at ha'
  cases ha'
  rw [hsz, Nat.mul_one]
  exact hk _ hc
/-- a part of a slice -/
def slAt (T : Tab) (ops : Array Oper) (n k : Nat) (rest : List Oper) (l : Sl) : Option (Nat × SlI × (Option Addr × Nat × Nat) × Option Int × Option Int × List Oper × Sl) :=
  match opAt T ops n k rest l with
  | some (o, r, l') => match o.dst, o.op with
    | some d, .slice t x none none none => match Nat.blt d n, asc T.sls t, ev l' x with
      | true, some si, some (.slice a1 n1 c1) => some (d, si, (a1, n1, c1), none, none, r, l')
      | _, _, _ => none
    | some d, .slice t x (some lo) none none => match Nat.blt d n, asc T.sls t, ev l' x, ev l' lo with
      | true, some si, some (.slice a1 n1 c1), some (.int _ i) => some (d, si, (a1, n1, c1), some i, none, r, l')
      | _, _, _, _ => none
    | some d, .slice t x none (some hi) none => match Nat.blt d n, asc T.sls t, ev l' x, ev l' hi with
      | true, some si, some (.slice a1 n1 c1), some (.int _ i) => some (d, si, (a1, n1, c1), none, some i, r, l')
      | _, _, _, _ => none
    | some d, .slice t x (some lo) (some hi) none => match Nat.blt d n, asc T.sls t, ev l' x, ev l' lo, ev l' hi with
      | true, some si, some (.slice a1 n1 c1), some (.int _ i), some (.int _ j) => some (d, si, (a1, n1, c1), some i, some j, r, l')
      | _, _, _, _, _ => none
    | _, _ => none
  | _ => none
/-- where a part of a slice begins -/
def cutA (ao : Option Addr) (cap lo size : Nat) : Option Addr := if cap = lo then ao else ao.map (·.add (lo * size))
theorem slAt_run {k d : Nat} {si : SlI} {ao : Option Addr} {n1 c1 : Nat} {lo hi : Option Int} (hT : TabOK P T) (L H : Nat)
    (h0 : slAt T ops n k rest l = some (d, si, (ao, n1, c1), lo, hi, rest', l')) (hL : lo.getD 0 = (L : Int)) (hH : hi.getD n1 = (H : Int)) (h1 : L ≤ H) (h2 : H ≤ c1) :
    ∃ o, opAt T ops n k rest l = some (o, rest', l') ∧ o.dst = some d ∧ Nat.blt d n = true ∧
      ∀ a w, Ag n l' a → (execOp a.eval o).run P w = .ok (.value (.slice (cutA ao c1 L si.size) (H - L) (c1 - L))) w := by
  unfold slAt at h0
  split at h0
  · rename_i o r l2 ho
    have hLH : (L : Int) ≤ (H : Int) := by omega
    have hHc : (H : Int) ≤ (c1 : Int) := by omega
    split at h0
    · rename_i d' t x hd hop
      split at h0
      · rename_i si' a1 m1 k1 hb hsi hx
        simp only [Option.some.injEq, Prod.mk.injEq] at h0
        obtain ⟨rfl, rfl, ⟨rfl, rfl, rfl⟩, rfl, rfl, rfl, rfl⟩ := h0
        refine ⟨o, ho, hd, hb, fun a w ha => ?_⟩
        obtain ⟨g1, ii, g2, g3, g4, g5⟩ := hT.sl hsi
        simp only [Option.getD_none] at hL hH
        obtain rfl : L = 0 := by omega
        obtain rfl : m1 = H := by omega
        simp only [execOp, hop, ha.ev hx]
        simp [Instr.sliceAt, Instr.slice, run_underlying g1, Instr.sliceBounds, sizeOf, typeInfo, g2, cutA]
      · simp at h0
    · rename_i d' t x lo' hd hop
      split at h0
      · rename_i si' a1 m1 k1 kk i hb hsi hx hi
        simp only [Option.some.injEq, Prod.mk.injEq] at h0
        obtain ⟨rfl, rfl, ⟨rfl, rfl, rfl⟩, rfl, rfl, rfl, rfl⟩ := h0
        refine ⟨o, ho, hd, hb, fun a w ha => ?_⟩
        obtain ⟨g1, ii, g2, g3, g4, g5⟩ := hT.sl hsi
        simp only [Option.getD_none, Option.getD_some] at hL hH
        subst hL
        obtain rfl : m1 = H := by omega
        simp only [execOp, hop, ha.ev hx, Option.map_some, ha.ev hi]
        simp [Instr.sliceAt, Instr.slice, run_underlying g1, Instr.sliceBounds, Instr.sliceBound, asIntOf, sizeOf, typeInfo, g2, g4, cutA, h1]
      · simp at h0
    · rename_i d' t x hi' hd hop
      split at h0
      · rename_i si' a1 m1 k1 kk i hb hsi hx hi
        simp only [Option.some.injEq, Prod.mk.injEq] at h0
        obtain ⟨rfl, rfl, ⟨rfl, rfl, rfl⟩, rfl, rfl, rfl, rfl⟩ := h0
        refine ⟨o, ho, hd, hb, fun a w ha => ?_⟩
        obtain ⟨g1, ii, g2, g3, g4, g5⟩ := hT.sl hsi
        simp only [Option.getD_none, Option.getD_some] at hL hH
        obtain rfl : L = 0 := by omega
        subst hH
        simp only [execOp, hop, ha.ev hx, Option.map_some, ha.ev hi]
        simp [Instr.sliceAt, Instr.slice, run_underlying g1, Instr.sliceBounds, Instr.sliceBound, asIntOf, sizeOf, typeInfo, g2, cutA, h2]
      · simp at h0
    · rename_i d' t x lo' hi' hd hop
      split at h0
      · rename_i si' a1 m1 k1 kk i kk2 j hb hsi hx hi hj
        simp only [Option.some.injEq, Prod.mk.injEq] at h0
        obtain ⟨rfl, rfl, ⟨rfl, rfl, rfl⟩, rfl, rfl, rfl, rfl⟩ := h0
        refine ⟨o, ho, hd, hb, fun a w ha => ?_⟩
        obtain ⟨g1, ii, g2, g3, g4, g5⟩ := hT.sl hsi
        simp only [Option.getD_some] at hL hH
        subst hL
        subst hH
        simp only [execOp, hop, ha.ev hx, Option.map_some, ha.ev hi, ha.ev hj]
        simp [Instr.sliceAt, Instr.slice, run_underlying g1, Instr.sliceBounds, Instr.sliceBound, asIntOf, sizeOf, typeInfo, g2, g4, cutA, h1, h2]
      · simp at h0
    · simp at h0
  · simp at h0
theorem IsS.cut {h : PH} {ao : Option Addr} {n1 c1 size : Nat} {xs ys : List Value} (x : IsS h ao n1 c1 size xs) (L N : Nat) (hN : L + N ≤ n1) (hy : (xs.drop (L * size)).take (N * size) = ys) :
    IsS h (cutA ao c1 L size) N (c1 - L) size ys := by
  obtain ⟨h1, h2, h3⟩ := x
  have hle : L * size + N * size ≤ xs.length := by rw [h1, ← Nat.add_mul]; exact Nat.mul_le_mul_right _ hN
  refine ⟨by rw [← hy]; simp; omega, by omega, fun j u hu => ?_⟩
  rw [← hy] at hu
  have hj : j < N * size := by
    have := (List.getElem?_eq_some_iff.1 hu).1
    simp at this
    omega
  rw [List.getElem?_take_of_lt hj, List.getElem?_drop] at hu
  obtain ⟨a, ha, hc⟩ := h3 _ u hu
  have hN0 : N ≠ 0 := fun e => by rw [e] at hj; omega
  refine ⟨a.add (L * size), by rw [cutA, if_neg (by omega), ha]; rfl, ?_⟩
  have : (a.add (L * size)).add j = a.add (L * size + j) := by
    obtain ⟨b, o, sp⟩ := a
    obtain ⟨hsp, _⟩ := hc
    unfold Addr.add
    by_cases h0 : L * size = 0
    · simp [h0]
    · by_cases h4 : j = 0
      · subst h4; simp [h0]
      · simp [h0, h4, Nat.add_assoc]
  rw [this]
  exact hc
/-- a part of what can be read -/
theorem sl (hT : TabOK P T) (k : Nat) {d : Nat} {si : SlI} {ao : Option Addr} {n1 c1 : Nat} {lo hi : Option Int} {h : PH} {xs ys : List Value} (L N : Nat)
    (h0 : slAt T ops n k rest l = some (d, si, (ao, n1, c1), lo, hi, rest', l')) (x : IsS h ao n1 c1 si.size xs) (hL : lo.getD 0 = (L : Int)) (hH : hi.getD n1 = ((L + N : Nat) : Int)) (hN : L + N ≤ n1)
    (hy : (xs.drop (L * si.size)).take (N * si.size) = ys)
    (hk : ∀ ao' cap', IsS h ao' N cap' si.size ys → WL P w0 ops Q rest' n ((d, .slice ao' N cap') :: l') K hs) : WL P w0 ops Q rest n l K hs := by
  obtain ⟨o, ho, hd, hb, hrun⟩ := slAt_run (P := P) hT L (L + N) h0 hL hH (by omega) (by have := x.2.1; omega)
  refine WL.at' hT ho fun hg => WL.val (R := fun u K' hs' => u = .slice (cutA ao c1 L si.size) N (c1 - L) ∧ K' = K ∧ hs' = hs) hd hb hg (fun A w ha hw => ⟨_, w, K, hs, hrun A w ha, hw, ?_, rfl, rfl⟩) ?_
  · rw [Nat.add_sub_cancel_left]
  · rintro u K' hs' ⟨rfl, rfl, rfl⟩
    exact hk _ _ (x.cut L N hN hy)

/-! Calls. -/
theorem WL.enter {o : Oper} {d g : Nat} {vs : List Value} {R : Value → PH → List PH → Prop} (hd : o.dst = some d) (hb : Nat.blt d n = true) (hg : gOK ops l o.guard = some true)
    (h : ∀ a w, Ag n l a → (execOp a.eval o).run P w = .ok (.enter g vs.toArray) w) (hc : Ct P w0 g vs K hs R)
    (hk : ∀ v K' hs', R v K' hs' → WL P w0 ops Q rest n ((d, v) :: l) K' hs') : WL P w0 ops Q (o :: rest) n l K hs := by
  intro a w ha hw
  have h1 := gOK_wanted ha hg
  unfold wpList
  rw [if_pos h1]
  refine .inl ?_
  unfold Oper.wp
  rw [h a w ha]
  simp only [Oper.upon]
  refine (hc.2 w hw).mono ?_
  rintro e w' ⟨v, K', hs', rfl, hR, hw'⟩
  simp only [hd]
  exact hk v K' hs' hR _ _ (ha.put hb) hw'
def clAt (T : Tab) (ops : Array Oper) (n k : Nat) (rest : List Oper) (l : Sl) : Option (Nat × Nat × List Value × List Oper × Sl) :=
  match opAt T ops n k rest l with
  | some (o, r, l') => match o.dst, o.op with
    | some d, .call { callee := .value f, args, .. } => match Nat.blt d n, ev l' f, args.toList.mapM (ev l') with
      | true, some (.func (.func g) first captured), some vs => some (d, g, first.toList ++ (vs ++ captured.toList), r, l')
      | _, _, _ => none
    | _, _ => none
  | _ => none
theorem ev_map {a : Act} {nn : Nat} {l : Sl} (ha : Ag nn l a) : ∀ (ps : List Operand) (vs : List Value), ps.mapM (ev l) = some vs → ps.map a.eval = vs
  | [], vs, h => by simp at h; subst h; rfl
  | p :: ps, vs, h => by
    simp only [List.mapM_cons] at h
    cases h1 : ev l p with
    | none => simp [h1] at h
    | some v =>
      cases h2 : ps.mapM (ev l) with
      | none => simp [h1, h2] at h
      | some r =>
        simp [h1, h2] at h
        subst h
        simp [ha.ev h1, ev_map ha ps r h2]
theorem cl (hT : TabOK P T) (k : Nat) {d g : Nat} {vs : List Value} {R : Value → PH → List PH → Prop} (h0 : clAt T ops n k rest l = some (d, g, vs, rest', l')) (hc : Ct P w0 g vs K hs R)
    (hk : ∀ v K' hs', R v K' hs' → WL P w0 ops Q rest' n ((d, v) :: l') K' hs') : WL P w0 ops Q rest n l K hs := by
  unfold clAt at h0
  split at h0
  · rename_i o r l2 ho
    split at h0
    · rename_i d' f args ats hd hop
      split at h0
      · rename_i g' first captured vs' hb hf hvs
        simp only [Option.some.injEq, Prod.mk.injEq] at h0
        obtain ⟨rfl, rfl, rfl, rfl, rfl⟩ := h0
        refine WL.at' hT ho fun hg => WL.enter hd hb hg (fun A w ha => ?_) hc hk
        have h6 := ev_map ha _ _ hvs
        have h7 : args.map A.eval = vs'.toArray := by
          apply Array.ext'
          simpa using h6
        have hcal := hc.1
        unfold callable at hcal
        simp only [execOp, hop]
        cases hfn : P.funcs[g']? with
        | none => simp [hfn] at hcal
        | some fn =>
          simp only [hfn, Bool.and_eq_true, Bool.not_eq_true'] at hcal
          have hbn : ¬ fn.body = none := fun e => by simp [e] at hcal
          have hnm : ¬ fn.name = "runtime.NumGoroutine" := by simpa using hcal.2
          simp [resolve, h7, ha.ev hf, Deferred.ofValue, invoke, callFunc, hfn, hbn, hnm]
      · simp at h0
    · simp at h0
  · simp at h0
end rules
end Go.En
namespace Go.En
set_option linter.unusedVariables false

theorem Sat.iff {w0 w : World} {K : PH} {hs : List PH} : Sat w0 w K hs ↔ (w.os = w0.os ∧ w.tape = w0.tape ∧ w.output = w0.output ∧ w0.heap.size ≤ w.heap.size ∧ (∀ b o, K b = some o → w.heap[b]? = some o) ∧
    (∀ h ∈ hs, ∀ b o, h b = some o → w.heap[b]? = some o ∧ K b = none)) ∧ hs.Pairwise (fun h h' => ∀ b, h b = none ∨ h' b = none) := by
  constructor
  · intro s
    refine ⟨⟨s.os, s.tape, s.output, s.size, s.imm, fun h hm b o hb => ?_⟩, ?_⟩
    · obtain ⟨i, hi⟩ := List.getElem?_of_mem hm
      exact ⟨s.own i h hi b o hb, s.apart i h hi b o hb⟩
    · rw [List.pairwise_iff_getElem]
      intro i j hi hj hij b
      cases hb : hs[i] b with
      | none => exact .inl rfl
      | some o => exact .inr (s.sep i j _ _ (List.getElem?_eq_getElem hi) (List.getElem?_eq_getElem hj) (by omega) b o hb)
  · rintro ⟨⟨h1, h2, h3, h4, h5, h6⟩, h7⟩
    rw [List.pairwise_iff_getElem] at h7
    refine ⟨h1, h2, h3, h4, h5, fun i h hi b o hb => (h6 h (List.mem_of_getElem? hi) b o hb).1, fun i h hi b o hb => (h6 h (List.mem_of_getElem? hi) b o hb).2, fun i j h h' hi hj hij b o hb => ?_⟩
    obtain ⟨hi1, rfl⟩ := List.getElem?_eq_some_iff.1 hi
    obtain ⟨hj1, rfl⟩ := List.getElem?_eq_some_iff.1 hj
    rcases Nat.lt_or_gt_of_ne hij with hlt | hlt
    · rcases h7 i j hi1 hj1 hlt b with h | h
      · rw [h] at hb; cases hb
      · exact h
    · rcases h7 j i hj1 hi1 hlt b with h | h
      · exact h
      · rw [h] at hb; cases hb
theorem Sat.perm {w0 w : World} {K : PH} {hs hs' : List PH} (p : hs.Perm hs') (s : Sat w0 w K hs) : Sat w0 w K hs' := by
  rw [Sat.iff] at s ⊢
  obtain ⟨⟨h1, h2, h3, h4, h5, h6⟩, h7⟩ := s
  exact ⟨⟨h1, h2, h3, h4, h5, fun h hm => h6 h (p.mem_iff.2 hm)⟩, (p.pairwise_iff (fun {x y} hxy b => (hxy b).symm)).1 h7⟩
theorem perm_front {α : Type} : ∀ (l : List α) (i : Nat) (x : α), l[i]? = some x → l.Perm (x :: l.eraseIdx i)
  | [], i, x, h => by simp at h
  | a :: l, 0, x, h => by simp at h; subst h; simp
  | a :: l, i + 1, x, h => by
    have := perm_front l i x (by simpa using h)
    simp only [List.eraseIdx_cons_succ]
    exact (this.cons a).trans (List.Perm.swap x a _)
theorem perm_set {α : Type} : ∀ (l : List α) (i : Nat) (x y : α), l[i]? = some x → (y :: l.eraseIdx i).Perm (l.set i y)
  | [], i, x, y, h => by simp at h
  | a :: l, 0, x, y, h => by simp
  | a :: l, i + 1, x, y, h => by
    have := perm_set l i x y (by simpa using h)
    simp only [List.eraseIdx_cons_succ, List.set_cons_succ]
    exact (List.Perm.swap a y _).trans (this.cons a)
/-- a contract on the first owned heap, used at the i-th -/
theorem Ct.at {P : Program} {w0 : World} {f : FuncId} {args : List Value} {K : PH} {hs : List PH} {h : PH} {S : Value → PH → PH → Prop} (i : Nat) (hi : hs[i]? = some h)
    (c : Ct P w0 f args K (h :: hs.eraseIdx i) (fun v K' hs' => ∃ h', hs' = h' :: hs.eraseIdx i ∧ S v K' h')) : Ct P w0 f args K hs (fun v K' hs' => ∃ h', hs' = hs.set i h' ∧ S v K' h') := by
  refine ⟨c.1, fun w hw => (c.2 w (hw.perm (perm_front hs i h hi))).mono ?_⟩
  rintro e w' ⟨v, K', hs', rfl, ⟨h', rfl, hS⟩, hw'⟩
  exact ⟨v, K', _, rfl, ⟨h', rfl, hS⟩, hw'.perm (perm_set hs i h h' hi)⟩
/-- the same, where the call has laid new heaps ahead -/
theorem Ct.atN {P : Program} {w0 : World} {f : FuncId} {args : List Value} {K : PH} {hs : List PH} {h : PH} {S : Value → PH → PH → List PH → Prop} (i : Nat) (hi : hs[i]? = some h)
    (c : Ct P w0 f args K (h :: hs.eraseIdx i) (fun v K' hs' => ∃ h' new, hs' = new ++ h' :: hs.eraseIdx i ∧ S v K' h' new)) : Ct P w0 f args K hs (fun v K' hs' => ∃ h' new, hs' = new ++ hs.set i h' ∧ S v K' h' new) := by
  refine ⟨c.1, fun w hw => (c.2 w (hw.perm (perm_front hs i h hi))).mono ?_⟩
  rintro e w' ⟨v, K', hs', rfl, ⟨h', new, rfl, hS⟩, hw'⟩
  exact ⟨v, K', _, rfl, ⟨h', new, rfl, hS⟩, hw'.perm ((perm_set hs i h h' hi).append_left new)⟩
section drop
variable {P : Program} {w0 : World} {ops : Array Oper} {Q : Exit → Act → World → Prop} {rest : List Oper} {n : Nat} {l : Sl} {K h : PH} {hs : List PH} {c : Code} {e : Exit}
theorem WL.drop (hk : WL P w0 ops Q rest n l K hs) : WL P w0 ops Q rest n l K (h :: hs) := fun a w ha hw => hk a w ha hw.dropHead
theorem WC.drop (hk : WC P w0 c Q n l K hs) : WC P w0 c Q n l K (h :: hs) := fun a w ha hw => hk a w ha hw.dropHead
theorem WQ.drop (hk : WQ w0 Q e n l K hs) : WQ w0 Q e n l K (h :: hs) := fun a w ha hw => hk a w ha hw.dropHead
theorem WL.em (hk : WL P w0 ops Q rest n l K (En.em :: hs)) : WL P w0 ops Q rest n l K hs := fun a w ha hw => hk a w ha hw.addEm
theorem WC.em (hk : WC P w0 c Q n l K (En.em :: hs)) : WC P w0 c Q n l K hs := fun a w ha hw => hk a w ha hw.addEm
theorem WQ.em (hk : WQ w0 Q e n l K (En.em :: hs)) : WQ w0 Q e n l K hs := fun a w ha hw => hk a w ha hw.addEm
theorem WL.perm {hs' : List PH} (p : hs.Perm hs') (hk : WL P w0 ops Q rest n l K hs') : WL P w0 ops Q rest n l K hs := fun a w ha hw => hk a w ha (hw.perm p)
theorem WC.perm {hs' : List PH} (p : hs.Perm hs') (hk : WC P w0 c Q n l K hs') : WC P w0 c Q n l K hs := fun a w ha hw => hk a w ha (hw.perm p)
theorem WQ.perm {hs' : List PH} (p : hs.Perm hs') (hk : WQ w0 Q e n l K hs') : WQ w0 Q e n l K hs := fun a w ha hw => hk a w ha (hw.perm p)
end drop

theorem In.cons {K h x : PH} {hs : List PH} (hm : In K hs h) : In K (x :: hs) h := by
  rcases hm with h1 | ⟨i, h1⟩
  · exact .inl h1
  · exact .inr ⟨i + 1, by simpa using h1⟩
/-! Numbers in another form. -/
theorem i64w {x : Int} (h : -9223372036854775808 ≤ x ∧ x ≤ 9223372036854775807) : Value.int .i64 (IntKind.i64.wrap x) = .int .i64 x := by rw [IntWalk.i64_in _ h]
theorem u64w {x : Int} (h : 0 ≤ x ∧ x ≤ 18446744073709551615) : Value.int .u64 (IntKind.u64.wrap x) = .int .u64 x := by rw [IntWalk.u64_in _ h]
theorem u32w {x : Int} (h : 0 ≤ x ∧ x ≤ 4294967295) : Value.int .u32 (IntKind.u32.wrap x) = .int .u32 x := by rw [IntWalk.u32_in _ h]
theorem u8w {x : Int} (h : 0 ≤ x ∧ x ≤ 255) : Value.int .u8 (IntKind.u8.wrap x) = .int .u8 x := by rw [IntWalk.u8_in _ h]
theorem u8m (n : Nat) : Value.int .u8 (IntKind.u8.wrap (n : Int)) = .int .u8 ((n % 256 : Nat) : Int) := by
  simp [IntKind.wrap, IntKind.bits, IntKind.signed]
theorem u32m (n : Nat) : Value.int .u32 (IntKind.u32.wrap (n : Int)) = .int .u32 ((n % 4294967296 : Nat) : Int) := by
  simp [IntKind.wrap, IntKind.bits, IntKind.signed]
theorem u64m (n : Nat) : Value.int .u64 (IntKind.u64.wrap (n : Int)) = .int .u64 ((n % 18446744073709551616 : Nat) : Int) := by
  simp [IntKind.wrap, IntKind.bits, IntKind.signed]
end Go.En
