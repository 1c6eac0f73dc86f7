/-
  An engine of small rules for stepping through a function: frames are lists of slots, memory is a list of owned partial heaps beside an immutable one. No program in sight.
-/
import Derived.WalkKit
import Derived.ProofKit
import Derived.Deep.LoopGhost
namespace Go.En

abbrev Sl := List (Nat × Value)
def look : Sl → Nat → Option Value
  | [], _ => none
  | (k, v) :: r, t => cond (Nat.beq k t) (some v) (look r t)

structure Ag (n : Nat) (l : Sl) (a : Act) : Prop where
  size : a.tmps.size = n
  defers : a.defers = []
  slot : ∀ t v, look l t = some v → a.tmps[t]? = some v

theorem Ag.put {n : Nat} {l : Sl} {a : Act} {d : Nat} {v : Value} (h : Ag n l a) (hd : Nat.blt d n = true) :
    Ag n ((d, v) :: l) (a.put (some d) v) := by
  have hd' : d < n := Nat.le_of_ble_eq_true hd
  refine ⟨by simp [Act.put, h.size], h.defers, fun t u hu => ?_⟩
  simp only [look] at hu
  cases e : Nat.beq d t with
  | true =>
    have : d = t := Nat.eq_of_beq_eq_true e
    subst this
    rw [e] at hu
    simp only [cond_true, Option.some.injEq] at hu
    subst hu
    simp [Act.put, h.size, hd']
  | false =>
    rw [e] at hu
    simp only [cond_false] at hu
    have hne : d ≠ t := Nat.ne_of_beq_eq_false e
    rw [← h.slot t u hu]
    simp [Act.put, hne]

def ev (l : Sl) : Operand → Option Value
  | .tmp t => look l t
  | .const v => some v
  | .global g => some (.pointer (some ⟨g, 0, none⟩))
  | .func f => some (.func (.func f) #[] #[])

theorem Ag.ev {n : Nat} {l : Sl} {a : Act} (h : Ag n l a) {x : Operand} {v : Value} (hx : ev l x = some v) : a.eval x = v := by
  cases x with
  | tmp t => simp [Act.eval, h.slot t v hx]
  | const u => simpa [En.ev, Act.eval] using hx
  | global g => simpa [En.ev, Act.eval] using hx
  | func f => simpa [En.ev, Act.eval] using hx

/-- a frame that knows less -/
def Sub (l : Sl) : Sl → Prop
  | [] => True
  | (k, v) :: r => look l k = some v ∧ Sub l r
theorem Sub.look {l : Sl} : ∀ {l2 : Sl}, Sub l l2 → ∀ t v, look l2 t = some v → look l t = some v
  | [], _, t, v, h => by simp [En.look] at h
  | (k, u) :: r, hs, t, v, h => by
    simp only [En.look] at h
    cases e : Nat.beq k t with
    | true =>
      have : k = t := Nat.eq_of_beq_eq_true e
      subst this
      rw [e] at h
      simp only [cond_true, Option.some.injEq] at h
      subst h
      exact hs.1
    | false =>
      rw [e] at h
      exact Sub.look hs.2 t v h
theorem Ag.sub {n : Nat} {l l2 : Sl} {a : Act} (h : Ag n l a) (hs : Sub l l2) : Ag n l2 a :=
  ⟨h.size, h.defers, fun t v ht => h.slot t v (hs.look t v ht)⟩

/-! Memory. -/
abbrev PH := Nat → Option Obj
structure Sat (w0 w : World) (K : PH) (hs : List PH) : Prop where
  os : w.os = w0.os
  tape : w.tape = w0.tape
  output : w.output = w0.output
  size : w0.heap.size ≤ w.heap.size
  imm : ∀ b o, K b = some o → w.heap[b]? = some o
  own : ∀ (i : Nat) h, hs[i]? = some h → ∀ b o, h b = some o → w.heap[b]? = some o
  apart : ∀ (i : Nat) h, hs[i]? = some h → ∀ b o, h b = some o → K b = none
  sep : ∀ (i j : Nat) h h', hs[i]? = some h → hs[j]? = some h' → i ≠ j → ∀ b o, h b = some o → h' b = none

theorem Sat.drew {w0 w : World} {K : PH} {hs : List PH} (h : Sat w0 w K hs) : Sat w0 w.drew K hs :=
  ⟨h.os, h.tape, h.output, h.size, h.imm, h.own, h.apart, h.sep⟩
theorem Sat.dropHead {w0 w : World} {K : PH} {h : PH} {hs : List PH} (s : Sat w0 w K (h :: hs)) : Sat w0 w K hs :=
  ⟨s.os, s.tape, s.output, s.size, s.imm, fun i x hx => s.own (i + 1) x (by simpa using hx), fun i x hx => s.apart (i + 1) x (by simpa using hx),
    fun i j x y hx hy hij => s.sep (i + 1) (j + 1) x y (by simpa using hx) (by simpa using hy) (by omega)⟩

def WL (P : Program) (w0 : World) (ops : Array Oper) (Q : Exit → Act → World → Prop) (rest : List Oper) (n : Nat) (l : Sl) (K : PH) (hs : List PH) : Prop :=
  ∀ a w, Ag n l a → Sat w0 w K hs → wpList P ops Q rest a w
def WC (P : Program) (w0 : World) (c : Code) (Q : Exit → Act → World → Prop) (n : Nat) (l : Sl) (K : PH) (hs : List PH) : Prop :=
  ∀ a w, Ag n l a → Sat w0 w K hs → c.wp P Q a w
def WQ (w0 : World) (Q : Exit → Act → World → Prop) (e : Exit) (n : Nat) (l : Sl) (K : PH) (hs : List PH) : Prop :=
  ∀ a w, Ag n l a → Sat w0 w K hs → Q e a w

section code
variable {P : Program} {w0 : World} {Q : Exit → Act → World → Prop} {n : Nat} {l : Sl} {K : PH} {hs : List PH}
theorem sq {x y : Code} (h : WC P w0 x (Exit.then (y.wp P Q) Q) n l K hs) : WC P w0 (.seq x y) Q n l K hs :=
  fun a w ha hw => wp_seq (h a w ha hw)
theorem rg {id : Nat} {o : List Oper} (h : WL P w0 o.toArray Q o n l K hs) : WC P w0 (.region id o.toArray false) Q n l K hs :=
  fun a w ha hw => wp_region_lit (h a w ha hw)
theorem bk {id : Nat} {c : Code} (h : WC P w0 c (Exit.inBlock id Q) n l K hs) : WC P w0 (.block id c) Q n l K hs :=
  fun a w ha hw => wp_block (h a w ha hw)
theorem ex {id : Nat} (h : WQ w0 Q (.exit id) n l K hs) : WC P w0 (.exit id) Q n l K hs :=
  fun a w ha hw => wp_exit (h a w ha hw)
theorem rt (h : WQ w0 Q .ret n l K hs) : WC P w0 .ret Q n l K hs :=
  fun a w ha hw => wp_ret (h a w ha hw)
theorem sk (h : WQ w0 Q .normal n l K hs) : WC P w0 .skip Q n l K hs :=
  fun a w ha hw => wp_skip (h a w ha hw)
theorem ifT {c : Operand} {x y : Code} (hc : ev l c = some (.bool true)) (h : WC P w0 x Q n l K hs) : WC P w0 (.cond c x y) Q n l K hs :=
  fun a w ha hw => wp_cond_true (ha.ev hc) (h a w ha hw)
theorem ifF {c : Operand} {x y : Code} (hc : ev l c = some (.bool false)) (h : WC P w0 y Q n l K hs) : WC P w0 (.cond c x y) Q n l K hs :=
  fun a w ha hw => wp_cond_false (ha.ev hc) (h a w ha hw)
theorem ifB {c : Operand} {x y : Code} {b : Bool} (hc : ev l c = some (.bool b)) (h : b = true → WC P w0 x Q n l K hs) (h' : b = false → WC P w0 y Q n l K hs) :
    WC P w0 (.cond c x y) Q n l K hs :=
  fun a w ha hw => wp_cond_split (ha.ev hc) (fun e => h e a w ha hw) (fun e => h' e a w ha hw)
/-! what comes behind -/
theorem nl {ops : Array Oper} (h : WQ w0 Q .normal n l K hs) : WL P w0 ops Q [] n l K hs := fun a w ha hw => wpList_nil (h a w ha hw)
theorem th {y : Code} {Q' : Exit → Act → World → Prop} (h : WC P w0 y Q n l K hs) : WQ w0 (Exit.then (y.wp P Q) Q') .normal n l K hs := h
theorem bl {id : Nat} (h : WQ w0 Q .normal n l K hs) : WQ w0 (Exit.inBlock id Q) .normal n l K hs := h
theorem xt {id : Nat} {N : Act → World → Prop} (h : WQ w0 Q (.exit id) n l K hs) : WQ w0 (Exit.then N Q) (.exit id) n l K hs := h
theorem xb {id : Nat} (h : WQ w0 Q .normal n l K hs) : WQ w0 (Exit.inBlock id Q) (.exit id) n l K hs := fun a w ha hw => by
  simpa [Exit.inBlock] using h a w ha hw
theorem xn {id id' : Nat} (hne : Nat.beq id' id = false) (h : WQ w0 Q (.exit id') n l K hs) : WQ w0 (Exit.inBlock id Q) (.exit id') n l K hs := fun a w ha hw => by
  have : id' ≠ id := Nat.ne_of_beq_eq_false hne
  simpa [Exit.inBlock, this] using h a w ha hw
theorem rT {N : Act → World → Prop} (h : WQ w0 Q .ret n l K hs) : WQ w0 (Exit.then N Q) .ret n l K hs := h
theorem rB {id : Nat} (h : WQ w0 Q .ret n l K hs) : WQ w0 (Exit.inBlock id Q) .ret n l K hs := h
theorem WC.sub {c : Code} {l2 : Sl} (hs' : Sub l l2) (h : WC P w0 c Q n l2 K hs) : WC P w0 c Q n l K hs := fun a w ha hw => h a w (ha.sub hs') hw
/-- a loop: 'x' is what a round's head is like; its frame, its memory; a measure. -/
theorem loop {σ : Type} {body : Code} (F : σ → Sl) (HK : σ → PH) (H : σ → List PH) (J : σ → Prop) (μ : σ → Nat) (x0 : σ) (h0 : J x0) (hF : Sub l (F x0)) (hK : K = HK x0) (hH : hs = H x0)
    (round : ∀ x, J x → WC P w0 body (Exit.then (fun a w => ∃ x', J x' ∧ μ x' < μ x ∧ Ag n (F x') a ∧ Sat w0 w (HK x') (H x')) Q) n (F x) (HK x) (H x)) :
    WC P w0 (.loop body) Q n l K hs := fun a w ha hw => by
  subst hK
  subst hH
  refine wp_loop_ghost (fun m a w => ∃ x, J x ∧ μ x = m ∧ Ag n (F x) a ∧ Sat w0 w (HK x) (H x)) (μ x0) ⟨x0, h0, rfl, ha.sub hF, hw⟩ ?_
  rintro m a w ⟨x, hJ, rfl, hA, hS⟩
  refine wp_mono (round x hJ a w hA hS) ?_
  intro e a' w' hq
  cases e with
  | normal =>
    obtain ⟨x', h1, h2, h3, h4⟩ := hq
    exact ⟨μ x', h2, x', h1, rfl, h3, h4⟩
  | exit id => exact hq
  | goto l => exact hq
  | ret => exact hq
  | panic ch => exact hq
  | outgrown => exact hq
/-- a round's end -/
theorem again {σ : Type} {F : σ → Sl} {HK : σ → PH} {H : σ → List PH} {J : σ → Prop} {μ : σ → Nat} {x : σ} {Q' : Exit → Act → World → Prop} (x' : σ) (hF : Sub l (F x')) (hK : K = HK x') (hH : hs = H x')
    (h1 : J x') (h2 : μ x' < μ x) : WQ w0 (Exit.then (fun a w => ∃ x', J x' ∧ μ x' < μ x ∧ Ag n (F x') a ∧ Sat w0 w (HK x') (H x')) Q') .normal n l K hs := fun a w ha hw => by
  subst hK
  subst hH
  exact ⟨x', h1, h2, ha.sub hF, hw⟩
end code

/-! Functions. -/
def callable (P : Program) (f : FuncId) : Bool := match P.funcs[f]? with
  | some fn => fn.body.isSome && !(fn.name == "runtime.NumGoroutine")
  | none => false
def endR (w0 : World) (R : Value → PH → List PH → Prop) : Ending → World → Prop := fun e w' => ∃ v K' hs', e = .returned v ∧ R v K' hs' ∧ Sat w0 w' K' hs'
/-- what a call comes to -/
def Ct (P : Program) (w0 : World) (f : FuncId) (args : List Value) (K : PH) (hs : List PH) (R : Value → PH → List PH → Prop) : Prop :=
  callable P f = true ∧ ∀ w, Sat w0 w K hs → Calls P f args.toArray w (endR w0 R)
theorem Ct.mono {P : Program} {w0 : World} {f : FuncId} {args : List Value} {K : PH} {hs : List PH} {R R' : Value → PH → List PH → Prop} (h : Ct P w0 f args K hs R) (hr : ∀ v K' hs', R v K' hs' → R' v K' hs') :
    Ct P w0 f args K hs R' :=
  ⟨h.1, fun w hw => (h.2 w hw).mono fun _ _ ⟨v, K', hs', h1, h2, h3⟩ => ⟨v, K', hs', h1, hr _ _ _ h2, h3⟩⟩
def params : Nat → List Value → Sl
  | _, [] => []
  | i, v :: r => (i, v) :: params (i + 1) r
theorem look_params : ∀ (args : List Value) (i t : Nat) (v : Value), look (params i args) t = some v → i ≤ t ∧ args[t - i]? = some v
  | [], i, t, v, h => by simp [params, look] at h
  | u :: r, i, t, v, h => by
    simp only [params, look] at h
    cases e : Nat.beq i t with
    | true =>
      have : i = t := Nat.eq_of_beq_eq_true e
      subst this
      rw [e] at h
      simp only [cond_true, Option.some.injEq] at h
      simp [h]
    | false =>
      rw [e] at h
      obtain ⟨h1, h2⟩ := look_params r (i + 1) t v h
      refine ⟨by omega, ?_⟩
      rw [show t - i = (t - (i + 1)) + 1 from by omega]
      simpa using h2
theorem enter {P : Program} {w0 : World} {f : FuncId} {fn : Func} {c : Code} {n : Nat} {args : List Value} {K : PH} {hs : List PH} {R : Value → PH → List PH → Prop}
    (hf : P.funcs[f]? = some fn) (hcal : callable P f = true) (hb : fn.body = some c) (hn : fn.ntmps = n) (hl : Nat.ble args.length n = true)
    (h : WC P w0 c (bodyPost P fn (endR w0 R)) n (params 0 args) K hs) : Ct P w0 f args K hs R := by
  refine ⟨hcal, fun w hw => calls_of_wp hf hb (h _ w ⟨?_, rfl, ?_⟩ hw)⟩
  · have := Nat.le_of_ble_eq_true hl
    simp [hn]
    omega
  · intro t v ht
    obtain ⟨h1, h2⟩ := look_params args 0 t v ht
    have h3 : args[t]? = some v := by simpa using h2
    have h4 : t < args.length := (List.getElem?_eq_some_iff.1 h3).1
    have h5 : args[t] = v := by rw [List.getElem?_eq_getElem h4] at h3; exact Option.some.inj h3
    simp [Array.getElem?_append, h4, h5]
section ret
variable {P : Program} {w0 : World} {fn : Func} {R : Value → PH → List PH → Prop} {n : Nat} {l : Sl} {K : PH} {hs : List PH}
theorem ret0 (hr : fn.results = #[]) (h : R (.tuple #[]) K hs) : WQ w0 (bodyPost P fn (endR w0 R)) .ret n l K hs :=
  fun _ _ ha hw => bodyPost_ret (results_none hr _ _ _) ha.defers ⟨_, _, _, rfl, h, hw⟩
theorem end0 (hr : fn.results = #[]) (h : R (.tuple #[]) K hs) : WQ w0 (bodyPost P fn (endR w0 R)) .normal n l K hs :=
  fun _ _ ha hw => bodyPost_end (results_none hr _ _ _) ha.defers ⟨_, _, _, rfl, h, hw⟩
theorem ret1 {t : Nat} {v : Value} (hr : fn.results = #[.tmp t]) (hv : look l t = some v) (h : R v K hs) : WQ w0 (bodyPost P fn (endR w0 R)) .ret n l K hs :=
  fun _ _ ha hw => bodyPost_ret (results_tmp hr _ _ _) ha.defers ⟨_, _, _, rfl, by simpa [ha.slot t v hv] using h, hw⟩
theorem ret2 {t u : Nat} {v x : Value} (hr : fn.results = #[.tmp t, .tmp u]) (hv : look l t = some v) (hx : look l u = some x) (h : R (.tuple #[v, x]) K hs) : WQ w0 (bodyPost P fn (endR w0 R)) .ret n l K hs :=
  fun _ _ ha hw => bodyPost_ret (results_tmp2 hr _ _ _) ha.defers ⟨_, _, _, rfl, by simpa [ha.slot t v hv, ha.slot u x hx] using h, hw⟩
theorem ret3 {t u s : Nat} {v x y : Value} (hr : fn.results = #[.tmp t, .tmp u, .tmp s]) (hv : look l t = some v) (hx : look l u = some x) (hy : look l s = some y) (h : R (.tuple #[v, x, y]) K hs) :
    WQ w0 (bodyPost P fn (endR w0 R)) .ret n l K hs :=
  fun _ _ ha hw => bodyPost_ret (v := .tuple #[v, x, y]) (by simp [results, hr, ha.slot t v hv, ha.slot u x hx, ha.slot s y hy, go_sem]) ha.defers ⟨_, _, _, rfl, h, hw⟩
end ret

/-! One operation. -/
def gOK (ops : Array Oper) (l : Sl) : Option (Nat × Bool) → Option Bool
  | none => some true
  | some (j, want) => match ops[j]? with
    | some o => match o.dst with
      | some d => match look l d with
        | some (.bool b) => some (b == want)
        | _ => none
      | none => none
    | none => none
theorem gOK_wanted {ops : Array Oper} {n : Nat} {l : Sl} {a : Act} {o : Oper} {b : Bool} (ha : Ag n l a) (h : gOK ops l o.guard = some b) : Region.wanted o (yielded ops a.tmps) = b := by
  unfold gOK at h
  unfold Region.wanted
  split at h
  · rename_i e; simp [e] at *; exact h
  · rename_i j want e
    rw [e]
    simp only
    cases hj : ops[j]? with
    | none => simp [hj] at h
    | some oj =>
      simp only [hj] at h
      cases hd : oj.dst with
      | none => simp [hd] at h
      | some d =>
        simp only [hd] at h
        cases hl : look l d with
        | none => simp [hl] at h
        | some v =>
          simp only [hl] at h
          cases v <;> simp at h
          rename_i b'
          have h4 := ha.slot d _ hl
          simp [yielded, hj, hd, h4, ← h]

/-! The pure operations. -/
inductive UK where
  | int (k : IntKind) | bool | str | slice | ptr | map | other
def UK.fits : UK → TypeDesc → Bool
  | .int k, .int k' => k == k'
  | .bool, .bool => true
  | .str, .string => true
  | .slice, .slice _ => true
  | .ptr, .pointer _ => true
  | .map, .map _ _ => true
  | .other, _ => true
  | _, _ => false
def asc {α : Type} : List (Nat × α) → Nat → Option α
  | [], _ => none
  | (k, v) :: r, t => cond (Nat.beq k t) (some v) (asc r t)
theorem asc_mem {α : Type} : ∀ (l : List (Nat × α)) (t : Nat) (v : α), asc l t = some v → (t, v) ∈ l
  | [], _, _, h => by simp [asc] at h
  | (k, u) :: r, t, v, h => by
    simp only [asc] at h
    cases e : Nat.beq k t with
    | true =>
      have : k = t := Nat.eq_of_beq_eq_true e
      subst this
      rw [e] at h
      simp only [cond_true, Option.some.injEq] at h
      simp [h]
    | false =>
      rw [e] at h
      exact List.mem_cons_of_mem _ (asc_mem r t v h)
/-- what of a program's types the pure steps look at: kinds of types; where a struct's field lies (struct * 64 + field) -/
structure SlI where
  elem : Nat
  size : Nat
  bytes : Nat
  zero : Value
structure Tab where
  kinds : List (Nat × UK)
  flds : List (Nat × Nat)
  sls : List (Nat × SlI)
def UK.one : UK → Bool
  | .other => false
  | _ => true
def Tab.kindOK (P : Program) (x : Nat × UK) : Bool := match P.underlying x.1 with
  | some d => x.2.fits d && (!x.2.one || (match P.info? x.1 with | some i => i.size == 1 | none => false))
  | none => false
def slInfo (P : Program) (t : Nat) : Option SlI := match P.underlying t with
  | some (.slice e) => match P.info? e with
    | some i => match i.zero with
      | some z => some ⟨e, i.size, i.bytes, z⟩
      | none => none
    | none => none
  | _ => none
def Tab.fldOK (P : Program) (x : Nat × Nat) : Bool := match P.underlying (x.1 / 64) with
  | some (.struct fs) => match fs[x.1 % 64]? with
    | some fd => fd.offset == x.2 && (match P.info? fd.type with | some i => i.size != 0 | none => false)
    | none => false
  | _ => false
structure TabOK (P : Program) (T : Tab) : Prop where
  kinds : T.kinds.all (Tab.kindOK P) = true
  flds : T.flds.all (Tab.fldOK P) = true
  sls : T.sls.map (fun x => slInfo P x.1) = T.sls.map (fun x => some x.2)
theorem TabOK.sl {P : Program} {T : Tab} (h : TabOK P T) {t : Nat} {s : SlI} (hs : asc T.sls t = some s) :
    P.underlying t = some (.slice s.elem) ∧ ∃ i, P.info? s.elem = some i ∧ i.zero = some s.zero ∧ i.size = s.size ∧ i.bytes = s.bytes := by
  have h1 : slInfo P t = some s := by
    have := asc_mem _ _ _ hs
    obtain ⟨k, hk⟩ := List.getElem?_of_mem this
    have h2 := congrArg (fun l => l[k]?) h.sls
    simpa [hk] using h2
  unfold slInfo at h1
  split at h1
  · rename_i e he
    split at h1
    · rename_i i hi
      split at h1
      · rename_i z hz
        simp only [Option.some.injEq] at h1
        subst h1
        exact ⟨he, i, hi, hz, rfl, rfl⟩
      · simp at h1
    · simp at h1
  · simp at h1
theorem TabOK.one {P : Program} {T : Tab} (h : TabOK P T) {t : Nat} {k : UK} (hk : asc T.kinds t = some k) (h1 : k.one = true) : ∃ d i, P.underlying t = some d ∧ P.info? t = some i ∧ i.size = 1 ∧ k.fits d = true := by
  have := List.all_eq_true.1 h.kinds _ (asc_mem _ _ _ hk)
  unfold Tab.kindOK at this
  cases e : P.underlying t with
  | none => simp [e] at this
  | some d =>
    simp only [e, h1, Bool.not_true, Bool.false_or, Bool.and_eq_true] at this
    obtain ⟨h2, h3⟩ := this
    cases e2 : P.info? t with
    | none => simp [e2] at h3
    | some i => exact ⟨d, i, rfl, rfl, by simpa [e2] using h3, h2⟩
theorem TabOK.kind {P : Program} {T : Tab} (h : TabOK P T) {t : Nat} {k : UK} (hk : asc T.kinds t = some k) : ∃ d, P.underlying t = some d ∧ k.fits d = true := by
  have := List.all_eq_true.1 h.kinds _ (asc_mem _ _ _ hk)
  unfold Tab.kindOK at this
  cases e : P.underlying t with
  | none => simp [e] at this
  | some d =>
    simp only [e, Bool.and_eq_true] at this
    exact ⟨d, rfl, this.1⟩
theorem TabOK.int {P : Program} {T : Tab} (h : TabOK P T) {t : Nat} {k : IntKind} (hk : asc T.kinds t = some (.int k)) : P.underlying t = some (.int k) := by
  obtain ⟨d, h1, h2⟩ := h.kind hk
  cases d <;> simp [UK.fits] at h2
  subst h2
  exact h1
theorem TabOK.fld {P : Program} {T : Tab} (h : TabOK P T) {s f off : Nat} (hf : Nat.blt f 64 = true) (hk : asc T.flds (s * 64 + f) = some off) (a : Addr) (w : World) :
    (Instr.fieldAt s (.pointer (some a)) f).run P w = .ok (.pointer (some (a.add off))) w := by
  have := List.all_eq_true.1 h.flds _ (asc_mem _ _ _ hk)
  have hf' : f < 64 := Nat.le_of_ble_eq_true hf
  unfold Tab.fldOK at this
  rw [show (s * 64 + f, off).1 / 64 = s from by simp; omega, show (s * 64 + f, off).1 % 64 = f from by simp; omega] at this
  cases e : P.underlying s with
  | none => simp [e] at this
  | some d =>
    cases d <;> simp [e] at this
    rename_i fs
    cases e2 : fs[f]? with
    | none => simp [e2] at this
    | some fd =>
      simp only [e2, Bool.and_eq_true, beq_iff_eq] at this
      obtain ⟨h1, h2⟩ := this
      cases e3 : P.info? fd.type with
      | none => simp [e3] at h2
      | some i =>
        have h3 : ¬ i.size = 0 := by simpa [e3] using h2
        simp [Instr.fieldAt, run_underlying e, e2, Instr.sureAddr, fieldPlace, sizeOf, typeInfo, e3, h3, h1, go_sem]
def pureBin (op : BinOp) (u v : Value) : Option Value :=
  match u, v with
  | .int k a, .int k' b => match op with
    | .shl => cond (decide (0 ≤ b)) (some (.int k (k.wrap (a * 2 ^ (min b.toNat k.bits))))) none
    | .shr => cond (decide (0 ≤ b)) (some (.int k (a.fdiv (2 ^ (min b.toNat k.bits))))) none
    | op => cond (decide (k = k')) (match op with
      | .add => some (.int k (k.wrap (a + b)))
      | .sub => some (.int k (k.wrap (a - b)))
      | .mul => some (.int k (k.wrap (a * b)))
      | .quo => cond (decide (b = 0)) none (some (.int k (k.wrap (a.tdiv b))))
      | .rem => cond (decide (b = 0)) none (some (.int k (a.tmod b)))
      | .and => some (.int k (k.wrap (BitVec.ofInt k.bits a &&& BitVec.ofInt k.bits b).toNat))
      | .or => some (.int k (k.wrap (BitVec.ofInt k.bits a ||| BitVec.ofInt k.bits b).toNat))
      | .xor => some (.int k (k.wrap (BitVec.ofInt k.bits a ^^^ BitVec.ofInt k.bits b).toNat))
      | .andNot => some (.int k (k.wrap (BitVec.ofInt k.bits a &&& ~~~BitVec.ofInt k.bits b).toNat))
      | .eql => some (.bool (a == b))
      | .neq => some (.bool (a != b))
      | .lss => some (.bool (decide (a < b)))
      | .leq => some (.bool (decide (a ≤ b)))
      | .gtr => some (.bool (decide (a > b)))
      | .geq => some (.bool (decide (a ≥ b)))
      | _ => none) none
  | .string a, .string b => match op with
    | .eql => some (.bool (a.toList == b.toList))
    | .neq => some (.bool !(a.toList == b.toList))
    | _ => none
  | _, _ => none
def eqNil (T : Tab) (t : Nat) (op : BinOp) (u v : Value) : Option Value :=
  match op, asc T.kinds t, u, v with
  | .eql, some .ptr, .pointer a, .pointer none => some (.bool a.isNone)
  | .neq, some .ptr, .pointer a, .pointer none => some (.bool !a.isNone)
  | .eql, some .slice, .slice a _ _, .slice none _ _ => some (.bool a.isNone)
  | .neq, some .slice, .slice a _ _, .slice none _ _ => some (.bool !a.isNone)
  | .eql, some .map, .map a, .map none => some (.bool a.isNone)
  | .neq, some .map, .map a, .map none => some (.bool !a.isNone)
  | .eql, some .bool, .bool a, .bool b => some (.bool (a == b))
  | .neq, some .bool, .bool a, .bool b => some (.bool !(a == b))
  | _, _, _, _ => none
def pureUn (op : UnOp) (u : Value) : Option Value :=
  match op, u with
  | .not, .bool b => some (.bool !b)
  | .neg, .int k n => some (.int k (k.wrap (0 - n)))
  | .xor, .int k n => some (.int k (k.wrap (BitVec.ofInt k.bits (if k.signed then -1 else k.max) ^^^ BitVec.ofInt k.bits n).toNat))
  | _, _ => none
def pureLen (T : Tab) (t : Nat) (u : Value) : Option Value :=
  match u with
  | .slice _ n _ => match asc T.kinds t with | some .slice => some (.int .i64 n) | _ => none
  | .string s => match asc T.kinds t with | some .str => some (.int .i64 s.size) | _ => none
  | _ => none
def pureOp (T : Tab) (l : Sl) : Op → Option Value
  | .move x | .assign x => ev l x
  | .pick c a b => match ev l c with
    | some (.bool c') => cond c' (ev l a) (ev l b)
    | _ => none
  | .nilCheck x => match ev l x with
    | some (.pointer (some a)) => some (.pointer (some a))
    | some (.func (.func f) first captured) => some (.func (.func f) first captured)
    | _ => none
  | .binOp op t x y _ => match ev l x, ev l y with
    | some u, some v => match pureBin op u v with
      | some r => some r
      | none => eqNil T t op u v
    | _, _ => none
  | .unOp op _ x => match ev l x with
    | some u => pureUn op u
    | none => none
  | .extract t i => match ev l t with
    | some (.tuple vs) => vs[i]?
    | _ => none
  | .convert s d x => match asc T.kinds s, ev l x, asc T.kinds d with
    | some _, some (.int _ n), some (.int k) => some (.int k (k.wrap n))
    | _, _, _ => none
  | .fieldAddr s x f => match ev l x with
    | some (.pointer (some a)) => match Nat.blt f 64, asc T.flds (s * 64 + f) with
      | true, some off => some (.pointer (some (a.add off)))
      | _, _ => none
    | _ => none
  | .call { callee := .builtin .len, args, argTypes } => match args.toList, argTypes.toList with
    | [x], [t] => match ev l x with
      | some u => pureLen T t u
      | none => none
    | _, _ => none
  | .call { callee := .builtin .max, args, .. } => match args.toList with
    | [x, y] => match ev l x, ev l y with
      | some (.int k a), some (.int _ b) => some (.int k (if b > a then b else a))
      | _, _ => none
    | _ => none
  | .call { callee := .builtin .min, args, .. } => match args.toList with
    | [x, y] => match ev l x, ev l y with
      | some (.int k a), some (.int _ b) => some (.int k (if b < a then b else a))
      | _, _ => none
    | _ => none
  | .makeFunc fn first captured => match first.toList, captured.toList with
    | [], [] => some (.func fn #[] #[])
    | _, _ => none
  | _ => none

theorem pureBin_run {P : Program} {op : BinOp} {u v r : Value} (h : pureBin op u v = some r) (t : TypeId) (w : World) : (binOp op t u v).run P w = .ok r w := by
  unfold pureBin at h
  split at h
  · rename_i k a k' b
    split at h
    · cases e : decide (0 ≤ b) with
      | false => simp [e] at h
      | true =>
        rw [e] at h
        simp only [cond_true, Option.some.injEq] at h
        subst h
        have hb : ¬ b < 0 := by have := of_decide_eq_true e; omega
        simp [binOp, Op.shift, hb, go_sem]
    · cases e : decide (0 ≤ b) with
      | false => simp [e] at h
      | true =>
        rw [e] at h
        simp only [cond_true, Option.some.injEq] at h
        subst h
        have hb : ¬ b < 0 := by have := of_decide_eq_true e; omega
        simp [binOp, Op.shift, hb, go_sem]
    · by_cases hk : k = k'
      · subst hk
        simp only [decide_true, cond_true] at h
        split at h <;> first
          | (simp only [Option.some.injEq] at h; subst h; simp [binOp, Op.intArith, Op.intBits, Op.intCmp, go_sem]; done)
          | (by_cases hb : b = 0
             · simp [hb] at h
             · simp only [hb, decide_false, cond_false, Option.some.injEq] at h; subst h; simp [binOp, Op.intDiv, hb, go_sem])
          | (simp at h; done)
      · simp [hk] at h
  · split at h <;> first
      | (simp only [Option.some.injEq] at h; subst h; simp [binOp, Op.stringOp, go_sem]; done)
      | (simp at h; done)
  · simp at h
theorem pureUn_run {P : Program} {op : UnOp} {u r : Value} (h : pureUn op u = some r) (w : World) : (Op.unary op u).run P w = .ok r w := by
  unfold pureUn at h
  split at h <;> first
    | (simp only [Option.some.injEq] at h; subst h; simp [Op.unary, Op.intArith, Op.intBits, go_sem]; done)
    | (simp at h; done)
theorem pureLen_run {P : Program} {T : Tab} (hT : TabOK P T) {t : Nat} {u r : Value} (h : pureLen T t u = some r) (ty : TypeId) (w : World) : (Builtin.len_ #[t] ty #[u]).run P w = .ok r w := by
  unfold pureLen at h
  split at h
  · split at h
    · rename_i e
      obtain ⟨d, h1, h2⟩ := hT.kind e
      cases d <;> simp [UK.fits] at h2
      simp only [Option.some.injEq] at h
      subst h
      simp [Builtin.len_, run_underlying h1, goInt, go_sem]
    · simp at h
  · split at h
    · rename_i e
      obtain ⟨d, h1, h2⟩ := hT.kind e
      cases d <;> simp [UK.fits] at h2
      simp only [Option.some.injEq] at h
      subst h
      simp [Builtin.len_, run_underlying h1, goInt, go_sem]
    · simp at h
  · simp at h
theorem eqGuard_plain {P : Program} {op : BinOp} {u v r : Value} (h : pureBin op u v = some r) (t : TypeId) (x y : Operand) (w : World) : (eqGuard op t x y u v).run P w = .ok () w := by
  unfold pureBin at h
  unfold eqGuard
  split at h
  · split <;> simp [go_sem]
  · split <;> simp [go_sem]
  · simp at h
theorem run_equal {P : Program} {t : Nat} {u v : Value} {b : Bool} {w : World} (h : ∀ d, (Op.equalIn (d + 1) t u v).run P w = .ok b w) : (Op.equal t u v).run P w = .ok b w := h 9999
theorem run_equalIn_nil {P : Program} {T : Tab} (hT : TabOK P T) {t : Nat} {op : BinOp} {u v r : Value} (h : eqNil T t op u v = some r) (x y : Operand) (w : World) :
    (eqGuard op t x y u v).run P w = .ok () w ∧ (binOp op t u v).run P w = .ok r w := by
  unfold eqNil at h
  split at h
  · rename_i e
    obtain ⟨d, h1, h2⟩ := hT.kind e
    cases d <;> simp [UK.fits] at h2
    simp only [Option.some.injEq] at h
    subst h
    rename_i a _
    cases a <;> exact ⟨by simp [eqGuard], by simp only [binOp]; rw [Sem.run_bind, run_equal (fun d => by simp [Op.equalIn, run_underlying h1]; try rfl)]; rfl⟩
  · rename_i e
    obtain ⟨d, h1, h2⟩ := hT.kind e
    cases d <;> simp [UK.fits] at h2
    simp only [Option.some.injEq] at h
    subst h
    rename_i a _
    cases a <;> exact ⟨by simp [eqGuard], by simp only [binOp]; rw [Sem.run_bind, run_equal (fun d => by simp [Op.equalIn, run_underlying h1]; try rfl)]; rfl⟩
  · rename_i a _ _ _ _ e
    obtain ⟨d, h1, h2⟩ := hT.kind e
    cases d <;> simp [UK.fits] at h2
    simp only [Option.some.injEq] at h
    subst h
    cases a <;> exact ⟨by simp [eqGuard], by simp only [binOp]; rw [Sem.run_bind, run_equal (fun d => by simp [Op.equalIn, run_underlying h1]; try rfl)]; rfl⟩
  · rename_i a _ _ _ _ e
    obtain ⟨d, h1, h2⟩ := hT.kind e
    cases d <;> simp [UK.fits] at h2
    simp only [Option.some.injEq] at h
    subst h
    cases a <;> exact ⟨by simp [eqGuard], by simp only [binOp]; rw [Sem.run_bind, run_equal (fun d => by simp [Op.equalIn, run_underlying h1]; try rfl)]; rfl⟩
  · rename_i e
    obtain ⟨d, h1, h2⟩ := hT.kind e
    cases d <;> simp [UK.fits] at h2
    simp only [Option.some.injEq] at h
    subst h
    rename_i a _ _
    cases a <;> exact ⟨by simp [eqGuard], by simp only [binOp]; rw [Sem.run_bind, run_equal (fun d => by simp [Op.equalIn, run_underlying h1]; try rfl)]; rfl⟩
  · rename_i e
    obtain ⟨d, h1, h2⟩ := hT.kind e
    cases d <;> simp [UK.fits] at h2
    simp only [Option.some.injEq] at h
    subst h
    rename_i a _ _
    cases a <;> exact ⟨by simp [eqGuard], by simp only [binOp]; rw [Sem.run_bind, run_equal (fun d => by simp [Op.equalIn, run_underlying h1]; try rfl)]; rfl⟩
  · rename_i e
    obtain ⟨d, h1, h2⟩ := hT.kind e
    cases d <;> simp [UK.fits] at h2
    simp only [Option.some.injEq] at h
    subst h
    exact ⟨by simp [eqGuard], by simp only [binOp]; rw [Sem.run_bind, run_equal (fun d => by simp [Op.equalIn, run_underlying h1]; try rfl)]; rfl⟩
  · rename_i e
    obtain ⟨d, h1, h2⟩ := hT.kind e
    cases d <;> simp [UK.fits] at h2
    simp only [Option.some.injEq] at h
    subst h
    exact ⟨by simp [eqGuard], by simp only [binOp]; rw [Sem.run_bind, run_equal (fun d => by simp [Op.equalIn, run_underlying h1]; try rfl)]; rfl⟩
  · simp at h
theorem pureOp_run {P : Program} {T : Tab} (hT : TabOK P T) {n : Nat} {l : Sl} {a : Act} {o : Oper} {v : Value} (h : pureOp T l o.op = some v) (ha : Ag n l a) (w : World) :
    (execOp a.eval o).run P w = .ok (.value v) w := by
  obtain ⟨dst, op, type, pos, after, guard⟩ := o
  simp only at h
  have hρ : ∀ x v, ev l x = some v → a.eval x = v := fun _ _ hx => ha.ev hx
  clear ha
  generalize a.eval = ρ at *
  unfold pureOp at h
  unfold execOp
  split at h
  · simp [hρ _ _ h, go_sem]
  · simp [hρ _ _ h, go_sem]
  · rename_i c x y
    cases hc : ev l c with
    | none => simp [hc] at h
    | some vc =>
      rw [hc] at h
      cases vc <;> simp only [reduceCtorEq] at h
      rename_i b
      cases b with
      | true => simp only [cond_true] at h; simp [hρ _ _ hc, hρ _ _ h, asBool, go_sem]
      | false => simp only [cond_false] at h; simp [hρ _ _ hc, hρ _ _ h, asBool, go_sem]
  · rename_i x
    split at h
    · rename_i e
      simp only [Option.some.injEq] at h
      subst h
      simp [hρ _ _ e, go_sem]
    · rename_i e
      simp only [Option.some.injEq] at h
      subst h
      simp [hρ _ _ e, go_sem]
    · simp at h
  · rename_i op ty x y ty'
    split at h
    · rename_i u1 u2 e1 e2
      split at h
      · rename_i r hr
        simp only [Option.some.injEq] at h
        subst h
        have h1 := pureBin_run (P := P) hr ty w
        have h2 := eqGuard_plain (P := P) hr ty x y w
        simp only [hρ _ _ e1, hρ _ _ e2]
        simp [h1, h2, go_sem]
      · obtain ⟨h2, h1⟩ := run_equalIn_nil hT h x y w
        simp only [hρ _ _ e1, hρ _ _ e2]
        simp [h1, h2]
    · simp at h
  · split at h
    · rename_i e
      have h1 := pureUn_run (P := P) h w
      simp [hρ _ _ e, h1, go_sem]
    · simp at h
  · split at h
    · rename_i e
      simp [hρ _ _ e, Instr.extract, h, go_sem]
    · simp at h
  · rename_i s d x
    split at h
    · rename_i k1 kk n k e1 e2 e3
      simp only [Option.some.injEq] at h
      subst h
      obtain ⟨d1, g1, _⟩ := hT.kind e1
      simp [hρ _ _ e2, convert, run_underlying g1, run_underlying (hT.int e3), Conv.intToInt, go_sem]
    · simp at h
  · rename_i s x f
    split at h
    · rename_i e
      split at h
      · rename_i e1 e2
        simp only [Option.some.injEq] at h
        subst h
        have h3 := hT.fld e1 e2 (by assumption) w
        simp [hρ _ _ e, h3]
      · simp at h
    · simp at h
  · rename_i args argTypes
    split at h
    · rename_i x t e1 e2
      split at h
      · rename_i u e3
        have a1 : args = #[x] := by cases args; simp_all
        have a2 : argTypes = #[t] := by cases argTypes; simp_all
        subst a1
        subst a2
        simp [resolve, invoke, builtin, hρ _ _ e3, pureLen_run hT h, go_sem]
      · simp at h
    · simp at h
  · rename_i args argTypes
    split at h
    · rename_i x y e1
      split at h
      · rename_i e3 e4
        have a1 : args = #[x, y] := by cases args; simp_all
        subst a1
        simp only [Option.some.injEq] at h
        subst h
        simp [resolve, invoke, builtin, hρ _ _ e3, hρ _ _ e4, Builtin.max_, Builtin.max2, go_sem]
      · simp at h
    · simp at h
  · rename_i args argTypes
    split at h
    · rename_i x y e1
      split at h
      · rename_i e3 e4
        have a1 : args = #[x, y] := by cases args; simp_all
        subst a1
        simp only [Option.some.injEq] at h
        subst h
        simp [resolve, invoke, builtin, hρ _ _ e3, hρ _ _ e4, Builtin.min_, Builtin.min2, go_sem]
      · simp at h
    · simp at h
  · rename_i fn first captured
    split at h
    · rename_i e1 e2
      have a1 : first = #[] := by cases first; simp_all
      have a2 : captured = #[] := by cases captured; simp_all
      subst a1
      subst a2
      simp only [Option.some.injEq] at h
      subst h
      simp [Instr.makeFunc, go_sem]
    · simp at h
  · simp at h
end Go.En
