/-
  Part 1 of what the proof needs (texts En Ed Cs Zc Zd Cp Ms Tab Cw Cr).
-/
import Derived.WalkKit
import Derived.ProofKit
import Derived.Deep.LoopGhost
import Derived.OrdersHeld
import Derived.StillTail
import Derived.Laws.BytesArg
import Derived.Lib.ConvBytes
import Derived.Laws.StructEq
import Derived.Test.YtejkjbkodcamoaaGreatDoorRows
import Derived.OpenShut
import Derived.JoinedCond
import Derived.Carry
import Derived.Deep.Slices
import Derived.Deep.Strs
import Derived.KernelRfl
set_option linter.unusedSectionVars false
set_option linter.unusedSimpArgs false
set_option linter.unusedVariables false
section
namespace Go.En
abbrev Sl := List (Nat × Value)
def look : Sl -> Nat -> Option Value
 | [], _ => none
 | (k, v) :: r, t => cond (Nat.beq k t) (some v) (look r t)
structure Ag (n : Nat) (l : Sl) (a : Act) : Prop where
 size : a.tmps.size = n
 defers : a.defers = []
 slot : ∀ t v, look l t = some v -> a.tmps[t]? = some v
theorem Ag.put {n : Nat} {l : Sl} {a : Act} {d : Nat} {v : Value} (h : Ag n l a) (hd : Nat.blt d n = true) :
  Ag n ((d, v) :: l) (a.put (some d) v) := by
 have hd' : d < n := Nat.le_of_ble_eq_true hd
 refine ⟨by simp [Act.put, h.size], h.defers, fun t u hu => ?_⟩
 simp only [look] at hu
 cases e : Nat.beq d t with
 | true =>
  have : d = t := Nat.eq_of_beq_eq_true e
  subst this
  rw [e] at hu
  simp only [cond_true, Option.some.injEq] at hu
  subst hu
  simp [Act.put, h.size, hd']
 | false =>
  rw [e] at hu
  simp only [cond_false] at hu
  have hne : d ≠ t := Nat.ne_of_beq_eq_false e
  rw [<- h.slot t u hu]
  simp [Act.put, hne]
def ev (l : Sl) : Operand -> Option Value
 | .tmp t => look l t
 | .const v => some v
 | .global g => some (.pointer (some ⟨g, 0, none⟩))
 | .func f => some (.func (.func f) #[] #[])
theorem Ag.ev {n : Nat} {l : Sl} {a : Act} (h : Ag n l a) {x : Operand} {v : Value} (hx : ev l x = some v) : a.eval x = v := by
 cases x with
 | tmp t => simp [Act.eval, h.slot t v hx]
 | const u => simpa [En.ev, Act.eval] using hx
 | global g => simpa [En.ev, Act.eval] using hx
 | func f => simpa [En.ev, Act.eval] using hx
def Sub (l : Sl) : Sl -> Prop
 | [] => True
 | (k, v) :: r => look l k = some v /\ Sub l r
theorem Sub.look {l : Sl} : ∀ {l2 : Sl}, Sub l l2 -> ∀ t v, look l2 t = some v -> look l t = some v
 | [], _, t, v, h => by simp [En.look] at h
 | (k, u) :: r, hs, t, v, h => by
  simp only [En.look] at h
  cases e : Nat.beq k t with
  | true =>
   have : k = t := Nat.eq_of_beq_eq_true e
   subst this
   rw [e] at h
   simp only [cond_true, Option.some.injEq] at h
   subst h
   exact hs.1
  | false =>
   rw [e] at h
   exact Sub.look hs.2 t v h
theorem Ag.sub {n : Nat} {l l2 : Sl} {a : Act} (h : Ag n l a) (hs : Sub l l2) : Ag n l2 a :=
 ⟨h.size, h.defers, fun t v ht => h.slot t v (hs.look t v ht)⟩
abbrev PH := Nat -> Option Obj
structure Sat (w0 w : World) (K : PH) (hs : List PH) : Prop where
 os : w.os = w0.os
 tape : w.tape = w0.tape
 output : w.output = w0.output
 size : w0.heap.size <= w.heap.size
 imm : ∀ b o, K b = some o -> w.heap[b]? = some o
 own : ∀ (i : Nat) h, hs[i]? = some h -> ∀ b o, h b = some o -> w.heap[b]? = some o
 apart : ∀ (i : Nat) h, hs[i]? = some h -> ∀ b o, h b = some o -> K b = none
 sep : ∀ (i j : Nat) h h', hs[i]? = some h -> hs[j]? = some h' -> i ≠ j -> ∀ b o, h b = some o -> h' b = none
theorem Sat.drew {w0 w : World} {K : PH} {hs : List PH} (h : Sat w0 w K hs) : Sat w0 w.drew K hs :=
 ⟨h.os, h.tape, h.output, h.size, h.imm, h.own, h.apart, h.sep⟩
theorem Sat.dropHead {w0 w : World} {K : PH} {h : PH} {hs : List PH} (s : Sat w0 w K (h :: hs)) : Sat w0 w K hs :=
 ⟨s.os, s.tape, s.output, s.size, s.imm, fun i x hx => s.own (i + 1) x (by simpa using hx), fun i x hx => s.apart (i + 1) x (by simpa using hx),
  fun i j x y hx hy hij => s.sep (i + 1) (j + 1) x y (by simpa using hx) (by simpa using hy) (by omega)⟩
def WL (P : Program) (w0 : World) (ops : Array Oper) (Q : Exit -> Act -> World -> Prop) (rest : List Oper) (n : Nat) (l : Sl) (K : PH) (hs : List PH) : Prop :=
 ∀ a w, Ag n l a -> Sat w0 w K hs -> wpList P ops Q rest a w
def WC (P : Program) (w0 : World) (c : Code) (Q : Exit -> Act -> World -> Prop) (n : Nat) (l : Sl) (K : PH) (hs : List PH) : Prop :=
 ∀ a w, Ag n l a -> Sat w0 w K hs -> c.wp P Q a w
def WQ (w0 : World) (Q : Exit -> Act -> World -> Prop) (e : Exit) (n : Nat) (l : Sl) (K : PH) (hs : List PH) : Prop :=
 ∀ a w, Ag n l a -> Sat w0 w K hs -> Q e a w
section code
variable {P : Program} {w0 : World} {Q : Exit -> Act -> World -> Prop} {n : Nat} {l : Sl} {K : PH} {hs : List PH}
theorem sq {x y : Code} (h : WC P w0 x (Exit.then (y.wp P Q) Q) n l K hs) : WC P w0 (.seq x y) Q n l K hs :=
 fun a w ha hw => wp_seq (h a w ha hw)
theorem rg {id : Nat} {o : List Oper} (h : WL P w0 o.toArray Q o n l K hs) : WC P w0 (.region id o.toArray false) Q n l K hs :=
 fun a w ha hw => wp_region_lit (h a w ha hw)
theorem bk {id : Nat} {c : Code} (h : WC P w0 c (Exit.inBlock id Q) n l K hs) : WC P w0 (.block id c) Q n l K hs :=
 fun a w ha hw => wp_block (h a w ha hw)
theorem ex {id : Nat} (h : WQ w0 Q (.exit id) n l K hs) : WC P w0 (.exit id) Q n l K hs :=
 fun a w ha hw => wp_exit (h a w ha hw)
theorem rt (h : WQ w0 Q .ret n l K hs) : WC P w0 .ret Q n l K hs :=
 fun a w ha hw => wp_ret (h a w ha hw)
theorem sk (h : WQ w0 Q .normal n l K hs) : WC P w0 .skip Q n l K hs :=
 fun a w ha hw => wp_skip (h a w ha hw)
theorem ifT {c : Operand} {x y : Code} (hc : ev l c = some (.bool true)) (h : WC P w0 x Q n l K hs) : WC P w0 (.cond c x y) Q n l K hs :=
 fun a w ha hw => wp_cond_true (ha.ev hc) (h a w ha hw)
theorem ifF {c : Operand} {x y : Code} (hc : ev l c = some (.bool false)) (h : WC P w0 y Q n l K hs) : WC P w0 (.cond c x y) Q n l K hs :=
 fun a w ha hw => wp_cond_false (ha.ev hc) (h a w ha hw)
theorem ifB {c : Operand} {x y : Code} {b : Bool} (hc : ev l c = some (.bool b)) (h : b = true -> WC P w0 x Q n l K hs) (h' : b = false -> WC P w0 y Q n l K hs) :
  WC P w0 (.cond c x y) Q n l K hs :=
 fun a w ha hw => wp_cond_split (ha.ev hc) (fun e => h e a w ha hw) (fun e => h' e a w ha hw)
theorem nl {ops : Array Oper} (h : WQ w0 Q .normal n l K hs) : WL P w0 ops Q [] n l K hs := fun a w ha hw => wpList_nil (h a w ha hw)
theorem th {y : Code} {Q' : Exit -> Act -> World -> Prop} (h : WC P w0 y Q n l K hs) : WQ w0 (Exit.then (y.wp P Q) Q') .normal n l K hs := h
theorem bl {id : Nat} (h : WQ w0 Q .normal n l K hs) : WQ w0 (Exit.inBlock id Q) .normal n l K hs := h
theorem xt {id : Nat} {N : Act -> World -> Prop} (h : WQ w0 Q (.exit id) n l K hs) : WQ w0 (Exit.then N Q) (.exit id) n l K hs := h
theorem xb {id : Nat} (h : WQ w0 Q .normal n l K hs) : WQ w0 (Exit.inBlock id Q) (.exit id) n l K hs := fun a w ha hw => by
 simpa [Exit.inBlock] using h a w ha hw
theorem xn {id id' : Nat} (hne : Nat.beq id' id = false) (h : WQ w0 Q (.exit id') n l K hs) : WQ w0 (Exit.inBlock id Q) (.exit id') n l K hs := fun a w ha hw => by
 have : id' ≠ id := Nat.ne_of_beq_eq_false hne
 simpa [Exit.inBlock, this] using h a w ha hw
theorem rT {N : Act -> World -> Prop} (h : WQ w0 Q .ret n l K hs) : WQ w0 (Exit.then N Q) .ret n l K hs := h
theorem rB {id : Nat} (h : WQ w0 Q .ret n l K hs) : WQ w0 (Exit.inBlock id Q) .ret n l K hs := h
theorem loop {σ : Type} {body : Code} (F : σ -> Sl) (HK : σ -> PH) (H : σ -> List PH) (J : σ -> Prop) (μ : σ -> Nat) (x0 : σ) (h0 : J x0) (hF : Sub l (F x0)) (hK : K = HK x0) (hH : hs = H x0)
  (round : ∀ x, J x -> WC P w0 body (Exit.then (fun a w => ∃ x', J x' /\ μ x' < μ x /\ Ag n (F x') a /\ Sat w0 w (HK x') (H x')) Q) n (F x) (HK x) (H x)) :
  WC P w0 (.loop body) Q n l K hs := fun a w ha hw => by
 subst hK
 subst hH
 refine wp_loop_ghost (fun m a w => ∃ x, J x /\ μ x = m /\ Ag n (F x) a /\ Sat w0 w (HK x) (H x)) (μ x0) ⟨x0, h0, rfl, ha.sub hF, hw⟩ ?_
 rintro m a w ⟨x, hJ, rfl, hA, hS⟩
 refine wp_mono (round x hJ a w hA hS) ?_
 intro e a' w' hq
 cases e with
 | normal =>
  obtain ⟨x', h1, h2, h3, h4⟩ := hq
  exact ⟨μ x', h2, x', h1, rfl, h3, h4⟩
 | exit id => exact hq
 | goto l => exact hq
 | ret => exact hq
 | panic ch => exact hq
 | outgrown => exact hq
theorem again {σ : Type} {F : σ -> Sl} {HK : σ -> PH} {H : σ -> List PH} {J : σ -> Prop} {μ : σ -> Nat} {x : σ} {Q' : Exit -> Act -> World -> Prop} (x' : σ) (hF : Sub l (F x')) (hK : K = HK x') (hH : hs = H x')
  (h1 : J x') (h2 : μ x' < μ x) : WQ w0 (Exit.then (fun a w => ∃ x', J x' /\ μ x' < μ x /\ Ag n (F x') a /\ Sat w0 w (HK x') (H x')) Q') .normal n l K hs := fun a w ha hw => by
 subst hK
 subst hH
 exact ⟨x', h1, h2, ha.sub hF, hw⟩
end code
def callable (P : Program) (f : FuncId) : Bool := match P.funcs[f]? with
 | some fn => fn.body.isSome && !(fn.name == "runtime.NumGoroutine")
 | none => false
def endR (w0 : World) (R : Value -> PH -> List PH -> Prop) : Ending -> World -> Prop := fun e w' => ∃ v K' hs', e = .returned v /\ R v K' hs' /\ Sat w0 w' K' hs'
def Ct (P : Program) (w0 : World) (f : FuncId) (args : List Value) (K : PH) (hs : List PH) (R : Value -> PH -> List PH -> Prop) : Prop :=
 callable P f = true /\ ∀ w, Sat w0 w K hs -> Calls P f args.toArray w (endR w0 R)
theorem Ct.mono {P : Program} {w0 : World} {f : FuncId} {args : List Value} {K : PH} {hs : List PH} {R R' : Value -> PH -> List PH -> Prop} (h : Ct P w0 f args K hs R) (hr : ∀ v K' hs', R v K' hs' -> R' v K' hs') :
  Ct P w0 f args K hs R' :=
 ⟨h.1, fun w hw => (h.2 w hw).mono fun _ _ ⟨v, K', hs', h1, h2, h3⟩ => ⟨v, K', hs', h1, hr _ _ _ h2, h3⟩⟩
def params : Nat -> List Value -> Sl
 | _, [] => []
 | i, v :: r => (i, v) :: params (i + 1) r
theorem look_params : ∀ (args : List Value) (i t : Nat) (v : Value), look (params i args) t = some v -> i <= t /\ args[t - i]? = some v
 | [], i, t, v, h => by simp [params, look] at h
 | u :: r, i, t, v, h => by
  simp only [params, look] at h
  cases e : Nat.beq i t with
  | true =>
   have : i = t := Nat.eq_of_beq_eq_true e
   subst this
   rw [e] at h
   simp only [cond_true, Option.some.injEq] at h
   simp [h]
  | false =>
   rw [e] at h
   obtain ⟨h1, h2⟩ := look_params r (i + 1) t v h
   refine ⟨by omega, ?_⟩
   rw [show t - i = (t - (i + 1)) + 1 from by omega]
   simpa using h2
theorem enter {P : Program} {w0 : World} {f : FuncId} {fn : Func} {c : Code} {n : Nat} {args : List Value} {K : PH} {hs : List PH} {R : Value -> PH -> List PH -> Prop}
  (hf : P.funcs[f]? = some fn) (hcal : callable P f = true) (hb : fn.body = some c) (hn : fn.ntmps = n) (hl : Nat.ble args.length n = true)
  (h : WC P w0 c (bodyPost P fn (endR w0 R)) n (params 0 args) K hs) : Ct P w0 f args K hs R := by
 refine ⟨hcal, fun w hw => calls_of_wp hf hb (h _ w ⟨?_, rfl, ?_⟩ hw)⟩
 ·have := Nat.le_of_ble_eq_true hl
  simp [hn]
  omega
 ·intro t v ht
  obtain ⟨h1, h2⟩ := look_params args 0 t v ht
  have h3 : args[t]? = some v := by simpa using h2
  have h4 : t < args.length := (List.getElem?_eq_some_iff.1 h3).1
  have h5 : args[t] = v := by rw [List.getElem?_eq_getElem h4] at h3; exact Option.some.inj h3
  simp [Array.getElem?_append, h4, h5]
section ret
variable {P : Program} {w0 : World} {fn : Func} {R : Value -> PH -> List PH -> Prop} {n : Nat} {l : Sl} {K : PH} {hs : List PH}
theorem ret0 (hr : fn.results = #[]) (h : R (.tuple #[]) K hs) : WQ w0 (bodyPost P fn (endR w0 R)) .ret n l K hs :=
 fun _ _ ha hw => bodyPost_ret (results_none hr _ _ _) ha.defers ⟨_, _, _, rfl, h, hw⟩
theorem end0 (hr : fn.results = #[]) (h : R (.tuple #[]) K hs) : WQ w0 (bodyPost P fn (endR w0 R)) .normal n l K hs :=
 fun _ _ ha hw => bodyPost_end (results_none hr _ _ _) ha.defers ⟨_, _, _, rfl, h, hw⟩
theorem ret1 {t : Nat} {v : Value} (hr : fn.results = #[.tmp t]) (hv : look l t = some v) (h : R v K hs) : WQ w0 (bodyPost P fn (endR w0 R)) .ret n l K hs :=
 fun _ _ ha hw => bodyPost_ret (results_tmp hr _ _ _) ha.defers ⟨_, _, _, rfl, by simpa [ha.slot t v hv] using h, hw⟩
theorem ret2 {t u : Nat} {v x : Value} (hr : fn.results = #[.tmp t, .tmp u]) (hv : look l t = some v) (hx : look l u = some x) (h : R (.tuple #[v, x]) K hs) : WQ w0 (bodyPost P fn (endR w0 R)) .ret n l K hs :=
 fun _ _ ha hw => bodyPost_ret (results_tmp2 hr _ _ _) ha.defers ⟨_, _, _, rfl, by simpa [ha.slot t v hv, ha.slot u x hx] using h, hw⟩
theorem ret3 {t u s : Nat} {v x y : Value} (hr : fn.results = #[.tmp t, .tmp u, .tmp s]) (hv : look l t = some v) (hx : look l u = some x) (hy : look l s = some y) (h : R (.tuple #[v, x, y]) K hs) :
  WQ w0 (bodyPost P fn (endR w0 R)) .ret n l K hs :=
 fun _ _ ha hw => bodyPost_ret (v := .tuple #[v, x, y]) (by simp [results, hr, ha.slot t v hv, ha.slot u x hx, ha.slot s y hy, go_sem]) ha.defers ⟨_, _, _, rfl, h, hw⟩
end ret
def gOK (ops : Array Oper) (l : Sl) : Option (Nat × Bool) -> Option Bool
 | none => some true
 | some (j, want) => match ops[j]? with
  | some o => match o.dst with
   | some d => match look l d with
    | some (.bool b) => some (b == want)
    | some (.tuple _) => some false
    | _ => none
   | none => none
  | none => none
theorem gOK_wanted {ops : Array Oper} {n : Nat} {l : Sl} {a : Act} {o : Oper} {b : Bool} (ha : Ag n l a) (h : gOK ops l o.guard = some b) : Region.wanted o (yielded ops a.tmps) = b := by
 unfold gOK at h
 unfold Region.wanted
 split at h
 ·rename_i e; simp [e] at *; exact h
 ·rename_i j want e
  rw [e]
  simp only
  cases hj : ops[j]? with
  | none => simp [hj] at h
  | some oj =>
   simp only [hj] at h
   cases hd : oj.dst with
   | none => simp [hd] at h
   | some d =>
    simp only [hd] at h
    cases hl : look l d with
    | none => simp [hl] at h
    | some v =>
     simp only [hl] at h
     have h4 := ha.slot d _ hl
     cases v <;> simp at h
     ·simp [yielded, hj, hd, h4, <- h]
     ·simp [yielded, hj, hd, h4, <- h]
inductive UK where
 | int (k : IntKind) | bool | str | slice | ptr | map | fn | other
def UK.fits : UK -> TypeDesc -> Bool
 | .int k, .int k' => k == k'
 | .bool, .bool => true
 | .str, .string => true
 | .slice, .slice _ => true
 | .ptr, .pointer _ => true
 | .map, .map _ _ => true
 | .fn, .func _ _ _ => true
 | .other, _ => true
 | _, _ => false
def asc {α : Type} : List (Nat × α) -> Nat -> Option α
 | [], _ => none
 | (k, v) :: r, t => cond (Nat.beq k t) (some v) (asc r t)
theorem asc_mem {α : Type} : ∀ (l : List (Nat × α)) (t : Nat) (v : α), asc l t = some v -> (t, v) ∈ l
 | [], _, _, h => by simp [asc] at h
 | (k, u) :: r, t, v, h => by
  simp only [asc] at h
  cases e : Nat.beq k t with
  | true =>
   have : k = t := Nat.eq_of_beq_eq_true e
   subst this
   rw [e] at h
   simp only [cond_true, Option.some.injEq] at h
   simp [h]
  | false =>
   rw [e] at h
   exact List.mem_cons_of_mem _ (asc_mem r t v h)
structure SlI where
 elem : Nat
 size : Nat
 bytes : Nat
 zero : Value
structure Tab where
 kinds : List (Nat × UK)
 flds : List (Nat × Nat)
 sls : List (Nat × SlI)
def UK.one : UK -> Bool
 | .other => false
 | _ => true
def Tab.kindOK (P : Program) (x : Nat × UK) : Bool := match P.underlying x.1 with
 | some d => x.2.fits d && (!x.2.one || (match P.info? x.1 with | some i => i.size == 1 | none => false))
 | none => false
def slInfo (P : Program) (t : Nat) : Option SlI := match P.underlying t with
 | some (.slice e) => match P.info? e with
  | some i => match i.zero with
   | some z => some ⟨e, i.size, i.bytes, z⟩
   | none => none
  | none => none
 | _ => none
def Tab.fldOK (P : Program) (x : Nat × Nat) : Bool := match P.underlying (x.1 / 64) with
 | some (.struct fs) => match fs[x.1 % 64]? with
  | some fd => fd.offset == x.2 && (match P.info? fd.type with | some i => i.size != 0 | none => false)
  | none => false
 | _ => false
structure TabOK (P : Program) (T : Tab) : Prop where
 kinds : T.kinds.all (Tab.kindOK P) = true
 flds : T.flds.all (Tab.fldOK P) = true
 sls : T.sls.map (fun x => slInfo P x.1) = T.sls.map (fun x => some x.2)
theorem TabOK.sl {P : Program} {T : Tab} (h : TabOK P T) {t : Nat} {s : SlI} (hs : asc T.sls t = some s) :
  P.underlying t = some (.slice s.elem) /\ ∃ i, P.info? s.elem = some i /\ i.zero = some s.zero /\ i.size = s.size /\ i.bytes = s.bytes := by
 have h1 : slInfo P t = some s := by
  have := asc_mem _ _ _ hs
  obtain ⟨k, hk⟩ := List.getElem?_of_mem this
  have h2 := congrArg (fun l => l[k]?) h.sls
  simpa [hk] using h2
 unfold slInfo at h1
 split at h1
 ·rename_i e he
  split at h1
  ·rename_i i hi
   split at h1
   ·rename_i z hz
    simp only [Option.some.injEq] at h1
    subst h1
    exact ⟨he, i, hi, hz, rfl, rfl⟩
   ·simp at h1
  ·simp at h1
 ·simp at h1
theorem TabOK.one {P : Program} {T : Tab} (h : TabOK P T) {t : Nat} {k : UK} (hk : asc T.kinds t = some k) (h1 : k.one = true) : ∃ d i, P.underlying t = some d /\ P.info? t = some i /\ i.size = 1 /\ k.fits d = true := by
 have := List.all_eq_true.1 h.kinds _ (asc_mem _ _ _ hk)
 unfold Tab.kindOK at this
 cases e : P.underlying t with
 | none => simp [e] at this
 | some d =>
  simp only [e, h1, Bool.not_true, Bool.false_or, Bool.and_eq_true] at this
  obtain ⟨h2, h3⟩ := this
  cases e2 : P.info? t with
  | none => simp [e2] at h3
  | some i => exact ⟨d, i, rfl, rfl, by simpa [e2] using h3, h2⟩
theorem TabOK.kind {P : Program} {T : Tab} (h : TabOK P T) {t : Nat} {k : UK} (hk : asc T.kinds t = some k) : ∃ d, P.underlying t = some d /\ k.fits d = true := by
 have := List.all_eq_true.1 h.kinds _ (asc_mem _ _ _ hk)
 unfold Tab.kindOK at this
 cases e : P.underlying t with
 | none => simp [e] at this
 | some d =>
  simp only [e, Bool.and_eq_true] at this
  exact ⟨d, rfl, this.1⟩
theorem TabOK.int {P : Program} {T : Tab} (h : TabOK P T) {t : Nat} {k : IntKind} (hk : asc T.kinds t = some (.int k)) : P.underlying t = some (.int k) := by
 obtain ⟨d, h1, h2⟩ := h.kind hk
 cases d <;> simp [UK.fits] at h2
 subst h2
 exact h1
theorem TabOK.fld {P : Program} {T : Tab} (h : TabOK P T) {s f off : Nat} (hf : Nat.blt f 64 = true) (hk : asc T.flds (s * 64 + f) = some off) (a : Addr) (w : World) :
  (Instr.fieldAt s (.pointer (some a)) f).run P w = .ok (.pointer (some (a.add off))) w := by
 have := List.all_eq_true.1 h.flds _ (asc_mem _ _ _ hk)
 have hf' : f < 64 := Nat.le_of_ble_eq_true hf
 unfold Tab.fldOK at this
 rw [show (s * 64 + f, off).1 / 64 = s from by simp; omega, show (s * 64 + f, off).1 % 64 = f from by simp; omega] at this
 cases e : P.underlying s with
 | none => simp [e] at this
 | some d =>
  cases d <;> simp [e] at this
  rename_i fs
  cases e2 : fs[f]? with
  | none => simp [e2] at this
  | some fd =>
   simp only [e2, Bool.and_eq_true, beq_iff_eq] at this
   obtain ⟨h1, h2⟩ := this
   cases e3 : P.info? fd.type with
   | none => simp [e3] at h2
   | some i =>
    have h3 : ¬ i.size = 0 := by simpa [e3] using h2
    simp [Instr.fieldAt, run_underlying e, e2, Instr.sureAddr, fieldPlace, sizeOf, typeInfo, e3, h3, h1, go_sem]
def pureBin (op : BinOp) (u v : Value) : Option Value :=
 match u, v with
 | .int k a, .int k' b => match op with
  | .shl => cond (decide (0 <= b)) (some (.int k (k.wrap (a * 2 ^ (min b.toNat k.bits))))) none
  | .shr => cond (decide (0 <= b)) (some (.int k (a.fdiv (2 ^ (min b.toNat k.bits))))) none
  | op => cond (decide (k = k')) (match op with
   | .add => some (.int k (k.wrap (a + b)))
   | .sub => some (.int k (k.wrap (a - b)))
   | .mul => some (.int k (k.wrap (a * b)))
   | .quo => cond (decide (b = 0)) none (some (.int k (k.wrap (a.tdiv b))))
   | .rem => cond (decide (b = 0)) none (some (.int k (a.tmod b)))
   | .and => some (.int k (k.wrap (BitVec.ofInt k.bits a &&& BitVec.ofInt k.bits b).toNat))
   | .or => some (.int k (k.wrap (BitVec.ofInt k.bits a ||| BitVec.ofInt k.bits b).toNat))
   | .xor => some (.int k (k.wrap (BitVec.ofInt k.bits a ^^^ BitVec.ofInt k.bits b).toNat))
   | .andNot => some (.int k (k.wrap (BitVec.ofInt k.bits a &&& ~~~BitVec.ofInt k.bits b).toNat))
   | .eql => some (.bool (a == b))
   | .neq => some (.bool (a != b))
   | .lss => some (.bool (decide (a < b)))
   | .leq => some (.bool (decide (a <= b)))
   | .gtr => some (.bool (decide (a > b)))
   | .geq => some (.bool (decide (a >= b)))
   | _ => none) none
 | .string a, .string b => match op with
  | .eql => some (.bool (a.toList == b.toList))
  | .neq => some (.bool !(a.toList == b.toList))
  | _ => none
 | _, _ => none
def eqNil (T : Tab) (t : Nat) (op : BinOp) (u v : Value) : Option Value :=
 match op, asc T.kinds t, u, v with
 | .eql, some .ptr, .pointer a, .pointer none => some (.bool a.isNone)
 | .neq, some .ptr, .pointer a, .pointer none => some (.bool !a.isNone)
 | .eql, some .slice, .slice a _ _, .slice none _ _ => some (.bool a.isNone)
 | .neq, some .slice, .slice a _ _, .slice none _ _ => some (.bool !a.isNone)
 | .eql, some .map, .map a, .map none => some (.bool a.isNone)
 | .neq, some .map, .map a, .map none => some (.bool !a.isNone)
 | .eql, some .bool, .bool a, .bool b => some (.bool (a == b))
 | .neq, some .bool, .bool a, .bool b => some (.bool !(a == b))
 | _, _, _, _ => none
def pureUn (op : UnOp) (u : Value) : Option Value :=
 match op, u with
 | .not, .bool b => some (.bool !b)
 | .neg, .int k n => some (.int k (k.wrap (0 - n)))
 | .xor, .int k n => some (.int k (k.wrap (BitVec.ofInt k.bits (if k.signed then -1 else k.max) ^^^ BitVec.ofInt k.bits n).toNat))
 | _, _ => none
def pureLen (T : Tab) (t : Nat) (u : Value) : Option Value :=
 match u with
 | .slice _ n _ => match asc T.kinds t with | some .slice => some (.int .i64 n) | _ => none
 | .string s => match asc T.kinds t with | some .str => some (.int .i64 s.size) | _ => none
 | _ => none
def pureOp (T : Tab) (l : Sl) : Op -> Option Value
 | .move x | .assign x => ev l x
 | .pick c a b => match ev l c with
  | some (.bool c') => cond c' (ev l a) (ev l b)
  | _ => none
 | .nilCheck x => match ev l x with
  | some (.pointer (some a)) => some (.pointer (some a))
  | some (.func (.func f) first captured) => some (.func (.func f) first captured)
  | _ => none
 | .binOp op t x y _ => match ev l x, ev l y with
  | some u, some v => match pureBin op u v with
   | some r => some r
   | none => eqNil T t op u v
  | _, _ => none
 | .unOp op _ x => match ev l x with
  | some u => pureUn op u
  | none => none
 | .extract t i => match ev l t with
  | some (.tuple vs) => vs[i]?
  | _ => none
 | .convert s d x => match asc T.kinds s, ev l x, asc T.kinds d with
  | some _, some (.int _ n), some (.int k) => some (.int k (k.wrap n))
  | _, _, _ => none
 | .fieldAddr s x f => match ev l x with
  | some (.pointer (some a)) => match Nat.blt f 64, asc T.flds (s * 64 + f) with
   | true, some off => some (.pointer (some (a.add off)))
   | _, _ => none
  | _ => none
 | .call { callee := .builtin .len, args, argTypes } => match args.toList, argTypes.toList with
  | [x], [t] => match ev l x with
   | some u => pureLen T t u
   | none => none
  | _, _ => none
 | .call { callee := .builtin .max, args, .. } => match args.toList with
  | [x, y] => match ev l x, ev l y with
   | some (.int k a), some (.int _ b) => some (.int k (if b > a then b else a))
   | _, _ => none
  | _ => none
 | .call { callee := .builtin .min, args, .. } => match args.toList with
  | [x, y] => match ev l x, ev l y with
   | some (.int k a), some (.int _ b) => some (.int k (if b < a then b else a))
   | _, _ => none
  | [x, y, z] => match ev l x, ev l y, ev l z with
   | some (.int k a), some (.int _ b), some (.int _ c) => some (.int k (if c < (if b < a then b else a) then c else (if b < a then b else a)))
   | _, _, _ => none
  | [x, y, z, u] => match ev l x, ev l y, ev l z, ev l u with
   | some (.int k a), some (.int _ b), some (.int _ c), some (.int _ d) => some (.int k (if d < (if c < (if b < a then b else a) then c else (if b < a then b else a)) then d else (if c < (if b < a then b else a) then c else (if b < a then b else a))))
   | _, _, _, _ => none
  | _ => none
 | .makeFunc fn first captured => match first.toList, captured.toList.mapM (ev l) with
  | [], some vs => some (.func fn #[] vs.toArray)
  | _, _ => none
 | _ => none
theorem pureBin_run {P : Program} {op : BinOp} {u v r : Value} (h : pureBin op u v = some r) (t : TypeId) (w : World) : (binOp op t u v).run P w = .ok r w := by
 unfold pureBin at h
 split at h
 ·rename_i k a k' b
  split at h
  ·cases e : decide (0 <= b) with
   | false => simp [e] at h
   | true =>
    rw [e] at h
    simp only [cond_true, Option.some.injEq] at h
    subst h
    have hb : ¬ b < 0 := by have := of_decide_eq_true e; omega
    simp [binOp, Op.shift, hb, go_sem]
  ·cases e : decide (0 <= b) with
   | false => simp [e] at h
   | true =>
    rw [e] at h
    simp only [cond_true, Option.some.injEq] at h
    subst h
    have hb : ¬ b < 0 := by have := of_decide_eq_true e; omega
    simp [binOp, Op.shift, hb, go_sem]
  ·by_cases hk : k = k'
   ·subst hk
    simp only [decide_true, cond_true] at h
    split at h <;> first
     | (simp only [Option.some.injEq] at h; subst h; simp [binOp, Op.intArith, Op.intBits, Op.intCmp, go_sem]; done)
     | (
       by_cases hb : b = 0
       ·simp [hb] at h
       ·simp only [hb, decide_false, cond_false, Option.some.injEq] at h; subst h; simp [binOp, Op.intDiv, hb, go_sem])
     | (simp at h; done)
   ·simp [hk] at h
 ·split at h <;> first
   | (simp only [Option.some.injEq] at h; subst h; simp [binOp, Op.stringOp, go_sem]; done)
   | (simp at h; done)
 ·simp at h
theorem pureUn_run {P : Program} {op : UnOp} {u r : Value} (h : pureUn op u = some r) (w : World) : (Op.unary op u).run P w = .ok r w := by
 unfold pureUn at h
 split at h <;> first
  | (simp only [Option.some.injEq] at h; subst h; simp [Op.unary, Op.intArith, Op.intBits, go_sem]; done)
  | (simp at h; done)
theorem pureLen_run {P : Program} {T : Tab} (hT : TabOK P T) {t : Nat} {u r : Value} (h : pureLen T t u = some r) (ty : TypeId) (w : World) : (Builtin.len_ #[t] ty #[u]).run P w = .ok r w := by
 unfold pureLen at h
 split at h
 ·split at h
  ·rename_i e
   obtain ⟨d, h1, h2⟩ := hT.kind e
   cases d <;> simp [UK.fits] at h2
   simp only [Option.some.injEq] at h
   subst h
   simp [Builtin.len_, run_underlying h1, goInt, go_sem]
  ·simp at h
 ·split at h
  ·rename_i e
   obtain ⟨d, h1, h2⟩ := hT.kind e
   cases d <;> simp [UK.fits] at h2
   simp only [Option.some.injEq] at h
   subst h
   simp [Builtin.len_, run_underlying h1, goInt, go_sem]
  ·simp at h
 ·simp at h
theorem eqGuard_plain {P : Program} {op : BinOp} {u v r : Value} (h : pureBin op u v = some r) (t : TypeId) (x y : Operand) (w : World) : (eqGuard op t x y u v).run P w = .ok () w := by
 unfold pureBin at h
 unfold eqGuard
 split at h
 ·split <;> simp [go_sem]
 ·split <;> simp [go_sem]
 ·simp at h
theorem run_equal {P : Program} {t : Nat} {u v : Value} {b : Bool} {w : World} (h : ∀ d, (Op.equalIn (d + 1) t u v).run P w = .ok b w) : (Op.equal t u v).run P w = .ok b w := h 9999
theorem run_equalIn_nil {P : Program} {T : Tab} (hT : TabOK P T) {t : Nat} {op : BinOp} {u v r : Value} (h : eqNil T t op u v = some r) (x y : Operand) (w : World) :
  (eqGuard op t x y u v).run P w = .ok () w /\ (binOp op t u v).run P w = .ok r w := by
 unfold eqNil at h
 split at h
 ·rename_i e
  obtain ⟨d, h1, h2⟩ := hT.kind e
  cases d <;> simp [UK.fits] at h2
  simp only [Option.some.injEq] at h
  subst h
  rename_i a _
  cases a <;> exact ⟨by simp [eqGuard], by simp only [binOp]; rw [Sem.run_bind, run_equal (fun d => by simp [Op.equalIn, run_underlying h1]; try rfl)]; rfl⟩
 ·rename_i e
  obtain ⟨d, h1, h2⟩ := hT.kind e
  cases d <;> simp [UK.fits] at h2
  simp only [Option.some.injEq] at h
  subst h
  rename_i a _
  cases a <;> exact ⟨by simp [eqGuard], by simp only [binOp]; rw [Sem.run_bind, run_equal (fun d => by simp [Op.equalIn, run_underlying h1]; try rfl)]; rfl⟩
 ·rename_i a _ _ _ _ e
  obtain ⟨d, h1, h2⟩ := hT.kind e
  cases d <;> simp [UK.fits] at h2
  simp only [Option.some.injEq] at h
  subst h
  cases a <;> exact ⟨by simp [eqGuard], by simp only [binOp]; rw [Sem.run_bind, run_equal (fun d => by simp [Op.equalIn, run_underlying h1]; try rfl)]; rfl⟩
 ·rename_i a _ _ _ _ e
  obtain ⟨d, h1, h2⟩ := hT.kind e
  cases d <;> simp [UK.fits] at h2
  simp only [Option.some.injEq] at h
  subst h
  cases a <;> exact ⟨by simp [eqGuard], by simp only [binOp]; rw [Sem.run_bind, run_equal (fun d => by simp [Op.equalIn, run_underlying h1]; try rfl)]; rfl⟩
 ·rename_i e
  obtain ⟨d, h1, h2⟩ := hT.kind e
  cases d <;> simp [UK.fits] at h2
  simp only [Option.some.injEq] at h
  subst h
  rename_i a _ _
  cases a <;> exact ⟨by simp [eqGuard], by simp only [binOp]; rw [Sem.run_bind, run_equal (fun d => by simp [Op.equalIn, run_underlying h1]; try rfl)]; rfl⟩
 ·rename_i e
  obtain ⟨d, h1, h2⟩ := hT.kind e
  cases d <;> simp [UK.fits] at h2
  simp only [Option.some.injEq] at h
  subst h
  rename_i a _ _
  cases a <;> exact ⟨by simp [eqGuard], by simp only [binOp]; rw [Sem.run_bind, run_equal (fun d => by simp [Op.equalIn, run_underlying h1]; try rfl)]; rfl⟩
 ·rename_i e
  obtain ⟨d, h1, h2⟩ := hT.kind e
  cases d <;> simp [UK.fits] at h2
  simp only [Option.some.injEq] at h
  subst h
  exact ⟨by simp [eqGuard], by simp only [binOp]; rw [Sem.run_bind, run_equal (fun d => by simp [Op.equalIn, run_underlying h1]; try rfl)]; rfl⟩
 ·rename_i e
  obtain ⟨d, h1, h2⟩ := hT.kind e
  cases d <;> simp [UK.fits] at h2
  simp only [Option.some.injEq] at h
  subst h
  exact ⟨by simp [eqGuard], by simp only [binOp]; rw [Sem.run_bind, run_equal (fun d => by simp [Op.equalIn, run_underlying h1]; try rfl)]; rfl⟩
 ·simp at h
theorem evl_map {l : Sl} {ρ : Operand -> Value} (hρ : ∀ x v, ev l x = some v -> ρ x = v) : ∀ (ps : List Operand) (vs : List Value), ps.mapM (ev l) = some vs -> ps.map ρ = vs
 | [], vs, h => by simp at h; subst h; rfl
 | p :: ps, vs, h => by
  simp only [List.mapM_cons] at h
  cases h1 : ev l p with
  | none => simp [h1] at h
  | some v =>
   cases h2 : ps.mapM (ev l) with
   | none => simp [h1, h2] at h
   | some r =>
    simp [h1, h2] at h
    subst h
    simp [hρ _ _ h1, evl_map hρ ps r h2]
theorem pureOp_run {P : Program} {T : Tab} (hT : TabOK P T) {n : Nat} {l : Sl} {a : Act} {o : Oper} {v : Value} (h : pureOp T l o.op = some v) (ha : Ag n l a) (w : World) :
  (execOp a.eval o).run P w = .ok (.value v) w := by
 obtain ⟨dst, op, type, pos, after, guard⟩ := o
 simp only at h
 have hρ : ∀ x v, ev l x = some v -> a.eval x = v := fun _ _ hx => ha.ev hx
 clear ha
 generalize a.eval = ρ at *
 unfold pureOp at h
 unfold execOp
 split at h
 ·simp [hρ _ _ h, go_sem]
 ·simp [hρ _ _ h, go_sem]
 ·rename_i c x y
  cases hc : ev l c with
  | none => simp [hc] at h
  | some vc =>
   rw [hc] at h
   cases vc <;> simp only [reduceCtorEq] at h
   rename_i b
   cases b with
   | true => simp only [cond_true] at h; simp [hρ _ _ hc, hρ _ _ h, asBool, go_sem]
   | false => simp only [cond_false] at h; simp [hρ _ _ hc, hρ _ _ h, asBool, go_sem]
 ·rename_i x
  split at h
  ·rename_i e
   simp only [Option.some.injEq] at h
   subst h
   simp [hρ _ _ e, go_sem]
  ·rename_i e
   simp only [Option.some.injEq] at h
   subst h
   simp [hρ _ _ e, go_sem]
  ·simp at h
 ·rename_i op ty x y ty'
  split at h
  ·rename_i u1 u2 e1 e2
   split at h
   ·rename_i r hr
    simp only [Option.some.injEq] at h
    subst h
    have h1 := pureBin_run (P := P) hr ty w
    have h2 := eqGuard_plain (P := P) hr ty x y w
    simp only [hρ _ _ e1, hρ _ _ e2]
    simp [h1, h2, go_sem]
   ·obtain ⟨h2, h1⟩ := run_equalIn_nil hT h x y w
    simp only [hρ _ _ e1, hρ _ _ e2]
    simp [h1, h2]
  ·simp at h
 ·split at h
  ·rename_i e
   have h1 := pureUn_run (P := P) h w
   simp [hρ _ _ e, h1, go_sem]
  ·simp at h
 ·split at h
  ·rename_i e
   simp [hρ _ _ e, Instr.extract, h, go_sem]
  ·simp at h
 ·rename_i s d x
  split at h
  ·rename_i k1 kk n k e1 e2 e3
   simp only [Option.some.injEq] at h
   subst h
   obtain ⟨d1, g1, _⟩ := hT.kind e1
   simp [hρ _ _ e2, convert, run_underlying g1, run_underlying (hT.int e3), Conv.intToInt, go_sem]
  ·simp at h
 ·rename_i s x f
  split at h
  ·rename_i e
   split at h
   ·rename_i e1 e2
    simp only [Option.some.injEq] at h
    subst h
    have h3 := hT.fld e1 e2 (by assumption) w
    simp [hρ _ _ e, h3]
   ·simp at h
  ·simp at h
 ·rename_i args argTypes
  split at h
  ·rename_i x t e1 e2
   split at h
   ·rename_i u e3
    have a1 : args = #[x] := by cases args; simp_all
    have a2 : argTypes = #[t] := by cases argTypes; simp_all
    subst a1
    subst a2
    simp [resolve, invoke, builtin, hρ _ _ e3, pureLen_run hT h, go_sem]
   ·simp at h
  ·simp at h
 ·rename_i args argTypes
  split at h
  ·rename_i x y e1
   split at h
   ·rename_i e3 e4
    have a1 : args = #[x, y] := by cases args; simp_all
    subst a1
    simp only [Option.some.injEq] at h
    subst h
    simp [resolve, invoke, builtin, hρ _ _ e3, hρ _ _ e4, Builtin.max_, Builtin.max2, go_sem]
   ·simp at h
  ·simp at h
 ·rename_i args argTypes
  split at h
  ·rename_i x y e1
   split at h
   ·rename_i e3 e4
    have a1 : args = #[x, y] := by cases args; simp_all
    subst a1
    simp only [Option.some.injEq] at h
    subst h
    simp [resolve, invoke, builtin, hρ _ _ e3, hρ _ _ e4, Builtin.min_, Builtin.min2, go_sem]
   ·simp at h
  ·rename_i x y z e1
   split at h
   ·rename_i e3 e4 e5
    have a1 : args = #[x, y, z] := by cases args; simp_all
    subst a1
    simp only [Option.some.injEq] at h
    subst h
    simp [resolve, invoke, builtin, hρ _ _ e3, hρ _ _ e4, hρ _ _ e5, Builtin.min_, Builtin.min2, go_sem]
   ·simp at h
  ·rename_i x y z u e1
   split at h
   ·rename_i e3 e4 e5 e6
    have a1 : args = #[x, y, z, u] := by cases args; simp_all
    subst a1
    simp only [Option.some.injEq] at h
    subst h
    simp [resolve, invoke, builtin, hρ _ _ e3, hρ _ _ e4, hρ _ _ e5, hρ _ _ e6, Builtin.min_, Builtin.min2, go_sem]
   ·simp at h
  ·simp at h
 ·rename_i fn first captured
  split at h
  ·rename_i vs e1 e2
   have a1 : first = #[] := by cases first; simp_all
   subst a1
   have h6 := evl_map hρ _ _ e2
   have h7 : captured.map ρ = vs.toArray := by
    apply Array.ext'
    simpa using h6
   simp only [Option.some.injEq] at h
   subst h
   simp [Instr.makeFunc, go_sem, h7]
  ·simp at h
 ·simp at h
end Go.En
namespace Go.En
abbrev sg (b : Nat) (o : Obj) : PH := fun x => if x = b then some o else none
abbrev pt (b : Nat) (c : Array Value) (ty : Nat) (fr : Nat × Nat := (0, 0)) : PH := sg b (.cells c ty fr)
def em : PH := fun _ => none
def Cell (h : PH) (a : Addr) (v : Value) : Prop := a.spot = none /\ ∃ c ty fr, h a.block = some (.cells c ty fr) /\ c[a.off]? = some v
def In (K : PH) (hs : List PH) (h : PH) : Prop := h = K \/ ∃ i : Nat, hs[i]? = some h
section mem
variable {w0 w w' : World} {K : PH} {hs : List PH}
theorem Sat.block (s : Sat w0 w K hs) {h : PH} (hi : In K hs h) {b : Nat} {o : Obj} (hb : h b = some o) : w.heap[b]? = some o := by
 rcases hi with rfl | ⟨i, hi⟩
 ·exact s.imm b o hb
 ·exact s.own i h hi b o hb
theorem Sat.cell (s : Sat w0 w K hs) {h : PH} (hi : In K hs h) {a : Addr} {v : Value} (hc : Cell h a v) : w.cell? a = some v := by
 obtain ⟨hsp, c, ty, fr, hb, hv⟩ := hc
 have := s.block hi hb
 simp [World.cell?, this, hsp, hv]
theorem lt_of_some {w : World} {b : Nat} {o : Obj} (h : w.heap[b]? = some o) : b < w.heap.size := (Array.getElem?_eq_some_iff.1 h).1
theorem Sat.alloc (s : Sat w0 w K hs) (o : Obj) : Sat w0 (w.alloc o) K (sg w.heap.size o :: hs) := by
 have old : ∀ b, b < w.heap.size -> (w.alloc o).heap[b]? = w.heap[b]? := fun b hb => RowKit.Below.heap_alloc w o b hb
 refine ⟨s.os, s.tape, s.output, ?_, ?_, ?_, ?_, ?_⟩
 ·have := s.size; simp; omega
 ·intro b o' h
  have := s.imm b o' h
  rw [old b (lt_of_some this)]; exact this
 ·intro i h hi b o' hb
  cases i with
  | zero =>
   simp only [List.getElem?_cons_zero, Option.some.injEq] at hi
   subst hi
   simp only [sg] at hb
   split at hb
   ·rename_i e; subst e; cases hb; exact heap_alloc_new w o
   ·cases hb
  | succ i =>
   have := s.own i h (by simpa using hi) b o' hb
   rw [old b (lt_of_some this)]; exact this
 ·intro i h hi b o' hb
  cases i with
  | zero =>
   simp only [List.getElem?_cons_zero, Option.some.injEq] at hi
   subst hi
   simp only [sg] at hb
   split at hb
   ·rename_i e
    subst e
    cases hk : K w.heap.size with
    | none => rfl
    | some x => have := lt_of_some (s.imm _ _ hk); omega
   ·cases hb
  | succ i => exact s.apart i h (by simpa using hi) b o' hb
 ·intro i j h h' hi hj hij b o' hb
  cases i with
  | zero =>
   simp only [List.getElem?_cons_zero, Option.some.injEq] at hi
   subst hi
   simp only [sg] at hb
   split at hb
   ·rename_i e
    subst e
    cases j with
    | zero => omega
    | succ j =>
     cases hk : h' w.heap.size with
     | none => rfl
     | some x => have := lt_of_some (s.own j h' (by simpa using hj) _ _ hk); omega
   ·cases hb
  | succ i =>
   cases j with
   | zero =>
    simp only [List.getElem?_cons_zero, Option.some.injEq] at hj
    subst hj
    have := lt_of_some (s.own i h (by simpa using hi) b o' hb)
    simp only [sg]
    rw [if_neg (by omega)]
   | succ j => exact s.sep i j h h' (by simpa using hi) (by simpa using hj) (by omega) b o' hb
theorem Sat.upd (s : Sat w0 w K hs) {i : Nat} {h h' : PH} (hi : hs[i]? = some h) (hos : w'.os = w.os) (htp : w'.tape = w.tape) (hout : w'.output = w.output) (hsz : w.heap.size <= w'.heap.size)
  (hin : ∀ b o, h' b = some o -> w'.heap[b]? = some o) (hout' : ∀ b, b < w.heap.size -> h b = none -> w'.heap[b]? = w.heap[b]?) (hdom : ∀ b o, h' b = some o -> h b = none -> w.heap.size <= b) :
  Sat w0 w' K (hs.set i h') := by
 have hil : i < hs.length := (List.getElem?_eq_some_iff.1 hi).1
 refine ⟨hos.trans s.os, htp.trans s.tape, hout.trans s.output, Nat.le_trans s.size hsz, ?_, ?_, ?_, ?_⟩
 ·intro b o hb
  have h1 := s.imm b o hb
  rw [hout' b (lt_of_some h1) ?_]
  ·exact h1
  ·cases hh : h b with
   | none => rfl
   | some x => have := s.apart i h hi b x hh; rw [this] at hb; cases hb
 ·intro j g hj b o hb
  by_cases hij : i = j
  ·subst hij
   rw [List.getElem?_set_self hil] at hj
   cases hj
   exact hin b o hb
  ·rw [List.getElem?_set_ne hij] at hj
   have h1 := s.own j g hj b o hb
   rw [hout' b (lt_of_some h1) (s.sep j i g h hj hi (Ne.symm hij) b o hb)]
   exact h1
 ·intro j g hj b o hb
  by_cases hij : i = j
  ·subst hij
   rw [List.getElem?_set_self hil] at hj
   cases hj
   cases hh : h b with
   | some x => exact s.apart i h hi b x hh
   | none =>
    have := hdom b o hb hh
    cases hk : K b with
    | none => rfl
    | some x => have := lt_of_some (s.imm b x hk); omega
  ·rw [List.getElem?_set_ne hij] at hj
   exact s.apart j g hj b o hb
 ·intro j k g g' hj hk hjk b o hb
  by_cases hij : i = j
  ·subst hij
   rw [List.getElem?_set_self hil] at hj
   cases hj
   rw [List.getElem?_set_ne hjk] at hk
   cases hh : h b with
   | some x => exact s.sep i k h g' hi hk hjk b x hh
   | none =>
    have := hdom b o hb hh
    cases hg : g' b with
    | none => rfl
    | some x => have := lt_of_some (s.own k g' hk b x hg); omega
  ·rw [List.getElem?_set_ne hij] at hj
   by_cases hik : i = k
   ·subst hik
    rw [List.getElem?_set_self hil] at hk
    cases hk
    cases hg : h' b with
    | none => rfl
    | some x =>
     have h1 := lt_of_some (s.own j g hj b o hb)
     have h2 := s.sep j i g h hj hi (Ne.symm hij) b o hb
     have := hdom b x hg h2
     omega
   ·rw [List.getElem?_set_ne hik] at hk
    exact s.sep j k g g' hj hk hjk b o hb
theorem Sat.setRow (s : Sat w0 w K hs) {i b : Nat} {c : Array Value} {ty : Nat} {fr : Nat × Nat} (hi : hs[i]? = some (pt b c ty fr)) (c' : Array Value) :
  Sat w0 (w.setRow b c') K (hs.set i (pt b c' ty fr)) := by
 have hb : w.heap[b]? = some (.cells c ty fr) := s.own i _ hi b _ (by simp)
 refine s.upd hi rfl rfl rfl (by simp [World.setRow]) ?_ ?_ ?_
 ·intro x o hx
  simp only [pt, sg] at hx
  split at hx
  ·rename_i e; subst e; cases hx; exact setRow_heap w _ c c' ty fr hb
  ·cases hx
 ·intro x hx hn
  simp only [pt, sg] at hn
  split at hn
  ·cases hn
  ·rename_i e; exact setRow_other w b x c' e
 ·intro x o hx hn
  simp only [pt, sg] at hx hn
  split at hx
  ·rename_i e; rw [if_pos e] at hn; cases hn
  ·cases hx
theorem Sat.setCell (s : Sat w0 w K hs) {i b off : Nat} {c : Array Value} {ty : Nat} {fr : Nat × Nat} (hi : hs[i]? = some (pt b c ty fr)) (v : Value) :
  Sat w0 (w.setCell ⟨b, off, none⟩ v) K (hs.set i (pt b (c.setIfInBounds off v) ty fr)) := by
 have hb : w.heap[b]? = some (.cells c ty fr) := s.own i _ hi b _ (by simp)
 rw [setCell_eq_setRow w b off c ty fr v hb]
 exact s.setRow hi _
theorem Sat.addEm (s : Sat w0 w K hs) : Sat w0 w K (em :: hs) := by
 refine ⟨s.os, s.tape, s.output, s.size, s.imm, ?_, ?_, ?_⟩
 ·intro i h hi b o hb
  cases i with
  | zero => simp only [List.getElem?_cons_zero, Option.some.injEq] at hi; subst hi; simp [em] at hb
  | succ i => exact s.own i h (by simpa using hi) b o hb
 ·intro i h hi b o hb
  cases i with
  | zero => simp only [List.getElem?_cons_zero, Option.some.injEq] at hi; subst hi; simp [em] at hb
  | succ i => exact s.apart i h (by simpa using hi) b o hb
 ·intro i j h h' hi hj hij b o hb
  cases i with
  | zero => simp only [List.getElem?_cons_zero, Option.some.injEq] at hi; subst hi; simp [em] at hb
  | succ i =>
   cases j with
   | zero => simp only [List.getElem?_cons_zero, Option.some.injEq] at hj; subst hj; rfl
   | succ j => exact s.sep i j h h' (by simpa using hi) (by simpa using hj) (by omega) b o hb
theorem Cell.pt {b off : Nat} {c : Array Value} {ty : Nat} {fr : Nat × Nat} {v : Value} (h : c[off]? = some v) : Cell (pt b c ty fr) ⟨b, off, none⟩ v :=
 ⟨rfl, c, ty, fr, by simp, h⟩
end mem
def pureN (T : Tab) (ops : Array Oper) (n : Nat) : Nat -> List Oper -> Sl -> Option (List Oper × Sl)
 | 0, r, l => some (r, l)
 | _ + 1, [], _ => none
 | k + 1, o :: r, l => match o.dst with
  | none => none
  | some d => match Nat.blt d n, gOK ops l o.guard with
   | true, some true => match pureOp T l o.op with
    | some v => pureN T ops n k r ((d, v) :: l)
    | none => none
   | true, some false => pureN T ops n k r ((d, undef) :: l)
   | _, _ => none
section rules
variable {P : Program} {T : Tab} {w0 : World} {ops : Array Oper} {Q : Exit -> Act -> World -> Prop} {rest rest' : List Oper} {n : Nat} {l l' : Sl} {K : PH} {hs : List PH}
theorem WL.val {o : Oper} {d : Nat} {R : Value -> PH -> List PH -> Prop} (hd : o.dst = some d) (hb : Nat.blt d n = true) (hg : gOK ops l o.guard = some true)
  (h : ∀ a w, Ag n l a -> Sat w0 w K hs -> ∃ v w' K' hs', (execOp a.eval o).run P w = .ok (.value v) w' /\ Sat w0 w' K' hs' /\ R v K' hs')
  (hk : ∀ v K' hs', R v K' hs' -> WL P w0 ops Q rest n ((d, v) :: l) K' hs') : WL P w0 ops Q (o :: rest) n l K hs := by
 intro a w ha hw
 obtain ⟨v, w', K', hs', hrun, hw', hR⟩ := h a w ha hw
 have h1 := gOK_wanted ha hg
 unfold wpList
 rw [if_pos h1]
 refine .inl ?_
 unfold Oper.wp
 rw [hrun]
 simp only [Oper.upon, hd]
 exact hk v K' hs' hR _ _ (ha.put hb) hw'
theorem WL.skp {o : Oper} {K' : PH} {hs' : List PH} (hd : o.dst = none) (hg : gOK ops l o.guard = some true)
  (h : ∀ a w, Ag n l a -> Sat w0 w K hs -> ∃ w', (execOp a.eval o).run P w = .ok .skip w' /\ Sat w0 w' K' hs')
  (hk : WL P w0 ops Q rest n l K' hs') : WL P w0 ops Q (o :: rest) n l K hs := by
 intro a w ha hw
 obtain ⟨w', hrun, hw'⟩ := h a w ha hw
 have h1 := gOK_wanted ha hg
 unfold wpList
 rw [if_pos h1]
 refine .inl ?_
 unfold Oper.wp
 rw [hrun]
 simp only [Oper.upon, hd, Act.put]
 exact hk _ _ ha hw'
theorem WL.unwanted {o : Oper} {d : Nat} (hd : o.dst = some d) (hb : Nat.blt d n = true) (hg : gOK ops l o.guard = some false)
  (hk : WL P w0 ops Q rest n ((d, undef) :: l) K hs) : WL P w0 ops Q (o :: rest) n l K hs := by
 intro a w ha hw
 have h1 := gOK_wanted ha hg
 unfold wpList
 rw [if_neg (by simp [h1]), hd]
 exact hk _ _ (ha.put hb) hw
theorem WL.pure1 (hT : TabOK P T) {o : Oper} {d : Nat} {v : Value} (hd : o.dst = some d) (hb : Nat.blt d n = true) (hg : gOK ops l o.guard = some true) (hv : pureOp T l o.op = some v)
  (hk : WL P w0 ops Q rest n ((d, v) :: l) K hs) : WL P w0 ops Q (o :: rest) n l K hs :=
 WL.val (R := fun u K' hs' => u = v /\ K' = K /\ hs' = hs) hd hb hg (fun a w ha hw => ⟨v, w, K, hs, pureOp_run hT hv ha w, hw, rfl, rfl, rfl⟩)
  (fun u K' hs' ⟨h1, h2, h3⟩ => by subst h1; subst h2; subst h3; exact hk)
theorem WL.pures (hT : TabOK P T) : ∀ (k : Nat) {rest : List Oper} {l : Sl}, pureN T ops n k rest l = some (rest', l') -> WL P w0 ops Q rest' n l' K hs -> WL P w0 ops Q rest n l K hs
 | 0, rest, l, h, hk => by simp only [pureN, Option.some.injEq, Prod.mk.injEq] at h; obtain ⟨rfl, rfl⟩ := h; exact hk
 | k + 1, [], l, h, hk => by simp [pureN] at h
 | k + 1, o :: r, l, h, hk => by
  simp only [pureN] at h
  cases hd : o.dst with
  | none => simp [hd] at h
  | some d =>
   simp only [hd] at h
   cases hb : Nat.blt d n with
   | false => simp [hb] at h
   | true =>
    cases hg : gOK ops l o.guard with
    | none => simp [hb, hg] at h
    | some g =>
     cases g with
     | true =>
      simp only [hb, hg] at h
      cases hv : pureOp T l o.op with
      | none => simp [hv] at h
      | some v =>
       simp only [hv] at h
       exact WL.pure1 hT hd hb hg hv (WL.pures hT k h hk)
     | false =>
      simp only [hb, hg] at h
      exact WL.unwanted hd hb hg (WL.pures hT k h hk)
def opAt (T : Tab) (ops : Array Oper) (n k : Nat) (rest : List Oper) (l : Sl) : Option (Oper × List Oper × Sl) :=
 match pureN T ops n k rest l with
 | some (o :: r, l') => match gOK ops l' o.guard with
  | some true => some (o, r, l')
  | _ => none
 | _ => none
theorem WL.at' (hT : TabOK P T) {k : Nat} {o : Oper} (h : opAt T ops n k rest l = some (o, rest', l')) (hk : gOK ops l' o.guard = some true -> WL P w0 ops Q (o :: rest') n l' K hs) : WL P w0 ops Q rest n l K hs := by
 unfold opAt at h
 split at h
 ·rename_i o' r' l2 hp
  split at h
  ·rename_i hg
   simp only [Option.some.injEq, Prod.mk.injEq] at h
   obtain ⟨rfl, rfl, rfl⟩ := h
   exact WL.pures hT k hp (hk hg)
  ·simp at h
 ·simp at h
def valAt (T : Tab) (ops : Array Oper) (n k : Nat) (rest : List Oper) (l : Sl) : Option (Nat × Value × List Oper × Sl) :=
 match opAt T ops n k rest l with
 | some (o, r, l') => match o.dst with
  | some d => match Nat.blt d n, pureOp T l' o.op with
   | true, some v => some (d, v, r, l')
   | _, _ => none
  | none => none
 | none => none
theorem valAt_spec {k d : Nat} {v : Value} (h : valAt T ops n k rest l = some (d, v, rest', l')) : ∃ o, opAt T ops n k rest l = some (o, rest', l') /\ o.dst = some d /\ Nat.blt d n = true /\ pureOp T l' o.op = some v := by
 unfold valAt at h
 split at h
 ·rename_i o r l2 ho
  split at h
  ·rename_i d' hd
   split at h
   ·rename_i hb hv
    simp only [Option.some.injEq, Prod.mk.injEq] at h
    obtain ⟨rfl, rfl, rfl, rfl⟩ := h
    exact ⟨o, ho, hd, hb, hv⟩
   ·simp at h
  ·simp at h
 ·simp at h
theorem ar (hT : TabOK P T) (k : Nat) {d : Nat} {v v' : Value} (h : valAt T ops n k rest l = some (d, v, rest', l')) (he : v = v') (hk : WL P w0 ops Q rest' n ((d, v') :: l') K hs) :
  WL P w0 ops Q rest n l K hs := by
 obtain ⟨o, ho, hd, hb, hv⟩ := valAt_spec h
 subst he
 exact WL.at' hT ho fun hg => WL.pure1 hT hd hb hg hv hk
def cmpP : BinOp -> Int -> Int -> Option Prop
 | .lss, a, b => some (a < b)
 | .leq, a, b => some (a <= b)
 | .gtr, a, b => some (b < a)
 | .geq, a, b => some (b <= a)
 | .eql, a, b => some (a = b)
 | .neq, a, b => some (¬ a = b)
 | _, _, _ => none
def cmpAt (T : Tab) (ops : Array Oper) (n k : Nat) (rest : List Oper) (l : Sl) : Option (Nat × Prop × List Oper × Sl) :=
 match opAt T ops n k rest l with
 | some (o, r, l') => match o.dst, o.op with
  | some d, .binOp op _ x y _ => match Nat.blt d n, ev l' x, ev l' y with
   | true, some (.int k a), some (.int k' b) => match decide (k = k'), cmpP op a b with
    | true, some p => some (d, p, r, l')
    | _, _ => none
   | _, _, _ => none
  | _, _ => none
 | none => none
theorem cmp (hT : TabOK P T) (k : Nat) {d : Nat} {p : Prop} (h : cmpAt T ops n k rest l = some (d, p, rest', l'))
  (hy : p -> WL P w0 ops Q rest' n ((d, .bool true) :: l') K hs) (hn : ¬ p -> WL P w0 ops Q rest' n ((d, .bool false) :: l') K hs) : WL P w0 ops Q rest n l K hs := by
 unfold cmpAt at h
 split at h
 ·rename_i o r l2 ho
  split at h
  ·rename_i d' op ty x y ty' hd hop
   split at h
   ·rename_i k1 a k2 b hb hx hy'
    split at h
    ·rename_i p' hk hp
     simp only [Option.some.injEq, Prod.mk.injEq] at h
     obtain ⟨rfl, rfl, rfl, rfl⟩ := h
     have hk' : k1 = k2 := of_decide_eq_true hk
     subst hk'
     have key : ∀ b', pureBin op (.int k1 a) (.int k1 b) = some (.bool b') -> (p' ↔ b' = true) -> WL P w0 ops Q rest n l K hs := fun b' hb' hiff => by
      refine WL.at' hT ho fun hg => WL.pure1 hT hd hb hg (v := .bool b') (by rw [hop]; simp only [pureOp, hx, hy', hb']) ?_
      cases b' with
      | true => exact hy (hiff.2 rfl)
      | false => exact hn (fun hp' => by have := hiff.1 hp'; cases this)
     cases op <;> simp only [cmpP, Option.some.injEq, reduceCtorEq] at hp <;> subst hp
     ·exact key (a == b) (by simp [pureBin]) (by simp)
     ·exact key (a != b) (by simp [pureBin]) (by simp)
     ·exact key (decide (a < b)) (by simp [pureBin]) (by simp)
     ·exact key (decide (a <= b)) (by simp [pureBin]) (by simp)
     ·exact key (decide (a > b)) (by simp [pureBin]) (by simp)
     ·exact key (decide (a >= b)) (by simp [pureBin]) (by simp)
    ·simp at h
   ·simp at h
  ·simp at h
 ·simp at h
theorem cb (hT : TabOK P T) (k : Nat) {d : Nat} {b : Bool} (h : valAt T ops n k rest l = some (d, .bool b, rest', l'))
  (hy : b = true -> WL P w0 ops Q rest' n ((d, .bool true) :: l') K hs) (hn : b = false -> WL P w0 ops Q rest' n ((d, .bool false) :: l') K hs) : WL P w0 ops Q rest n l K hs := by
 cases b with
 | true => exact ar hT k h rfl (hy rfl)
 | false => exact ar hT k h rfl (hn rfl)
theorem fin (hT : TabOK P T) (k : Nat) (h : pureN T ops n k rest l = some ([], l')) (hk : WQ w0 Q .normal n l' K hs) : WL P w0 ops Q rest n l K hs :=
 WL.pures hT k h (nl hk)
end rules
end Go.En
namespace Go.En
def IsS (h : PH) (ao : Option Addr) (n cap size : Nat) (xs : List Value) : Prop :=
 xs.length = n * size /\ n <= cap /\ ∀ (j : Nat) u, xs[j]? = some u -> ∃ a, ao = some a /\ Cell h (a.add j) u
def Own (h : PH) (ao : Option Addr) (n cap e size : Nat) (xs : List Value) : Prop :=
 xs.length = n * size /\ n <= cap /\ cap <= maxLen /\ ((ao = none /\ cap = 0 /\ h = em) \/
  ∃ g off cur, ao = some ⟨g, off, none⟩ /\ h = pt g cur e /\ cur.size = off + cap * size /\ (cur.toList.drop off).take (n * size) = xs)
theorem add_mk (g off k : Nat) : (⟨g, off, none⟩ : Addr).add k = ⟨g, off + k, none⟩ := by unfold Addr.add; split <;> simp_all
theorem Own.isS {h : PH} {ao : Option Addr} {n cap e size : Nat} {xs : List Value} (o : Own h ao n cap e size xs) : IsS h ao n cap size xs := by
 obtain ⟨h1, h2, _, h3⟩ := o
 refine ⟨h1, h2, ?_⟩
 rcases h3 with ⟨rfl, rfl, rfl⟩ | ⟨g, off, cur, rfl, rfl, hs, ht⟩
 ·intro j u hu
  have : n = 0 := by omega
  subst this
  have : xs = [] := List.eq_nil_of_length_eq_zero (by simpa using h1)
  subst this
  simp at hu
 ·intro j u hu
  refine ⟨_, rfl, ?_⟩
  rw [add_mk]
  refine Cell.pt ?_
  rw [<- ht] at hu
  have hj : j < n * size := by
   have := (List.getElem?_eq_some_iff.1 hu).1
   simp at this
   omega
  rw [List.getElem?_take_of_lt hj, List.getElem?_drop] at hu
  simpa using hu
theorem Own.nil (e size : Nat) : Own em none 0 0 e size [] := ⟨by simp, Nat.le_refl _, Nat.zero_le _, .inl ⟨rfl, rfl, rfl⟩⟩
theorem IsS.nil (h : PH) (ao : Option Addr) (cap size : Nat) : IsS h ao 0 cap size [] := ⟨by simp, Nat.zero_le _, by simp⟩
theorem Own.ofPt {b : Nat} {c : Array Value} {e n size : Nat} (h1 : c.size = n * size) (h2 : n <= maxLen) : Own (pt b c e) (some ⟨b, 0, none⟩) n n e size c.toList :=
 ⟨by simpa using h1, Nat.le_refl _, h2, .inr ⟨b, 0, c, rfl, rfl, by omega, by rw [List.drop_zero, <- h1, <- Array.length_toList]; exact List.take_length⟩⟩
theorem IsS.addr {h : PH} {ao : Option Addr} {n cap size : Nat} {xs : List Value} (x : IsS h ao n cap size xs) {j : Nat} (hj : j < n) (hs : 0 < size) : ∃ a, ao = some a := by
 obtain ⟨h1, _, h3⟩ := x
 have : 0 < xs.length := by rw [h1]; exact Nat.mul_pos (by omega) hs
 obtain ⟨a, ha, _⟩ := h3 0 xs[0] (by simp)
 exact ⟨a, ha⟩
section rules
variable {P : Program} {T : Tab} {w0 : World} {ops : Array Oper} {Q : Exit -> Act -> World -> Prop} {rest rest' : List Oper} {n : Nat} {l l' : Sl} {K : PH} {hs : List PH}
theorem run_load1 {w : World} (hT : TabOK P T) {t : Nat} {k : UK} (hk : asc T.kinds t = some k) (h1 : k.one = true) {a : Addr} {v : Value} (hc : w.cell? a = some v) :
  (Instr.loadAt t (.pointer (some a))).run P w = .ok v w := by
 obtain ⟨d, i, hd, hi, hs, hf⟩ := hT.one hk h1
 have hagg : (isAgg t).run P w = .ok false w := by
  cases d <;> cases k <;> simp [UK.fits, UK.one] at hf h1 <;> simp [isAgg, run_underlying hd]
 simp [Instr.loadAt, Instr.sureAddr, loadVar, hagg, hc]
theorem run_store1 {w : World} (hT : TabOK P T) {t : Nat} {k : UK} (hk : asc T.kinds t = some k) (h1 : k.one = true) {a : Addr} {v u : Value} (hc : w.cell? a = some u) (hf : w.frozen? a = false) (hv : v.oneCell' = true) :
  (Instr.storeAt t (.pointer (some a)) v).run P w = .ok () (w.setCell a v) := by
 obtain ⟨d, i, hd, hi, hs, _⟩ := hT.one hk h1
 have hcells : v.cells = #[v] := by cases v <;> simp [Value.oneCell', Value.cells] at hv ⊢
 have hadd : a.add 0 = a := by simp [Addr.add]
 simp [Instr.storeAt, Instr.sureAddr, storeVar, hcells, sizeOf, typeInfo, hi, hs, storeCells, hadd, run_store P w a v _ hv, hc, hf]
def ldAt (T : Tab) (ops : Array Oper) (n k : Nat) (rest : List Oper) (l : Sl) : Option (Nat × Addr × List Oper × Sl) :=
 match opAt T ops n k rest l with
 | some (o, r, l') => match o.dst, o.op with
  | some d, .load t x => match Nat.blt d n, asc T.kinds t, ev l' x with
   | true, some kd, some (.pointer (some a)) => cond kd.one (some (d, a, r, l')) none
   | _, _, _ => none
  | _, _ => none
 | none => none
theorem ld (hT : TabOK P T) (k : Nat) {d : Nat} {a : Addr} {v : Value} {h : PH} (h0 : ldAt T ops n k rest l = some (d, a, rest', l')) (hm : In K hs h) (hc : Cell h a v)
  (hk : WL P w0 ops Q rest' n ((d, v) :: l') K hs) : WL P w0 ops Q rest n l K hs := by
 unfold ldAt at h0
 split at h0
 ·rename_i o r l2 ho
  split at h0
  ·rename_i d' t x hd hop
   split at h0
   ·rename_i kd a' hb hkd hx
    cases h1 : kd.one with
    | false => simp [h1] at h0
    | true =>
     simp only [h1, cond_true, Option.some.injEq, Prod.mk.injEq] at h0
     obtain ⟨rfl, rfl, rfl, rfl⟩ := h0
     refine WL.at' hT ho fun hg => WL.val (R := fun u K' hs' => u = v /\ K' = K /\ hs' = hs) hd hb hg (fun A w ha hw => ⟨v, w, K, hs, ?_, hw, rfl, rfl, rfl⟩) ?_
     ·have h2 := run_load1 (P := P) hT hkd h1 (hw.cell hm hc)
      simp only [execOp, hop, ha.ev hx]
      simp [h2]
     ·rintro u K' hs' ⟨rfl, rfl, rfl⟩
      exact hk
   ·simp at h0
  ·simp at h0
 ·simp at h0
theorem ldp (hT : TabOK P T) (k i : Nat) {d b off ty : Nat} {v : Value} {c : Array Value} {fr : Nat × Nat} (h0 : ldAt T ops n k rest l = some (d, ⟨b, off, none⟩, rest', l')) (hi : hs[i]? = some (pt b c ty fr)) (hv : c[off]? = some v)
  (hk : WL P w0 ops Q rest' n ((d, v) :: l') K hs) : WL P w0 ops Q rest n l K hs :=
 ld hT k h0 (.inr ⟨i, hi⟩) (Cell.pt hv) hk
def stAt (T : Tab) (ops : Array Oper) (n k : Nat) (rest : List Oper) (l : Sl) : Option (Addr × Value × List Oper × Sl) :=
 match opAt T ops n k rest l with
 | some (o, r, l') => match o.dst, o.op with
  | none, .store t x y => match asc T.kinds t, ev l' x, ev l' y with
   | some kd, some (.pointer (some a)), some v => cond kd.one (some (a, v, r, l')) none
   | _, _, _ => none
  | _, _ => none
 | none => none
theorem stp (hT : TabOK P T) (k i : Nat) {b off ty : Nat} {v u : Value} {c : Array Value} (h0 : stAt T ops n k rest l = some (⟨b, off, none⟩, v, rest', l')) (hi : hs[i]? = some (pt b c ty)) (hu : c[off]? = some u) (hv : v.oneCell' = true)
  (hk : WL P w0 ops Q rest' n l' K (hs.set i (pt b (c.setIfInBounds off v) ty))) : WL P w0 ops Q rest n l K hs := by
 unfold stAt at h0
 split at h0
 ·rename_i o r l2 ho
  split at h0
  ·rename_i t x y hd hop
   split at h0
   ·rename_i kd a' v' hkd hx hy
    cases h1 : kd.one with
    | false => simp [h1] at h0
    | true =>
     simp only [h1, cond_true, Option.some.injEq, Prod.mk.injEq] at h0
     obtain ⟨rfl, rfl, rfl, rfl⟩ := h0
     refine WL.at' hT ho fun hg => WL.skp hd hg (fun A w ha hw => ⟨_, ?_, hw.setCell hi (off := off) v'⟩) hk
     have hb : w.heap[b]? = some (.cells c ty (0, 0)) := hw.own i _ hi b _ (by simp)
     have hc : w.cell? ⟨b, off, none⟩ = some u := hw.cell (.inr ⟨i, hi⟩) (Cell.pt hu)
     have hf : w.frozen? ⟨b, off, none⟩ = false := by simp [World.frozen?, hb]
     have h2 := run_store1 (P := P) hT hkd h1 hc hf hv
     simp only [execOp, hop, ha.ev hx, ha.ev hy]
     simp [h2]
   ·simp at h0
  ·simp at h0
 ·simp at h0
def bxAt (T : Tab) (ops : Array Oper) (n k : Nat) (rest : List Oper) (l : Sl) : Option (Nat × Nat × Value × List Oper × Sl) :=
 match opAt T ops n k rest l with
 | some (o, r, l') => match o.dst, o.op with
  | some d, .box e x => match Nat.blt d n, ev l' x with
   | true, some v => some (d, e, v, r, l')
   | _, _ => none
  | _, _ => none
 | none => none
theorem bx (hT : TabOK P T) (k : Nat) {d e : Nat} {v : Value} (h0 : bxAt T ops n k rest l = some (d, e, v, rest', l'))
  (hk : ∀ b, WL P w0 ops Q rest' n ((d, .pointer (some ⟨b, 0, none⟩)) :: l') K (pt b v.cells e :: hs)) : WL P w0 ops Q rest n l K hs := by
 unfold bxAt at h0
 split at h0
 ·rename_i o r l2 ho
  split at h0
  ·rename_i d' e' x hd hop
   split at h0
   ·rename_i v' hb hx
    simp only [Option.some.injEq, Prod.mk.injEq] at h0
    obtain ⟨rfl, rfl, rfl, rfl, rfl⟩ := h0
    refine WL.at' hT ho fun hg => WL.val (R := fun u K' hs' => ∃ b, u = .pointer (some ⟨b, 0, none⟩) /\ K' = K /\ hs' = pt b v'.cells e' :: hs) hd hb hg
     (fun A w ha hw => ⟨.pointer (some ⟨w.heap.size, 0, none⟩), _, K, _, ?_, hw.alloc _, w.heap.size, rfl, rfl, rfl⟩) ?_
    ·simp only [execOp, hop, ha.ev hx]
     simp [Instr.box, newVar, newRow]
    ·rintro u K' hs' ⟨b, rfl, rfl, rfl⟩
     exact hk b
   ·simp at h0
  ·simp at h0
 ·simp at h0
def alAt (T : Tab) (ops : Array Oper) (n k : Nat) (rest : List Oper) (l : Sl) : Option (Nat × Nat × List Oper × Sl) :=
 match opAt T ops n k rest l with
 | some (o, r, l') => match o.dst, o.op with
  | some d, .alloc e => match Nat.blt d n with
   | true => some (d, e, r, l')
   | _ => none
  | _, _ => none
 | none => none
theorem al (hT : TabOK P T) (k : Nat) {d e : Nat} (z : Value) (h0 : alAt T ops n k rest l = some (d, e, rest', l')) (hz : (P.info? e).bind (·.zero) = some z)
  (hk : ∀ b, WL P w0 ops Q rest' n ((d, .pointer (some ⟨b, 0, none⟩)) :: l') K (pt b z.cells e :: hs)) : WL P w0 ops Q rest n l K hs := by
 unfold alAt at h0
 split at h0
 ·rename_i o r l2 ho
  split at h0
  ·rename_i d' e' hd hop
   split at h0
   ·rename_i hb
    simp only [Option.some.injEq, Prod.mk.injEq] at h0
    obtain ⟨rfl, rfl, rfl, rfl⟩ := h0
    refine WL.at' hT ho fun hg => WL.val (R := fun u K' hs' => ∃ b, u = .pointer (some ⟨b, 0, none⟩) /\ K' = K /\ hs' = pt b z.cells e' :: hs) hd hb hg
     (fun A w ha hw => ⟨.pointer (some ⟨w.heap.size, 0, none⟩), _, K, _, ?_, hw.alloc _, w.heap.size, rfl, rfl, rfl⟩) ?_
    ·obtain ⟨i, hi, hz'⟩ := Option.bind_eq_some_iff.1 hz
     simp only [execOp, hop]
     simp [Instr.alloc, newVar, newRow, zeroValue, typeInfo, hi, hz']
    ·rintro u K' hs' ⟨b, rfl, rfl, rfl⟩
     exact hk b
   ·simp at h0
  ·simp at h0
 ·simp at h0
def bsAt (T : Tab) (ops : Array Oper) (n k : Nat) (rest : List Oper) (l : Sl) : Option (Nat × SlI × Nat × List (Nat × Value) × List Oper × Sl) :=
 match opAt T ops n k rest l with
 | some (o, r, l') => match o.dst, o.op with
  | some d, .buildSlice t len parts => match Nat.blt d n, asc T.sls t, parts.toList.mapM (fun x => (ev l' x.2).map (fun v => (x.1, v))) with
   | true, some si, some vs => some (d, si, len, vs, r, l')
   | _, _, _ => none
  | _, _ => none
 | none => none
theorem evs_map {a : Act} {nn : Nat} {l : Sl} (ha : Ag nn l a) : ∀ (ps : List (Nat × Operand)) (vs : List (Nat × Value)), ps.mapM (fun x => (ev l x.2).map (fun v => (x.1, v))) = some vs -> ps.map (fun x => (x.1, a.eval x.2)) = vs
 | [], vs, h => by simp at h; subst h; rfl
 | p :: ps, vs, h => by
  simp only [List.mapM_cons] at h
  cases h1 : ev l p.2 with
  | none => simp [h1] at h
  | some v =>
   cases h2 : ps.mapM (fun x => (ev l x.2).map (fun v => (x.1, v))) with
   | none => simp [h1, h2] at h
   | some r =>
    simp [h1, h2] at h
    subst h
    simp [ha.ev h1, evs_map ha ps r h2]
theorem lit (hT : TabOK P T) (k : Nat) {d len : Nat} {si : SlI} {vs : List (Nat × Value)} (cells : Array Value) (h0 : bsAt T ops n k rest l = some (d, si, len, vs, rest', l')) (hlen : len * si.size <= 16777216)
  (hf : Instr.fill (fun i => some (i * si.size, si.size)) ((Array.range (len * si.size)).map (fun i => (if len * si.size = 0 then (#[] : Array Value) else si.zero.cells)[i % (if len * si.size = 0 then (#[] : Array Value) else si.zero.cells).size]!)) vs = some cells)
  (hk : ∀ b, WL P w0 ops Q rest' n ((d, .slice (some ⟨b, 0, none⟩) len len) :: l') K (pt b cells si.elem :: hs)) : WL P w0 ops Q rest n l K hs := by
 unfold bsAt at h0
 split at h0
 ·rename_i o r l2 ho
  split at h0
  ·rename_i d' t len' parts hd hop
   split at h0
   ·rename_i si' vs' hb hsi hvs
    simp only [Option.some.injEq, Prod.mk.injEq] at h0
    obtain ⟨rfl, rfl, rfl, rfl, rfl, rfl⟩ := h0
    refine WL.at' hT ho fun hg => WL.val (R := fun u K' hs' => ∃ b, u = .slice (some ⟨b, 0, none⟩) len' len' /\ K' = K /\ hs' = pt b cells si'.elem :: hs) hd hb hg
     (fun A w ha hw => ⟨.slice (some ⟨w.heap.size, 0, none⟩) len' len', _, K, _, ?_, hw.alloc _, w.heap.size, rfl, rfl, rfl⟩) ?_
    ·obtain ⟨h1, i, h2, h3, h4, h5⟩ := hT.sl hsi
     have h6 := evs_map ha _ _ hvs
     have h7 : (parts.map fun (i, x) => (i, A.eval x)).toList = vs' := by simpa using h6
     simp only [execOp, hop]
     have h8 : ¬ (16777216 < len' * si'.size) := by omega
     by_cases hz : len' * si'.size = 0
     ·rw [if_pos hz] at hf
      simp [Instr.buildSlice, run_underlying h1, sizeOf, typeInfo, h2, h4, hz, newRow, zeroValue, h3]
      rw [h6]
      simp [hz] at hf
      simp [hf]
     ·simp only [if_neg hz] at hf
      simp [Instr.buildSlice, run_underlying h1, sizeOf, typeInfo, h2, h4, h8, hz, newRow, zeroValue, h3]
      rw [h6]
      simp [hf]
    ·rintro u K' hs' ⟨b, rfl, rfl, rfl⟩
     exact hk b
   ·simp at h0
  ·simp at h0
 ·simp at h0
end rules
end Go.En
namespace Go.En
theorem run_firstCells_isS {P : Program} {w0 w : World} {K : PH} {hs : List PH} (s : Sat w0 w K hs) {h : PH} (hm : In K hs h) {ao : Option Addr} {n cap size : Nat} {xs : List Value} (x : IsS h ao n cap size xs) :
  (Builtin.firstCells size n (.slice ao n cap)).run P w = .ok xs.toArray w := by
 obtain ⟨h1, h2, h3⟩ := x
 cases ao with
 | none =>
  have : xs = [] := by
   cases xs with
   | nil => rfl
   | cons u r => obtain ⟨a, ha, _⟩ := h3 0 u (by simp); cases ha
  subst this
  simp [run_firstCells_none]
 | some a =>
  refine run_firstCells_some (P := P) w size n a n cap xs h1 fun j u hu => ?_
  obtain ⟨a', ha, hc⟩ := h3 j u hu
  cases ha
  exact s.cell hm hc
theorem take_drop_splice {α : Type} (cur xs news : List α) (off k : Nat) (h : (cur.drop off).take k = xs) (hk : off + k + news.length <= cur.length) :
  ((cur.take (off + k) ++ news ++ cur.drop (off + k + news.length)).drop off).take (k + news.length) = xs ++ news := by
 have e1 : cur.take (off + k) = cur.take off ++ xs := by rw [<- h, List.take_add]
 have hl : (cur.take off).length = off := by simp; omega
 have hx : xs.length = k := by rw [<- h]; simp; omega
 rw [e1, List.append_assoc, List.append_assoc, List.drop_append_of_le_length (by omega), List.drop_of_length_le (by omega), List.nil_append, <- List.append_assoc,
  show k + news.length = (xs ++ news).length from by simp; omega]
 exact List.take_left
theorem run_append_Own {P : Program} {w0 w : World} {K : PH} {hs : List PH} (t ty e : TypeId) (i : TypeInfo) (z : Value) (ht : P.underlying t = some (.slice e)) (hi : P.info? e = some i) (hz : i.zero = some z)
  (hzs : z.cells.size = i.size) (s : Sat w0 w K hs) {j : Nat} {h h2 : PH} (hj : hs[j]? = some h) {ao ao2 : Option Addr} {n cap m c2 : Nat} {xs news : List Value} (o : Own h ao n cap e i.size xs)
  (hm : In K hs h2) (x : IsS h2 ao2 m c2 i.size news) (hsz : 0 < i.size) (h1 : ∀ u ∈ news, u.oneCell' = true) (hb : (n + m) * i.bytes <= 140737488355328) (h63 : n + m <= maxLen) :
  ∃ ao' cap' h' w', (Builtin.append_ #[t, t] ty #[.slice ao n cap, .slice ao2 m c2]).run P w = .ok (.slice ao' (n + m) cap') w' /\ Own h' ao' (n + m) cap' e i.size (xs ++ news) /\ Sat w0 w' K (hs.set j h') := by
 have hf := run_firstCells_isS (P := P) s hm x
 have hlen : (xs ++ news).length = (n + m) * i.size := by rw [List.length_append, o.1, x.1, Nat.add_mul]
 have hos := o.isS
 obtain ⟨o1, o2, o3, o4⟩ := o
 by_cases hroom : n + m <= cap
 ·rcases o4 with ⟨rfl, rfl, rfl⟩ | ⟨g, off, cur, rfl, rfl, hcs, htk⟩
  ·obtain rfl : n = 0 := by omega
   obtain rfl : m = 0 := by omega
   obtain rfl : xs = [] := List.eq_nil_of_length_eq_zero (by simpa using o1)
   obtain rfl : news = [] := List.eq_nil_of_length_eq_zero (by simpa using x.1)
   refine ⟨none, 0, em, w, ?_, Own.nil e i.size, ?_⟩
   ·simp [Builtin.append_, run_underlying ht, sizeOf, typeInfo, hi, Builtin.lenOf, hf]
   ·have : hs.set j em = hs := by
     have hjl : j < hs.length := (List.getElem?_eq_some_iff.1 hj).1
     have e2 : hs[j] = em := by rw [List.getElem?_eq_getElem hjl] at hj; exact Option.some.inj hj
     rw [<- e2]; exact List.set_getElem_self hjl
    rw [this]; exact s
  ·have hg : w.heap[g]? = some (.cells cur e (0, 0)) := s.own j _ hj g _ (by simp)
   have hfit : off + n * i.size + news.length <= cur.size := by
    rw [x.1, hcs, Nat.add_assoc, <- Nat.add_mul]
    exact Nat.add_le_add_left (Nat.mul_le_mul_right _ hroom) _
   have hst := run_storeCells_at P g (off + n * i.size) e news 0 cur w hg (by simpa using hfit) h1
   simp only [Nat.add_zero] at hst
   refine ⟨some ⟨g, off, none⟩, cap, _, _, ?_, ⟨hlen, hroom, o3, .inr ⟨g, off, (cur.toList.take (off + n * i.size) ++ news ++ cur.toList.drop (off + n * i.size + news.length)).toArray, rfl, rfl, ?_, ?_⟩⟩, s.setRow hj _⟩
   ·simp [Builtin.append_, run_underlying ht, sizeOf, typeInfo, hi, Builtin.lenOf, hroom, hf, add_mk, hst]
   ·have : cur.toList.length = cur.size := Array.length_toList
    simp only [List.size_toArray, List.length_append, List.length_take, List.length_drop, this]
    omega
   ·have h5 := take_drop_splice cur.toList xs news off (n * i.size) htk (by simpa using hfit)
    rw [x.1] at h5
    simpa [Nat.add_mul, x.1] using h5
 ·have hm0 : 0 < m := by omega
  obtain ⟨a2, rfl⟩ := x.addr hm0 hsz
  have hnews : ∀ (j : Nat) v, news[j]? = some v -> w.cell? (a2.add j) = some v := fun j v hv => by
   obtain ⟨a', ha, hc⟩ := x.2.2 j v hv
   cases ha
   exact s.cell hm hc
  have grown : ∀ old, old < n + m -> Own (pt w.heap.size (xs.toArray ++ news.toArray ++ Builtin.zeroCells z.cells (grownCap w (n + m) old e - (n + m))) e) (some ⟨w.heap.size, 0, none⟩) (n + m) (grownCap w (n + m) old e) e i.size (xs ++ news) /\
    Sat w0 (w.drew.alloc (.cells (xs.toArray ++ news.toArray ++ Builtin.zeroCells z.cells (grownCap w (n + m) old e - (n + m))) e)) K (hs.set j (pt w.heap.size (xs.toArray ++ news.toArray ++ Builtin.zeroCells z.cells (grownCap w (n + m) old e - (n + m))) e)) := by
   intro old ho
   have hge := grownCap_ge w (n + m) old e
   have hcm : grownCap w (n + m) old e <= maxLen := grownCap_le_maxLen w (n + m) old e h63
   refine ⟨⟨hlen, hge, hcm, .inr ⟨_, 0, _, rfl, rfl, ?_, ?_⟩⟩, ?_⟩
   ·simp only [Array.size_append, List.size_toArray, size_zeroCells, hzs, o1, x.1, <- Nat.add_mul, Nat.zero_add]
    congr 1
    omega
   ·simp only [Array.toList_append, List.append_assoc, List.drop_zero]
    rw [<- List.append_assoc, <- hlen]
    exact List.take_left
   ·refine s.upd hj rfl rfl rfl (by simp) ?_ ?_ ?_
    ·intro b ob hb'
     simp only [pt, sg] at hb'
     split at hb'
     ·rename_i e1; subst e1; cases hb'; exact heap_alloc_new w.drew _
     ·cases hb'
    ·intro b hb' _
     exact RowKit.Below.heap_alloc w.drew _ b hb'
    ·intro b ob hb' _
     simp only [pt, sg] at hb'
     split at hb'
     ·rename_i e1; omega
     ·cases hb'
  rcases o4 with ⟨rfl, rfl, rfl⟩ | ⟨g, off, cur, rfl, rfl, hcs, htk⟩
  ·obtain rfl : n = 0 := by omega
   obtain rfl : xs = [] := List.eq_nil_of_length_eq_zero (by simpa using o1)
   have hr := run_append_nil (P := P) w t ty e i z ht hi hz a2 m c2 news x.1 hnews hm0 (by simp only [maxLen] at h63; omega) (by simp only [Nat.zero_add] at hb; omega)
   have hgr := grown 0 (by omega)
   simp only [Nat.zero_add, List.nil_append, Array.empty_append] at hgr ⊢
   exact ⟨_, _, _, _, hr, hgr.1, hgr.2⟩
  ·have holds : ∀ (k : Nat) u, xs[k]? = some u -> w.cell? ((⟨g, off, none⟩ : Addr).add k) = some u := fun k u hu => by
    obtain ⟨a', ha, hc⟩ := hos.2.2 k u hu
    cases ha
    exact s.cell (.inr ⟨j, hj⟩) hc
   have hr := run_append_grow (P := P) w t ty e i z ht hi hz ⟨g, off, none⟩ n cap xs o1 holds a2 m c2 news x.1 hnews (by omega) (by simp only [maxLen] at h63; omega) (growslice_fits (by omega) hb)
   have hgr := grown cap (by omega)
   exact ⟨_, _, _, _, hr, hgr.1, hgr.2⟩
section rules
variable {P : Program} {T : Tab} {w0 : World} {ops : Array Oper} {Q : Exit -> Act -> World -> Prop} {rest rest' : List Oper} {n : Nat} {l l' : Sl} {K : PH} {hs : List PH}
def apAt (T : Tab) (ops : Array Oper) (n k : Nat) (rest : List Oper) (l : Sl) : Option (Nat × SlI × (Option Addr × Nat × Nat) × (Option Addr × Nat × Nat) × List Oper × Sl) :=
 match opAt T ops n k rest l with
 | some (o, r, l') => match o.dst, o.op with
  | some d, .call { callee := .builtin .append, args, argTypes } => match args.toList, argTypes.toList with
   | [x, y], [t, t'] => match Nat.blt d n, Nat.beq t t', asc T.sls t, ev l' x, ev l' y with
    | true, true, some si, some (.slice a1 n1 c1), some (.slice a2 n2 c2) => some (d, si, (a1, n1, c1), (a2, n2, c2), r, l')
    | _, _, _, _, _ => none
   | _, _ => none
  | _, _ => none
 | none => none
theorem app (hT : TabOK P T) (k i : Nat) {d : Nat} {si : SlI} {ao ao2 : Option Addr} {n1 c1 n2 c2 : Nat} {h h2 : PH} {xs news : List Value} (h0 : apAt T ops n k rest l = some (d, si, (ao, n1, c1), (ao2, n2, c2), rest', l'))
  (hi : hs[i]? = some h) (o : Own h ao n1 c1 si.elem si.size xs) (hm : In K hs h2) (x : IsS h2 ao2 n2 c2 si.size news) (hz : si.zero.cells.size = si.size) (hsz : 0 < si.size) (h1 : ∀ u ∈ news, u.oneCell' = true)
  (hb : (n1 + n2) * si.bytes <= 140737488355328) (h63 : n1 + n2 <= maxLen)
  (hk : ∀ ao' cap' h', Own h' ao' (n1 + n2) cap' si.elem si.size (xs ++ news) -> WL P w0 ops Q rest' n ((d, .slice ao' (n1 + n2) cap') :: l') K (hs.set i h')) : WL P w0 ops Q rest n l K hs := by
 unfold apAt at h0
 split at h0
 ·rename_i oo r l2 ho
  split at h0
  ·rename_i d' args argTypes hd hop
   split at h0
   ·rename_i x' y' t t' e1 e2
    split at h0
    ·rename_i si' a1 m1 k1 a2 m2 k2 hb' htt hsi hx hy
     simp only [Option.some.injEq, Prod.mk.injEq] at h0
     obtain ⟨rfl, rfl, ⟨rfl, rfl, rfl⟩, ⟨rfl, rfl, rfl⟩, rfl, rfl⟩ := h0
     have htt' : t = t' := Nat.eq_of_beq_eq_true htt
     subst htt'
     have a1' : args = #[x', y'] := by cases args; simp_all
     have a2' : argTypes = #[t, t] := by cases argTypes; simp_all
     subst a1'
     subst a2'
     obtain ⟨g1, ii, g2, g3, g4, g5⟩ := hT.sl hsi
     refine WL.at' hT ho fun hg => WL.val (R := fun u K' hs' => ∃ ao' cap' h', u = .slice ao' (m1 + m2) cap' /\ Own h' ao' (m1 + m2) cap' si'.elem si'.size (xs ++ news) /\ K' = K /\ hs' = hs.set i h') hd hb' hg
      (fun A w ha hw => ?_) ?_
     ·rw [<- g4] at o x hz hsz
      rw [<- g5] at hb
      obtain ⟨ao', cap', h', w', hr, ho', hs'⟩ := run_append_Own (P := P) t oo.type si'.elem ii si'.zero g1 g2 g3 hz hw hi o hm x hsz h1 hb h63
      refine ⟨_, w', K, _, ?_, hs', ao', cap', h', rfl, by rw [<- g4]; exact ho', rfl, rfl⟩
      simp only [execOp, hop]
      simp [resolve, invoke, builtin, ha.ev hx, ha.ev hy, hr]
     ·rintro u K' hs' ⟨ao', cap', h', rfl, ho', rfl, rfl⟩
      exact hk ao' cap' h' ho'
    ·simp at h0
   ·simp at h0
  ·simp at h0
 ·simp at h0
def ixAt (T : Tab) (ops : Array Oper) (n k : Nat) (rest : List Oper) (l : Sl) : Option (Nat × SlI × (Option Addr × Nat × Nat) × Int × List Oper × Sl) :=
 match opAt T ops n k rest l with
 | some (o, r, l') => match o.dst, o.op with
  | some d, .indexAddr t x i => match Nat.blt d n, asc T.sls t, ev l' x, ev l' i with
   | true, some si, some (.slice a1 n1 c1), some (.int _ j) => some (d, si, (a1, n1, c1), j, r, l')
   | _, _, _, _ => none
  | _, _ => none
 | _ => none
theorem ixs (hT : TabOK P T) (k : Nat) {d : Nat} {si : SlI} {ao : Option Addr} {n1 c1 : Nat} {i : Int} {h : PH} {xs : List Value} (j : Nat)
  (h0 : ixAt T ops n k rest l = some (d, si, (ao, n1, c1), i, rest', l')) (hj : i = (j : Int)) (x : IsS h ao n1 c1 si.size xs) (hjn : j < n1) (hsz : 0 < si.size)
  (hk : ∀ a, ao = some a -> WL P w0 ops Q rest' n ((d, .pointer (some (a.add (j * si.size)))) :: l') K hs) : WL P w0 ops Q rest n l K hs := by
 unfold ixAt at h0
 split at h0
 ·rename_i o r l2 ho
  split at h0
  ·rename_i d' t x' i' hd hop
   split at h0
   ·rename_i si' a1 m1 k1 kk jj hb hsi hx hi
    simp only [Option.some.injEq, Prod.mk.injEq] at h0
    obtain ⟨rfl, rfl, ⟨rfl, rfl, rfl⟩, rfl, rfl, rfl⟩ := h0
    subst hj
    obtain ⟨g1, ii, g2, g3, g4, g5⟩ := hT.sl hsi
    obtain ⟨a, rfl⟩ := x.addr hjn hsz
    refine WL.at' hT ho fun hg => WL.val (R := fun u K' hs' => u = .pointer (some (a.add (j * si'.size))) /\ K' = K /\ hs' = hs) hd hb hg (fun A w ha hw => ⟨_, w, K, hs, ?_, hw, rfl, rfl, rfl⟩) ?_
    ·have h1 : (j : Int) < (m1 : Int) := by omega
     simp only [execOp, hop, ha.ev hx, ha.ev hi]
     simp [Instr.indexAt, asIntOf, run_underlying g1, sizeOf, typeInfo, g2, g4, hjn]
    ·rintro u K' hs' ⟨rfl, rfl, rfl⟩
     exact hk a rfl
   ·simp at h0
  ·simp at h0
 ·simp at h0
theorem ix1 (hT : TabOK P T) (k : Nat) {d : Nat} {si : SlI} {ao : Option Addr} {n1 c1 : Nat} {i : Int} {h : PH} {xs : List Value} {u : Value} (j : Nat)
  (h0 : ixAt T ops n k rest l = some (d, si, (ao, n1, c1), i, rest', l')) (hj : i = (j : Int)) (hsz : si.size = 1) (x : IsS h ao n1 c1 1 xs) (hu : xs[j]? = some u)
  (hk : ∀ a, Cell h a u -> WL P w0 ops Q rest' n ((d, .pointer (some a)) :: l') K hs) : WL P w0 ops Q rest n l K hs := by
 have hjn : j < n1 := by
  have h1 := (List.getElem?_eq_some_iff.1 hu).1
  have h2 := x.1
  omega
 refine ixs hT k j h0 hj (h := h) (xs := xs) (by rw [hsz]; exact x) hjn (by omega) fun a ha => ?_
 obtain ⟨a', ha', hc⟩ := x.2.2 j u hu
 rw [ha] at ha'
 cases ha'
 rw [hsz, Nat.mul_one]
 exact hk _ hc
def slAt (T : Tab) (ops : Array Oper) (n k : Nat) (rest : List Oper) (l : Sl) : Option (Nat × SlI × (Option Addr × Nat × Nat) × Option Int × Option Int × List Oper × Sl) :=
 match opAt T ops n k rest l with
 | some (o, r, l') => match o.dst, o.op with
  | some d, .slice t x none none none => match Nat.blt d n, asc T.sls t, ev l' x with
   | true, some si, some (.slice a1 n1 c1) => some (d, si, (a1, n1, c1), none, none, r, l')
   | _, _, _ => none
  | some d, .slice t x (some lo) none none => match Nat.blt d n, asc T.sls t, ev l' x, ev l' lo with
   | true, some si, some (.slice a1 n1 c1), some (.int _ i) => some (d, si, (a1, n1, c1), some i, none, r, l')
   | _, _, _, _ => none
  | some d, .slice t x none (some hi) none => match Nat.blt d n, asc T.sls t, ev l' x, ev l' hi with
   | true, some si, some (.slice a1 n1 c1), some (.int _ i) => some (d, si, (a1, n1, c1), none, some i, r, l')
   | _, _, _, _ => none
  | some d, .slice t x (some lo) (some hi) none => match Nat.blt d n, asc T.sls t, ev l' x, ev l' lo, ev l' hi with
   | true, some si, some (.slice a1 n1 c1), some (.int _ i), some (.int _ j) => some (d, si, (a1, n1, c1), some i, some j, r, l')
   | _, _, _, _, _ => none
  | _, _ => none
 | _ => none
def cutA (ao : Option Addr) (cap lo size : Nat) : Option Addr := if cap = lo then ao else ao.map (·.add (lo * size))
theorem slAt_run {k d : Nat} {si : SlI} {ao : Option Addr} {n1 c1 : Nat} {lo hi : Option Int} (hT : TabOK P T) (L H : Nat)
  (h0 : slAt T ops n k rest l = some (d, si, (ao, n1, c1), lo, hi, rest', l')) (hL : lo.getD 0 = (L : Int)) (hH : hi.getD n1 = (H : Int)) (h1 : L <= H) (h2 : H <= c1) :
  ∃ o, opAt T ops n k rest l = some (o, rest', l') /\ o.dst = some d /\ Nat.blt d n = true /\
   ∀ a w, Ag n l' a -> (execOp a.eval o).run P w = .ok (.value (.slice (cutA ao c1 L si.size) (H - L) (c1 - L))) w := by
 unfold slAt at h0
 split at h0
 ·rename_i o r l2 ho
  have hLH : (L : Int) <= (H : Int) := by omega
  have hHc : (H : Int) <= (c1 : Int) := by omega
  split at h0
  ·rename_i d' t x hd hop
   split at h0
   ·rename_i si' a1 m1 k1 hb hsi hx
    simp only [Option.some.injEq, Prod.mk.injEq] at h0
    obtain ⟨rfl, rfl, ⟨rfl, rfl, rfl⟩, rfl, rfl, rfl, rfl⟩ := h0
    refine ⟨o, ho, hd, hb, fun a w ha => ?_⟩
    obtain ⟨g1, ii, g2, g3, g4, g5⟩ := hT.sl hsi
    simp only [Option.getD_none] at hL hH
    obtain rfl : L = 0 := by omega
    obtain rfl : m1 = H := by omega
    simp only [execOp, hop, ha.ev hx]
    simp [Instr.sliceAt, Instr.slice, run_underlying g1, Instr.sliceBounds, sizeOf, typeInfo, g2, cutA]
   ·simp at h0
  ·rename_i d' t x lo' hd hop
   split at h0
   ·rename_i si' a1 m1 k1 kk i hb hsi hx hi
    simp only [Option.some.injEq, Prod.mk.injEq] at h0
    obtain ⟨rfl, rfl, ⟨rfl, rfl, rfl⟩, rfl, rfl, rfl, rfl⟩ := h0
    refine ⟨o, ho, hd, hb, fun a w ha => ?_⟩
    obtain ⟨g1, ii, g2, g3, g4, g5⟩ := hT.sl hsi
    simp only [Option.getD_none, Option.getD_some] at hL hH
    subst hL
    obtain rfl : m1 = H := by omega
    simp only [execOp, hop, ha.ev hx, Option.map_some, ha.ev hi]
    simp [Instr.sliceAt, Instr.slice, run_underlying g1, Instr.sliceBounds, Instr.sliceBound, asIntOf, sizeOf, typeInfo, g2, g4, cutA, h1]
   ·simp at h0
  ·rename_i d' t x hi' hd hop
   split at h0
   ·rename_i si' a1 m1 k1 kk i hb hsi hx hi
    simp only [Option.some.injEq, Prod.mk.injEq] at h0
    obtain ⟨rfl, rfl, ⟨rfl, rfl, rfl⟩, rfl, rfl, rfl, rfl⟩ := h0
    refine ⟨o, ho, hd, hb, fun a w ha => ?_⟩
    obtain ⟨g1, ii, g2, g3, g4, g5⟩ := hT.sl hsi
    simp only [Option.getD_none, Option.getD_some] at hL hH
    obtain rfl : L = 0 := by omega
    subst hH
    simp only [execOp, hop, ha.ev hx, Option.map_some, ha.ev hi]
    simp [Instr.sliceAt, Instr.slice, run_underlying g1, Instr.sliceBounds, Instr.sliceBound, asIntOf, sizeOf, typeInfo, g2, cutA, h2]
   ·simp at h0
  ·rename_i d' t x lo' hi' hd hop
   split at h0
   ·rename_i si' a1 m1 k1 kk i kk2 j hb hsi hx hi hj
    simp only [Option.some.injEq, Prod.mk.injEq] at h0
    obtain ⟨rfl, rfl, ⟨rfl, rfl, rfl⟩, rfl, rfl, rfl, rfl⟩ := h0
    refine ⟨o, ho, hd, hb, fun a w ha => ?_⟩
    obtain ⟨g1, ii, g2, g3, g4, g5⟩ := hT.sl hsi
    simp only [Option.getD_some] at hL hH
    subst hL
    subst hH
    simp only [execOp, hop, ha.ev hx, Option.map_some, ha.ev hi, ha.ev hj]
    simp [Instr.sliceAt, Instr.slice, run_underlying g1, Instr.sliceBounds, Instr.sliceBound, asIntOf, sizeOf, typeInfo, g2, g4, cutA, h1, h2]
   ·simp at h0
  ·simp at h0
 ·simp at h0
theorem IsS.cut {h : PH} {ao : Option Addr} {n1 c1 size : Nat} {xs ys : List Value} (x : IsS h ao n1 c1 size xs) (L N : Nat) (hN : L + N <= n1) (hy : (xs.drop (L * size)).take (N * size) = ys) :
  IsS h (cutA ao c1 L size) N (c1 - L) size ys := by
 obtain ⟨h1, h2, h3⟩ := x
 have hle : L * size + N * size <= xs.length := by rw [h1, <- Nat.add_mul]; exact Nat.mul_le_mul_right _ hN
 refine ⟨by rw [<- hy]; simp; omega, by omega, fun j u hu => ?_⟩
 rw [<- hy] at hu
 have hj : j < N * size := by
  have := (List.getElem?_eq_some_iff.1 hu).1
  simp at this
  omega
 rw [List.getElem?_take_of_lt hj, List.getElem?_drop] at hu
 obtain ⟨a, ha, hc⟩ := h3 _ u hu
 have hN0 : N ≠ 0 := fun e => by rw [e] at hj; omega
 refine ⟨a.add (L * size), by rw [cutA, if_neg (by omega), ha]; rfl, ?_⟩
 have : (a.add (L * size)).add j = a.add (L * size + j) := by
  obtain ⟨b, o, sp⟩ := a
  obtain ⟨hsp, _⟩ := hc
  unfold Addr.add
  by_cases h0 : L * size = 0
  ·simp [h0]
  ·by_cases h4 : j = 0
   ·subst h4; simp [h0]
   ·simp [h0, h4, Nat.add_assoc]
 rw [this]
 exact hc
theorem sl (hT : TabOK P T) (k : Nat) {d : Nat} {si : SlI} {ao : Option Addr} {n1 c1 : Nat} {lo hi : Option Int} {h : PH} {xs ys : List Value} (L N : Nat)
  (h0 : slAt T ops n k rest l = some (d, si, (ao, n1, c1), lo, hi, rest', l')) (x : IsS h ao n1 c1 si.size xs) (hL : lo.getD 0 = (L : Int)) (hH : hi.getD n1 = ((L + N : Nat) : Int)) (hN : L + N <= n1)
  (hy : (xs.drop (L * si.size)).take (N * si.size) = ys)
  (hk : ∀ ao' cap', IsS h ao' N cap' si.size ys -> WL P w0 ops Q rest' n ((d, .slice ao' N cap') :: l') K hs) : WL P w0 ops Q rest n l K hs := by
 obtain ⟨o, ho, hd, hb, hrun⟩ := slAt_run (P := P) hT L (L + N) h0 hL hH (by omega) (by have := x.2.1; omega)
 refine WL.at' hT ho fun hg => WL.val (R := fun u K' hs' => u = .slice (cutA ao c1 L si.size) N (c1 - L) /\ K' = K /\ hs' = hs) hd hb hg (fun A w ha hw => ⟨_, w, K, hs, hrun A w ha, hw, ?_, rfl, rfl⟩) ?_
 ·rw [Nat.add_sub_cancel_left]
 ·rintro u K' hs' ⟨rfl, rfl, rfl⟩
  exact hk _ _ (x.cut L N hN hy)
theorem WL.enter {o : Oper} {d g : Nat} {vs : List Value} {R : Value -> PH -> List PH -> Prop} (hd : o.dst = some d) (hb : Nat.blt d n = true) (hg : gOK ops l o.guard = some true)
  (h : ∀ a w, Ag n l a -> (execOp a.eval o).run P w = .ok (.enter g vs.toArray) w) (hc : Ct P w0 g vs K hs R)
  (hk : ∀ v K' hs', R v K' hs' -> WL P w0 ops Q rest n ((d, v) :: l) K' hs') : WL P w0 ops Q (o :: rest) n l K hs := by
 intro a w ha hw
 have h1 := gOK_wanted ha hg
 unfold wpList
 rw [if_pos h1]
 refine .inl ?_
 unfold Oper.wp
 rw [h a w ha]
 simp only [Oper.upon]
 refine (hc.2 w hw).mono ?_
 rintro e w' ⟨v, K', hs', rfl, hR, hw'⟩
 simp only [hd]
 exact hk v K' hs' hR _ _ (ha.put hb) hw'
def clAt (T : Tab) (ops : Array Oper) (n k : Nat) (rest : List Oper) (l : Sl) : Option (Nat × Nat × List Value × List Oper × Sl) :=
 match opAt T ops n k rest l with
 | some (o, r, l') => match o.dst, o.op with
  | some d, .call { callee := .value f, args, .. } => match Nat.blt d n, ev l' f, args.toList.mapM (ev l') with
   | true, some (.func (.func g) first captured), some vs => some (d, g, first.toList ++ (vs ++ captured.toList), r, l')
   | _, _, _ => none
  | _, _ => none
 | _ => none
theorem ev_map {a : Act} {nn : Nat} {l : Sl} (ha : Ag nn l a) : ∀ (ps : List Operand) (vs : List Value), ps.mapM (ev l) = some vs -> ps.map a.eval = vs
 | [], vs, h => by simp at h; subst h; rfl
 | p :: ps, vs, h => by
  simp only [List.mapM_cons] at h
  cases h1 : ev l p with
  | none => simp [h1] at h
  | some v =>
   cases h2 : ps.mapM (ev l) with
   | none => simp [h1, h2] at h
   | some r =>
    simp [h1, h2] at h
    subst h
    simp [ha.ev h1, ev_map ha ps r h2]
theorem cl (hT : TabOK P T) (k : Nat) {d g : Nat} {vs : List Value} {R : Value -> PH -> List PH -> Prop} (h0 : clAt T ops n k rest l = some (d, g, vs, rest', l')) (hc : Ct P w0 g vs K hs R)
  (hk : ∀ v K' hs', R v K' hs' -> WL P w0 ops Q rest' n ((d, v) :: l') K' hs') : WL P w0 ops Q rest n l K hs := by
 unfold clAt at h0
 split at h0
 ·rename_i o r l2 ho
  split at h0
  ·rename_i d' f args ats hd hop
   split at h0
   ·rename_i g' first captured vs' hb hf hvs
    simp only [Option.some.injEq, Prod.mk.injEq] at h0
    obtain ⟨rfl, rfl, rfl, rfl, rfl⟩ := h0
    refine WL.at' hT ho fun hg => WL.enter hd hb hg (fun A w ha => ?_) hc hk
    have h6 := ev_map ha _ _ hvs
    have h7 : args.map A.eval = vs'.toArray := by
     apply Array.ext'
     simpa using h6
    have hcal := hc.1
    unfold callable at hcal
    simp only [execOp, hop]
    cases hfn : P.funcs[g']? with
    | none => simp [hfn] at hcal
    | some fn =>
     simp only [hfn, Bool.and_eq_true, Bool.not_eq_true'] at hcal
     have hbn : ¬ fn.body = none := fun e => by simp [e] at hcal
     have hnm : ¬ fn.name = "runtime.NumGoroutine" := by simpa using hcal.2
     simp [resolve, h7, ha.ev hf, Deferred.ofValue, invoke, callFunc, hfn, hbn, hnm]
   ·simp at h0
  ·simp at h0
 ·simp at h0
end rules
end Go.En
namespace Go.En
theorem Sat.iff {w0 w : World} {K : PH} {hs : List PH} : Sat w0 w K hs ↔ (w.os = w0.os /\ w.tape = w0.tape /\ w.output = w0.output /\ w0.heap.size <= w.heap.size /\ (∀ b o, K b = some o -> w.heap[b]? = some o) /\
  (∀ h ∈ hs, ∀ b o, h b = some o -> w.heap[b]? = some o /\ K b = none)) /\ hs.Pairwise (fun h h' => ∀ b, h b = none \/ h' b = none) := by
 constructor
 ·intro s
  refine ⟨⟨s.os, s.tape, s.output, s.size, s.imm, fun h hm b o hb => ?_⟩, ?_⟩
  ·obtain ⟨i, hi⟩ := List.getElem?_of_mem hm
   exact ⟨s.own i h hi b o hb, s.apart i h hi b o hb⟩
  ·rw [List.pairwise_iff_getElem]
   intro i j hi hj hij b
   cases hb : hs[i] b with
   | none => exact .inl rfl
   | some o => exact .inr (s.sep i j _ _ (List.getElem?_eq_getElem hi) (List.getElem?_eq_getElem hj) (by omega) b o hb)
 ·rintro ⟨⟨h1, h2, h3, h4, h5, h6⟩, h7⟩
  rw [List.pairwise_iff_getElem] at h7
  refine ⟨h1, h2, h3, h4, h5, fun i h hi b o hb => (h6 h (List.mem_of_getElem? hi) b o hb).1, fun i h hi b o hb => (h6 h (List.mem_of_getElem? hi) b o hb).2, fun i j h h' hi hj hij b o hb => ?_⟩
  obtain ⟨hi1, rfl⟩ := List.getElem?_eq_some_iff.1 hi
  obtain ⟨hj1, rfl⟩ := List.getElem?_eq_some_iff.1 hj
  rcases Nat.lt_or_gt_of_ne hij with hlt | hlt
  ·rcases h7 i j hi1 hj1 hlt b with h | h
   ·rw [h] at hb; cases hb
   ·exact h
  ·rcases h7 j i hj1 hi1 hlt b with h | h
   ·exact h
   ·rw [h] at hb; cases hb
theorem Sat.perm {w0 w : World} {K : PH} {hs hs' : List PH} (p : hs.Perm hs') (s : Sat w0 w K hs) : Sat w0 w K hs' := by
 rw [Sat.iff] at s ⊢
 obtain ⟨⟨h1, h2, h3, h4, h5, h6⟩, h7⟩ := s
 exact ⟨⟨h1, h2, h3, h4, h5, fun h hm => h6 h (p.mem_iff.2 hm)⟩, (p.pairwise_iff (fun {x y} hxy b => (hxy b).symm)).1 h7⟩
theorem perm_front {α : Type} : ∀ (l : List α) (i : Nat) (x : α), l[i]? = some x -> l.Perm (x :: l.eraseIdx i)
 | [], i, x, h => by simp at h
 | a :: l, 0, x, h => by simp at h; subst h; simp
 | a :: l, i + 1, x, h => by
  have := perm_front l i x (by simpa using h)
  simp only [List.eraseIdx_cons_succ]
  exact (this.cons a).trans (List.Perm.swap x a _)
theorem perm_set {α : Type} : ∀ (l : List α) (i : Nat) (x y : α), l[i]? = some x -> (y :: l.eraseIdx i).Perm (l.set i y)
 | [], i, x, y, h => by simp at h
 | a :: l, 0, x, y, h => by simp
 | a :: l, i + 1, x, y, h => by
  have := perm_set l i x y (by simpa using h)
  simp only [List.eraseIdx_cons_succ, List.set_cons_succ]
  exact (List.Perm.swap a y _).trans (this.cons a)
theorem Ct.at {P : Program} {w0 : World} {f : FuncId} {args : List Value} {K : PH} {hs : List PH} {h : PH} {S : Value -> PH -> PH -> Prop} (i : Nat) (hi : hs[i]? = some h)
  (c : Ct P w0 f args K (h :: hs.eraseIdx i) (fun v K' hs' => ∃ h', hs' = h' :: hs.eraseIdx i /\ S v K' h')) : Ct P w0 f args K hs (fun v K' hs' => ∃ h', hs' = hs.set i h' /\ S v K' h') := by
 refine ⟨c.1, fun w hw => (c.2 w (hw.perm (perm_front hs i h hi))).mono ?_⟩
 rintro e w' ⟨v, K', hs', rfl, ⟨h', rfl, hS⟩, hw'⟩
 exact ⟨v, K', _, rfl, ⟨h', rfl, hS⟩, hw'.perm (perm_set hs i h h' hi)⟩
theorem Ct.atN {P : Program} {w0 : World} {f : FuncId} {args : List Value} {K : PH} {hs : List PH} {h : PH} {S : Value -> PH -> PH -> List PH -> Prop} (i : Nat) (hi : hs[i]? = some h)
  (c : Ct P w0 f args K (h :: hs.eraseIdx i) (fun v K' hs' => ∃ h' new, hs' = new ++ h' :: hs.eraseIdx i /\ S v K' h' new)) : Ct P w0 f args K hs (fun v K' hs' => ∃ h' new, hs' = new ++ hs.set i h' /\ S v K' h' new) := by
 refine ⟨c.1, fun w hw => (c.2 w (hw.perm (perm_front hs i h hi))).mono ?_⟩
 rintro e w' ⟨v, K', hs', rfl, ⟨h', new, rfl, hS⟩, hw'⟩
 exact ⟨v, K', _, rfl, ⟨h', new, rfl, hS⟩, hw'.perm ((perm_set hs i h h' hi).append_left new)⟩
section drop
variable {P : Program} {w0 : World} {ops : Array Oper} {Q : Exit -> Act -> World -> Prop} {rest : List Oper} {n : Nat} {l : Sl} {K h : PH} {hs : List PH} {c : Code} {e : Exit}
theorem WL.drop (hk : WL P w0 ops Q rest n l K hs) : WL P w0 ops Q rest n l K (h :: hs) := fun a w ha hw => hk a w ha hw.dropHead
theorem WC.drop (hk : WC P w0 c Q n l K hs) : WC P w0 c Q n l K (h :: hs) := fun a w ha hw => hk a w ha hw.dropHead
theorem WQ.drop (hk : WQ w0 Q e n l K hs) : WQ w0 Q e n l K (h :: hs) := fun a w ha hw => hk a w ha hw.dropHead
theorem WL.em (hk : WL P w0 ops Q rest n l K (En.em :: hs)) : WL P w0 ops Q rest n l K hs := fun a w ha hw => hk a w ha hw.addEm
theorem WC.em (hk : WC P w0 c Q n l K (En.em :: hs)) : WC P w0 c Q n l K hs := fun a w ha hw => hk a w ha hw.addEm
theorem WQ.em (hk : WQ w0 Q e n l K (En.em :: hs)) : WQ w0 Q e n l K hs := fun a w ha hw => hk a w ha hw.addEm
theorem WL.perm {hs' : List PH} (p : hs.Perm hs') (hk : WL P w0 ops Q rest n l K hs') : WL P w0 ops Q rest n l K hs := fun a w ha hw => hk a w ha (hw.perm p)
theorem WC.perm {hs' : List PH} (p : hs.Perm hs') (hk : WC P w0 c Q n l K hs') : WC P w0 c Q n l K hs := fun a w ha hw => hk a w ha (hw.perm p)
theorem WQ.perm {hs' : List PH} (p : hs.Perm hs') (hk : WQ w0 Q e n l K hs') : WQ w0 Q e n l K hs := fun a w ha hw => hk a w ha (hw.perm p)
end drop
theorem In.cons {K h x : PH} {hs : List PH} (hm : In K hs h) : In K (x :: hs) h := by
 rcases hm with h1 | ⟨i, h1⟩
 ·exact .inl h1
 ·exact .inr ⟨i + 1, by simpa using h1⟩
theorem i64w {x : Int} (h : -9223372036854775808 <= x /\ x <= 9223372036854775807) : Value.int .i64 (IntKind.i64.wrap x) = .int .i64 x := by rw [IntWalk.i64_in _ h]
theorem u64w {x : Int} (h : 0 <= x /\ x <= 18446744073709551615) : Value.int .u64 (IntKind.u64.wrap x) = .int .u64 x := by rw [IntWalk.u64_in _ h]
theorem u32w {x : Int} (h : 0 <= x /\ x <= 4294967295) : Value.int .u32 (IntKind.u32.wrap x) = .int .u32 x := by rw [IntWalk.u32_in _ h]
theorem u8w {x : Int} (h : 0 <= x /\ x <= 255) : Value.int .u8 (IntKind.u8.wrap x) = .int .u8 x := by rw [IntWalk.u8_in _ h]
theorem u8m (n : Nat) : Value.int .u8 (IntKind.u8.wrap (n : Int)) = .int .u8 ((n % 256 : Nat) : Int) := by
 simp [IntKind.wrap, IntKind.bits, IntKind.signed]
theorem u32m (n : Nat) : Value.int .u32 (IntKind.u32.wrap (n : Int)) = .int .u32 ((n % 4294967296 : Nat) : Int) := by
 simp [IntKind.wrap, IntKind.bits, IntKind.signed]
theorem u64m (n : Nat) : Value.int .u64 (IntKind.u64.wrap (n : Int)) = .int .u64 ((n % 18446744073709551616 : Nat) : Int) := by
 simp [IntKind.wrap, IntKind.bits, IntKind.signed]
end Go.En
end
section
namespace Go.En
section tree
variable {P : Program} {ops : Array Oper} {md : Region.Mode} {S : Array Bool -> World -> Prop}
def nrm (q : Act -> World -> Prop) : Exit -> Act -> World -> Prop
 | .normal, a, w => q a w
 | _, _, _ => False
theorem upon_q {o : Oper} {a : Act} {K : Act -> World -> Prop} {Q Q' : Exit -> Act -> World -> Prop} (hp : ∀ c a w, Q (.panic c) a w -> Q' (.panic c) a w) (hg : ∀ a w, Q .outgrown a w -> Q' .outgrown a w) {r : Result Next} (h : o.upon P a K Q r) : o.upon P a K Q' r := by
 cases r with
 | ok n w' =>
  cases n <;> simp only [Oper.upon] at h ⊢ <;> first
   | exact h
   | (
     refine Calls.mono h fun e w'' he => ?_
     cases e with
     | returned v => exact he
     | panicked c => exact hp _ _ _ he
     | outgrown => obtain ⟨a, w, hh⟩ := he; exact ⟨a, w, hg _ _ hh⟩)
 | halt x w' =>
  cases x <;> simp only [Oper.upon] at h ⊢ <;> first
   | exact hp _ _ _ h
   | exact h
theorem wpOp_q {i : Nat} {K : Act -> World -> Prop} {Q Q' : Exit -> Act -> World -> Prop} (hq : ∀ e a w, Q e a w -> Q' e a w) {a : Act} {w : World} (h : wpOp P ops Q i K a w) : wpOp P ops Q' i K a w := by
 unfold wpOp at *
 split
 ·exact by simpa [*] using h
 ·rename_i o ho
  simp only [ho] at h
  split
  ·rename_i hw
   simp only [hw, if_true] at h
   exact h.imp (upon_q (fun c => hq (.panic c)) (hq .outgrown)) (fun ⟨h1, a, w, h2⟩ => ⟨h1, a, w, hq _ _ _ h2⟩)
  ·rename_i hw; simp only [hw] at h; exact h
def tr (P : Program) (md : Region.Mode) (ops : Array Oper) (q : Act -> World -> Prop) (S : Array Bool -> World -> Prop) : Nat -> Array Bool -> Act -> World -> Prop
 | 0, listed, a, w => Region.ready md ops listed = [] /\ q a w
 | f + 1, listed, a, w => (Region.ready md ops listed = [] -> q a w) /\
  ∀ i ∈ Region.ready md ops listed, wpOp P ops (nrm q) i (fun a' w' => S (listed.setIfInBounds i true) w' /\ tr P md ops q S f (listed.setIfInBounds i true) a' w') a w
theorem tr_any {q : Act -> World -> Prop} {Q : Exit -> Act -> World -> Prop} (hq : ∀ e a w, nrm q e a w -> Q e a w) : ∀ (f : Nat) (listed : Array Bool) (a : Act) (w : World), tr P md ops q S f listed a w -> wpAny P md ops Q f listed a w
 | 0, _, _, _, h => ⟨h.1, hq .normal _ _ h.2⟩
 | f + 1, _, _, _, h => ⟨fun h0 => hq .normal _ _ (h.1 h0), fun i hi => wpOp_mono (fun a' w' h' => tr_any hq f _ a' w' h'.2) (wpOp_q hq (h.2 i hi))⟩
def Closed (md : Region.Mode) (ops : Array Oper) (L : Array Bool) : Prop := L.size = ops.size /\ ∀ j oj, ops[j]? = some oj -> L.getD j false = true -> ∀ e ∈ oj.after, Region.binds md e = true -> L.getD e.on false = true
theorem Closed.set {L : Array Bool} {i : Nat} (c : Closed md ops L) (hr : i ∈ Region.ready md ops L) : Closed md ops (L.setIfInBounds i true) := by
 obtain ⟨_, oi, hoi, hall⟩ := mem_ready.1 hr
 refine ⟨by simpa using c.1, ?_⟩
 intro j oj hj hl e he hb
 by_cases hij : i = j
 ·subst hij
  obtain rfl : oj = oi := Option.some.inj (hj.symm.trans hoi)
  exact getD_set_true (hall e he hb)
 ·rw [getD_set_ne false hij] at hl
  exact getD_set_true (c.2 j oj hj hl e he hb)
theorem tr_first {q : Act -> World -> Prop} {i : Nat} {oi : Oper} {v : Value} (hi : ops[i]? = some oi) (hsel : ∀ (j : Nat) (o : Oper) cs b, ops[j]? = some o -> o.op ≠ .select cs b) :
  ∀ (f : Nat) (listed : Array Bool) (a : Act) (w : World), Closed md ops listed ->
   (∀ j oj, ops[j]? = some oj -> j ≠ i -> listed.getD j true = false -> (∀ e ∈ oj.after, Region.binds md e = true -> e.on ≠ i) -> oi.apart ops oj = true) ->
   i ∈ Region.ready md ops listed -> YieldsIf P ops (fun w => ∃ L : Array Bool, Closed md ops L /\ L.getD i true = false /\ S L w) oi v a -> S listed w ->
   (∀ (L : Array Bool) w', S L w' -> S (L.setIfInBounds i true) w') -> (∀ (L : Array Bool) w', S (L.setIfInBounds i true) w' -> S L w') ->
   tr P md ops q S f (listed.setIfInBounds i true) (a.put oi.dst v) w -> tr P md ops q S (f + 1) listed a w := by
 intro f
 induction f with
 | zero =>
  intro listed a w hc _ hr hy hS hup hdown H
  refine ⟨fun h => (by rw [h] at hr; cases hr), fun j hj => ?_⟩
  by_cases hji : j = i
  ·subst hji; exact hy.wpOp hi ⟨listed, hc, (mem_ready.1 hr).1, hS⟩ ⟨hup _ _ hS, H⟩
  ·have := ready_mono hj hji
   rw [H.1] at this
   cases this
 | succ f ih =>
  intro listed a w hc hfree hr hy hS hup hdown H
  refine ⟨fun h => (by rw [h] at hr; cases hr), fun j hj => ?_⟩
  by_cases hji : j = i
  ·subst hji; exact hy.wpOp hi ⟨listed, hc, (mem_ready.1 hr).1, hS⟩ ⟨hup _ _ hS, H⟩
  ·have h1 := H.2 j (ready_mono hj hji)
   obtain ⟨hjun, oj, hoj, hall⟩ := mem_ready.1 hj
   have hnot : ∀ e ∈ oj.after, Region.binds md e = true -> e.on ≠ i := fun e he hb heq => by
    have h1 := hall e he hb
    have h0 := (mem_ready.1 hr).1
    rw [heq] at h1
    rcases Nat.lt_or_ge i listed.size with h' | h'
    ·simp [h'] at h0 h1; rw [h0] at h1; cases h1
    ·simp [Array.getElem?_eq_none h'] at h1
   have h2 := wpOp_putIf hoj (hfree j oj hoj hji hjun hnot) (fun cs b => hsel i oi cs b hi) (fun cs b => hsel j oj cs b hoj) (fun c a w h => h) hy h1
   have hfree' : ∀ k ok, ops[k]? = some ok -> k ≠ i -> (listed.setIfInBounds j true).getD k true = false ->
     (∀ e ∈ ok.after, Region.binds md e = true -> e.on ≠ i) -> oi.apart ops ok = true := fun k ok hk hki hun hno => by
    refine hfree k ok hk hki ?_ hno
    by_cases hjk : j = k
    ·subst hjk; exact hjun
    ·rw [getD_set_ne true hjk] at hun; exact hun
   refine wpOp_mono (fun a' w' h3 => ?_) h2
   obtain ⟨g1, g2, g3⟩ := h3
   have e1 : (listed.setIfInBounds i true).setIfInBounds j true = (listed.setIfInBounds j true).setIfInBounds i true := Array.setIfInBounds_comm _ _ (Ne.symm hji)
   rw [e1] at g2 g3
   have g4 := hdown _ _ g2
   exact ⟨g4, ih (listed.setIfInBounds j true) a' w' (hc.set hj) hfree' (ready_mono hr (Ne.symm hji)) g1 g4 hup hdown g3⟩
end tree
def planOK (md : Region.Mode) (ops : Array Oper) : List Nat -> Array Bool -> Bool
 | [], listed => (Region.ready md ops listed).isEmpty
 | p :: r, listed => (cond (Nat.beq (p % 2) 0) ((Region.ready md ops listed).contains (p / 2) && Region.free md ops listed (p / 2)) ((Region.ready md ops listed).contains (p / 2))) && planOK md ops r (listed.setIfInBounds (p / 2) true)
def HasL (K : PH) (A : List PH) (w : World) : Prop := (∀ b o, K b = some o -> w.heap[b]? = some o) /\ ∀ h ∈ A, ∀ b o, h b = some o -> w.heap[b]? = some o
def still (z : Nat) (H : World -> Prop) (L : Array Bool) (w : World) : Prop := L.getD z false = false -> H w
def WA (P : Program) (w0 : World) (ops : Array Oper) (Q : Exit -> Act -> World -> Prop) (K0 : PH) (A : List PH) (z : Nat) (plan : List Nat) (listed : Array Bool) (n : Nat) (l : Sl) (K : PH) (hs : List PH) : Prop :=
 planOK .any ops plan listed = true -> Closed .any ops listed -> ∀ a w, Ag n l a -> Sat w0 w K hs -> still z (HasL K0 A) listed w -> tr P .any ops (Q .normal) (still z (HasL K0 A)) plan.length listed a w
theorem HasL.of {w0 w : World} {K : PH} {hs A : List PH} (s : Sat w0 w K hs) (hA : hs.take A.length = A) : HasL K A w := by
 refine ⟨s.imm, fun h hm b o hb => ?_⟩
 rw [<- hA] at hm
 exact s.block (.inr (List.getElem?_of_mem (List.mem_of_mem_take hm))) hb
theorem HasL.cell {w : World} {K : PH} {A : List PH} (s : HasL K A w) {h : PH} (hi : In K A h) {a : Addr} {v : Value} (hc : Cell h a v) : w.cell? a = some v := by
 obtain ⟨hsp, c, ty, fr, hb, hv⟩ := hc
 have : w.heap[a.block]? = some (.cells c ty fr) := by
  rcases hi with rfl | ⟨i, hi⟩
  ·exact s.1 _ _ hb
  ·exact s.2 h (List.mem_of_getElem? hi) _ _ hb
 simp [World.cell?, this, hsp, hv]
section rules
variable {P : Program} {T : Tab} {w0 : World} {ops : Array Oper} {Q : Exit -> Act -> World -> Prop} {plan plan' : List Nat} {z : Nat} {listed listed' : Array Bool} {n : Nat} {l l' : Sl} {K K0 : PH} {hs A : List PH}
theorem still_up {H : World -> Prop} (i : Nat) (L : Array Bool) (w : World) (h : still z H L w) : still z H (L.setIfInBounds i true) w := by
 intro hr
 refine h ?_
 cases e : L.getD z false with
 | false => rfl
 | true => rw [getD_set_true e] at hr; cases hr
theorem still_down {H : World -> Prop} {i : Nat} (hi : i ≠ z) (L : Array Bool) (w : World) (h : still z H (L.setIfInBounds i true) w) : still z H L w := by
 intro hr
 exact h (by rw [getD_set_ne false hi]; exact hr)
theorem WA.look {i : Nat} {o : Oper} {d : Nat} {v : Value} (hi : ops[i]? = some o) (hsel : Region.noSelect ops = true) (hz : Nat.beq i z = false) (hd : o.dst = some d) (hb : Nat.blt d n = true)
  (hy : ∀ a, Ag n l a -> YieldsIf P ops (fun w => ∃ L : Array Bool, Closed .any ops L /\ L.getD i true = false /\ still z (HasL K0 A) L w) o v a)
  (hk : WA P w0 ops Q K0 A z plan (listed.setIfInBounds i true) n ((d, v) :: l) K hs) : WA P w0 ops Q K0 A z (2 * i :: plan) listed n l K hs := by
 intro hp hc a w ha hw hl
 simp only [planOK, Bool.and_eq_true] at hp
 obtain ⟨h1, h2⟩ := hp
 rw [show 2 * i % 2 = 0 from by omega, show 2 * i / 2 = i from by omega] at h1
 rw [show 2 * i / 2 = i from by omega] at h2
 have h3 : ((Region.ready .any ops listed).contains i && Region.free .any ops listed i) = true := h1
 simp only [Bool.and_eq_true] at h3
 have hready : i ∈ Region.ready .any ops listed := by simpa using h3.1
 have hkk := hk h2 (hc.set hready) _ w (ha.put (v := v) hb) hw (still_up i listed w hl)
 have hzi : i ≠ z := Nat.ne_of_beq_eq_false hz
 refine tr_first hi (Region.noSelect_spec hsel) _ listed a w hc (Region.free_spec hi h3.2) hready (hy a ha) hl (fun L w' h => still_up i L w' h) (fun L w' h => still_down hzi L w' h) ?_
 rw [hd]
 exact hkk
theorem WA.pure (hT : TabOK P T) {i : Nat} {o : Oper} {d : Nat} {v : Value} (hi : ops[i]? = some o) (hsel : Region.noSelect ops = true) (hz : Nat.beq i z = false) (hd : o.dst = some d) (hb : Nat.blt d n = true)
  (hv : gOK ops l o.guard = some true /\ pureOp T l o.op = some v \/ gOK ops l o.guard = some false /\ v = undef)
  (hk : WA P w0 ops Q K0 A z plan (listed.setIfInBounds i true) n ((d, v) :: l) K hs) : WA P w0 ops Q K0 A z (2 * i :: plan) listed n l K hs := by
 refine WA.look hi hsel hz hd hb (fun a ha => ?_) hk
 rcases hv with ⟨hg, hv⟩ | ⟨hg, rfl⟩
 ·exact .inl ⟨gOK_wanted ha hg, fun w _ => pureOp_run hT hv ha w⟩
 ·exact .inr ⟨gOK_wanted ha hg, rfl⟩
def planN (T : Tab) (ops : Array Oper) (n z : Nat) : Nat -> List Nat -> Array Bool -> Sl -> Option (List Nat × Array Bool × Sl)
 | 0, p, L, l => some (p, L, l)
 | _ + 1, [], _, _ => none
 | k + 1, p :: r, L, l => match Nat.beq (p % 2) 0, Nat.beq (p / 2) z, ops[p / 2]? with
  | true, false, some o => match o.dst with
   | some d => match Nat.blt d n, gOK ops l o.guard with
    | true, some true => match pureOp T l o.op with
     | some v => planN T ops n z k r (L.setIfInBounds (p / 2) true) ((d, v) :: l)
     | none => none
    | true, some false => planN T ops n z k r (L.setIfInBounds (p / 2) true) ((d, undef) :: l)
    | _, _ => none
   | none => none
  | _, _, _ => none
theorem WA.pures (hT : TabOK P T) (hsel : Region.noSelect ops = true) : ∀ (k : Nat) {plan : List Nat} {listed : Array Bool} {l : Sl}, planN T ops n z k plan listed l = some (plan', listed', l') ->
  WA P w0 ops Q K0 A z plan' listed' n l' K hs -> WA P w0 ops Q K0 A z plan listed n l K hs
 | 0, plan, listed, l, h, hk => by simp only [planN, Option.some.injEq, Prod.mk.injEq] at h; obtain ⟨rfl, rfl, rfl⟩ := h; exact hk
 | k + 1, [], listed, l, h, hk => by simp [planN] at h
 | k + 1, p :: r, listed, l, h, hk => by
  simp only [planN] at h
  cases h1 : Nat.beq (p % 2) 0 with
  | false => simp [h1] at h
  | true =>
   cases h2 : Nat.beq (p / 2) z with
   | true => simp [h1, h2] at h
   | false =>
    cases h3 : ops[p / 2]? with
    | none => simp [h1, h2, h3] at h
    | some o =>
     simp only [h1, h2, h3] at h
     have hp2 : p = 2 * (p / 2) := by have := Nat.eq_of_beq_eq_true h1; omega
     cases hd : o.dst with
     | none => simp [hd] at h
     | some d =>
      simp only [hd] at h
      cases hb : Nat.blt d n with
      | false => simp [hb] at h
      | true =>
       cases hg : gOK ops l o.guard with
       | none => simp [hb, hg] at h
       | some g =>
        cases g with
        | true =>
         simp only [hb, hg] at h
         cases hv : pureOp T l o.op with
         | none => simp [hv] at h
         | some v =>
          simp only [hv] at h
          rw [hp2]
          exact WA.pure hT h3 hsel h2 hd hb (.inl ⟨hg, hv⟩) (WA.pures hT hsel k h hk)
        | false =>
         simp only [hb, hg] at h
         rw [hp2]
         exact WA.pure hT h3 hsel h2 hd hb (.inr ⟨hg, rfl⟩) (WA.pures hT hsel k h hk)
def headAt (T : Tab) (ops : Array Oper) (n z k : Nat) (plan : List Nat) (L : Array Bool) (l : Sl) : Option (Nat × Oper × List Nat × Array Bool × Sl) :=
 match planN T ops n z k plan L l with
 | some (p :: r, L', l') => match ops[p / 2]? with
  | some o => some (p, o, r, L', l')
  | none => none
 | _ => none
theorem headAt_spec {k p : Nat} {o : Oper} (h : headAt T ops n z k plan listed l = some (p, o, plan', listed', l')) : planN T ops n z k plan listed l = some (p :: plan', listed', l') /\ ops[p / 2]? = some o := by
 unfold headAt at h
 split at h
 ·rename_i p' r L' l2 hp
  split at h
  ·rename_i o' ho
   simp only [Option.some.injEq, Prod.mk.injEq] at h
   obtain ⟨rfl, rfl, rfl, rfl, rfl⟩ := h
   exact ⟨hp, ho⟩
  ·simp at h
 ·simp at h
def dldAt (T : Tab) (ops : Array Oper) (n z k : Nat) (plan : List Nat) (L : Array Bool) (l : Sl) : Option (Nat × Addr × List Nat × Array Bool × Sl) :=
 match headAt T ops n z k plan L l with
 | some (p, o, r, L', l') => match Nat.beq (p % 2) 0, Nat.beq (p / 2) z, cond (Nat.blt z ops.size) (Region.waitsFor .any ops z (p / 2)) true, gOK ops l' o.guard, o.dst, o.op with
  | true, false, true, some true, some d, .load t x => match Nat.blt d n, asc T.kinds t, ev l' x with
   | true, some kd, some (.pointer (some a)) => cond kd.one (some (d, a, r, L'.setIfInBounds (p / 2) true, l')) none
   | _, _, _ => none
  | _, _, _, _, _, _ => none
 | none => none
theorem closed_waits {L : Array Bool} {i : Nat} (c : Closed .any ops L) (hi : L.getD i true = false) (hw : cond (Nat.blt z ops.size) (Region.waitsFor .any ops z i) true = true) : L.getD z false = false := by
 cases hb : Nat.blt z ops.size with
 | false =>
  have : ¬ z < ops.size := fun h => by
   have : Nat.blt z ops.size = true := Nat.ble_eq_true_of_le h
   rw [this] at hb; cases hb
  have h2 : L.size <= z := by rw [c.1]; omega
  simp [Array.getElem?_eq_none h2]
 | true =>
  rw [hb] at hw
  obtain ⟨oj, hoj, e, he, hbb, hon⟩ := Region.waitsFor_spec hw
  cases hz : L.getD z false with
  | false => rfl
  | true =>
   have := c.2 z oj hoj hz e he hbb
   rw [hon] at this
   rcases Nat.lt_or_ge i L.size with h' | h'
   ·simp [h'] at hi this; rw [hi] at this; cases this
   ·simp [Array.getElem?_eq_none h'] at this
theorem dld (hT : TabOK P T) (hsel : Region.noSelect ops = true) (k : Nat) {d : Nat} {a : Addr} {v : Value} {h : PH} (h0 : dldAt T ops n z k plan listed l = some (d, a, plan', listed', l')) (hm : In K0 A h) (hc : Cell h a v)
  (hk : WA P w0 ops Q K0 A z plan' listed' n ((d, v) :: l') K hs) : WA P w0 ops Q K0 A z plan listed n l K hs := by
 unfold dldAt at h0
 split at h0
 ·rename_i p o r L' l2 hh
  split at h0
  ·rename_i dd t x hp hz hwf hg hd hop
   split at h0
   ·rename_i kd a' hb hkd hx
    cases h1 : kd.one with
    | false => simp [h1] at h0
    | true =>
     simp only [h1, cond_true, Option.some.injEq, Prod.mk.injEq] at h0
     obtain ⟨rfl, rfl, rfl, rfl, rfl⟩ := h0
     obtain ⟨g1, g2⟩ := headAt_spec hh
     refine WA.pures hT hsel k g1 ?_
     have hp2 : p = 2 * (p / 2) := by have := Nat.eq_of_beq_eq_true hp; omega
     rw [hp2]
     refine WA.look g2 hsel hz hd hb (fun A' ha => .inl ⟨gOK_wanted ha hg, fun w hw => ?_⟩) hk
     obtain ⟨L, hcl, hun, hst⟩ := hw
     have hcell := (hst (closed_waits hcl hun hwf)).cell hm hc
     have h2 := run_load1 (P := P) hT hkd h1 hcell
     simp only [execOp, hop, ha.ev hx]
     simp [h2]
   ·simp at h0
  ·simp at h0
 ·simp at h0
theorem dldp (hT : TabOK P T) (hsel : Region.noSelect ops = true) (k i : Nat) {d b off ty : Nat} {v : Value} {c : Array Value} {fr : Nat × Nat} (h0 : dldAt T ops n z k plan listed l = some (d, ⟨b, off, none⟩, plan', listed', l'))
  (hi : A[i]? = some (pt b c ty fr)) (hv : c[off]? = some v) (hk : WA P w0 ops Q K0 A z plan' listed' n ((d, v) :: l') K hs) : WA P w0 ops Q K0 A z plan listed n l K hs :=
 dld hT hsel k h0 (.inr ⟨i, hi⟩) (Cell.pt hv) hk
def dopAt (T : Tab) (ops : Array Oper) (n z k : Nat) (plan : List Nat) (L : Array Bool) (l : Sl) : Option (Nat × Oper × List Nat × Array Bool × Sl) :=
 match headAt T ops n z k plan L l with
 | some (p, o, r, L', l') => match Nat.beq (p % 2) 0, Nat.beq (p / 2) z, gOK ops l' o.guard, o.dst with
  | true, false, some true, some d => match Nat.blt d n with
   | true => some (d, o, r, L'.setIfInBounds (p / 2) true, l')
   | false => none
  | _, _, _, _ => none
 | none => none
theorem dop (hT : TabOK P T) (hsel : Region.noSelect ops = true) (k : Nat) {d : Nat} {o : Oper} {v : Value} (h0 : dopAt T ops n z k plan listed l = some (d, o, plan', listed', l'))
  (hv : ∀ a w, Ag n l' a -> (execOp a.eval o).run P w = .ok (.value v) w) (hk : WA P w0 ops Q K0 A z plan' listed' n ((d, v) :: l') K hs) : WA P w0 ops Q K0 A z plan listed n l K hs := by
 unfold dopAt at h0
 split at h0
 ·rename_i p o' r L' l2 hh
  split at h0
  ·rename_i dd hp hz hg hd
   split at h0
   ·rename_i hb
    simp only [Option.some.injEq, Prod.mk.injEq] at h0
    obtain ⟨rfl, rfl, rfl, rfl, rfl⟩ := h0
    obtain ⟨g1, g2⟩ := headAt_spec hh
    refine WA.pures hT hsel k g1 ?_
    have hp2 : p = 2 * (p / 2) := by have := Nat.eq_of_beq_eq_true hp; omega
    rw [hp2]
    exact WA.look g2 hsel hz hd hb (fun A' ha => .inl ⟨gOK_wanted ha hg, fun w _ => hv A' w ha⟩) hk
   ·simp at h0
  ·simp at h0
 ·simp at h0
def dvalAt (T : Tab) (ops : Array Oper) (n z k : Nat) (plan : List Nat) (L : Array Bool) (l : Sl) : Option (Nat × Value × List Nat × Array Bool × Sl) :=
 match dopAt T ops n z k plan L l with
 | some (d, o, r, L', l') => match pureOp T l' o.op with
  | some v => some (d, v, r, L', l')
  | none => none
 | none => none
theorem dar (hT : TabOK P T) (hsel : Region.noSelect ops = true) (k : Nat) {d : Nat} {v v' : Value} (h0 : dvalAt T ops n z k plan listed l = some (d, v, plan', listed', l')) (he : v = v')
  (hk : WA P w0 ops Q K0 A z plan' listed' n ((d, v') :: l') K hs) : WA P w0 ops Q K0 A z plan listed n l K hs := by
 subst he
 unfold dvalAt at h0
 split at h0
 ·rename_i d' o r L' l2 hh
  split at h0
  ·rename_i v' hv
   simp only [Option.some.injEq, Prod.mk.injEq] at h0
   obtain ⟨rfl, rfl, rfl, rfl, rfl⟩ := h0
   exact dop hT hsel k hh (fun a w ha => pureOp_run hT hv ha w) hk
  ·simp at h0
 ·simp at h0
theorem dcb (hT : TabOK P T) (hsel : Region.noSelect ops = true) (k : Nat) {d : Nat} {b : Bool} (h0 : dvalAt T ops n z k plan listed l = some (d, .bool b, plan', listed', l'))
  (hy : b = true -> WA P w0 ops Q K0 A z plan' listed' n ((d, .bool true) :: l') K hs) (hn : b = false -> WA P w0 ops Q K0 A z plan' listed' n ((d, .bool false) :: l') K hs) : WA P w0 ops Q K0 A z plan listed n l K hs := by
 cases b with
 | true => exact dar hT hsel k h0 rfl (hy rfl)
 | false => exact dar hT hsel k h0 rfl (hn rfl)
theorem dcmp (hT : TabOK P T) (hsel : Region.noSelect ops = true) (k : Nat) {d : Nat} {b : Bool} (p : Prop) (h0 : dvalAt T ops n z k plan listed l = some (d, .bool b, plan', listed', l')) (hp : p ↔ b = true)
  (hy : p -> WA P w0 ops Q K0 A z plan' listed' n ((d, .bool true) :: l') K hs) (hn : ¬ p -> WA P w0 ops Q K0 A z plan' listed' n ((d, .bool false) :: l') K hs) : WA P w0 ops Q K0 A z plan listed n l K hs :=
 dcb hT hsel k h0 (fun h => hy (hp.2 h)) (fun h => hn (fun h' => by rw [hp.1 h'] at h; cases h))
theorem dsl (hT : TabOK P T) (hsel : Region.noSelect ops = true) (k : Nat) {d d' : Nat} {o : Oper} {si : SlI} {ao : Option Addr} {n1 c1 : Nat} {lo hi : Option Int} {h : PH} {xs ys : List Value} (L N : Nat)
  (h0 : dopAt T ops n z k plan listed l = some (d, o, plan', listed', l')) (h1 : slAt T ops n 0 [o] l' = some (d', si, (ao, n1, c1), lo, hi, [], l')) (x : IsS h ao n1 c1 si.size xs) (hL : lo.getD 0 = (L : Int)) (hH : hi.getD n1 = ((L + N : Nat) : Int)) (hN : L + N <= n1)
  (hy : (xs.drop (L * si.size)).take (N * si.size) = ys)
  (hk : ∀ ao' cap', IsS h ao' N cap' si.size ys -> WA P w0 ops Q K0 A z plan' listed' n ((d, .slice ao' N cap') :: l') K hs) : WA P w0 ops Q K0 A z plan listed n l K hs := by
 obtain ⟨o', ho, hd, hb, hrun⟩ := slAt_run (P := P) hT L (L + N) h1 hL hH (by omega) (by have := x.2.1; omega)
 have ho' : o' = o := by
  have e : pureN T ops n 0 [o] l' = some ([o], l') := rfl
  unfold opAt at ho
  rw [e] at ho
  dsimp only at ho
  split at ho
  ·simp only [Option.some.injEq, Prod.mk.injEq] at ho
   exact ho.1.symm
  ·simp at ho
 subst ho'
 refine dop hT hsel k h0 (v := .slice (cutA ao c1 L si.size) N (c1 - L)) (fun a w ha => ?_) (hk _ _ (x.cut L N hN hy))
 have := hrun a w ha
 rw [Nat.add_sub_cancel_left] at this
 exact this
theorem dend (hT : TabOK P T) (hsel : Region.noSelect ops = true) (k : Nat) (h0 : planN T ops n z k plan listed l = some ([], listed', l')) (hk : WQ w0 Q .normal n l' K hs) : WA P w0 ops Q K0 A z plan listed n l K hs :=
 WA.pures hT hsel k h0 fun hp _ a w ha hw _ => by
  simp only [planOK, List.isEmpty_iff] at hp
  exact ⟨hp, hk a w ha hw⟩
def aft (P : Program) (w0 : World) (ops : Array Oper) (Q : Exit -> Act -> World -> Prop) (K0 : PH) (A : List PH) (z : Nat) (plan : List Nat) (listed : Array Bool) : Exit -> Act -> World -> Prop :=
 nrm fun a w => still z (HasL K0 A) listed w /\ tr P .any ops (Q .normal) (still z (HasL K0 A)) plan.length listed a w
def actAt (T : Tab) (ops : Array Oper) (n z k : Nat) (plan : List Nat) (L : Array Bool) (l : Sl) : Option (Oper × List Nat × Array Bool × Sl) :=
 match headAt T ops n z k plan L l with
 | some (p, o, r, L', l') => cond (Nat.beq (p % 2) 1) (some (o, r, L'.setIfInBounds (p / 2) true, l')) none
 | none => none
theorem wpOp_of_WL {i : Nat} {o : Oper} {r : List Nat} {L : Array Bool} {a : Act} {w : World} (g2 : ops[i]? = some o) (h2 : planOK .any ops r L = true) (hc' : Closed .any ops L)
  (hwl : wpList P ops (fun e a w => planOK .any ops r L = true -> Closed .any ops L -> aft P w0 ops Q K0 A z r L e a w) [o] a w) :
  wpOp P ops (nrm (Q .normal)) i (fun a' w' => still z (HasL K0 A) L w' /\ tr P .any ops (Q .normal) (still z (HasL K0 A)) r.length L a' w') a w := by
 unfold wpOp
 simp only [g2]
 unfold wpList at hwl
 have conv : ∀ e a w, (planOK .any ops r L = true -> Closed .any ops L -> aft P w0 ops Q K0 A z r L e a w) ->
   nrm (fun a w => still z (HasL K0 A) L w /\ tr P .any ops (Q .normal) (still z (HasL K0 A)) r.length L a w) e a w := fun e a w h => h h2 hc'
 split
 ·rename_i hwn
  rw [if_pos hwn] at hwl
  rcases hwl with hwl | ⟨_, a', w', hwl⟩
  ·refine .inl (Oper.wp_mono ?_ (upon_q (Q' := nrm (Q .normal)) (fun c a w h => (conv (.panic c) a w h).elim) (fun a w h => (conv .outgrown a w h).elim) hwl))
   intro a w h
   simp only [wpList] at h
   exact conv .normal a w h
  ·exact (conv .outgrown a' w' hwl).elim
 ·rename_i hwn
  rw [if_neg hwn] at hwl
  simp only [wpList] at hwl
  exact conv .normal _ _ hwl
def alone (ops : Array Oper) : List Nat -> Array Bool -> Bool
 | [], _ => false
 | p :: r, L => cond (Nat.beq (p % 2) 0) (alone ops r (L.setIfInBounds (p / 2) true)) (Region.ready .any ops L == [p / 2])
def either (ops : Array Oper) (j : Nat) : List Nat -> Array Bool -> Bool
 | [], _ => false
 | p :: r, L => cond (Nat.beq (p % 2) 0) (either ops j r (L.setIfInBounds (p / 2) true)) (Region.ready .any ops L == [p / 2, j] || Region.ready .any ops L == [j, p / 2])
theorem planN_act : ∀ (k : Nat) {plan : List Nat} {L L' : Array Bool} {l l' : Sl} {p : Nat} {r : List Nat}, planN T ops n z k plan L l = some (p :: r, L', l') -> Nat.beq (p % 2) 1 = true ->
  alone ops plan L = (Region.ready .any ops L' == [p / 2]) /\ ∀ j, either ops j plan L = (Region.ready .any ops L' == [p / 2, j] || Region.ready .any ops L' == [j, p / 2])
 | 0, plan, L, L', l, l', p, r, h, hp => by
  simp only [planN, Option.some.injEq, Prod.mk.injEq] at h
  obtain ⟨rfl, rfl, rfl⟩ := h
  have h1 : p % 2 = 1 := Nat.eq_of_beq_eq_true hp
  have h0 : Nat.beq (p % 2) 0 = false := by rw [h1]; rfl
  exact ⟨by simp only [alone, h0, cond_false], fun j => by simp only [either, h0, cond_false]⟩
 | k + 1, [], L, L', l, l', p, r, h, hp => by simp [planN] at h
 | k + 1, p0 :: r0, L, L', l, l', p, r, h, hp => by
  simp only [planN] at h
  split at h
  ·rename_i h0 _ _
   split at h
   ·split at h
    ·split at h
     ·have := planN_act k h hp; exact ⟨by simp only [alone, h0, cond_true]; exact this.1, fun j => by simp only [either, h0, cond_true]; exact this.2 j⟩
     ·simp at h
    ·have := planN_act k h hp; exact ⟨by simp only [alone, h0, cond_true]; exact this.1, fun j => by simp only [either, h0, cond_true]; exact this.2 j⟩
    ·simp at h
   ·simp at h
  ·simp at h
theorem dact (hT : TabOK P T) (hsel' : (Region.noSelect ops && alone ops plan listed) = true) (k : Nat) {o : Oper} (h0 : actAt T ops n z k plan listed l = some (o, plan', listed', l'))
  (hk : WL P w0 ops (fun e a w => planOK .any ops plan' listed' = true -> Closed .any ops listed' -> aft P w0 ops Q K0 A z plan' listed' e a w) [o] n l' K hs) : WA P w0 ops Q K0 A z plan listed n l K hs := by
 simp only [Bool.and_eq_true] at hsel'
 obtain ⟨hsel, hal⟩ := hsel'
 unfold actAt at h0
 split at h0
 ·rename_i p o' r L' l2 hh
  cases hp1 : Nat.beq (p % 2) 1 with
  | false => simp [hp1] at h0
  | true =>
   simp only [hp1, cond_true, Option.some.injEq, Prod.mk.injEq] at h0
   obtain ⟨rfl, rfl, rfl, rfl⟩ := h0
   obtain ⟨g1, g2⟩ := headAt_spec hh
   have h1 := (planN_act k g1 hp1).1
   rw [hal] at h1
   refine WA.pures hT hsel k g1 ?_
   intro hp hc a w ha hw hl
   simp only [planOK, Bool.and_eq_true] at hp
   obtain ⟨_, h2⟩ := hp
   have h1 : Region.ready .any ops L' = [p / 2] := by simpa using h1.symm
   have hmem : p / 2 ∈ Region.ready .any ops L' := by rw [h1]; simp
   have hc' := hc.set hmem
   refine ⟨fun h0 => (by rw [h1] at h0; cases h0), fun i hi => ?_⟩
   rw [h1] at hi
   simp only [List.mem_singleton] at hi
   subst hi
   exact wpOp_of_WL g2 h2 hc' (hk a w ha hw)
 ·simp at h0
def forkAt (T : Tab) (ops : Array Oper) (n z k : Nat) (plan : List Nat) (L : Array Bool) (l : Sl) (j : Nat) : Option (Oper × Oper × List Nat × Array Bool × Array Bool × Sl) :=
 match headAt T ops n z k plan L l with
 | some (p, o, r, L', l') => match ops[j]? with
  | some oj => cond (Nat.beq (p % 2) 1) (some (o, oj, r, L'.setIfInBounds (p / 2) true, L'.setIfInBounds j true, l')) none
  | none => none
 | none => none
theorem dfork (j : Nat) (hT : TabOK P T) (hsel' : (Region.noSelect ops && either ops j plan listed) = true) (k : Nat) (plan2 : List Nat) {oi oj : Oper} {Li Lj : Array Bool} (h0 : forkAt T ops n z k plan listed l j = some (oi, oj, plan', Li, Lj, l')) (hp2 : (planOK .any ops plan2 Lj && Nat.beq plan2.length plan'.length) = true)
  (hk1 : WL P w0 ops (fun e a w => planOK .any ops plan' Li = true -> Closed .any ops Li -> aft P w0 ops Q K0 A z plan' Li e a w) [oi] n l' K hs)
  (hk2 : WL P w0 ops (fun e a w => planOK .any ops plan2 Lj = true -> Closed .any ops Lj -> aft P w0 ops Q K0 A z plan2 Lj e a w) [oj] n l' K hs) : WA P w0 ops Q K0 A z plan listed n l K hs := by
 simp only [Bool.and_eq_true] at hsel'
 obtain ⟨hsel, hal⟩ := hsel'
 unfold forkAt at h0
 split at h0
 ·rename_i p o' r L' l2 hh
  split at h0
  ·rename_i oj' hoj
   cases hp1 : Nat.beq (p % 2) 1 with
   | false => simp [hp1] at h0
   | true =>
    simp only [hp1, cond_true, Option.some.injEq, Prod.mk.injEq] at h0
    obtain ⟨rfl, rfl, rfl, rfl, rfl, rfl⟩ := h0
    obtain ⟨g1, g2⟩ := headAt_spec hh
    have h1 := (planN_act k g1 hp1).2 j
    rw [hal] at h1
    refine WA.pures hT hsel k g1 ?_
    intro hp hc a w ha hw hl
    simp only [planOK, Bool.and_eq_true] at hp
    obtain ⟨_, h2⟩ := hp
    have h1 : Region.ready .any ops L' = [p / 2, j] \/ Region.ready .any ops L' = [j, p / 2] := by simpa using h1.symm
    simp only [Bool.and_eq_true] at hp2
    have hlen : plan2.length = r.length := Nat.eq_of_beq_eq_true hp2.2
    have hne : Region.ready .any ops L' ≠ [] := by rcases h1 with h1 | h1 <;> rw [h1] <;> simp
    have hmi : p / 2 ∈ Region.ready .any ops L' := by rcases h1 with h1 | h1 <;> rw [h1] <;> simp
    have hmj : j ∈ Region.ready .any ops L' := by rcases h1 with h1 | h1 <;> rw [h1] <;> simp
    refine ⟨fun h0 => (hne h0).elim, fun i hi => ?_⟩
    have hij : i = p / 2 \/ i = j := by
     rcases h1 with h1 | h1 <;> rw [h1] at hi <;> simp only [List.mem_cons, List.not_mem_nil, or_false] at hi
     ·exact hi
     ·exact hi.symm
    rcases hij with rfl | rfl
    ·exact wpOp_of_WL g2 h2 (hc.set hmi) (hk1 a w ha hw)
    ·have := wpOp_of_WL hoj hp2.1 (hc.set hmj) (hk2 a w ha hw)
     rw [hlen] at this
     exact this
  ·simp at h0
 ·simp at h0
theorem dnext {L : Array Bool} (hst : L.getD z false = true \/ hs.take A.length = A /\ K0 = K) (hk : WA P w0 ops Q K0 A z plan L n l K hs) :
  WL P w0 ops (fun e a w => planOK .any ops plan L = true -> Closed .any ops L -> aft P w0 ops Q K0 A z plan L e a w) [] n l K hs := by
 intro a w ha hw
 refine wpList_nil fun hp hc => ?_
 have hst' : still z (HasL K0 A) L w := by
  intro hz
  rcases hst with h | ⟨h1, rfl⟩
  ·rw [h] at hz; cases hz
  ·exact HasL.of hw h1
 exact ⟨hst', hk hp hc a w ha hw hst'⟩
end rules
end Go.En
namespace Go.En
section rules
variable {P : Program} {T : Tab} {w0 : World} {ops : Array Oper} {Q : Exit -> Act -> World -> Prop} {rest rest' : List Oper} {n : Nat} {l l' : Sl} {K : PH} {hs : List PH}
def bdAt (T : Tab) (ops : Array Oper) (n k : Nat) (rest : List Oper) (l : Sl) : Option (Nat × Nat × List (Nat × Value) × List Oper × Sl) :=
 match opAt T ops n k rest l with
 | some (o, r, l') => match o.dst, o.op with
  | some d, .build t parts => match Nat.blt d n, parts.toList.mapM (fun x => (ev l' x.2).map (fun v => (x.1, v))) with
   | true, some vs => some (d, t, vs, r, l')
   | _, _ => none
  | _, _ => none
 | none => none
theorem bd (hT : TabOK P T) (k : Nat) {d t : Nat} {vs : List (Nat × Value)} (v : Value) (h0 : bdAt T ops n k rest l = some (d, t, vs, rest', l')) (hv : ∀ w, (Instr.build t vs.toArray).run P w = .ok v w)
  (hk : WL P w0 ops Q rest' n ((d, v) :: l') K hs) : WL P w0 ops Q rest n l K hs := by
 unfold bdAt at h0
 split at h0
 ·rename_i o r l2 ho
  split at h0
  ·rename_i d' t' parts hd hop
   split at h0
   ·rename_i vs' hb hvs
    simp only [Option.some.injEq, Prod.mk.injEq] at h0
    obtain ⟨rfl, rfl, rfl, rfl, rfl⟩ := h0
    refine WL.at' hT ho fun hg => WL.val (R := fun u K' hs' => u = v /\ K' = K /\ hs' = hs) hd hb hg (fun A w ha hw => ⟨v, w, K, hs, ?_, hw, rfl, rfl, rfl⟩) ?_
    ·have h6 := evs_map ha _ _ hvs
     have h7 : (parts.map fun (i, x) => (i, A.eval x)) = vs'.toArray := by
      apply Array.ext'
      simpa using h6
     simp only [execOp, hop, h7]
     simp [hv w]
    ·rintro u K' hs' ⟨rfl, rfl, rfl⟩
     exact hk
   ·simp at h0
  ·simp at h0
 ·simp at h0
def ssAt (T : Tab) (ops : Array Oper) (n k : Nat) (rest : List Oper) (l : Sl) : Option (Nat × Addr × Array Value × List Oper × Sl) :=
 match opAt T ops n k rest l with
 | some (o, r, l') => match o.dst, o.op with
  | none, .store t x y => match ev l' x, ev l' y with
   | some (.pointer (some a)), some (.agg cs) => some (t, a, cs, r, l')
   | _, _ => none
  | _, _ => none
 | none => none
theorem sts (hT : TabOK P T) (k i : Nat) {t b off ty : Nat} {c cs : Array Value} (h0 : ssAt T ops n k rest l = some (t, ⟨b, off, none⟩, cs, rest', l')) (hi : hs[i]? = some (pt b c ty)) (hsz : (P.info? t).map (·.size) = some cs.size)
  (hf : off + cs.size <= c.size) (h1 : ∀ v ∈ cs.toList, v.oneCell' = true)
  (hk : WL P w0 ops Q rest' n l' K (hs.set i (pt b (c.toList.take off ++ cs.toList ++ c.toList.drop (off + cs.toList.length)).toArray ty))) : WL P w0 ops Q rest n l K hs := by
 unfold ssAt at h0
 split at h0
 ·rename_i o r l2 ho
  split at h0
  ·rename_i t' x y hd hop
   split at h0
   ·rename_i a' cs' hx hy
    simp only [Option.some.injEq, Prod.mk.injEq] at h0
    obtain ⟨rfl, rfl, rfl, rfl, rfl⟩ := h0
    refine WL.at' hT ho fun hg => WL.skp hd hg (fun A w ha hw => ⟨_, ?_, hw.setRow hi _⟩) hk
    have hb : w.heap[b]? = some (.cells c ty (0, 0)) := hw.own i _ hi b _ (by simp)
    have h2 := run_storeCells_at P b off ty cs'.toList 0 c w hb (by simpa using hf) h1
    simp only [Nat.add_zero] at h2
    obtain ⟨ii, hii, hs'⟩ := Option.map_eq_some_iff.1 hsz
    simp only [execOp, hop, ha.ev hx, ha.ev hy]
    simp only [Instr.storeAt, Instr.sureAddr, storeVar, sizeOf, typeInfo, Value.cells]
    simp [hii, hs', h2]
   ·simp at h0
  ·simp at h0
 ·simp at h0
def lsAt (T : Tab) (ops : Array Oper) (n k : Nat) (rest : List Oper) (l : Sl) : Option (Nat × Nat × Addr × List Oper × Sl) :=
 match opAt T ops n k rest l with
 | some (o, r, l') => match o.dst, o.op with
  | some d, .load t x => match Nat.blt d n, ev l' x with
   | true, some (.pointer (some a)) => some (d, t, a, r, l')
   | _, _ => none
  | _, _ => none
 | none => none
def aggOK (P : Program) (t m : Nat) : Bool := (match P.underlying t with | some (.struct _) => true | some (.array _ _) => true | _ => false) && (match P.info? t with | some i => i.size == m | none => false)
theorem run_loadS {w : World} {t m : Nat} {a : Addr} {cs : List Value} (hm : aggOK P t m = true) (hl : cs.length = m) (hc : ∀ (j : Nat) v, cs[j]? = some v -> w.cell? (a.add j) = some v) : (Instr.loadAt t (.pointer (some a))).run P w = .ok (.agg cs.toArray) w := by
 unfold aggOK at hm
 simp only [Bool.and_eq_true] at hm
 obtain ⟨h1, h2⟩ := hm
 cases hu : P.underlying t with
 | none => simp [hu] at h1
 | some d =>
  cases hi : P.info? t with
  | none => simp [hi] at h2
  | some i =>
   have h3 : i.size = m := by simpa [hi] using h2
   have hagg : (isAgg t).run P w = .ok true w := by
    cases d <;> simp [hu] at h1 <;> simp [isAgg, run_underlying hu]
   have h4 := run_loadCells_list (P := P) (w := w) a cs hc
   simp [Instr.loadAt, Instr.sureAddr, loadVar, hagg, sizeOf, typeInfo, hi, h3, <- hl, h4]
theorem lds (hT : TabOK P T) (k : Nat) {d t : Nat} {a : Addr} {h : PH} (cs : List Value) (h0 : lsAt T ops n k rest l = some (d, t, a, rest', l')) (hm : aggOK P t cs.length = true) (hin : In K hs h) (hc : ∀ (j : Nat) v, cs[j]? = some v -> Cell h (a.add j) v)
  (hk : WL P w0 ops Q rest' n ((d, .agg cs.toArray) :: l') K hs) : WL P w0 ops Q rest n l K hs := by
 unfold lsAt at h0
 split at h0
 ·rename_i o r l2 ho
  split at h0
  ·rename_i d' t' x hd hop
   split at h0
   ·rename_i a' hb hx
    simp only [Option.some.injEq, Prod.mk.injEq] at h0
    obtain ⟨rfl, rfl, rfl, rfl, rfl⟩ := h0
    refine WL.at' hT ho fun hg => WL.val (R := fun u K' hs' => u = .agg cs.toArray /\ K' = K /\ hs' = hs) hd hb hg (fun A w ha hw => ⟨_, w, K, hs, ?_, hw, rfl, rfl, rfl⟩) ?_
    ·have h2 := run_loadS (P := P) (w := w) hm rfl (fun j v hv => hw.cell hin (hc j v hv))
     simp only [execOp, hop, ha.ev hx]
     simp [h2]
    ·rintro u K' hs' ⟨rfl, rfl, rfl⟩
     exact hk
   ·simp at h0
  ·simp at h0
 ·simp at h0
theorem cells_pt {b off : Nat} {c : Array Value} {ty : Nat} {fr : Nat × Nat} (cs : List Value) (h : ∀ (j : Nat) v, cs[j]? = some v -> c[off + j]? = some v) : ∀ (j : Nat) v, cs[j]? = some v -> Cell (pt b c ty fr) ((⟨b, off, none⟩ : Addr).add j) v := by
 intro j v hv
 rw [add_mk]
 exact Cell.pt (h j v hv)
def mkAt (T : Tab) (ops : Array Oper) (n k : Nat) (rest : List Oper) (l : Sl) : Option (Nat × Nat × (Nat × Nat × Nat × Nat) × List Oper × Sl) :=
 match opAt T ops n k rest l with
 | some (o, r, l') => match o.dst, o.op with
  | some d, .convert t t' x => match Nat.blt d n, Nat.beq t t', ev l' x with
   | true, true, some (.slice (some a) m c) => some (d, t, (a.block, a.off, m, c), r, cond a.spot.isNone l' [])
   | _, _, _ => none
  | _, _ => none
 | none => none
theorem Sat.remark {w w' : World} (s : Sat w0 w K hs) {i b : Nat} {c : Array Value} {ty : Nat} {fr fr' : Nat × Nat} (hi : hs[i]? = some (pt b c ty fr)) (h1 : w'.heap[b]? = some (.cells c ty fr')) (h2 : ∀ k, k ≠ b -> w'.heap[k]? = w.heap[k]?)
  (hos : w'.os = w.os) (htp : w'.tape = w.tape) (hout : w'.output = w.output) (hsz : w'.heap.size = w.heap.size) : Sat w0 w' K (hs.set i (pt b c ty fr')) := by
 refine s.upd hi hos htp hout (by omega) ?_ ?_ ?_
 ·intro x o hx
  simp only [pt, sg] at hx
  split at hx
  ·rename_i e; subst e; cases hx; exact h1
  ·cases hx
 ·intro x hx hn
  simp only [pt, sg] at hn
  split at hn
  ·cases hn
  ·rename_i e; exact h2 x e
 ·intro x o hx hn
  simp only [pt, sg] at hx hn
  split at hx
  ·rename_i e; rw [if_pos e] at hn; cases hn
  ·cases hx
theorem mk (hT : TabOK P T) (k i : Nat) {d t b off m cc ty : Nat} {c : Array Value} (h0 : mkAt T ops n k rest l = some (d, t, (b, off, m, cc), rest', l')) (hl : l' ≠ []) (hi : hs[i]? = some (pt b c ty)) (hu : ∃ e, P.underlying t = some (.slice e) /\ P.underlying e = some (.int .u8))
  (hk : WL P w0 ops Q rest' n ((d, .slice (some ⟨b, off, none⟩) m cc) :: l') K (hs.set i (pt b c ty (c.size, c.size + 1)))) : WL P w0 ops Q rest n l K hs := by
 unfold mkAt at h0
 split at h0
 ·rename_i o r l2 ho
  split at h0
  ·rename_i d' t1 t2 x hd hop
   split at h0
   ·rename_i a m' c' hb htt hx
    simp only [Option.some.injEq, Prod.mk.injEq] at h0
    obtain ⟨rfl, rfl, ⟨rfl, rfl, rfl, rfl⟩, rfl, hl2⟩ := h0
    obtain ⟨ab, ao, asp⟩ := a
    cases asp with
    | some q => simp at hl2; first | exact absurd hl2 hl | exact absurd hl2.symm hl
    | none =>
     simp only [Option.isNone_none, cond_true] at hl2
     subst hl2
     obtain rfl : t1 = t2 := Nat.eq_of_beq_eq_true htt
     obtain ⟨e, hu1, hu2⟩ := hu
     refine WL.at' hT ho fun hg => WL.val (R := fun u K' hs' => u = .slice (some ⟨ab, ao, none⟩) m' c' /\ K' = K /\ hs' = hs.set i (pt ab c ty (c.size, c.size + 1))) hd hb hg (fun A w ha hw => ?_) ?_
     ·have hbk : w.heap[ab]? = some (.cells c ty (0, 0)) := hw.own i _ hi ab _ (by simp)
      refine ⟨_, w.freeze ⟨ab, c.size, none⟩ 1, K, _, ?_, hw.remark hi (fr' := (c.size, c.size + 1)) ?_ ?_ rfl rfl rfl ?_, rfl, rfl, rfl⟩
      ·simp only [execOp, hop, ha.ev hx]
       simp [convert, run_underlying hu1, run_underlying hu2, markStringish, shape, World.shape?, hbk, freeze, Sem.run]
      ·simp [World.freeze, Array.getElem?_modify, hbk]
      ·intro kk hkk
       simp [World.freeze, Array.getElem?_modify, Ne.symm hkk]
      ·simp [World.freeze]
     ·rintro u K' hs' ⟨rfl, rfl, rfl⟩
      exact hk
   ·simp at h0
  ·simp at h0
 ·simp at h0
def shAt (T : Tab) (ops : Array Oper) (n k : Nat) (rest : List Oper) (l : Sl) : Option (Nat × BinOp × IntKind × Int × Int × List Oper × Sl) :=
 match opAt T ops n k rest l with
 | some (o, r, l') => match o.dst, o.op with
  | some d, .binOp op _ x y _ => match Nat.blt d n, ev l' x, ev l' y with
   | true, some (.int kd a), some (.int _ b) => some (d, op, kd, a, b, r, l')
   | _, _, _ => none
  | _, _ => none
 | none => none
theorem shf (hT : TabOK P T) (k : Nat) {d : Nat} {op : BinOp} {kd : IntKind} {a b : Int} {v' : Value} (h0 : shAt T ops n k rest l = some (d, op, kd, a, b, rest', l')) (hb : 0 <= b)
  (he : op = .shl /\ Value.int kd (kd.wrap (a * 2 ^ (min b.toNat kd.bits))) = v' \/ op = .shr /\ Value.int kd (a.fdiv (2 ^ (min b.toNat kd.bits))) = v')
  (hk : WL P w0 ops Q rest' n ((d, v') :: l') K hs) : WL P w0 ops Q rest n l K hs := by
 unfold shAt at h0
 split at h0
 ·rename_i o r l2 ho
  split at h0
  ·rename_i d' op' t x y t2 hd hop
   split at h0
   ·rename_i kd' a' kb b' hblt hx hy
    simp only [Option.some.injEq, Prod.mk.injEq] at h0
    obtain ⟨rfl, rfl, rfl, rfl, rfl, rfl, rfl⟩ := h0
    have hpb : pureOp T l2 o.op = some v' := by
     rw [hop]
     simp only [pureOp, hx, hy]
     rcases he with ⟨rfl, he⟩ | ⟨rfl, he⟩
     ·simp [pureBin, hb, he]
     ·simp [pureBin, hb, he]
    exact WL.at' hT ho fun hg => WL.pure1 hT hd hblt hg hpb hk
   ·simp at h0
  ·simp at h0
 ·simp at h0
end rules
end Go.En
namespace Go.En
def str (xs : List UInt8) : Value := .string ⟨xs.toArray⟩
theorem str_toList (xs : List UInt8) : (⟨xs.toArray⟩ : ByteArray).toList = xs := by rw [ByteArray.toList_eq]
def isStr (P : Program) (t t' : Nat) : Bool := (match P.underlying t with | some (.slice e) => (match P.underlying e with | some (.int .u8) => true | _ => false) | _ => false) && (match P.underlying t' with | some .string => true | _ => false)
theorem run_toStr {P : Program} {w : World} {t t' n c : Nat} {ao : Option Addr} (hs : isStr P t t' = true) (xs : List UInt8) (hl : xs.length = n)
  (hx : ∀ (j : Nat) u, ((xs.map fun b => Value.int .u8 ((b.toNat : Nat) : Int)))[j]? = some u -> ∃ a, ao = some a /\ w.cell? (a.add j) = some u) : (convert t t' (.slice ao n c)).run P w = .ok (str xs) w := by
 unfold isStr at hs
 simp only [Bool.and_eq_true] at hs
 obtain ⟨h1, h2⟩ := hs
 cases e1 : P.underlying t with
 | none => simp [e1] at h1
 | some d1 =>
  cases d1 <;> simp [e1] at h1
  rename_i e
  cases e2 : P.underlying e with
  | none => simp [e2] at h1
  | some d2 =>
   cases d2 <;> simp [e2] at h1
   rename_i kd
   cases kd <;> simp at h1
   cases e3 : P.underlying t' with
   | none => simp [e3] at h2
   | some d3 =>
    cases d3 <;> simp [e3] at h2
    rw [run_convert_bytes_string w t t' e _ n c e1 e2 e3]
    cases ao with
    | none =>
     have : xs = [] := by
      cases xs with
      | nil => rfl
      | cons x r => obtain ⟨a, h, _⟩ := hx 0 _ rfl; cases h
     subst this
     simp [Conv.bytesToString, str]
     rfl
    | some a =>
     have hld : (loadCells a n).run P w = .ok ((xs.map fun b => ((b.toNat : Nat) : Int)).map (Value.int .u8)).toArray w := by
      have := run_loadCells_list (P := P) w a (xs.map fun b => Value.int .u8 ((b.toNat : Nat) : Int)) (fun j v hj => by
       obtain ⟨a', h, h'⟩ := hx j v hj
       cases h; exact h')
      simpa [hl, Function.comp_def] using this
     rw [run_bytesToString w a n c _ hld, foldl_push_bytes]
     simp [str, ByteArray.empty, ByteArray.emptyWithCapacity, Function.comp_def]
     try rfl
section rules
variable {P : Program} {T : Tab} {w0 : World} {ops : Array Oper} {Q : Exit -> Act -> World -> Prop} {rest rest' : List Oper} {n : Nat} {l l' : Sl} {K : PH} {hs : List PH}
def csAt (T : Tab) (ops : Array Oper) (n k : Nat) (rest : List Oper) (l : Sl) : Option (Nat × Nat × Nat × (Option Addr × Nat × Nat) × List Oper × Sl) :=
 match opAt T ops n k rest l with
 | some (o, r, l') => match o.dst, o.op with
  | some d, .convert t t' x => match Nat.blt d n, ev l' x with
   | true, some (.slice ao m c) => some (d, t, t', (ao, m, c), r, l')
   | _, _ => none
  | _, _ => none
 | none => none
theorem cvs (hT : TabOK P T) (k : Nat) {d t t' m c : Nat} {ao : Option Addr} {h : PH} (xs : List UInt8) (h0 : csAt T ops n k rest l = some (d, t, t', (ao, m, c), rest', l')) (hin : In K hs h)
  (x : IsS h ao m c 1 (xs.map fun b => Value.int .u8 ((b.toNat : Nat) : Int))) (hs' : isStr P t t' = true)
  (hk : WL P w0 ops Q rest' n ((d, str xs) :: l') K hs) : WL P w0 ops Q rest n l K hs := by
 unfold csAt at h0
 split at h0
 ·rename_i o r l2 ho
  split at h0
  ·rename_i d' t1 t2 y hd hop
   split at h0
   ·rename_i ao' m' c' hb hx
    simp only [Option.some.injEq, Prod.mk.injEq] at h0
    obtain ⟨rfl, rfl, rfl, ⟨rfl, rfl, rfl⟩, rfl, rfl⟩ := h0
    refine WL.at' hT ho fun hg => WL.val (R := fun u K' hs' => u = str xs /\ K' = K /\ hs' = hs) hd hb hg (fun A w ha hw => ⟨str xs, w, K, hs, ?_, hw, rfl, rfl, rfl⟩) ?_
    ·have h2 := run_toStr (P := P) (w := w) (c := c') hs' xs (by have := x.1; simpa using this) (fun j u hj => by
      obtain ⟨a, h3, h4⟩ := x.2.2 j u hj
      exact ⟨a, h3, hw.cell hin h4⟩)
     simp only [execOp, hop, ha.ev hx]
     simp [h2]
    ·rintro u K' hs' ⟨rfl, rfl, rfl⟩
     exact hk
   ·simp at h0
  ·simp at h0
 ·simp at h0
theorem ldS (hT : TabOK P T) (k i : Nat) {d t b ty : Nat} {c : Array Value} {fr : Nat × Nat} (h0 : lsAt T ops n k rest l = some (d, t, ⟨b, 0, none⟩, rest', l')) (hi : hs[i]? = some (pt b c ty fr)) (hm : aggOK P t c.size = true)
  (hk : WL P w0 ops Q rest' n ((d, .agg c) :: l') K hs) : WL P w0 ops Q rest n l K hs :=
 lds hT k c.toList h0 (by simpa using hm) (.inr ⟨i, hi⟩) (cells_pt _ fun j v h => by simpa using h) (by simpa using hk)
theorem stS (hT : TabOK P T) (k i : Nat) {t b ty : Nat} {c cs : Array Value} (h0 : ssAt T ops n k rest l = some (t, ⟨b, 0, none⟩, cs, rest', l')) (hi : hs[i]? = some (pt b c ty)) (hsz : (P.info? t).map (·.size) = some cs.size)
  (hf : cs.size = c.size) (h1 : cs.toList.all (·.oneCell') = true) (hk : WL P w0 ops Q rest' n l' K (hs.set i (pt b cs ty))) : WL P w0 ops Q rest n l K hs := by
 refine sts hT k i h0 hi hsz (by omega) (fun v hv => (List.all_eq_true.1 h1) v hv) ?_
 have e : (c.toList.take 0 ++ cs.toList ++ c.toList.drop (0 + cs.toList.length)).toArray = cs := by
  rw [List.take_zero, List.nil_append, List.drop_of_length_le (by simp [hf]), List.append_nil]
 rw [e]
 exact hk
end rules
section open_
variable {P : Program} {T : Tab} {w0 : World} {ops : Array Oper} {Q : Exit -> Act -> World -> Prop} {plan plan' : List Nat} {z : Nat} {listed listed' : Array Bool} {n : Nat} {l l' : Sl} {K K0 : PH} {hs A : List PH}
theorem tr_S {md : Region.Mode} {q : Act -> World -> Prop} {S S' : Array Bool -> World -> Prop} (h : ∀ L w, S' L w -> S L w) : ∀ (f : Nat) (L : Array Bool) (a : Act) (w : World), tr P md ops q S' f L a w -> tr P md ops q S f L a w
 | 0, _, _, _, hh => hh
 | f + 1, _, _, _, hh => ⟨hh.1, fun i hi => wpOp_mono (fun a' w' h' => ⟨h _ _ h'.1, tr_S h f _ a' w' h'.2⟩) (hh.2 i hi)⟩
theorem HasL.ofMem {w0 w : World} {K : PH} {hs A : List PH} (s : Sat w0 w K hs) (hA : ∀ h ∈ A, h ∈ hs) : HasL K A w :=
 ⟨s.imm, fun h hm b o hb => s.block (.inr (List.getElem?_of_mem (hA h hm))) hb⟩
theorem dnex {L : Array Bool} (A' : List PH) (hA : ∀ h ∈ A', h ∈ hs) (hAA : ∀ h ∈ A, h ∈ A') (hK : K0 = K) (hk : WA P w0 ops Q K A' z plan L n l K hs) :
  WL P w0 ops (fun e a w => planOK .any ops plan L = true -> Closed .any ops L -> aft P w0 ops Q K0 A z plan L e a w) [] n l K hs := by
 subst hK
 intro a w ha hw
 refine wpList_nil fun hp hc => ?_
 have up : ∀ L w, still z (HasL K0 A') L w -> still z (HasL K0 A) L w := fun L w h hz => ⟨(h hz).1, fun x hx => (h hz).2 x (hAA x hx)⟩
 have hst : still z (HasL K0 A') L w := fun _ => HasL.ofMem hw hA
 exact ⟨up _ _ hst, tr_S up _ _ _ _ (hk hp hc a w ha hw hst)⟩
theorem rga {id : Nat} {o : List Oper} (A : List PH) (z : Nat) (plan : List Nat) (hA : ∀ h ∈ A, h ∈ hs) (hm : P.follows .mixedOrders = true) (hp : (planOK .any o.toArray plan (Array.replicate o.toArray.size false) && Nat.beq plan.length o.toArray.size) = true)
  (h : WA P w0 o.toArray Q K A z plan (Array.replicate o.toArray.size false) n l K hs) : WC P w0 (.region id o.toArray true) Q n l K hs := by
 intro a w ha hw
 simp only [Bool.and_eq_true] at hp
 refine wp_region_any hm ?_
 have hlen : plan.length = o.toArray.size := Nat.eq_of_beq_eq_true hp.2
 have hw' : Sat w0 { w with drawn := w.drawn + 1 } K hs := hw.drew
 have hc : Closed .any o.toArray (Array.replicate o.toArray.size false) := by
  refine ⟨by simp, ?_⟩
  intro j oj hj hl
  have : (Array.replicate o.toArray.size false).getD j false = false := getD_replicate_false _ _
  rw [this] at hl
  cases hl
 have hh := h hp.1 hc a { w with drawn := w.drawn + 1 } ha hw' (fun _ => HasL.ofMem hw' hA)
 rw [hlen] at hh
 refine tr_any (q := Q .normal) (fun e a w h => ?_) _ _ _ _ hh
 cases e <;> first | exact h | exact h.elim
end open_
section ret
variable {P : Program} {w0 : World} {fn : Func} {R : Value -> PH -> List PH -> Prop} {n : Nat} {l : Sl} {K : PH} {hs : List PH}
theorem run_loadVarS {w : World} {t m : Nat} {a : Addr} {cs : List Value} (hm : aggOK P t m = true) (hl : cs.length = m) (hc : ∀ (j : Nat) v, cs[j]? = some v -> w.cell? (a.add j) = some v) : (loadVar t a).run P w = .ok (.agg cs.toArray) w := by
 have := run_loadS (P := P) hm hl hc
 simpa [Instr.loadAt, Instr.sureAddr] using this
theorem Sat.dropN {w w0 : World} : ∀ (m : Nat) {hs : List PH}, Sat w0 w K hs -> Sat w0 w K (hs.drop m)
 | 0, _, s => s
 | _ + 1, [], s => s
 | m + 1, _ :: r, s => Sat.dropN m s.dropHead
theorem retcP (i m : Nat) {t ty u b ty' : Nat} {x : Value} {c : Array Value} {fr : Nat × Nat} (hr : fn.results = #[.cell t ty, .tmp u]) (hv : look l t = some (.pointer (some ⟨b, 0, none⟩))) (hx : look l u = some x) (hi : hs[i]? = some (pt b c ty' fr)) (hm : aggOK P ty c.size = true)
  (hk : R (.tuple #[.agg c, x]) K (hs.drop m)) : WQ w0 (bodyPost P fn (endR w0 R)) .ret n l K hs :=
 fun _ w ha hw => bodyPost_ret (v := .tuple #[.agg c, x]) (by
  have h2 := run_loadVarS (P := P) (w := w) (t := ty) (a := ⟨b, 0, none⟩) (cs := c.toList) (by simpa using hm) rfl (fun j v hv => hw.cell (.inr ⟨i, hi⟩) (cells_pt c.toList (fun j v h => by simpa using h) j v hv))
  have e : c.toList.toArray = c := by simp
  rw [e] at h2
  simp [results, hr, ha.slot t _ hv, ha.slot u x hx, asAddr, h2]) ha.defers ⟨_, _, _, rfl, hk, hw.dropN m⟩
end ret
end Go.En
namespace Go.En
section open_
variable {P : Program} {T : Tab} {w0 : World} {ops : Array Oper} {Q : Exit -> Act -> World -> Prop} {plan plan' : List Nat} {z : Nat} {listed listed' : Array Bool} {n : Nat} {l l' : Sl} {K K0 : PH} {hs A : List PH}
def dixAt (T : Tab) (ops : Array Oper) (n z k : Nat) (plan : List Nat) (L : Array Bool) (l : Sl) : Option (Nat × Oper × SlI × (Option Addr × Nat × Nat) × Int × List Nat × Array Bool × Sl) :=
 match dopAt T ops n z k plan L l with
 | some (d, o, r, L', l') => match o.op with
  | .indexAddr t x i => match asc T.sls t, ev l' x, ev l' i with
   | some si, some (.slice a1 n1 c1), some (.int _ j) => some (d, o, si, (a1, n1, c1), j, r, L', l')
   | _, _, _ => none
  | _ => none
 | none => none
theorem dixs (hT : TabOK P T) (hsel : Region.noSelect ops = true) (k : Nat) {d : Nat} {o : Oper} {si : SlI} {a : Addr} {n1 c1 : Nat} {i : Int} (j : Nat)
  (h0 : dixAt T ops n z k plan listed l = some (d, o, si, (some a, n1, c1), i, plan', listed', l')) (hj : i = (j : Int)) (hjn : j < n1)
  (hk : WA P w0 ops Q K0 A z plan' listed' n ((d, .pointer (some (a.add (j * si.size)))) :: l') K hs) : WA P w0 ops Q K0 A z plan listed n l K hs := by
 unfold dixAt at h0
 split at h0
 ·rename_i d' o' r L' l2 hh
  split at h0
  ·rename_i t x' i' hop
   split at h0
   ·rename_i si' a1 m1 k1 kk jj hsi hx hi
    simp only [Option.some.injEq, Prod.mk.injEq] at h0
    obtain ⟨rfl, rfl, rfl, ⟨rfl, rfl, rfl⟩, rfl, rfl, rfl, rfl⟩ := h0
    subst hj
    obtain ⟨g1, ii, g2, g3, g4, g5⟩ := hT.sl hsi
    refine dop hT hsel k hh (fun A w ha => ?_) hk
    simp only [execOp, hop, ha.ev hx, ha.ev hi]
    simp [Instr.indexAt, asIntOf, run_underlying g1, sizeOf, typeInfo, g2, g4, hjn]
   ·simp at h0
  ·simp at h0
 ·simp at h0
def dldwAt (T : Tab) (ops : Array Oper) (n z k : Nat) (plan : List Nat) (L : Array Bool) (l : Sl) : Option (Nat × Nat × Addr × List Nat × Array Bool × Sl) :=
 match headAt T ops n z k plan L l with
 | some (p, o, r, L', l') => match Nat.beq (p % 2) 0, Nat.beq (p / 2) z, gOK ops l' o.guard, o.dst, o.op with
  | true, false, some true, some d, .load t x => match Nat.blt d n, asc T.kinds t, ev l' x with
   | true, some kd, some (.pointer (some a)) => cond kd.one (some (p, d, a, r, L'.setIfInBounds (p / 2) true, l')) none
   | _, _, _ => none
  | _, _, _, _, _ => none
 | none => none
theorem dldw (hT : TabOK P T) (hsel : Region.noSelect ops = true) (k : Nat) {p d : Nat} {a : Addr} {v : Value} {h : PH} (h0 : dldwAt T ops n z k plan listed l = some (p, d, a, plan', listed', l')) (hwf : cond (Nat.blt z ops.size) (Region.waitsFor .any ops z (p / 2)) true = true) (hm : In K0 A h) (hc : Cell h a v)
  (hk : WA P w0 ops Q K0 A z plan' listed' n ((d, v) :: l') K hs) : WA P w0 ops Q K0 A z plan listed n l K hs := by
 unfold dldwAt at h0
 split at h0
 ·rename_i p' o r L' l2 hh
  split at h0
  ·rename_i dd t x hp hz hg hd hop
   split at h0
   ·rename_i kd a' hb hkd hx
    cases h1 : kd.one with
    | false => simp [h1] at h0
    | true =>
     simp only [h1, cond_true, Option.some.injEq, Prod.mk.injEq] at h0
     obtain ⟨rfl, rfl, rfl, rfl, rfl, rfl⟩ := h0
     obtain ⟨g1, g2⟩ := headAt_spec hh
     refine WA.pures hT hsel k g1 ?_
     have hp2 : p' = 2 * (p' / 2) := by have := Nat.eq_of_beq_eq_true hp; omega
     rw [hp2]
     refine WA.look g2 hsel hz hd hb (fun A' ha => .inl ⟨gOK_wanted ha hg, fun w hw => ?_⟩) hk
     obtain ⟨L, hcl, hun, hst⟩ := hw
     have hcell := (hst (closed_waits hcl hun hwf)).cell hm hc
     have h2 := run_load1 (P := P) hT hkd h1 hcell
     simp only [execOp, hop, ha.ev hx]
     simp [h2]
   ·simp at h0
  ·simp at h0
 ·simp at h0
theorem dldpw (hT : TabOK P T) (hsel : Region.noSelect ops = true) (k i : Nat) {p d b off ty : Nat} {v : Value} {c : Array Value} {fr : Nat × Nat} (h0 : dldwAt T ops n z k plan listed l = some (p, d, ⟨b, off, none⟩, plan', listed', l')) (hwf : cond (Nat.blt z ops.size) (Region.waitsFor .any ops z (p / 2)) true = true)
  (hi : A[i]? = some (pt b c ty fr)) (hv : c[off]? = some v) (hk : WA P w0 ops Q K0 A z plan' listed' n ((d, v) :: l') K hs) : WA P w0 ops Q K0 A z plan listed n l K hs :=
 dldw hT hsel k h0 hwf (.inr ⟨i, hi⟩) (Cell.pt hv) hk
def dlsAt (T : Tab) (ops : Array Oper) (n z k : Nat) (plan : List Nat) (L : Array Bool) (l : Sl) : Option (Nat × Nat × Nat × Addr × List Nat × Array Bool × Sl) :=
 match headAt T ops n z k plan L l with
 | some (p, o, r, L', l') => match Nat.beq (p % 2) 0, Nat.beq (p / 2) z, gOK ops l' o.guard, o.dst, o.op with
  | true, false, some true, some d, .load t x => match Nat.blt d n, ev l' x with
   | true, some (.pointer (some a)) => some (p, d, t, a, r, L'.setIfInBounds (p / 2) true, l')
   | _, _ => none
  | _, _, _, _, _ => none
 | none => none
theorem dldS (hT : TabOK P T) (hsel : Region.noSelect ops = true) (k i : Nat) {p d t b ty : Nat} {c : Array Value} {fr : Nat × Nat} (h0 : dlsAt T ops n z k plan listed l = some (p, d, t, ⟨b, 0, none⟩, plan', listed', l')) (hwf : cond (Nat.blt z ops.size) (Region.waitsFor .any ops z (p / 2)) true = true)
  (hi : A[i]? = some (pt b c ty fr)) (hm : aggOK P t c.size = true) (hk : WA P w0 ops Q K0 A z plan' listed' n ((d, .agg c) :: l') K hs) : WA P w0 ops Q K0 A z plan listed n l K hs := by
 unfold dlsAt at h0
 split at h0
 ·rename_i p' o r L' l2 hh
  split at h0
  ·rename_i dd t' x hp hz hg hd hop
   split at h0
   ·rename_i a' hb hx
    simp only [Option.some.injEq, Prod.mk.injEq] at h0
    obtain ⟨rfl, rfl, rfl, rfl, rfl, rfl, rfl⟩ := h0
    obtain ⟨g1, g2⟩ := headAt_spec hh
    refine WA.pures hT hsel k g1 ?_
    have hp2 : p' = 2 * (p' / 2) := by have := Nat.eq_of_beq_eq_true hp; omega
    rw [hp2]
    refine WA.look g2 hsel hz hd hb (fun A' ha => .inl ⟨gOK_wanted ha hg, fun w hw => ?_⟩) hk
    obtain ⟨L, hcl, hun, hst⟩ := hw
    have h2 := run_loadS (P := P) (w := w) (t := t') (a := ⟨b, 0, none⟩) (cs := c.toList) (by simpa using hm) rfl (fun j v hv => (hst (closed_waits hcl hun hwf)).cell (.inr ⟨i, hi⟩) (cells_pt c.toList (fun j v h => by simpa using h) j v hv))
    have e : c.toList.toArray = c := by simp
    rw [e] at h2
    simp only [execOp, hop, ha.ev hx]
    simp [h2]
   ·simp at h0
  ·simp at h0
 ·simp at h0
end open_
section join
variable {P : Program} {w0 : World} {Q : Exit -> Act -> World -> Prop} {n : Nat} {l : Sl} {K : PH} {hs : List PH}
def JQ (w0 : World) {σ : Type} (F : σ -> Sl) (HK : PH) (H : σ -> List PH) (J : σ -> Prop) (n : Nat) (Q : Exit -> Act -> World -> Prop) : Exit -> Act -> World -> Prop
 | .normal, a, w => ∃ s, J s /\ Ag n (F s) a /\ Sat w0 w HK (H s)
 | e, a, w => Q e a w
theorem jn {σ : Type} {x y : Code} (F : σ -> Sl) (H : σ -> List PH) (J : σ -> Prop) (h1 : WC P w0 x (JQ w0 F K H J n Q) n l K hs) (h2 : ∀ s, J s -> WC P w0 y Q n (F s) K (H s)) : WC P w0 (.seq x y) Q n l K hs :=
 sq fun a w ha hw => Code.wp_mono (fun e a w h => by
  cases e with
  | normal => obtain ⟨s, hJ, ha, hw⟩ := h; exact h2 s hJ a w ha hw
  | _ => exact h) (h1 a w ha hw)
theorem jx {σ : Type} {F : σ -> Sl} {HK : PH} {H : σ -> List PH} {J : σ -> Prop} (s : σ) (hJ : J s) (hF : Sub l (F s)) (hK : K = HK) (hH : hs = H s) : WQ w0 (JQ w0 F HK H J n Q) .normal n l K hs :=
 fun a w ha hw => ⟨s, hJ, ha.sub hF, by rw [<- hK, <- hH]; exact hw⟩
theorem jr {σ : Type} {F : σ -> Sl} {HK : PH} {H : σ -> List PH} {J : σ -> Prop} (h : WQ w0 Q .ret n l K hs) : WQ w0 (JQ w0 F HK H J n Q) .ret n l K hs := h
end join
end Go.En
namespace Go.En
def Le (K K' : PH) : Prop := ∀ b o, K b = some o -> K' b = some o
theorem Le.refl (K : PH) : Le K K := fun _ _ h => h
theorem Le.trans {A B C : PH} (h : Le A B) (g : Le B C) : Le A C := fun b o x => g b o (h b o x)
theorem Cell.le {h h' : PH} (l : Le h h') {a : Addr} {v : Value} (c : Cell h a v) : Cell h' a v := by
 obtain ⟨h1, cs, ty, fr, h2, h3⟩ := c
 exact ⟨h1, cs, ty, fr, l _ _ h2, h3⟩
theorem IsS.le {h h' : PH} (l : Le h h') {ao : Option Addr} {n cap size : Nat} {xs : List Value} (x : IsS h ao n cap size xs) : IsS h' ao n cap size xs :=
 ⟨x.1, x.2.1, fun j u hu => by obtain ⟨a, h1, h2⟩ := x.2.2 j u hu; exact ⟨a, h1, h2.le l⟩⟩
def un (K h : PH) : PH := fun b => match K b with | some o => some o | none => h b
theorem Sat.frz {w0 w : World} {K h : PH} {hs : List PH} (s : Sat w0 w K (h :: hs)) : Le K (un K h) /\ Le h (un K h) /\ Sat w0 w (un K h) hs := by
 have hap : ∀ b o, h b = some o -> K b = none := fun b o hb => s.apart 0 h rfl b o hb
 refine ⟨fun b o hb => by simp [un, hb], fun b o hb => by simp [un, hap b o hb, hb], ⟨s.os, s.tape, s.output, s.size, ?_, s.dropHead.own, ?_, s.dropHead.sep⟩⟩
 ·intro b o hb
  unfold un at hb
  cases hk : K b with
  | some x => rw [hk] at hb; cases hb; exact s.imm b _ hk
  | none => rw [hk] at hb; exact s.own 0 h rfl b o hb
 ·intro i g hg b o hb
  have h1 := s.dropHead.apart i g hg b o hb
  have h2 := s.sep (i + 1) 0 g h (by simpa using hg) rfl (by omega) b o hb
  simp [un, h1, h2]
theorem Sat.weak {w0 w : World} {K K' : PH} {hs : List PH} (l : Le K K') (s : Sat w0 w K' hs) : Sat w0 w K hs := by
 refine ⟨s.os, s.tape, s.output, s.size, fun b o hb => s.imm b o (l b o hb), s.own, fun i h hi b o hb => ?_, s.sep⟩
 have := s.apart i h hi b o hb
 cases hk : K b with
 | none => rfl
 | some x => rw [l b x hk] at this; cases this
section frz
variable {P : Program} {w0 : World} {ops : Array Oper} {Q : Exit -> Act -> World -> Prop} {rest : List Oper} {n : Nat} {l : Sl} {K h : PH} {hs : List PH} {c : Code} {e : Exit}
theorem WL.frz (hk : ∀ K', Le K K' -> Le h K' -> WL P w0 ops Q rest n l K' hs) : WL P w0 ops Q rest n l K (h :: hs) := fun a w ha hw => by
 obtain ⟨h1, h2, h3⟩ := hw.frz
 exact hk _ h1 h2 a w ha h3
theorem WC.frz (hk : ∀ K', Le K K' -> Le h K' -> WC P w0 c Q n l K' hs) : WC P w0 c Q n l K (h :: hs) := fun a w ha hw => by
 obtain ⟨h1, h2, h3⟩ := hw.frz
 exact hk _ h1 h2 a w ha h3
theorem WQ.frz (hk : ∀ K', Le K K' -> Le h K' -> WQ w0 Q e n l K' hs) : WQ w0 Q e n l K (h :: hs) := fun a w ha hw => by
 obtain ⟨h1, h2, h3⟩ := hw.frz
 exact hk _ h1 h2 a w ha h3
theorem WQ.weak {K' : PH} (le : Le K K') (hk : WQ w0 Q e n l K hs) : WQ w0 Q e n l K' hs := fun a w ha hw => hk a w ha (hw.weak le)
theorem In.le {K K' : PH} {hs : List PH} {x : PH} (hm : In K hs x) (l : Le K K') : ∃ y, In K' hs y /\ Le x y := by
 rcases hm with rfl | h
 ·exact ⟨K', .inl rfl, l⟩
 ·exact ⟨x, .inr h, Le.refl _⟩
end frz
section rules
variable {P : Program} {T : Tab} {w0 : World} {ops : Array Oper} {Q : Exit -> Act -> World -> Prop} {rest rest' : List Oper} {n : Nat} {l l' : Sl} {K : PH} {hs : List PH}
def ovAt (T : Tab) (ops : Array Oper) (n k : Nat) (rest : List Oper) (l : Sl) : Option (Nat × Oper × List Oper × Sl) :=
 match opAt T ops n k rest l with
 | some (o, r, l') => match o.dst with
  | some d => cond (Nat.blt d n) (some (d, o, r, l')) none
  | none => none
 | none => none
theorem opv (hT : TabOK P T) (k : Nat) {d : Nat} {o : Oper} {v : Value} (h0 : ovAt T ops n k rest l = some (d, o, rest', l')) (hv : ∀ a w, Ag n l' a -> (execOp a.eval o).run P w = .ok (.value v) w)
  (hk : WL P w0 ops Q rest' n ((d, v) :: l') K hs) : WL P w0 ops Q rest n l K hs := by
 unfold ovAt at h0
 split at h0
 ·rename_i o' r l2 ho
  split at h0
  ·rename_i d' hd
   cases hb : Nat.blt d' n with
   | false => simp [hb] at h0
   | true =>
    simp only [hb, cond_true, Option.some.injEq, Prod.mk.injEq] at h0
    obtain ⟨rfl, rfl, rfl, rfl⟩ := h0
    exact WL.at' hT ho fun hg => WL.val (R := fun u K' hs' => u = v /\ K' = K /\ hs' = hs) hd hb hg (fun a w ha hw => ⟨v, w, K, hs, hv a w ha, hw, rfl, rfl, rfl⟩)
     (fun u K' hs' ⟨h1, h2, h3⟩ => by subst h1; subst h2; subst h3; exact hk)
  ·simp at h0
 ·simp at h0
def esAt (T : Tab) (ops : Array Oper) (n k : Nat) (rest : List Oper) (l : Sl) : Option (Nat × Bool × Nat × Array Value × Array Value × List Oper × Sl) :=
 match opAt T ops n k rest l with
 | some (o, r, l') => match o.dst, o.op with
  | some d, .binOp .eql t x y _ => match Nat.blt d n, ev l' x, ev l' y with
   | true, some (.agg xs), some (.agg ys) => some (d, true, t, xs, ys, r, l')
   | _, _, _ => none
  | some d, .binOp .neq t x y _ => match Nat.blt d n, ev l' x, ev l' y with
   | true, some (.agg xs), some (.agg ys) => some (d, false, t, xs, ys, r, l')
   | _, _, _ => none
  | _, _ => none
 | none => none
theorem eqs (hT : TabOK P T) (k : Nat) {d t : Nat} {same b : Bool} {xs ys : Array Value} (h0 : esAt T ops n k rest l = some (d, same, t, xs, ys, rest', l')) (hg0 : P.eqGuardType P.depth t = false)
  (hr : ∀ w, (Op.equalIn 10000 t (.agg xs) (.agg ys)).run P w = .ok b w) (hk : WL P w0 ops Q rest' n ((d, .bool (b == same)) :: l') K hs) : WL P w0 ops Q rest n l K hs := by
 unfold esAt at h0
 split at h0
 ·rename_i o r l2 ho
  split at h0
  ·rename_i d' t' x y ty hd hop
   split at h0
   ·rename_i xs' ys' hb hx hy
    simp only [Option.some.injEq, Prod.mk.injEq] at h0
    obtain ⟨rfl, rfl, rfl, rfl, rfl, rfl, rfl⟩ := h0
    refine WL.at' hT ho fun hg => WL.val (R := fun u K' hs' => u = .bool (b == true) /\ K' = K /\ hs' = hs) hd hb hg (fun A w ha hw => ⟨_, w, K, hs, ?_, hw, rfl, rfl, rfl⟩) (fun u K' hs' ⟨h1, h2, h3⟩ => by subst h1; subst h2; subst h3; exact hk)
    simp only [execOp, hop, ha.ev hx, ha.ev hy]
    simp [run_eqGuard_agg, hg0, run_eql_struct, hr]
   ·simp at h0
  ·rename_i d' t' x y ty hd hop
   split at h0
   ·rename_i xs' ys' hb hx hy
    simp only [Option.some.injEq, Prod.mk.injEq] at h0
    obtain ⟨rfl, rfl, rfl, rfl, rfl, rfl, rfl⟩ := h0
    refine WL.at' hT ho fun hg => WL.val (R := fun u K' hs' => u = .bool (b == false) /\ K' = K /\ hs' = hs) hd hb hg (fun A w ha hw => ⟨_, w, K, hs, ?_, hw, rfl, rfl, rfl⟩) (fun u K' hs' ⟨h1, h2, h3⟩ => by subst h1; subst h2; subst h3; exact hk)
    simp only [execOp, hop, ha.ev hx, ha.ev hy]
    simp [run_eqGuard_agg, hg0, run_neq_struct, hr]
   ·simp at h0
  ·simp at h0
 ·simp at h0
def cbAt (T : Tab) (ops : Array Oper) (n k : Nat) (rest : List Oper) (l : Sl) : Option (Nat × Nat × Nat × ByteArray × List Oper × Sl) :=
 match opAt T ops n k rest l with
 | some (o, r, l') => match o.dst, o.op with
  | some d, .convert t t' x => match Nat.blt d n, ev l' x with
   | true, some (.string s) => some (d, t, t', s, r, l')
   | _, _ => none
  | _, _ => none
 | none => none
theorem cvb (hT : TabOK P T) (k : Nat) {d t t' : Nat} {xs : List UInt8} (h0 : cbAt T ops n k rest l = some (d, t, t', ⟨xs.toArray⟩, rest', l')) (hs' : isStr P t' t = true)
  (hk : ∀ b cap h, IsS h (some ⟨b, 0, none⟩) xs.length cap 1 (xs.map fun b => Value.int .u8 ((b.toNat : Nat) : Int)) -> WL P w0 ops Q rest' n ((d, .slice (some ⟨b, 0, none⟩) xs.length cap) :: l') K (h :: hs)) : WL P w0 ops Q rest n l K hs := by
 unfold cbAt at h0
 split at h0
 ·rename_i o r l2 ho
  split at h0
  ·rename_i d' t1 t2 y hd hop
   split at h0
   ·rename_i s hb hy
    simp only [Option.some.injEq, Prod.mk.injEq] at h0
    obtain ⟨rfl, rfl, rfl, rfl, rfl, rfl⟩ := h0
    unfold isStr at hs'
    simp only [Bool.and_eq_true] at hs'
    obtain ⟨q1, q2⟩ := hs'
    cases e1 : P.underlying t2 with
    | none => simp [e1] at q1
    | some d1 =>
     cases d1 <;> simp [e1] at q1
     rename_i e
     cases e2 : P.underlying e with
     | none => simp [e2] at q1
     | some d2 =>
      cases d2 <;> simp [e2] at q1
      rename_i kd
      cases kd <;> simp at q1
      cases e3 : P.underlying t1 with
      | none => simp [e3] at q2
      | some d3 =>
       refine WL.at' hT ho fun hg => WL.val (R := fun u K' hs' => ∃ b cap h, u = .slice (some ⟨b, 0, none⟩) xs.length cap /\ K' = K /\ hs' = h :: hs /\ IsS h (some ⟨b, 0, none⟩) xs.length cap 1 (xs.map fun b => Value.int .u8 ((b.toNat : Nat) : Int))) hd hb hg
        (fun A w ha hw => ?_) (fun u K' hs' ⟨b, cap, h, h1, h2, h3, h4⟩ => by subst h1; subst h2; subst h3; exact hk b cap h h4)
       have hsz : (⟨xs.toArray⟩ : ByteArray).size = xs.length := by simp [ByteArray.size]
       have hr := Lib.run_convert_string_bytes (P := P) w t1 t2 e ⟨xs.toArray⟩ e3 e1 e2
       have hcap : xs.length <= grownCap w xs.length 0 e := grownCap_ge w xs.length 0 e
       have hcs : (Lib.bytesCells w e ⟨xs.toArray⟩).toList = xs.map (fun b => Value.int .u8 ((b.toNat : Nat) : Int)) ++ List.replicate (grownCap w xs.length 0 e - xs.length) (.int .u8 0) := by
        simp [Lib.bytesCells, hsz]
       refine ⟨.slice (some ⟨w.heap.size, 0, none⟩) xs.length (grownCap w xs.length 0 e), Lib.bytesWorld w e ⟨xs.toArray⟩, K, pt w.heap.size (Lib.bytesCells w e ⟨xs.toArray⟩) e ((Lib.bytesCells w e ⟨xs.toArray⟩).size, (Lib.bytesCells w e ⟨xs.toArray⟩).size + 1) :: hs, ?_, ?_, w.heap.size, grownCap w xs.length 0 e, _, rfl, rfl, rfl, ?_⟩
       ·simp only [execOp, hop, ha.ev hy]
        rw [<- hsz]
        simp [hr]
       ·have h1 := (hw.drew.alloc (.cells (Lib.bytesCells w e ⟨xs.toArray⟩) e)).remark (i := 0) (w' := Lib.bytesWorld w e ⟨xs.toArray⟩) (fr' := ((Lib.bytesCells w e ⟨xs.toArray⟩).size, (Lib.bytesCells w e ⟨xs.toArray⟩).size + 1)) rfl
         (Lib.bytesWorld_at_new w e _) ?_ rfl rfl rfl ?_
        ·exact h1
        ·intro k hk
         rcases Nat.lt_or_ge k w.heap.size with h | h
         ·rw [Lib.bytesWorld_at_old w e _ k h]
          exact (RowKit.Below.heap_alloc w.drew _ k h).symm
         ·have hk' : w.heap.size < k := by have : k ≠ w.heap.size := hk; omega
          rw [Array.getElem?_eq_none (by rw [Lib.bytesWorld_size]; omega), Array.getElem?_eq_none (by simp; omega)]
        ·rw [Lib.bytesWorld_size]; simp
       ·refine ⟨by simp, hcap, fun j u hu => ⟨_, rfl, ?_⟩⟩
        rw [add_mk, Nat.zero_add]
        refine Cell.pt ?_
        have hj : j < xs.length := by have := (List.getElem?_eq_some_iff.1 hu).1; simpa using this
        rw [<- Array.getElem?_toList, hcs, List.getElem?_append_left (by simpa using hj)]
        exact hu
   ·simp at h0
  ·simp at h0
 ·simp at h0
end rules
section ret
variable {P : Program} {w0 : World} {fn : Func} {R : Value -> PH -> List PH -> Prop} {n : Nat} {l : Sl} {K : PH} {hs : List PH}
theorem retcA (i m : Nat) {t ty b ty' : Nat} {c : Array Value} {fr : Nat × Nat} (hr : fn.results = #[.cell t ty]) (hv : look l t = some (.pointer (some ⟨b, 0, none⟩))) (hi : hs[i]? = some (pt b c ty' fr)) (hm : aggOK P ty c.size = true)
  (hk : R (.agg c) K (hs.drop m)) : WQ w0 (bodyPost P fn (endR w0 R)) .ret n l K hs :=
 fun _ w ha hw => bodyPost_ret (v := .agg c) (by
  have h2 := run_loadVarS (P := P) (w := w) (t := ty) (a := ⟨b, 0, none⟩) (cs := c.toList) (by simpa using hm) rfl (fun j v hv => hw.cell (.inr ⟨i, hi⟩) (cells_pt c.toList (fun j v h => by simpa using h) j v hv))
  have e : c.toList.toArray = c := by simp
  rw [e] at h2
  simp [results, hr, ha.slot t _ hv, asAddr, h2]) ha.defers ⟨_, _, _, rfl, hk, hw.dropN m⟩
end ret
end Go.En
namespace Go.En
theorem bnot {b : Bool} {p : Prop} (h : b = true ↔ p) : (!b) = true ↔ ¬ p := by cases b <;> simp_all
theorem Ag.cut {n : Nat} {l l' : Sl} {a : Act} (h : Ag n l' a) (h1 : l'.drop (l'.length - l.length) = l) (h2 : ((l'.take (l'.length - l.length)).all fun x => (look l x.1).isNone) = true) : Ag n l a := by
 refine ⟨h.size, h.defers, fun t v ht => h.slot t v ?_⟩
 generalize l'.length - l.length = k at h1 h2
 clear h
 induction k generalizing l' with
 | zero => simp at h1; rw [h1]; exact ht
 | succ k ih =>
  cases l' with
  | nil => simp at h1; subst h1; exact ht
  | cons x r =>
   obtain ⟨t', u⟩ := x
   simp only [List.take_succ_cons, List.all_cons, Bool.and_eq_true] at h2
   have := ih (l' := r) (by simpa using h1) h2.2
   simp only [look]
   cases e : Nat.beq t' t with
   | false => simpa using this
   | true =>
    have : t' = t := Nat.eq_of_beq_eq_true e
    subst this
    simp [ht] at h2
theorem Ag.cons {n : Nat} {l : Sl} {a : Act} {t : Nat} {v : Value} (h : Ag n l a) (ht : a.tmps[t]? = some v) : Ag n ((t, v) :: l) a := by
 refine ⟨h.size, h.defers, fun s u hs => ?_⟩
 simp only [look] at hs
 cases e : Nat.beq t s with
 | true =>
  have : t = s := Nat.eq_of_beq_eq_true e
  subst this
  rw [e] at hs
  simp only [cond_true, Option.some.injEq] at hs
  rw [<- hs]; exact ht
 | false => rw [e] at hs; exact h.slot s u hs
def BJ (w0 : World) (t n : Nat) (l : Sl) (q : Prop) (K : PH) (hs : List PH) : Exit -> Act -> World -> Prop := fun e a w => e = .normal /\ ∃ c : Bool, (c = true ↔ q) /\ Ag n ((t, .bool c) :: l) a /\ Sat w0 w K hs
theorem bjx {w0 : World} {t n : Nat} {l l' : Sl} {q : Prop} {K : PH} {hs : List PH} {c : Bool} (hc : c = true ↔ q) (hl : look l' t = some (.bool c)) (h1 : l'.drop (l'.length - l.length) = l) (h2 : ((l'.take (l'.length - l.length)).all fun x => (look l x.1).isNone) = true) :
  WQ w0 (BJ w0 t n l q K hs) .normal n l' K hs := fun a w ha hw => ⟨rfl, c, hc, (ha.cut h1 h2).cons (ha.slot t _ hl), hw⟩
theorem wpList_app {P : Program} {ops : Array Oper} {Q Q1 : Exit -> Act -> World -> Prop} {rest : List Oper} (h1 : ∀ e a w, Q1 e a w -> e = .normal) (h2 : ∀ a w, Q1 .normal a w -> wpList P ops Q rest a w) :
  ∀ (seg : List Oper) (a : Act) (w : World), wpList P ops Q1 seg a w -> wpList P ops Q (seg ++ rest) a w
 | [], a, w, h => h2 a w h
 | o :: seg, a, w, h => by
  unfold wpList at h
  rw [List.cons_append]
  unfold wpList
  split
  ·rename_i hw
   rw [if_pos hw] at h
   rcases h with h | ⟨_, a', w', h⟩
   ·refine .inl (Oper.wp_mono (fun a w h => wpList_app h1 h2 seg a w h) ?_)
    unfold Oper.wp at h ⊢
    refine upon_q (fun c a w h => ?_) (fun a w h => ?_) h
    ·have := h1 _ _ _ h; cases this
    ·have := h1 _ _ _ h; cases this
   ·have := h1 _ _ _ h; cases this
  ·rename_i hw
   rw [if_neg hw] at h
   exact wpList_app h1 h2 seg _ w h
section rules
variable {P : Program} {T : Tab} {w0 : World} {ops : Array Oper} {Q : Exit -> Act -> World -> Prop} {rest rest' rest2 : List Oper} {n : Nat} {l l' lE : Sl} {K : PH} {hs : List PH}
def setb (ts : List Nat) (w : Bool) : Sl -> Sl
 | [] => []
 | (k, v) :: r => (k, cond (ts.any (Nat.beq k)) (.bool w) v) :: setb ts w r
theorem bj (hT : TabOK P T) (k m t : Nat) (ts : List Nat) (want : Bool) (b : Bool) {φ q : Prop} (h0 : pureN T ops n k rest l = some (rest', l')) (hlf : setb ts b l' = l') (hno : pureN T ops n m rest' (setb ts (!want) l') = some (rest2, lE)) (hl : look lE t = some (.bool (!want)))
  (h1 : lE.drop (lE.length - (setb ts (!want) l').length) = setb ts (!want) l') (h2 : ((lE.take (lE.length - (setb ts (!want) l').length)).all fun x => (look (setb ts (!want) l') x.1).isNone) = true) (hr : rest' = rest'.take m ++ rest2)
  (hn : b = !want -> ((!want) = true ↔ φ)) (hq : b = want -> (q ↔ φ))
  (hex : b = want -> WL P w0 ops (BJ w0 t n (setb ts want l') q K hs) (rest'.take m) n (setb ts want l') K hs)
  (hk : ∀ b', (b' = true ↔ φ) -> WL P w0 ops Q rest2 n ((t, .bool b') :: l') K hs) : WL P w0 ops Q rest n l K hs := by
 refine WL.pures hT k h0 ?_
 by_cases hb : b = want
 ·subst hb
  rw [hlf] at hex
  intro a w ha hw
  rw [hr]
  refine wpList_app (Q1 := BJ w0 t n l' q K hs) (fun e a w h => h.1) (fun a w h => ?_) _ a w (hex rfl a w ha hw)
  obtain ⟨_, c, hc, hA, hS⟩ := h
  exact hk c (hc.trans (hq rfl)) a w hA hS
 ·have hb' : b = !want := by cases b <;> cases want <;> first | rfl | exact absurd rfl hb
  subst hb'
  rw [hlf] at hno h1 h2
  refine WL.pures hT m hno fun a w ha hw => ?_
  exact hk _ (hn rfl) a w ((ha.cut h1 h2).cons (ha.slot t _ hl)) hw
theorem bjo (hT : TabOK P T) (k m t : Nat) (ts : List Nat) {b : Bool} {p q : Prop} (hb : b = true ↔ p) (h0 : pureN T ops n k rest l = some (rest', l')) (hlf : setb ts b l' = l') (hno : pureN T ops n m rest' (setb ts true l') = some (rest2, lE)) (hl : look lE t = some (.bool true))
  (h1 : lE.drop (lE.length - (setb ts true l').length) = setb ts true l') (h2 : ((lE.take (lE.length - (setb ts true l').length)).all fun x => (look (setb ts true l') x.1).isNone) = true) (hr : rest' = rest'.take m ++ rest2)
  (hex : ¬ p -> WL P w0 ops (BJ w0 t n (setb ts false l') q K hs) (rest'.take m) n (setb ts false l') K hs)
  (hk : ∀ b', (b' = true ↔ p \/ q) -> WL P w0 ops Q rest2 n ((t, .bool b') :: l') K hs) : WL P w0 ops Q rest n l K hs :=
 bj hT k m t ts false b (φ := p \/ q) (q := q) h0 hlf hno hl h1 h2 hr (fun h => by subst h; simpa using Or.inl (hb.1 rfl)) (fun h => ⟨.inr, fun g => g.resolve_left (fun hp => by have := hb.2 hp; rw [h] at this; cases this)⟩)
  (fun h => hex (fun hp => by have := hb.2 hp; rw [h] at this; cases this)) hk
theorem bja (hT : TabOK P T) (k m t : Nat) (ts : List Nat) {b : Bool} {p q : Prop} (hb : b = true ↔ p) (h0 : pureN T ops n k rest l = some (rest', l')) (hlf : setb ts b l' = l') (hno : pureN T ops n m rest' (setb ts false l') = some (rest2, lE)) (hl : look lE t = some (.bool false))
  (h1 : lE.drop (lE.length - (setb ts false l').length) = setb ts false l') (h2 : ((lE.take (lE.length - (setb ts false l').length)).all fun x => (look (setb ts false l') x.1).isNone) = true) (hr : rest' = rest'.take m ++ rest2)
  (hex : p -> WL P w0 ops (BJ w0 t n (setb ts true l') q K hs) (rest'.take m) n (setb ts true l') K hs)
  (hk : ∀ b', (b' = true ↔ p /\ q) -> WL P w0 ops Q rest2 n ((t, .bool b') :: l') K hs) : WL P w0 ops Q rest n l K hs :=
 bj hT k m t ts true b (φ := p /\ q) (q := q) h0 hlf hno hl h1 h2 hr (fun h => Iff.intro (fun h' => absurd h' (by decide)) (fun h' => by have := hb.2 h'.1; rw [h] at this; cases this)) (fun h => Iff.intro (fun g => ⟨hb.1 h, g⟩) (fun g => g.2))
  (fun h => hex (hb.1 h)) hk
theorem cmpS (hT : TabOK P T) (k : Nat) {d : Nat} {p : Prop} (h : cmpAt T ops n k rest l = some (d, p, rest', l')) (hk : ∀ b : Bool, (b = true ↔ p) -> WL P w0 ops Q rest' n ((d, .bool b) :: l') K hs) : WL P w0 ops Q rest n l K hs :=
 cmp hT k h (fun hp => hk true (by simpa using hp)) (fun hp => hk false (by simpa using hp))
theorem cbS (hT : TabOK P T) (k : Nat) {d : Nat} {c : Bool} (p : Prop) (h : valAt T ops n k rest l = some (d, .bool c, rest', l')) (hp : c = true ↔ p) (hk : ∀ b : Bool, (b = true ↔ p) -> WL P w0 ops Q rest' n ((d, .bool b) :: l') K hs) : WL P w0 ops Q rest n l K hs :=
 ar hT k h rfl (hk c hp)
theorem seS (hT : TabOK P T) (k : Nat) {d : Nat} {xs ys : List UInt8} (h : valAt T ops n k rest l = some (d, .bool ((⟨xs.toArray⟩ : ByteArray).toList == (⟨ys.toArray⟩ : ByteArray).toList), rest', l')) (hk : ∀ b : Bool, (b = true ↔ xs = ys) -> WL P w0 ops Q rest' n ((d, .bool b) :: l') K hs) : WL P w0 ops Q rest n l K hs :=
 ar hT k h rfl (hk _ (by rw [str_toList, str_toList]; simp))
theorem snS (hT : TabOK P T) (k : Nat) {d : Nat} {xs ys : List UInt8} (h : valAt T ops n k rest l = some (d, .bool !((⟨xs.toArray⟩ : ByteArray).toList == (⟨ys.toArray⟩ : ByteArray).toList), rest', l')) (hk : ∀ b : Bool, (b = true ↔ xs ≠ ys) -> WL P w0 ops Q rest' n ((d, .bool b) :: l') K hs) : WL P w0 ops Q rest n l K hs :=
 ar hT k h rfl (hk _ (by rw [str_toList, str_toList]; simp))
theorem nmS {t : Nat} {c : Bool} (hk : ∀ b : Bool, (b = true ↔ c = true) -> WL P w0 ops Q rest n ((t, .bool b) :: l) K hs) : WL P w0 ops Q rest n ((t, .bool c) :: l) K hs := hk c Iff.rfl
end rules
theorem ifP {P : Program} {w0 : World} {Q : Exit -> Act -> World -> Prop} {n : Nat} {l : Sl} {K : PH} {hs : List PH} {c : Operand} {x y : Code} {b : Bool} {p : Prop} (hb : b = true ↔ p) (hc : ev l c = some (.bool b)) (h : p -> WC P w0 x Q n l K hs) (h' : ¬ p -> WC P w0 y Q n l K hs) :
  WC P w0 (.cond c x y) Q n l K hs := ifB hc (fun e => h (hb.1 e)) (fun e => h' (fun hp => by rw [hb.2 hp] at e; cases e))
theorem ifPT {P : Program} {w0 : World} {Q : Exit -> Act -> World -> Prop} {n : Nat} {l : Sl} {K : PH} {hs : List PH} {c : Operand} {x y : Code} {b : Bool} {p : Prop} (hb : b = true ↔ p) (hp : p) (hc : ev l c = some (.bool b)) (h : WC P w0 x Q n l K hs) :
  WC P w0 (.cond c x y) Q n l K hs := ifP hb hc (fun _ => h) (fun g => absurd hp g)
theorem dcbS {P : Program} {T : Tab} {w0 : World} {ops : Array Oper} {Q : Exit -> Act -> World -> Prop} {plan plan' : List Nat} {z : Nat} {listed listed' : Array Bool} {n : Nat} {l l' : Sl} {K K0 : PH} {hs A : List PH}
  (hT : TabOK P T) (hsel : Region.noSelect ops = true) (k : Nat) {d : Nat} {c : Bool} (p : Prop) (h0 : dvalAt T ops n z k plan listed l = some (d, .bool c, plan', listed', l')) (hp : p ↔ c = true)
  (hk : ∀ b : Bool, (b = true ↔ p) -> WA P w0 ops Q K0 A z plan' listed' n ((d, .bool b) :: l') K hs) : WA P w0 ops Q K0 A z plan listed n l K hs :=
 dar hT hsel k h0 rfl (hk c hp.symm)
theorem Ct.keep {P : Program} {w0 : World} {f : FuncId} {args : List Value} {K : PH} {hs : List PH} {h : PH} {u : Value} (i : Nat) (hi : hs[i]? = some h)
  (c : Ct P w0 f args K (h :: hs.eraseIdx i) (fun v K' hs' => K' = K /\ hs' = h :: hs.eraseIdx i /\ v = u)) : Ct P w0 f args K hs (fun v K' hs' => K' = K /\ hs' = hs /\ v = u) := by
 refine ⟨c.1, fun w hw => (c.2 w (hw.perm (perm_front hs i h hi))).mono ?_⟩
 rintro e w' ⟨v, K', hs', rfl, ⟨rfl, rfl, rfl⟩, hw'⟩
 exact ⟨_, _, _, rfl, ⟨rfl, rfl, rfl⟩, hw'.perm (perm_front hs i h hi).symm⟩
theorem dlds {P : Program} {T : Tab} {w0 : World} {ops : Array Oper} {Q : Exit -> Act -> World -> Prop} {plan plan' : List Nat} {z : Nat} {listed listed' : Array Bool} {n : Nat} {l l' : Sl} {K K0 : PH} {hs A : List PH}
  (hT : TabOK P T) (hsel : Region.noSelect ops = true) (k : Nat) {p d t : Nat} {a : Addr} {h : PH} (cs : List Value) (h0 : dlsAt T ops n z k plan listed l = some (p, d, t, a, plan', listed', l')) (hwf : cond (Nat.blt z ops.size) (Region.waitsFor .any ops z (p / 2)) true = true)
  (hm : aggOK P t cs.length = true) (hin : In K0 A h) (hc : ∀ (j : Nat) v, cs[j]? = some v -> Cell h (a.add j) v) (hk : WA P w0 ops Q K0 A z plan' listed' n ((d, .agg cs.toArray) :: l') K hs) : WA P w0 ops Q K0 A z plan listed n l K hs := by
 unfold dlsAt at h0
 split at h0
 ·rename_i p' o r L' l2 hh
  split at h0
  ·rename_i dd t' x hp hz hg hd hop
   split at h0
   ·rename_i a' hb hx
    simp only [Option.some.injEq, Prod.mk.injEq] at h0
    obtain ⟨rfl, rfl, rfl, rfl, rfl, rfl, rfl⟩ := h0
    obtain ⟨g1, g2⟩ := headAt_spec hh
    refine WA.pures hT hsel k g1 ?_
    have hp2 : p' = 2 * (p' / 2) := by have := Nat.eq_of_beq_eq_true hp; omega
    rw [hp2]
    refine WA.look g2 hsel hz hd hb (fun A' ha => .inl ⟨gOK_wanted ha hg, fun w hw => ?_⟩) hk
    obtain ⟨L, hcl, hun, hst⟩ := hw
    have h2 := run_loadS (P := P) (w := w) (t := t') (a := a') (cs := cs) hm rfl (fun j v hv => (hst (closed_waits hcl hun hwf)).cell hin (hc j v hv))
    simp only [execOp, hop, ha.ev hx]
    simp [h2]
   ·simp at h0
  ·simp at h0
 ·simp at h0
theorem WL.hs {P : Program} {w0 : World} {ops : Array Oper} {Q : Exit -> Act -> World -> Prop} {rest : List Oper} {n : Nat} {l : Sl} {K : PH} {hs : List PH} (hs' : List PH) (e : hs = hs') (hk : WL P w0 ops Q rest n l K hs') : WL P w0 ops Q rest n l K hs := by
 subst e; exact hk
end Go.En
end
section
namespace Go.En
def bv (l : List UInt8) : List Value := l.map fun b => Value.int .u8 b.toNat
theorem bv_append (l r : List UInt8) : bv (l ++ r) = bv l ++ bv r := by simp [bv]
theorem bv_one (l : List UInt8) : ∀ u ∈ bv l, u.oneCell' = true := by
 intro u hu
 obtain ⟨b, _, rfl⟩ := List.mem_map.1 hu
 rfl
theorem bv_get {l : List UInt8} {j : Nat} (h : j < l.length) : (bv l)[j]? = some (.int .u8 (l[j].toNat : Nat)) := by
 simp [bv, h]
def uint (n : Nat) : List UInt8 := if n < 128 then [UInt8.ofNat n] else UInt8.ofNat (n % 128 + 128) :: uint (n / 128)
 termination_by n
 decreasing_by omega
theorem uint_lt {n : Nat} (h : n < 128) : uint n = [UInt8.ofNat n] := by rw [uint, if_pos h]
theorem uint_ge {n : Nat} (h : ¬ n < 128) : uint n = UInt8.ofNat (n % 128 + 128) :: uint (n / 128) := by rw [uint, if_neg h]
theorem uint_length_le : ∀ (k n : Nat), n < 128 ^ k -> 0 < k -> (uint n).length <= k
 | 0, n, h, h0 => by omega
 | k + 1, n, h, _ => by
  by_cases hn : n < 128
  ·rw [uint_lt hn]; simp
  ·rw [uint_ge hn]
   have h2 : n / 128 < 128 ^ k := by rw [Nat.div_lt_iff_lt_mul (by omega)]; rw [Nat.pow_succ] at h; omega
   have hk : 0 < k := by
    cases k with
    | zero => simp at h; omega
    | succ k => omega
   have := uint_length_le k (n / 128) h2 hk
   simp; omega
theorem uint_le10 {n : Nat} (h : n < 18446744073709551616) : (uint n).length <= 10 := by
 refine uint_length_le 10 n ?_ (by omega)
 have : (128 : Nat) ^ 10 = 1180591620717411303424 := by decide
 rw [this]
 omega
theorem byteV {n : Nat} (h : n < 256) : Value.int .u8 ((n : Nat) : Int) = .int .u8 ((UInt8.ofNat n).toNat : Nat) := by
 rw [UInt8.toNat_ofNat_of_lt' (by simpa using h)]
theorem isS_of {h : PH} {ao : Option Addr} {n n' cap size : Nat} {xs ys : List Value} (x : IsS h ao n cap size xs) (h1 : n = n') (h2 : xs = ys) : IsS h ao n' cap size ys := by subst h1; subst h2; exact x
theorem isS_byte (b m : Nat) (h : m < 256) : IsS (pt b #[.int .u8 ((m : Nat) : Int)] 5) (some ⟨b, 0, none⟩) 1 1 1 (bv [UInt8.ofNat m]) := by
 refine isS_of (Own.ofPt (e := 5) (n := 1) (size := 1) (by simp) (by simp [maxLen])).isS rfl ?_
 simp [bv, byteV h]
theorem bv_or128 : ∀ m : BitVec 8, (m ||| 128#8) = BitVec.ofNat 8 (m.toNat % 128 + 128) := by decide
theorem u8or128 (m : Nat) : Value.int .u8 (IntKind.u8.wrap (BitVec.ofInt 8 ((m % 256 : Nat) : Int) ||| BitVec.ofInt 8 128).toNat) = .int .u8 ((m % 128 + 128 : Nat) : Int) := by
 have h := bv_or128 (BitVec.ofInt 8 ((m % 256 : Nat) : Int))
 have h2 : (BitVec.ofInt 8 ((m % 256 : Nat) : Int)).toNat = m % 256 := by simp; omega
 have h3 : BitVec.ofInt 8 128 = 128#8 := by decide
 rw [h3, h, h2, u8m]
 simp
 omega
theorem u64shr7 (m : Nat) : Value.int .u64 ((m : Int).fdiv (2 ^ (min (7 : Int).toNat IntKind.u64.bits))) = .int .u64 ((m / 128 : Nat) : Int) := by
 have : min (7 : Int).toNat IntKind.u64.bits = 7 := by decide
 rw [this]
 congr 1
 rw [Int.fdiv_eq_ediv_of_nonneg _ (by decide)]
 norm_cast
def crcBit (s : BitVec 32) : BitVec 32 := (s >>> 1) ^^^ (0x82f63b78#32 &&& -(s &&& 1#32))
def crcBits : Nat -> BitVec 32 -> BitVec 32
 | 0, s => s
 | k + 1, s => crcBits k (crcBit s)
theorem crcBits_succ : ∀ (k : Nat) (s : BitVec 32), crcBits (k + 1) s = crcBit (crcBits k s)
 | 0, s => rfl
 | k + 1, s => by rw [crcBits, crcBits_succ k (crcBit s)]; rfl
def crcByte (s : BitVec 32) (c : UInt8) : BitVec 32 := crcBits 8 (s ^^^ BitVec.ofNat 32 c.toNat)
def crcRaw (s : BitVec 32) (l : List UInt8) : BitVec 32 := l.foldl crcByte s
def crc (l : List UInt8) : BitVec 32 := ~~~ crcRaw 4294967295#32 l
theorem crcRaw_snoc (s : BitVec 32) (l : List UInt8) (c : UInt8) : crcRaw s (l ++ [c]) = crcByte (crcRaw s l) c := by simp [crcRaw]
theorem ofI (x : BitVec 32) : BitVec.ofInt 32 ((x.toNat : Nat) : Int) = x := by
 rw [BitVec.ofInt_natCast]; simp
theorem u32v (x : BitVec 32) : Value.int .u32 (IntKind.u32.wrap ((x.toNat : Nat) : Int)) = .int .u32 ((x.toNat : Nat) : Int) := u32w ⟨by omega, by have := x.isLt; omega⟩
theorem u32xor (x y : BitVec 32) : Value.int .u32 (IntKind.u32.wrap (BitVec.ofInt 32 ((x.toNat : Nat) : Int) ^^^ BitVec.ofInt 32 ((y.toNat : Nat) : Int)).toNat) = .int .u32 (((x ^^^ y).toNat : Nat) : Int) := by
 rw [ofI, ofI]; exact u32v _
theorem u32shr1 (x : BitVec 32) : Value.int .u32 (((x.toNat : Nat) : Int).fdiv (2 ^ (min (1 : Int).toNat IntKind.u32.bits))) = .int .u32 (((x >>> 1).toNat : Nat) : Int) := by
 have : min (1 : Int).toNat IntKind.u32.bits = 1 := by decide
 rw [this, Int.fdiv_eq_ediv_of_nonneg _ (by decide), BitVec.toNat_ushiftRight, Nat.shiftRight_eq_div_pow]
 congr 1
theorem u32neg (x : BitVec 32) : Value.int .u32 (IntKind.u32.wrap (0 - ((x.toNat : Nat) : Int))) = .int .u32 (((-x).toNat : Nat) : Int) := by
 congr 1
 have := x.isLt
 rw [BitVec.toNat_neg]
 simp [IntKind.wrap, IntKind.bits, IntKind.signed]
 omega
theorem u32not (x : BitVec 32) : Value.int .u32 (IntKind.u32.wrap (BitVec.ofInt 32 (if IntKind.u32.signed then -1 else IntKind.u32.max) ^^^ BitVec.ofInt 32 ((x.toNat : Nat) : Int)).toNat) = .int .u32 (((~~~x).toNat : Nat) : Int) := by
 have e : BitVec.ofInt 32 (if IntKind.u32.signed then -1 else IntKind.u32.max) = BitVec.allOnes 32 := by decide
 rw [e, ofI, BitVec.allOnes_xor]
 exact u32v _
theorem u32and1 (x : BitVec 32) : Value.int .u32 (IntKind.u32.wrap (BitVec.ofInt 32 ((x.toNat : Nat) : Int) &&& BitVec.ofInt 32 1).toNat) = .int .u32 (((x &&& 1#32).toNat : Nat) : Int) := by
 rw [ofI, show BitVec.ofInt 32 1 = 1#32 from by decide]; exact u32v _
theorem u32andP (x : BitVec 32) : Value.int .u32 (IntKind.u32.wrap (BitVec.ofInt 32 2197175160 &&& BitVec.ofInt 32 ((x.toNat : Nat) : Int)).toNat) = .int .u32 (((0x82f63b78#32 &&& x).toNat : Nat) : Int) := by
 rw [ofI, show BitVec.ofInt 32 2197175160 = 0x82f63b78#32 from by decide]; exact u32v _
theorem u32ofByte (c : UInt8) : Value.int .u32 (IntKind.u32.wrap ((c.toNat : Nat) : Int)) = .int .u32 (((BitVec.ofNat 32 c.toNat).toNat : Nat) : Int) := by
 have := c.toNat_lt
 rw [u32w (by omega)]
 simp
theorem take_succ_get {α : Type} (l : List α) (j : Nat) (h : j < l.length) : l.take (j + 1) = l.take j ++ [l[j]] := by
 rw [List.take_add_one, List.getElem?_eq_getElem h]; rfl
def putBytes (x : List UInt8) : List UInt8 := uint x.length ++ x
def le4 (s : Nat) : List UInt8 := [UInt8.ofNat s, UInt8.ofNat (s / 256), UInt8.ofNat (s / 65536), UInt8.ofNat (s / 16777216)]
def sealed (b : List UInt8) : List UInt8 := putBytes b ++ le4 (crc b).toNat
def number (i acc : Nat) : List UInt8 -> Nat × Nat × Int
 | [] => (0, 0, 20)
 | c :: r => if i = 9 /\ 1 < c.toNat then (0, 0, 21)
  else if 128 <= c.toNat then number (i + 1) (acc + c.toNat % 128 * 128 ^ i) r
  else if c.toNat = 0 /\ 0 < i then (0, 0, 21)
  else (acc + c.toNat % 128 * 128 ^ i, i + 1, 0)
theorem bv_and127 : ∀ m : BitVec 8, (m &&& 127#8) = BitVec.ofNat 8 (m.toNat % 128) := by decide
theorem u8and127 (c : UInt8) : Value.int .u8 (IntKind.u8.wrap (BitVec.ofInt 8 ((c.toNat : Nat) : Int) &&& BitVec.ofInt 8 127).toNat) = .int .u8 ((c.toNat % 128 : Nat) : Int) := by
 have h := bv_and127 (BitVec.ofInt 8 ((c.toNat : Nat) : Int))
 have hlt := c.toNat_lt
 have h2 : (BitVec.ofInt 8 ((c.toNat : Nat) : Int)).toNat = c.toNat := by simp
 rw [show BitVec.ofInt 8 127 = 127#8 from by decide, h, h2, u8m]
 simp
 omega
theorem u64shl7 (m i : Nat) (hi : i <= 9) (h : m * 128 ^ i < 18446744073709551616) : Value.int .u64 (IntKind.u64.wrap (((m : Nat) : Int) * 2 ^ (min ((7 : Int) * (i : Nat)).toNat IntKind.u64.bits))) = .int .u64 ((m * 128 ^ i : Nat) : Int) := by
 have e : min ((7 : Int) * (i : Nat)).toNat IntKind.u64.bits = 7 * i := by
  have : IntKind.u64.bits = 64 := rfl
  omega
 have e2 : ((m : Nat) : Int) * 2 ^ (7 * i) = ((m * 128 ^ i : Nat) : Int) := by
  have : (128 : Nat) ^ i = 2 ^ (7 * i) := by rw [Nat.pow_mul]
  rw [this]
  push_cast
  rfl
 rw [e, e2, u64m, Nat.mod_eq_of_lt h]
theorem u64or (x y i : Nat) (hx : x < 128 ^ i) (h : x + y * 128 ^ i < 18446744073709551616) :
  Value.int .u64 (IntKind.u64.wrap (BitVec.ofInt 64 ((x : Nat) : Int) ||| BitVec.ofInt 64 ((y * 128 ^ i : Nat) : Int)).toNat) = .int .u64 ((x + y * 128 ^ i : Nat) : Int) := by
 have hp : (128 : Nat) ^ i = 2 ^ (7 * i) := by rw [Nat.pow_mul]
 have e : (BitVec.ofInt 64 ((x : Nat) : Int) ||| BitVec.ofInt 64 ((y * 128 ^ i : Nat) : Int)).toNat = x + y * 128 ^ i := by
  rw [BitVec.toNat_or, BitVec.ofInt_natCast, BitVec.ofInt_natCast, BitVec.toNat_ofNat, BitVec.toNat_ofNat, Nat.mod_eq_of_lt (by omega), Nat.mod_eq_of_lt (by omega), Nat.or_comm, Nat.mul_comm y, hp,
   <- Nat.two_pow_add_eq_or_of_lt (by rw [<- hp]; exact hx)]
  omega
 rw [e, u64m, Nat.mod_eq_of_lt h]
abbrev Rd := List UInt8 × Int
def rByte : Rd -> Nat × Rd
 | (b, e) => if e = 0 then (match b with | [] => (0, ([], 20)) | c :: r => (c.toNat, (r, 0))) else (0, (b, e))
def rUint (most : Nat) : Rd -> Nat × Rd
 | (b, e) => if e = 0 then (let x := number 0 0 b; if x.2.2 = 0 then (if most < x.1 then (0, (b, 22)) else (x.1, (b.drop x.2.1, 0))) else (0, (b, x.2.2))) else (0, (b, e))
def rBytes (most : Int) : Rd -> List UInt8 × Rd
 | (b, e) => let x := rUint most.toNat (b, e)
  if x.2.2 = 0 then (if x.2.1.length < x.1 then ([], (b, 20)) else (x.2.1.take x.1, (x.2.1.drop x.1, 0))) else ([], x.2)
def rEnd : Rd -> Int
 | (b, e) => if e = 0 /\ 0 < b.length then 23 else e
theorem number_cons (i acc : Nat) (c : UInt8) (r : List UInt8) : number i acc (c :: r) = if i = 9 /\ 1 < c.toNat then (0, 0, 21)
  else if 128 <= c.toNat then number (i + 1) (acc + c.toNat % 128 * 128 ^ i) r
  else if c.toNat = 0 /\ 0 < i then (0, 0, 21)
  else (acc + c.toNat % 128 * 128 ^ i, i + 1, 0) := rfl
theorem pow9 : (128 : Nat) ^ 9 = 9223372036854775808 := by decide
theorem mul_pow_lt {x m i : Nat} (hi : i <= 9) (hx : x < 128 ^ i) (hm : m < 128) (h9 : i = 9 -> m <= 1) : x + m * 128 ^ i < 18446744073709551616 /\ (i < 9 -> x + m * 128 ^ i < 128 ^ (i + 1)) := by
 have h1 : (m + 1) * 128 ^ i <= 128 * 128 ^ i := Nat.mul_le_mul_right _ (by omega)
 rw [Nat.add_mul] at h1
 have h2 : (128 : Nat) ^ (i + 1) = 128 * 128 ^ i := by rw [Nat.pow_succ, Nat.mul_comm]
 by_cases h : i = 9
 ·have h3 := h9 h
  subst h
  rw [pow9] at *
  exact ⟨by omega, by omega⟩
 ·have h3 : (128 : Nat) ^ (i + 1) <= 128 ^ 9 := Nat.pow_le_pow_right (by omega) (by omega)
  rw [pow9] at h3
  exact ⟨by omega, by omega⟩
theorem number_bd : ∀ (b : List UInt8) (i acc : Nat), i <= 9 -> acc < 128 ^ i -> (number i acc b).1 < 18446744073709551616 /\ (number i acc b).2.1 <= i + b.length /\ ((number i acc b).2.2 = 0 -> 0 < (number i acc b).2.1)
 | [], i, acc, hi, ha => by simp [number]
 | c :: r, i, acc, hi, ha => by
  unfold number
  split
  ·simp
  ·rename_i h9
   have h1 := mul_pow_lt (m := c.toNat % 128) hi ha (by omega) (by omega)
   split
   ·rename_i h2
    have hlt : i < 9 := by omega
    have h3 := number_bd r (i + 1) (acc + c.toNat % 128 * 128 ^ i) (by omega) (h1.2 hlt)
    simp only [List.length_cons]
    exact ⟨h3.1, by omega, h3.2.2⟩
   ·split
    ·simp
    ·simp only [List.length_cons]
     exact ⟨h1.1, by omega, fun _ => by omega⟩
theorem rUint_bd (m : Nat) (b : List UInt8) (e : Int) : (rUint m (b, e)).1 < 18446744073709551616 /\ (rUint m (b, e)).2.1.length <= b.length := by
 have h1 := number_bd b 0 0 (by omega) (by omega)
 simp only [rUint]
 by_cases h : e = 0
 ·rw [if_pos h]
  by_cases h2 : (number 0 0 b).2.2 = 0
  ·rw [if_pos h2]
   by_cases h3 : m < (number 0 0 b).1
   ·rw [if_pos h3]; exact ⟨by simp, Nat.le_refl _⟩
   ·rw [if_neg h3]; exact ⟨h1.1, by simp⟩
  ·rw [if_neg h2]; exact ⟨by simp, Nat.le_refl _⟩
 ·rw [if_neg h]; exact ⟨by simp, Nat.le_refl _⟩
theorem u32shrN (s k : Nat) (hk : k <= 32) : Value.int .u32 (((s : Nat) : Int).fdiv (2 ^ (min ((k : Nat) : Int).toNat IntKind.u32.bits))) = .int .u32 ((s / 2 ^ k : Nat) : Int) := by
 have : min ((k : Nat) : Int).toNat IntKind.u32.bits = k := by
  have : IntKind.u32.bits = 32 := rfl
  omega
 rw [this, Int.fdiv_eq_ediv_of_nonneg _ (Int.le_of_lt (Int.pow_pos (by decide)))]
 congr 1
theorem le4_cells (s : Nat) : [Value.int .u8 ((s % 256 : Nat) : Int), .int .u8 ((s / 2 ^ 8 % 256 : Nat) : Int), .int .u8 ((s / 2 ^ 16 % 256 : Nat) : Int), .int .u8 ((s / 2 ^ 24 % 256 : Nat) : Int)] = bv (le4 s) := by
 simp [bv, le4]
theorem putBytes_length (x : List UInt8) : (putBytes x).length = (uint x.length).length + x.length := by simp [putBytes]
end Go.En
end
section
namespace Go.Proofs.YtejkjbkodcamoaaGreatDoor
open Go.En Go.ChangeShapes Go.WideShapes Go.ChangeAt Go.RowKit
open Go.ChangeMaps (open_string shut_string)
def hp (W : World) : PH := fun b => W.heap[b]?
theorem sat0 (W : World) : Sat W W (hp W) [] := by
 refine ⟨rfl, rfl, rfl, Nat.le_refl _, fun b o h => h, ?_, ?_, ?_⟩
 ·intro i h hi; simp at hi
 ·intro i h hi; simp at hi
 ·intro i j h h' hi; simp at hi
theorem below_of {W w : World} {hs : List PH} (s : Sat W w (hp W) hs) : Below W.heap.size W w := by
 refine ⟨s.os, s.tape, s.output, s.size, fun k hk => ?_⟩
 have h : W.heap[k]? = some W.heap[k] := Array.getElem?_eq_getElem hk
 rw [s.imm k _ h, h]
theorem stays_all {H : Type} {enc : TypeId × Value -> H} {P : Program} (hl : laidOutB P = true) {W W' : World} {sp : Nat -> Bool} :
  ∀ (ts : List TypeId) (vs : List Value) (ds : List (DataW H)) (ps : List MemPlace), (∀ t ∈ ts, P.readableRec t = true /\ t < P.types.size) -> DataW.TrodAll enc P W 0 (fun _ => true) true ts vs ds ps ->
   (∀ p ∈ ps, W.sameAt W' p) -> (∀ p ∈ ps, sp p.block = true) -> DataW.TrodAll enc P W' 0 sp true ts vs ds ps
 | [], [], [], ps, _, h, _, _ => h
 | [], [], _ :: _, ps, _, h, _, _ => h.elim
 | [], _ :: _, _, ps, _, h, _, _ => h.elim
 | _ :: _, [], _, ps, _, h, _, _ => h.elim
 | _ :: _, _ :: _, [], ps, _, h, _, _ => h.elim
 | t :: ts, v :: vs, d :: ds, ps, ht, h, hs, hp => by
  obtain ⟨p, q, h1, h2, rfl⟩ := h
  obtain ⟨hr, hz⟩ := ht t (by simp)
  refine ⟨p, q, WideElems.Trod_stays hl hr hz h1 (fun x hx => hs x (by simp [hx])) (fun x hx => hp x (by simp [hx])), stays_all hl ts vs ds q (fun u hu => ht u (by simp [hu])) h2 (fun x hx => hs x (by simp [hx])) (fun x hx => hp x (by simp [hx])), rfl⟩
theorem post_true {H : Type} {enc : TypeId × Value -> H} {P : Program} {f : Func} {s : ChangeSpec} {W W' : World} {args : Array Value} {ds gs : List (DataW H)} {before : List MemPlace} {tb : TypeId}
  (hW : DataW.Whole enc P f.params.toList s.vars false W args.toList ds gs before) (hb : Below W.heap.size W W') (hl : laidOutB P = true)
  (hts : ∀ t ∈ f.params.toList, P.readableRec t = true /\ t < P.types.size) (hrt : f.resultTypes = #[tb]) (hub : P.underlying tb = some .bool) (hv : s.vars = [])
  (hres : (s.fn H (ds ++ gs)).results = [.lit (.bool true)]) (hargs : (s.fn H (ds ++ gs)).args = ds) (hvars : (s.fn H (ds ++ gs)).vars = []) :
  s.post enc P f false true false false W args (.bool true) W' := by
 have hlt := hW.lt
 have hW' := hW
 obtain ⟨p, q, hA, hV, rfl, hfz, hnd⟩ := hW
 rw [hv] at hV
 have hq : q = [] := by
  cases gs with
  | nil => exact hV
  | cons _ _ => exact hV.elim
 subst hq
 refine ⟨ds, gs, _, [], p, [], hW', ?_, ?_, ?_, hb.frame _, fun h => by cases h⟩
 ·rw [hrt, hres]
  exact trodAll_cons_mk (shut_bool hub _) trodAll_mk0
 ·rw [hargs]
  exact stays_all hl _ _ _ _ hts hA (fun x hx => hb.same (hlt x (by simp [hx]))) (fun x hx => by simpa using hlt x (by simp [hx]))
 ·rw [hv, hvars]; rfl
theorem bound {H : Type} {l : List (DataW H)} (hk : Rows.uptoSmall H l = true) : Rows.uptoBulkAll l <= 1048576 := by
 simpa [Rows.uptoSmall] using hk
theorem own : ownKnob Tryz.prog.godebug = none := by kernel_rfl
theorem laid : laidOutB Tryz.prog = true := by kernel_rfl
end Go.Proofs.YtejkjbkodcamoaaGreatDoor
end
section
namespace Go.Proofs.YtejkjbkodcamoaaGreatDoor
open Go.En Go.ChangeShapes Go.WideShapes Go.ChangeAt Go.RowKit Go.Deep
section opens
variable {H : Type} {enc : TypeId × Value -> H} {P : Program} {W : World} {α β γ : Type}
def Opens (enc : TypeId × Value -> H) (P : Program) (W : World) (t : TypeId) (sz : Nat) (R : List Value -> α -> Prop) (m : α -> Nat) : Prop :=
 P.cellsOf t = sz /\ ∀ fuel cs (x : DataW H × List MemPlace), DataW.trod enc P W 0 (fun _ => true) true fuel t cs = some x -> ∃ v, R cs v /\ m v <= Rows.uptoBulk x.1 /\ cs.length = sz
def RI (k : IntKind) (cs : List Value) (n : Int) : Prop := cs = [.int k n] /\ (Lit.int k n).wf = true
theorem Opens.int {t : TypeId} {k : IntKind} (ht : P.underlying t = some (.int k)) (hc : P.cellsOf t = 1) : Opens enc P W t 1 (RI k) (fun _ => 1) := by
 refine ⟨hc, fun fuel cs x h => ?_⟩
 obtain ⟨n, rfl, rfl, hw⟩ := DataW.trod_int ht h
 exact ⟨n, ⟨rfl, hw⟩, by simp [Rows.uptoBulk], rfl⟩
def RS (cs : List Value) (s : List UInt8) : Prop := cs = [str s]
theorem Opens.str {t : TypeId} (ht : P.underlying t = some .string) (hc : P.cellsOf t = 1) : Opens enc P W t 1 RS (fun s => s.length + 1) := by
 refine ⟨hc, fun fuel cs x h => ?_⟩
 obtain ⟨s, rfl, rfl, hw⟩ := DataW.trod_string ht h
 exact ⟨s.data.toList, by simp [RS, En.str], by simp [Rows.uptoBulk], rfl⟩
def All2 (R : List Value -> α -> Prop) : List (List Value) -> List α -> Prop
 | [], [] => True
 | c :: cs, x :: xs => R c x /\ All2 R cs xs
 | _, _ => False
theorem All2.snoc {R : List Value -> α -> Prop} {c : List Value} {x : α} (h : R c x) : ∀ {cs : List (List Value)} {xs : List α}, All2 R cs xs -> All2 R (cs ++ [c]) (xs ++ [x])
 | [], [], _ => ⟨h, trivial⟩
 | _ :: _, _ :: _, g => ⟨g.1, All2.snoc h g.2⟩
 | [], _ :: _, g => g.elim
 | _ :: _, [], g => g.elim
def RSl (W : World) (sz : Nat) (R : List Value -> α -> Prop) (cs : List Value) (xs : List α) : Prop :=
 ∃ ao cap, ∃ css : List (List Value), cs = [.slice ao xs.length cap] /\ IsS (hp W) ao xs.length cap sz css.flatten /\ All2 R css xs
theorem sum_snoc (m : α -> Nat) (v : α) (sumM : List α -> Nat) (h0 : sumM [] = 0) (h1 : ∀ x r, sumM (x :: r) = m x + sumM r) : ∀ xs, sumM (xs ++ [v]) = sumM xs + m v
 | [] => by simp [h0, h1]
 | x :: r => by rw [List.cons_append, h1, h1, sum_snoc m v sumM h0 h1 r]; omega
def sumM (m : α -> Nat) : List α -> Nat
 | [] => 0
 | x :: r => m x + sumM m r
theorem cell_of {W : World} {a : Addr} {v : Value} (h : W.cell? a = some v) : Cell (hp W) a v := by
 unfold World.cell? at h
 split at h
 ·rename_i c ty fr hb
  split at h
  ·cases h
  ·rename_i hs
   exact ⟨by cases hh : a.spot <;> simp [hh] at hs ⊢, c, ty, fr, hb, h⟩
 ·cases h
theorem cells_of {W : World} {base : Nat} {a : Addr} {n : Nat} {cs : List Value} (h : W.cells? base a n = some cs) : cs.length = n /\ ∀ (j : Nat) u, cs[j]? = some u -> W.cell? (a.add j) = some u := by
 unfold World.cells? at h
 split at h
 ·refine ⟨by simpa using mapM_some_length h, fun j u hu => ?_⟩
  have hj : j < cs.length := (List.getElem?_eq_some_iff.1 hu).1
  have hl := mapM_some_length h
  have hj' : j < n := by simp at hl; omega
  have := mapM_some_get h j j (by simp [hj'])
  rw [this, hu]
 ·cases h
theorem Opens.slice {t e : TypeId} {sz : Nat} {R : List Value -> α -> Prop} {m : α -> Nat} (ht : P.underlying t = some (.slice e)) (hc : P.cellsOf t = 1) (o : Opens enc P W e sz R m) : Opens enc P W t 1 (RSl W sz R) (fun xs => sumM m xs + 1) := by
 refine ⟨hc, fun fuel cs x h => ?_⟩
 rcases open_slice ht h with ⟨rfl, rfl⟩ | ⟨a, len, cap, m', n, D, Pl, rfl, _, hlc, hcm, hm', rfl, hall⟩
 ·exact ⟨[], ⟨none, 0, [], rfl, IsS.nil _ _ _ _, trivial⟩, by simp [sumM, Rows.uptoBulk], rfl⟩
 ·simp only [if_true] at hm'
  subst hm'
  have hall' : ∀ i, i < len -> ∃ (cs' : List Value) (v : α), (∀ (j : Nat) u, cs'[j]? = some u -> W.cell? ((a.add (i * sz)).add j) = some u) /\ cs'.length = sz /\ R cs' v /\ m v <= Rows.uptoBulk (D i) := fun i hi => by
   obtain ⟨cs', h1, h2⟩ := hall i (by omega)
   rw [o.1] at h1
   obtain ⟨h3, h4⟩ := cells_of h1
   obtain ⟨v, h5, h6, _⟩ := o.2 _ _ _ h2
   exact ⟨cs', v, h4, h3, h5, h6⟩
  have build : ∀ k, k <= len -> ∃ (css : List (List Value)) (xs : List α), css.length = k /\ xs.length = k /\ All2 R css xs /\ css.flatten.length = k * sz /\ (∀ (j : Nat) u, css.flatten[j]? = some u -> W.cell? (a.add j) = some u) /\ sumM m xs <= Rows.uptoBulkAll ((List.range k).map D) := by
   intro k
   induction k with
   | zero => intro _; exact ⟨[], [], rfl, rfl, trivial, by simp, by simp, by simp [sumM]⟩
   | succ k ih =>
    intro hk
    obtain ⟨css, xs, h1, h2, h3, h4, h5, h6⟩ := ih (by omega)
    obtain ⟨cs', v, g1, g2, g3, g4⟩ := hall' k (by omega)
    have hfl : (css ++ [cs']).flatten = css.flatten ++ cs' := by simp
    refine ⟨css ++ [cs'], xs ++ [v], by simp [h1], by simp [h2], h3.snoc g3, ?_, ?_, ?_⟩
    ·rw [hfl, List.length_append, h4, g2, Nat.add_mul]; omega
    ·intro j u hu
     rw [hfl] at hu
     rcases Nat.lt_or_ge j (k * sz) with hj | hj
     ·rw [List.getElem?_append_left (by omega)] at hu
      exact h5 j u hu
     ·rw [List.getElem?_append_right (by omega), h4] at hu
      have := g1 _ u hu
      rw [add_add] at this
      rwa [show k * sz + (j - k * sz) = j from by omega] at this
    ·rw [sum_snoc m v (sumM m) rfl (fun _ _ => rfl), List.range_succ, List.map_append]
     have e : ∀ l r : List (DataW H), Rows.uptoBulkAll (l ++ r) = Rows.uptoBulkAll l + Rows.uptoBulkAll r := fun l r => by
      induction l with
      | nil => simp [Rows.uptoBulkAll]
      | cons x l ih => simp only [List.cons_append, Rows.uptoBulkAll, ih]; omega
     rw [e]
     simp only [List.map_cons, List.map_nil, Rows.uptoBulkAll]
     omega
  obtain ⟨css, xs, h1, h2, h3, h4, h5, h6⟩ := build len (Nat.le_refl _)
  refine ⟨xs, ⟨some a, m', css, by rw [h2], ⟨by rw [h4, h2], by omega, fun j u hu => ⟨a, rfl, cell_of (h5 j u hu)⟩⟩, h3⟩, ?_, rfl⟩
  simp only [Rows.uptoBulk]
  omega
def OpensF (enc : TypeId × Value -> H) (P : Program) (W : World) (off : Nat) (fs : List Field) (sz : Nat) (R : List Value -> α -> Prop) (m : α -> Nat) : Prop :=
 ∀ (n : Nat) (cs : List Value) (xs : List (DataW H × List MemPlace)), cs.length = off + sz -> xs.length = fs.length ->
  (∀ (i : Nat) (f : Field), fs[i]? = some f -> DataW.trod enc P W 0 (fun _ => true) true n f.type ((cs.drop f.offset).take (P.cellsOf f.type)) = xs[i]?) -> ∃ v, R (cs.drop off) v /\ m v <= Rows.uptoBulkAll (xs.map (·.1))
def R0 (cs : List Value) (_ : Unit) : Prop := cs = []
theorem OpensF.nil {off : Nat} : OpensF enc P W off [] 0 R0 (fun _ => 0) := fun n cs xs h1 h2 h3 => ⟨(), List.drop_of_length_le (by omega), Nat.zero_le _⟩
def RP (R1 : List Value -> α -> Prop) (R2 : List Value -> β -> Prop) (cs : List Value) (x : α × β) : Prop := ∃ c1 c2, cs = c1 ++ c2 /\ R1 c1 x.1 /\ R2 c2 x.2
theorem OpensF.cons {off sz1 sz2 : Nat} {f : Field} {fs : List Field} {R1 : List Value -> α -> Prop} {R2 : List Value -> β -> Prop} {m1 : α -> Nat} {m2 : β -> Nat} (hf : f.offset = off) (o1 : Opens enc P W f.type sz1 R1 m1) (o2 : OpensF enc P W (off + sz1) fs sz2 R2 m2) :
  OpensF enc P W off (f :: fs) (sz1 + sz2) (RP R1 R2) (fun x => m1 x.1 + m2 x.2) := by
 intro n cs xs h1 h2 h3
 cases xs with
 | nil => simp at h2
 | cons x xs =>
  have h4 := h3 0 f rfl
  rw [hf, o1.1] at h4
  obtain ⟨v, g1, g2, g3⟩ := o1.2 _ _ _ h4
  obtain ⟨u, k1, k2⟩ := o2 n cs xs (by omega) (by simpa using h2) (fun i f' hi => h3 (i + 1) f' (by simpa using hi))
  refine ⟨(v, u), ⟨_, _, (List.take_append_drop sz1 (cs.drop off)).symm, g1, ?_⟩, ?_⟩
  ·rw [List.drop_drop]; exact k1
  ·simp only [List.map_cons, Rows.uptoBulkAll]; omega
theorem Opens.struct {t : TypeId} {sz : Nat} {fs : Array Field} {R : List Value -> α -> Prop} {m : α -> Nat} (ht : P.underlying t = some (.struct fs)) (hc : P.cellsOf t = sz) (o : OpensF enc P W 0 fs.toList sz R m) : Opens enc P W t sz R (fun x => m x + 1) := by
 refine ⟨hc, fun fuel cs x h => ?_⟩
 obtain ⟨xs, n, _, rfl, hl, hlen, hf⟩ := DataW.trod_struct ht h
 obtain ⟨v, h1, h2⟩ := o n cs xs (by omega) (by simpa using hlen) (fun i f hi => hf i f (by simpa using hi))
 exact ⟨v, by simpa using h1, by simp only [Rows.uptoBulk]; omega, by omega⟩
theorem Opens.arg {t : TypeId} {sz : Nat} {R : List Value -> α -> Prop} {m : α -> Nat} (o : Opens enc P W t sz R m) {v : Value} {d : DataW H} {ps : List MemPlace} (h : DataW.Trod enc P W 0 (fun _ => true) true t v d ps) : ∃ x, R v.cells.toList x /\ m x <= Rows.uptoBulk d := by
 obtain ⟨fuel, hf⟩ := h
 obtain ⟨x, h1, h2, _⟩ := o.2 _ _ _ hf
 exact ⟨x, h1, h2⟩
end opens
end Go.Proofs.YtejkjbkodcamoaaGreatDoor
end
section
namespace Go.En
theorem number_back : ∀ (b : List UInt8) (i acc : Nat), i <= 9 -> (number i acc b).2.2 = 0 -> ∃ (m : Nat) (r : List UInt8), b = uint m ++ r /\ (number i acc b).1 = acc + m * 128 ^ i /\ (number i acc b).2.1 = i + (uint m).length /\ (0 < i -> 0 < m)
 | [], i, acc, hi, h => by simp [number] at h
 | c :: r, i, acc, hi, h => by
  have hc := c.toNat_lt
  rw [number_cons] at h ⊢
  by_cases h1 : i = 9 /\ 1 < c.toNat
  ·rw [if_pos h1] at h; simp at h
  ·rw [if_neg h1] at h ⊢
   by_cases h2 : 128 <= c.toNat
   ·rw [if_pos h2] at h ⊢
    obtain ⟨m, r', hb, hn, hk, hp⟩ := number_back r (i + 1) (acc + c.toNat % 128 * 128 ^ i) (by omega) h
    have hm := hp (by omega)
    refine ⟨c.toNat % 128 + 128 * m, r', ?_, ?_, ?_, fun _ => by omega⟩
    ·rw [uint_ge (by omega), show (c.toNat % 128 + 128 * m) / 128 = m from by omega, show (c.toNat % 128 + 128 * m) % 128 + 128 = c.toNat from by omega, hb]
     simp
    ·rw [hn, Nat.pow_succ, Nat.add_mul]
     have : m * (128 ^ i * 128) = 128 * m * 128 ^ i := by rw [Nat.mul_comm (128 ^ i), <- Nat.mul_assoc, Nat.mul_comm m]
     omega
    ·rw [hk, uint_ge (n := c.toNat % 128 + 128 * m) (by omega), show (c.toNat % 128 + 128 * m) / 128 = m from by omega, List.length_cons]
     omega
   ·rw [if_neg h2] at h ⊢
    by_cases h3 : c.toNat = 0 /\ 0 < i
    ·rw [if_pos h3] at h; simp at h
    ·rw [if_neg h3] at h ⊢
     refine ⟨c.toNat, r, ?_, ?_, ?_, fun _ => by omega⟩
     ·rw [uint_lt (by omega)]; simp
     ·rw [Nat.mod_eq_of_lt (by omega)]
     ·rw [uint_lt (by omega)]; simp
theorem rUint_ok {m : Nat} {b : List UInt8} (h : (rUint m (b, 0)).2.2 = 0) : b = uint (rUint m (b, 0)).1 ++ (rUint m (b, 0)).2.1 /\ (rUint m (b, 0)).1 <= m := by
 unfold rUint at h ⊢
 simp only [if_true] at h ⊢
 by_cases h1 : (number 0 0 b).2.2 = 0
 ·rw [if_pos h1] at h ⊢
  by_cases h2 : m < (number 0 0 b).1
  ·rw [if_pos h2] at h; simp at h
  ·rw [if_neg h2]
   obtain ⟨k, r, hb, hn, hk, _⟩ := number_back b 0 0 (by omega) h1
   simp only [Nat.pow_zero, Nat.mul_one, Nat.zero_add] at hn hk
   refine ⟨?_, by dsimp only; omega⟩
   dsimp only
   rw [hn, hk]
   conv => lhs; rw [hb]
   rw [hb, List.drop_left]
 ·rw [if_neg h1] at h; exact absurd h h1
theorem number_uint : ∀ (k m i acc : Nat) (r : List UInt8), m < 128 ^ k -> i <= 9 -> (0 < i -> 0 < m) -> acc + m * 128 ^ i < 18446744073709551616 -> number i acc (uint m ++ r) = (acc + m * 128 ^ i, i + (uint m).length, 0)
 | 0, m, i, acc, r, hk, hi, hp, hb => by
  have : m = 0 := by simpa using hk
  subst this
  rw [uint_lt (by omega)]
  have : ¬ 0 < i := fun h => by have := hp h; omega
  obtain rfl : i = 0 := by omega
  simp [number_cons]
 | k + 1, m, i, acc, r, hk, hi, hp, hb => by
  have h9 : i = 9 -> m <= 1 := fun h => by subst h; have := pow9; rw [this] at hb; omega
  by_cases hm : m < 128
  ·rw [uint_lt hm]
   have e : (UInt8.ofNat m).toNat = m := UInt8.toNat_ofNat_of_lt' (Nat.lt_of_lt_of_le (m := 256) (by omega) (by decide))
   simp only [List.singleton_append, number_cons, e, List.length_singleton]
   rw [if_neg (by omega), if_neg (by omega), if_neg (by omega), Nat.mod_eq_of_lt hm]
  ·rw [uint_ge hm]
   have e : (UInt8.ofNat (m % 128 + 128)).toNat = m % 128 + 128 := UInt8.toNat_ofNat_of_lt' (Nat.lt_of_lt_of_le (m := 256) (by omega) (by decide))
   simp only [List.cons_append, number_cons, e, List.length_cons]
   have hi9 : i < 9 := by
    rcases Nat.lt_or_ge i 9 with h | h
    ·exact h
    ·have := h9 (by omega); omega
   rw [if_neg (by omega), if_pos (by omega), show (m % 128 + 128) % 128 = m % 128 from by omega]
   have hdiv : m = m % 128 + 128 * (m / 128) := by omega
   have hsum : acc + m % 128 * 128 ^ i + m / 128 * 128 ^ (i + 1) = acc + m * 128 ^ i := by
    conv => rhs; rw [hdiv, Nat.add_mul]
    rw [Nat.pow_succ]
    have : m / 128 * (128 ^ i * 128) = 128 * (m / 128) * 128 ^ i := by rw [Nat.mul_comm (128 ^ i), <- Nat.mul_assoc, Nat.mul_comm (m / 128)]
    omega
   rw [number_uint k (m / 128) (i + 1) (acc + m % 128 * 128 ^ i) r (by rw [Nat.div_lt_iff_lt_mul (by omega)]; rw [Nat.pow_succ] at hk; omega) (by omega) (fun _ => by omega) (by rw [hsum]; exact hb), hsum]
   simp only [Prod.mk.injEq, true_and, and_true]
   omega
theorem rUint_uint {m n : Nat} (r : List UInt8) (hn : n < 18446744073709551616) (hm : n <= m) : rUint m (uint n ++ r, 0) = (n, (r, 0)) := by
 have h := number_uint 10 n 0 0 r (by rw [show (128 : Nat) ^ 10 = 1180591620717411303424 from by decide]; omega) (by omega) (fun h => by omega) (by omega)
 simp only [Nat.pow_zero, Nat.mul_one, Nat.zero_add] at h
 unfold rUint
 simp only [if_true, h]
 rw [if_neg (by omega), List.drop_left]
theorem rBytes_put {most : Int} {x : List UInt8} (r : List UInt8) (hx : x.length < 18446744073709551616) (hm : (x.length : Int) <= most) : rBytes most (putBytes x ++ r, 0) = (x, (r, 0)) := by
 have h := rUint_uint (m := most.toNat) (n := x.length) (x ++ r) hx (by omega)
 unfold rBytes putBytes
 rw [List.append_assoc]
 simp only [h, if_true]
 rw [if_neg (by simp), List.take_left, List.drop_left]
def un4 : List UInt8 -> Nat
 | [] => 0
 | c :: r => c.toNat + 256 * un4 r
def unsealedOf (b : List UInt8) (y : List UInt8 × Rd) : List UInt8 × Nat × Int :=
 if y.2.2 ≠ 0 then ([], 0, y.2.2) else if y.2.1.length < 4 then ([], 0, 20) else if un4 (y.2.1.take 4) = (crc y.1).toNat then (y.1, b.length - y.2.1.length + 4, 0) else ([], 0, 24)
def unsealed (b : List UInt8) : List UInt8 × Nat × Int := unsealedOf b (rBytes 2097152 (b, 0))
theorem rBytes_bd (m : Int) (b : List UInt8) (e : Int) : (rBytes m (b, e)).1.length <= b.length /\ (rBytes m (b, e)).2.1.length <= b.length := by
 have h := (rUint_bd m.toNat b e).2
 unfold rBytes
 dsimp only
 split
 ·split
  ·exact ⟨Nat.zero_le _, Nat.le_refl _⟩
  ·refine ⟨?_, ?_⟩ <;> simp <;> omega
 ·exact ⟨Nat.zero_le _, h⟩
theorem un4_append : ∀ (l : List UInt8) (c : UInt8), un4 (l ++ [c]) = un4 l + c.toNat * 256 ^ l.length
 | [], c => by simp [un4]
 | a :: l, c => by
  rw [List.cons_append, un4, un4_append l c, un4, List.length_cons, Nat.pow_succ]
  have : 256 * (c.toNat * 256 ^ l.length) = c.toNat * (256 ^ l.length * 256) := by rw [Nat.mul_left_comm, Nat.mul_comm 256]
  omega
theorem un4_take (q : List UInt8) (k : Nat) (h : k < q.length) : un4 (q.take (k + 1)) = un4 (q.take k) + q[k].toNat * 256 ^ k /\ (q.take k).length = k := by
 have hl : (q.take k).length = k := by simp; omega
 refine ⟨?_, hl⟩
 rw [take_succ_get q k h, un4_append, hl]
theorem un4_lt : ∀ (l : List UInt8) (k : Nat), l.length <= k -> un4 l < 256 ^ k
 | [], k, _ => by simp only [un4]; exact Nat.pow_pos (by decide)
 | c :: l, 0, h => by simp at h
 | c :: l, k + 1, h => by
  have := un4_lt l k (by simpa using h)
  have hc := c.toNat_lt
  rw [un4, Nat.pow_succ]
  omega
theorem pow256 (k : Nat) (hk : k < 4) : 256 ^ k = 1 \/ 256 ^ k = 256 \/ 256 ^ k = 65536 \/ 256 ^ k = 16777216 := by
 obtain rfl | rfl | rfl | rfl : k = 0 \/ k = 1 \/ k = 2 \/ k = 3 := by omega
 all_goals simp
theorem mul256_lt (c k : Nat) (hk : k < 4) (hc : c < 256) : c * 256 ^ k <= 4278190080 := by
 rcases pow256 k hk with h | h | h | h <;> rw [h] <;> omega
theorem un4_le4 (s : Nat) (hs : s < 4294967296) : un4 (le4 s) = s := by
 have e : ∀ x : Nat, (UInt8.ofNat x).toNat = x % 256 := fun x => by simp
 simp only [le4, un4, e]
 omega
theorem sealed_length (b : List UInt8) : (sealed b).length = (uint b.length).length + b.length + 4 := by
 simp [sealed, putBytes, le4]
 omega
theorem unsealed_sealed {b : List UInt8} (more : List UInt8) (hb : b.length <= 2097152) : unsealed (sealed b ++ more) = (b, (sealed b).length, 0) := by
 have h1 : sealed b ++ more = putBytes b ++ (le4 (crc b).toNat ++ more) := by simp [sealed]
 have hl : (le4 (crc b).toNat).length = 4 := rfl
 have h2 := sealed_length b
 unfold unsealed
 rw [h1, rBytes_put _ (by omega) (by omega)]
 unfold unsealedOf
 rw [if_neg (by simp), if_neg (by simp only [List.length_append]; omega), if_pos (by dsimp only; rw [List.take_left' hl, un4_le4 _ (crc b).isLt])]
 simp only [List.length_append, putBytes_length, Prod.mk.injEq, true_and, and_true]
 omega
theorem u32shl8 (c k : Nat) (hk : k < 4) (hc : c < 256) : Value.int .u32 (IntKind.u32.wrap (((c : Nat) : Int) * 2 ^ (min ((8 : Int) * (k : Nat)).toNat IntKind.u32.bits))) = .int .u32 ((c * 256 ^ k : Nat) : Int) := by
 have e : min ((8 : Int) * (k : Nat)).toNat IntKind.u32.bits = 8 * k := by
  have : IntKind.u32.bits = 32 := rfl
  omega
 have e2 : ((c : Nat) : Int) * 2 ^ (8 * k) = ((c * 256 ^ k : Nat) : Int) := by
  have : (256 : Nat) ^ k = 2 ^ (8 * k) := by rw [Nat.pow_mul]
  rw [this]
  push_cast
  rfl
 have := mul256_lt c k hk hc
 rw [e, e2, u32w (by omega)]
theorem u32or8 (x c k : Nat) (hk : k < 4) (hx : x < 256 ^ k) (hc : c < 256) :
  Value.int .u32 (IntKind.u32.wrap (BitVec.ofInt 32 ((x : Nat) : Int) ||| BitVec.ofInt 32 ((c * 256 ^ k : Nat) : Int)).toNat) = .int .u32 ((x + c * 256 ^ k : Nat) : Int) := by
 have hp : (256 : Nat) ^ k = 2 ^ (8 * k) := by rw [Nat.pow_mul]
 have h1 := mul256_lt c k hk hc
 have h2 : 256 ^ k <= 16777216 := by rcases pow256 k hk with h | h | h | h <;> rw [h] <;> decide
 have h3 : x + c * 256 ^ k < 4294967296 := by omega
 have e : (BitVec.ofInt 32 ((x : Nat) : Int) ||| BitVec.ofInt 32 ((c * 256 ^ k : Nat) : Int)).toNat = x + c * 256 ^ k := by
  rw [BitVec.toNat_or, BitVec.ofInt_natCast, BitVec.ofInt_natCast, BitVec.toNat_ofNat, BitVec.toNat_ofNat, Nat.mod_eq_of_lt (by omega), Nat.mod_eq_of_lt (by omega), Nat.or_comm, Nat.mul_comm c, hp,
   <- Nat.two_pow_add_eq_or_of_lt (by rw [<- hp]; exact hx)]
  omega
 rw [e, u32m, Nat.mod_eq_of_lt h3]
end Go.En
end
section
namespace Go.En
theorem rByte_fin {b : List UInt8} {e : Int} (h : (rByte (b, e)).2.2 = 0) : e = 0 /\ ∃ c : UInt8, b = c :: (rByte (b, e)).2.1 /\ (rByte (b, e)).1 = c.toNat := by
 unfold rByte at h ⊢
 by_cases he : e = 0
 ·simp only [he, if_true] at h ⊢
  cases b with
  | nil => simp at h
  | cons c r => exact ⟨trivial, c, rfl, rfl⟩
 ·simp only [he, if_false] at h
theorem rUint_fin {m : Nat} {b : List UInt8} {e : Int} (h : (rUint m (b, e)).2.2 = 0) : e = 0 /\ b = uint (rUint m (b, e)).1 ++ (rUint m (b, e)).2.1 /\ (rUint m (b, e)).1 <= m := by
 by_cases he : e = 0
 ·subst he; exact ⟨rfl, rUint_ok h⟩
 ·have : rUint m (b, e) = (0, (b, e)) := if_neg he
  rw [this] at h
  exact absurd h he
theorem rBytes_fin {m : Int} {b : List UInt8} {e : Int} (h : (rBytes m (b, e)).2.2 = 0) : e = 0 /\ b = putBytes (rBytes m (b, e)).1 ++ (rBytes m (b, e)).2.1 /\ (rBytes m (b, e)).1.length <= m.toNat := by
 unfold rBytes at h ⊢
 dsimp only at h ⊢
 by_cases h1 : (rUint m.toNat (b, e)).2.2 = 0
 ·obtain ⟨he, hb, hm⟩ := rUint_fin h1
  rw [if_pos h1] at h ⊢
  by_cases h2 : (rUint m.toNat (b, e)).2.1.length < (rUint m.toNat (b, e)).1
  ·rw [if_pos h2] at h; simp at h
  ·rw [if_neg h2]
   have hl : ((rUint m.toNat (b, e)).2.1.take (rUint m.toNat (b, e)).1).length = (rUint m.toNat (b, e)).1 := by simp; omega
   refine ⟨he, ?_, by dsimp only; omega⟩
   unfold putBytes
   dsimp only
   rw [hl, List.append_assoc, List.take_append_drop]
   exact hb
 ·rw [if_neg h1] at h; exact absurd h h1
theorem rByte_cons (c : UInt8) (r : List UInt8) : rByte (c :: r, 0) = (c.toNat, (r, 0)) := rfl
theorem rEnd_fin {b : List UInt8} {e : Int} : rEnd (b, e) = 0 ↔ e = 0 /\ b = [] := by
 show (if e = 0 /\ 0 < b.length then (23 : Int) else e) = 0 ↔ _
 by_cases h : e = 0 /\ 0 < b.length
 ·rw [if_pos h]
  constructor
  ·intro h'; simp at h'
  ·rintro ⟨_, rfl⟩; simp at h
 ·rw [if_neg h]
  constructor
  ·intro he
   exact ⟨he, List.length_eq_zero_iff.1 (by have : ¬ 0 < b.length := fun h' => h ⟨he, h'⟩; omega)⟩
  ·exact fun h => h.1
structure Cmd where
 kind : Int
 ses : Nat
 seq : Nat
 word : List UInt8
 wt : Int
 deriving DecidableEq
def Cmd.ok (c : Cmd) : Prop := (c.kind = 1 /\ c.ses = 0 /\ c.seq = 0 /\ c.word = [] /\ c.wt = 0) \/ ((c.kind = 2 \/ c.kind = 3) /\ c.word.length <= 96 /\ 0 <= c.wt /\ c.wt <= 1073741824 /\ (c.kind = 3 -> c.wt = 0))
instance (c : Cmd) : Decidable c.ok := by unfold Cmd.ok; infer_instance
def Cmd.bytes (c : Cmd) : List UInt8 :=
 if c.kind = 1 then [1] else if c.kind = 2 then 2 :: (uint c.ses ++ (uint c.seq ++ (putBytes c.word ++ uint c.wt.toNat))) else 3 :: (uint c.ses ++ (uint c.seq ++ putBytes c.word))
def putCmd (c : Cmd) : Option (List UInt8) := if c.ok then some c.bytes else none
def mxU : Nat := 18446744073709551615
def getCmdR (b : List UInt8) : Cmd × Rd :=
 let x := rByte (b, 0)
 if x.1 = 1 then (⟨1, 0, 0, [], 0⟩, x.2)
 else if x.1 = 2 \/ x.1 = 3 then
  let s := rUint mxU x.2
  let q := rUint mxU s.2
  let w := rBytes 96 q.2
  if x.1 = 2 then (let t := rUint 1073741824 w.2; (⟨2, s.1, q.1, w.1, t.1⟩, t.2)) else (⟨3, s.1, q.1, w.1, 0⟩, w.2)
 else (⟨x.1, 0, 0, [], 0⟩, (x.2.1, if x.2.2 = 0 then 170 else x.2.2))
def getCmd (b : List UInt8) : Option Cmd := if rEnd (getCmdR b).2 = 0 then some (getCmdR b).1 else none
theorem get_put {c : Cmd} {b : List UInt8} (h1 : c.ses <= mxU) (h2 : c.seq <= mxU) (h : putCmd c = some b) : getCmd b = some c := by
 unfold putCmd at h
 by_cases hok : c.ok
 ·rw [if_pos hok] at h
  simp only [Option.some.injEq] at h
  subst h
  obtain ⟨kind, ses, seq, word, wt⟩ := c
  dsimp only at h1 h2
  have hmx : mxU = 18446744073709551615 := rfl
  rcases hok with ⟨rfl, rfl, rfl, rfl, rfl⟩ | ⟨rfl | rfl, hw, h0, hm, h3⟩
  ·rfl
  ·dsimp only at hw h0 hm h3
   obtain ⟨t, rfl⟩ := Int.eq_ofNat_of_zero_le h0
   have e : (Cmd.mk 2 ses seq word t).bytes = 2 :: (uint ses ++ (uint seq ++ (putBytes word ++ (uint t ++ [])))) := by simp [Cmd.bytes]
   rw [e]
   unfold getCmd getCmdR
   rw [rByte_cons]
   simp only [show (2 : UInt8).toNat = 2 from rfl, rUint_uint (m := mxU) _ (show ses < 18446744073709551616 by omega) h1, rUint_uint (m := mxU) _ (show seq < 18446744073709551616 by omega) h2, rBytes_put (most := 96) _ (show word.length < 18446744073709551616 by omega) (by omega),
    rUint_uint (m := 1073741824) (n := t) [] (by omega) (by omega)]
   simp [rEnd]
  ·dsimp only at hw h0 hm h3
   obtain rfl := h3 rfl
   have e : (Cmd.mk 3 ses seq word 0).bytes = 3 :: (uint ses ++ (uint seq ++ (putBytes word ++ []))) := by simp [Cmd.bytes]
   rw [e]
   unfold getCmd getCmdR
   rw [rByte_cons]
   simp only [show (3 : UInt8).toNat = 3 from rfl, rUint_uint (m := mxU) _ (show ses < 18446744073709551616 by omega) h1, rUint_uint (m := mxU) _ (show seq < 18446744073709551616 by omega) h2, rBytes_put (most := 96) [] (show word.length < 18446744073709551616 by omega) (by omega)]
   simp [rEnd]
 ·rw [if_neg hok] at h; cases h
theorem put_get {c : Cmd} {b : List UInt8} (h : getCmd b = some c) : putCmd c = some b /\ c.ses <= mxU /\ c.seq <= mxU := by
 unfold getCmd at h
 split at h
 ·rename_i hend
  simp only [Option.some.injEq] at h
  unfold getCmdR at h hend
  dsimp only at h hend
  split at h
  ·rename_i h1
   rw [if_pos h1] at hend
   subst h
   obtain ⟨e1, e2⟩ := rEnd_fin.1 hend
   obtain ⟨_, c, hb, hc⟩ := rByte_fin e1
   rw [e2] at hb
   rw [h1] at hc
   have : c = 1 := UInt8.toNat_inj.1 (by rw [<- hc]; rfl)
   subst this
   subst hb
   exact ⟨rfl, Nat.zero_le _, Nat.zero_le _⟩
  ·rename_i h1
   rw [if_neg h1] at hend
   split at h
   ·rename_i h2
    rw [if_pos h2] at hend
    split at h
    ·rename_i h3
     rw [if_pos h3] at hend
     subst h
     obtain ⟨e1, e2⟩ := rEnd_fin.1 hend
     obtain ⟨f1, hb1, hm1⟩ := rUint_fin e1
     obtain ⟨f2, hb2, hm2⟩ := rBytes_fin f1
     obtain ⟨f3, hb3, hm3⟩ := rUint_fin f2
     obtain ⟨f4, hb4, hm4⟩ := rUint_fin f3
     obtain ⟨_, c, hb, hc⟩ := rByte_fin f4
     have : c = 2 := UInt8.toNat_inj.1 (by rw [<- hc, h3]; rfl)
     subst this
     refine ⟨?_, hm4, hm3⟩
     have hw : (rBytes 96 (rUint mxU (rUint mxU (rByte (b, 0)).2).2).2).1.length <= 96 := hm2
     have ht : (rUint 1073741824 (rBytes 96 (rUint mxU (rUint mxU (rByte (b, 0)).2).2).2).2).1 <= 1073741824 := hm1
     unfold putCmd
     rw [if_pos (.inr ⟨.inl rfl, hw, by dsimp only; omega, by dsimp only; omega, fun h => by cases h⟩)]
     simp only [Option.some.injEq]
     rw [e2, List.append_nil] at hb1
     have e : ∀ (s q : Nat) (w : List UInt8) (t : Nat), (Cmd.mk 2 s q w t).bytes = 2 :: (uint s ++ (uint q ++ (putBytes w ++ uint t))) := fun s q w t => by simp [Cmd.bytes]
     rw [e, <- hb1, <- hb2, <- hb3, <- hb4, <- hb]
    ·rename_i h3
     rw [if_neg h3] at hend
     subst h
     obtain ⟨e1, e2⟩ := rEnd_fin.1 hend
     obtain ⟨f2, hb2, hm2⟩ := rBytes_fin e1
     obtain ⟨f3, hb3, hm3⟩ := rUint_fin f2
     obtain ⟨f4, hb4, hm4⟩ := rUint_fin f3
     obtain ⟨_, c, hb, hc⟩ := rByte_fin f4
     have h2' := h2.resolve_left h3
     have : c = 3 := UInt8.toNat_inj.1 (by rw [<- hc]; exact h2')
     subst this
     refine ⟨?_, hm4, hm3⟩
     have hw : (rBytes 96 (rUint mxU (rUint mxU (rByte (b, 0)).2).2).2).1.length <= 96 := hm2
     unfold putCmd
     rw [if_pos (.inr ⟨.inr rfl, hw, Int.le_refl _, by dsimp only; omega, fun _ => rfl⟩)]
     simp only [Option.some.injEq]
     rw [e2, List.append_nil] at hb2
     have e : ∀ (s q : Nat) (w : List UInt8), (Cmd.mk 3 s q w 0).bytes = 3 :: (uint s ++ (uint q ++ putBytes w)) := fun s q w => by simp [Cmd.bytes]
     rw [e, <- hb2, <- hb3, <- hb4, <- hb]
   ·rename_i h2
    rw [if_neg h2] at hend
    obtain ⟨e1, e2⟩ := rEnd_fin.1 hend
    split at e1
    ·cases e1
    ·rename_i h5; exact absurd e1 h5
 ·cases h
theorem rUint_le (m : Nat) (s : Rd) : (rUint m s).1 <= m := by
 obtain ⟨b, e⟩ := s
 unfold rUint
 dsimp only
 split
 ·split
  ·split
   ·exact Nat.zero_le _
   ·rename_i h; exact Nat.le_of_not_lt h
  ·exact Nat.zero_le _
 ·exact Nat.zero_le _
def ec {α : Type} : Option α -> Int
 | some _ => 0
 | none => 170
def ob (o : Option (List UInt8)) : List UInt8 := o.getD []
def Cmd.zero : Cmd := ⟨0, 0, 0, [], 0⟩
def Cmd.v (c : Cmd) : Array Value := #[.int .i64 c.kind, .int .u64 (c.ses : Nat), .int .u64 (c.seq : Nat), .string ⟨c.word.toArray⟩, .int .i64 c.wt]
theorem ec_zero {α : Type} {o : Option α} : ec o = 0 ↔ o.isSome = true := by cases o <;> simp [ec]
theorem Cmd.bytes_length (c : Cmd) (h1 : c.ses <= mxU) (h2 : c.seq <= mxU) (h3 : c.word.length <= 96) (h4 : c.wt <= 1073741824) : c.bytes.length <= 200 := by
 have hmx : mxU = 18446744073709551615 := rfl
 have e1 := uint_le10 (n := c.ses) (by omega)
 have e2 := uint_le10 (n := c.seq) (by omega)
 have e3 := uint_le10 (n := c.word.length) (by omega)
 have e4 := uint_le10 (n := c.wt.toNat) (by omega)
 unfold Cmd.bytes
 split
 ·simp
 ·split
  ·simp only [List.length_cons, List.length_append, putBytes]; omega
  ·simp only [List.length_cons, List.length_append, putBytes]; omega
end Go.En
namespace Go.En
def confOK (last : Int) : List Int -> Prop
 | [] => True
 | v :: r => last < v /\ v < 7 /\ confOK v r
instance : ∀ (last : Int) (l : List Int), Decidable (confOK last l)
 | _, [] => .isTrue trivial
 | last, v :: r => by
  have := instDecidableConfOK v r
  unfold confOK
  infer_instance
def vbits : List Int -> Nat
 | [] => 0
 | v :: r => 2 ^ v.toNat + vbits r
def putConf (l : List Int) : Option (List UInt8) := if l ≠ [] /\ confOK (-1) l then some [UInt8.ofNat (vbits l)] else none
def voters (n : Nat) (k : Nat) : List Int := ((List.range k).filter (fun v => decide (n / 2 ^ v % 2 = 1))).map Int.ofNat
def getConf : List UInt8 -> Option (List Int)
 | [c] => if c.toNat = 0 \/ 128 <= c.toNat then none else some (voters c.toNat 7)
 | _ => none
theorem voters_succ (n k : Nat) : voters n (k + 1) = voters n k ++ if n / 2 ^ k % 2 = 1 then [(k : Int)] else [] := by
 unfold voters
 rw [List.range_succ, List.filter_append, List.map_append]
 congr 1
 by_cases h : n / 2 ^ k % 2 = 1 <;> simp [h]
theorem voters_len (n : Nat) : ∀ k, (voters n k).length <= k
 | 0 => by simp [voters]
 | k + 1 => by
  rw [voters_succ, List.length_append]
  have := voters_len n k
  split <;> simp <;> omega
theorem confOK_mem : ∀ (l : List Int) (last : Int), confOK last l -> -1 <= last -> ∀ v ∈ l, 0 <= v /\ v < 7
 | [], _, _, _ => by simp
 | v :: r, last, h, h1 => by
  obtain ⟨h3, h4, h5⟩ := h
  intro u hu
  simp only [List.mem_cons] at hu
  rcases hu with rfl | hu
  ·omega
  ·exact confOK_mem r v h5 (by omega) u hu
def subs : Nat -> List (List Int)
 | 0 => [[]]
 | m + 1 => subs m ++ (subs m).map (fun l => (6 - (m : Int)) :: l)
theorem subs_mem : ∀ (m : Nat) (l : List Int) (last : Int), confOK last l -> 6 - (m : Int) <= last -> l ∈ subs m
 | 0, [], _, _, _ => by simp [subs]
 | 0, v :: r, last, h, hm => by obtain ⟨h1, h2, _⟩ := h; simp only [Int.natCast_zero] at hm; omega
 | m + 1, [], last, h, hm => by
  have : [] ∈ subs m := subs_mem m [] 6 trivial (by omega)
  simp [subs, this]
 | m + 1, v :: r, last, h, hm => by
  obtain ⟨h1, h2, h3⟩ := h
  by_cases hv : v = 6 - (m : Int)
  ·have := subs_mem m r v h3 (by omega)
   simp only [subs, List.mem_append, List.mem_map]
   exact .inr ⟨r, this, by rw [hv]⟩
  ·have := subs_mem m (v :: r) (v - 1) ⟨by omega, h2, h3⟩ (by omega)
   simp only [subs, List.mem_append]
   exact .inl this
theorem subs_bits : ∀ l ∈ subs 7, vbits l < 128 /\ voters (vbits l) 7 = l /\ (l ≠ [] -> 0 < vbits l) := by decide +kernel
theorem conf_bits {l : List Int} (h : confOK (-1) l) : vbits l < 128 /\ voters (vbits l) 7 = l /\ (l ≠ [] -> 0 < vbits l) := subs_bits l (subs_mem 7 l (-1) h (by decide))
theorem getConf_put {l : List Int} {b : List UInt8} (h : putConf l = some b) : getConf b = some l := by
 unfold putConf at h
 split at h
 ·rename_i hl
  simp only [Option.some.injEq] at h
  subst h
  obtain ⟨h1, h2, h3⟩ := conf_bits hl.2
  have h4 := h3 hl.1
  have e : (UInt8.ofNat (vbits l)).toNat = vbits l := UInt8.toNat_ofNat_of_lt' (show vbits l < 256 by omega)
  show (if (UInt8.ofNat (vbits l)).toNat = 0 \/ 128 <= (UInt8.ofNat (vbits l)).toNat then none else some (voters (UInt8.ofNat (vbits l)).toNat 7)) = some l
  rw [e, if_neg (by omega), h2]
 ·cases h
theorem or_add (x v : Nat) (hv : v < 7) (hx : x < 2 ^ v) : Value.int .u8 (IntKind.u8.wrap (BitVec.ofInt 8 ((x : Nat) : Int) ||| BitVec.ofInt 8 ((2 ^ v : Nat) : Int)).toNat) = .int .u8 ((x + 2 ^ v : Nat) : Int) := by
 have hp : 2 ^ v <= 2 ^ 6 := Nat.pow_le_pow_right (by omega) (by omega)
 have e : (BitVec.ofInt 8 ((x : Nat) : Int) ||| BitVec.ofInt 8 ((2 ^ v : Nat) : Int)).toNat = x + 2 ^ v := by
  rw [BitVec.toNat_or, BitVec.ofInt_natCast, BitVec.ofInt_natCast, BitVec.toNat_ofNat, BitVec.toNat_ofNat, Nat.mod_eq_of_lt (by omega), Nat.mod_eq_of_lt (by omega), Nat.or_comm]
  have := Nat.two_pow_add_eq_or_of_lt hx 1
  rw [Nat.mul_one] at this
  rw [<- this]
  omega
 rw [e, u8m, Nat.mod_eq_of_lt (by omega)]
theorem shl1 (v : Nat) (hv : v < 7) : Value.int .u8 (IntKind.u8.wrap (1 * 2 ^ (min ((v : Nat) : Int).toNat IntKind.u8.bits))) = .int .u8 ((2 ^ v : Nat) : Int) := by
 obtain rfl | rfl | rfl | rfl | rfl | rfl | rfl : v = 0 \/ v = 1 \/ v = 2 \/ v = 3 \/ v = 4 \/ v = 5 \/ v = 6 := by omega
 all_goals rfl
theorem shrN (x v : Nat) (hv : v < 7) : Value.int .u8 (((x : Nat) : Int).fdiv (2 ^ (min ((v : Nat) : Int).toNat IntKind.u8.bits))) = .int .u8 ((x / 2 ^ v : Nat) : Int) := by
 have : min ((v : Nat) : Int).toNat IntKind.u8.bits = v := by
  have : IntKind.u8.bits = 8 := rfl
  omega
 rw [this, Int.fdiv_eq_ediv_of_nonneg _ (Int.le_of_lt (Int.pow_pos (by decide)))]
 congr 1
theorem bv_and1 : ∀ m : BitVec 8, (m &&& 1#8) = BitVec.ofNat 8 (m.toNat % 2) := by decide
theorem and1N (x : Nat) (hx : x < 256) : Value.int .u8 (IntKind.u8.wrap (BitVec.ofInt 8 ((x : Nat) : Int) &&& BitVec.ofInt 8 1).toNat) = .int .u8 ((x % 2 : Nat) : Int) := by
 have h := bv_and1 (BitVec.ofInt 8 ((x : Nat) : Int))
 have h2 : (BitVec.ofInt 8 ((x : Nat) : Int)).toNat = x := by simp; omega
 rw [show BitVec.ofInt 8 1 = 1#8 from by decide, h, h2, u8m]
 simp
 omega
theorem confOK_split : ∀ (l r : List Int) (last : Int), confOK last (l ++ r) ↔ confOK last l /\ confOK (l.getLastD last) r
 | [], r, last => by simp [confOK]
 | v :: l, r, last => by
  show (last < v /\ v < 7 /\ confOK v (l ++ r)) ↔ (last < v /\ v < 7 /\ confOK v l) /\ confOK ((v :: l).getLastD last) r
  rw [confOK_split l r v]
  have : (v :: l).getLastD last = l.getLastD v := by cases l <;> simp [List.getLastD]
  rw [this, and_assoc, and_assoc]
theorem bits_append : ∀ l r : List Int, vbits (l ++ r) = vbits l + vbits r
 | [], r => by simp [vbits]
 | v :: l, r => by simp [vbits, bits_append l r]; omega
theorem bits_lt : ∀ (l : List Int) (last : Int), confOK last l -> -1 <= last -> vbits l + 2 ^ (last + 1).toNat <= 2 ^ (l.getLastD last + 1).toNat
 | [], last, _, _ => by simp [vbits]
 | v :: l, last, h, h1 => by
  obtain ⟨h2, h3, h4⟩ := h
  have := bits_lt l v h4 (by omega)
  have e : (v :: l).getLastD last = l.getLastD v := by cases l <;> simp [List.getLastD]
  rw [e]
  have h5 : 2 ^ (last + 1).toNat <= 2 ^ v.toNat := Nat.pow_le_pow_right (by decide) (by omega)
  have h6 : 2 ^ (v + 1).toNat = 2 * 2 ^ v.toNat := by
   rw [show (v + 1).toNat = v.toNat + 1 from by omega, Nat.pow_succ]; omega
  simp only [vbits]
  omega
def iv (l : List Int) : List Value := l.map fun n => Value.int .i64 n
theorem iv_get {l : List Int} {j : Nat} (h : j < l.length) : (iv l)[j]? = some (.int .i64 l[j]) := by simp [iv, h]
theorem iv_append (l r : List Int) : iv (l ++ r) = iv l ++ iv r := by simp [iv]
theorem iv_one (l : List Int) : ∀ u ∈ iv l, u.oneCell' = true := by
 intro u hu
 obtain ⟨b, _, rfl⟩ := List.mem_map.1 hu
 rfl
theorem last_take_succ (l : List Int) (i : Nat) (h : i < l.length) (d : Int) : (l.take (i + 1)).getLastD d = l[i] := by
 rw [take_succ_get l i h, List.getLastD_eq_getLast?, List.getLast?_append]; rfl
end Go.En
namespace Go.En
structure Ent where
 idx : Nat
 term : Nat
 kind : Int
 data : List UInt8
 deriving DecidableEq
def heldP (kind : Int) (data : List UInt8) : Prop := (kind = 0 /\ data = []) \/ (kind = 1 /\ (getCmd data).isSome = true) \/ (kind = 2 /\ (getConf data).isSome = true)
instance (k : Int) (d : List UInt8) : Decidable (heldP k d) := by unfold heldP; infer_instance
def Ent.ok (e : Ent) : Prop := e.idx ≠ 0 /\ e.term ≠ 0 /\ heldP e.kind e.data
instance (e : Ent) : Decidable e.ok := by unfold Ent.ok; infer_instance
def Ent.bytes (e : Ent) : List UInt8 := uint e.idx ++ (uint e.term ++ (UInt8.ofNat e.kind.toNat :: putBytes e.data))
def putEnt (e : Ent) : Option (List UInt8) := if e.ok then some e.bytes else none
def getEntR (b : List UInt8) : Ent × Rd :=
 let i := rUint mxU (b, 0)
 let t := rUint mxU i.2
 let k := rByte t.2
 let d := rBytes 512 k.2
 (⟨i.1, t.1, (k.1 : Nat), d.1⟩, d.2)
def getEnt (b : List UInt8) : Option Ent := if rEnd (getEntR b).2 = 0 /\ (getEntR b).1.ok then some (getEntR b).1 else none
theorem getCmd_len {b : List UInt8} {c : Cmd} (h : getCmd b = some c) : b.length <= 200 := by
 obtain ⟨h1, h2, h3⟩ := put_get h
 unfold putCmd at h1
 split at h1
 ·rename_i hok
  simp only [Option.some.injEq] at h1
  rw [<- h1]
  rcases hok with ⟨h, _, _, hw, _⟩ | ⟨_, hw, h0, hm, _⟩
  ·rw [Cmd.bytes, if_pos h]; simp
  ·exact Cmd.bytes_length c h2 h3 hw hm
 ·cases h1
theorem held_len {k : Int} {d : List UInt8} (h : heldP k d) : d.length <= 200 := by
 rcases h with ⟨_, rfl⟩ | ⟨_, h⟩ | ⟨_, h⟩
 ·simp
 ·obtain ⟨c, hc⟩ := Option.isSome_iff_exists.1 h
  exact getCmd_len hc
 ·obtain ⟨c, hc⟩ := Option.isSome_iff_exists.1 h
  unfold getConf at hc
  split at hc
  ·simp
  ·cases hc
theorem held_kind {k : Int} {d : List UInt8} (h : heldP k d) : k = 0 \/ k = 1 \/ k = 2 := by
 rcases h with ⟨h, _⟩ | ⟨h, _⟩ | ⟨h, _⟩
 ·exact .inl h
 ·exact .inr (.inl h)
 ·exact .inr (.inr h)
theorem Ent.bytes_length (e : Ent) (h : e.ok) (h1 : e.idx <= mxU) (h2 : e.term <= mxU) : e.bytes.length <= 250 := by
 have hmx : mxU = 18446744073709551615 := rfl
 have e1 := uint_le10 (n := e.idx) (by omega)
 have e2 := uint_le10 (n := e.term) (by omega)
 have e3 := held_len h.2.2
 have e4 := uint_le10 (n := e.data.length) (by omega)
 simp only [Ent.bytes, List.length_append, List.length_cons, putBytes]
 omega
theorem getEntR_bytes (e : Ent) (rest : List UInt8) (h : e.ok) (h1 : e.idx <= mxU) (h2 : e.term <= mxU) : getEntR (e.bytes ++ rest) = (e, (rest, 0)) := by
 have hmx : mxU = 18446744073709551615 := rfl
 have e3 := held_len h.2.2
 obtain ⟨k, hk⟩ : ∃ k : Nat, e.kind = (k : Nat) := Int.eq_ofNat_of_zero_le (by have := held_kind h.2.2; omega)
 have hk3 : k < 256 := by have := held_kind h.2.2; omega
 have hb : e.bytes ++ rest = uint e.idx ++ (uint e.term ++ (UInt8.ofNat k :: (putBytes e.data ++ rest))) := by simp [Ent.bytes, hk]
 unfold getEntR
 rw [hb]
 simp only [rUint_uint (m := mxU) _ (show e.idx < 18446744073709551616 by omega) h1, rUint_uint (m := mxU) _ (show e.term < 18446744073709551616 by omega) h2, rByte_cons, rBytes_put (most := 512) _ (show e.data.length < 18446744073709551616 by omega) (by omega)]
 have : (UInt8.ofNat k).toNat = k := UInt8.toNat_ofNat_of_lt' (by simpa using hk3)
 rw [this, <- hk]
theorem getEnt_put {e : Ent} {b : List UInt8} (h1 : e.idx <= mxU) (h2 : e.term <= mxU) (h : putEnt e = some b) : getEnt b = some e := by
 unfold putEnt at h
 split at h
 ·rename_i hok
  simp only [Option.some.injEq] at h
  have := getEntR_bytes e [] hok h1 h2
  rw [List.append_nil, h] at this
  unfold getEnt
  rw [this, if_pos ⟨rfl, hok⟩]
 ·cases h
theorem getEntR_bd (b : List UInt8) : (getEntR b).1.idx <= mxU /\ (getEntR b).1.term <= mxU := ⟨rUint_le _ _, rUint_le _ _⟩
theorem putEnt_get {e : Ent} {b : List UInt8} (h : getEnt b = some e) : putEnt e = some b /\ e.idx <= mxU /\ e.term <= mxU := by
 unfold getEnt at h
 split at h
 ·rename_i hc
  obtain ⟨hend, hok⟩ := hc
  simp only [Option.some.injEq] at h
  have hbd := getEntR_bd b
  rw [h] at hok hbd
  refine ⟨?_, hbd⟩
  obtain ⟨e1, e2⟩ := rEnd_fin.1 hend
  unfold getEntR at h
  have e1 : (rBytes 512 (rByte (rUint mxU (rUint mxU (b, 0)).2).2).2).2.2 = 0 := e1
  have e2 : (rBytes 512 (rByte (rUint mxU (rUint mxU (b, 0)).2).2).2).2.1 = [] := e2
  dsimp only at h
  obtain ⟨f1, hb1, _⟩ := rBytes_fin e1
  obtain ⟨f2, c, hb2, hc2⟩ := rByte_fin f1
  obtain ⟨f3, hb3, _⟩ := rUint_fin f2
  obtain ⟨f4, hb4, _⟩ := rUint_fin f3
  unfold putEnt
  rw [if_pos hok]
  simp only [Option.some.injEq]
  rw [e2, List.append_nil] at hb1
  subst h
  unfold Ent.bytes
  dsimp only
  rw [<- hb1, Int.toNat_natCast]
  have hcc : UInt8.ofNat (rByte (rUint mxU (rUint mxU (b, 0)).2).2).1 = c := by
   have : (rByte (rUint mxU (rUint mxU (b, 0)).2).2).1 = c.toNat := hc2
   rw [this]; exact UInt8.ofNat_toNat
  rw [hcc]
  have g2 : (rUint mxU (rUint mxU (b, 0)).2).2.1 = c :: (rByte (rUint mxU (rUint mxU (b, 0)).2).2).2.1 := hb2
  rw [<- g2]
  have g3 : (rUint mxU (b, 0)).2.1 = uint (rUint mxU (rUint mxU (b, 0)).2).1 ++ (rUint mxU (rUint mxU (b, 0)).2).2.1 := hb3
  rw [<- g3]
  exact hb4.symm
 ·cases h
def Ent.zero : Ent := ⟨0, 0, 0, []⟩
def Ent.v (e : Ent) (ao : Option Addr) (cap : Nat) : Array Value := #[.int .u64 (e.idx : Nat), .int .u64 (e.term : Nat), .int .i64 e.kind, .slice ao e.data.length cap]
end Go.En
namespace Go.En
structure Msg where
 kind : Int
 frm : Int
 to : Int
 term : Nat
 idx : Nat
 lt : Nat
 com : Nat
 rnd : Nat
 good : Bool
 ents : List Ent
 off : Int
 whole : Int
 vot : List Int
 data : List UInt8
 deriving DecidableEq
inductive Fld where
 | idx | lt | com | rnd | off | whole | good | ents | vot | data
 deriving DecidableEq
def fieldsOf (k : Int) : List Fld :=
 if k = 1 then [.idx, .lt] else if k = 2 then [.good] else if k = 3 then [.idx, .lt, .com, .rnd, .ents] else if k = 4 then [.good, .idx, .rnd]
 else if k = 5 then [.idx, .lt, .off, .whole, .vot, .data] else if k = 6 then [.idx, .off] else []
def u64of (x : Int) : Nat := (x % 18446744073709551616).toNat
def entsOK (at' : Nat) : Nat -> List Ent -> Prop
 | _, [] => True
 | i, e :: r => e.ok /\ e.idx = (at' + i + 1) % 18446744073709551616 /\ at' <= e.idx /\ entsOK at' (i + 1) r
instance (at' : Nat) : ∀ (i : Nat) (l : List Ent), Decidable (entsOK at' i l)
 | _, [] => .isTrue trivial
 | i, e :: r => by
  have := instDecidableEntsOK at' (i + 1) r
  unfold entsOK
  infer_instance
def entsBytes : List Ent -> List UInt8
 | [] => []
 | e :: r => putBytes e.bytes ++ entsBytes r
def Fld.pok (m : Msg) : Fld -> Prop
 | .idx | .lt | .com | .rnd | .good => True
 | .off => 0 <= m.off /\ m.off <= 2097152
 | .whole => 0 <= m.whole /\ m.whole <= 2097152
 | .ents => entsOK m.idx 0 m.ents /\ m.ents.length <= 8
 | .vot => (putConf m.vot).isSome = true
 | .data => m.data.length <= 256 /\ m.off <= IntKind.i64.wrap (m.whole - m.data.length)
instance (m : Msg) (f : Fld) : Decidable (f.pok m) := by cases f <;> unfold Fld.pok <;> infer_instance
def Fld.pby (m : Msg) : Fld -> List UInt8
 | .idx => uint m.idx
 | .lt => uint m.lt
 | .com => uint m.com
 | .rnd => uint m.rnd
 | .good => [if m.good then 1 else 0]
 | .off => uint (u64of m.off)
 | .whole => uint (u64of m.whole)
 | .ents => uint m.ents.length ++ entsBytes m.ents
 | .vot => ob (putConf m.vot)
 | .data => putBytes m.data
def Fld.clr (m : Msg) : Fld -> Msg
 | .idx => { m with idx := 0 }
 | .lt => { m with lt := 0 }
 | .com => { m with com := 0 }
 | .rnd => { m with rnd := 0 }
 | .good => { m with good := false }
 | .off => { m with off := 0 }
 | .whole => { m with whole := 0 }
 | .ents => { m with ents := [] }
 | .vot => { m with vot := [] }
 | .data => { m with data := [] }
def rFail (c : Int) (s : Rd) : Rd := (s.1, if s.2 = 0 then c else s.2)
def getEnts : Nat -> Rd -> List Ent -> Rd × List Ent
 | 0, s, l => (s, l)
 | n + 1, s, l => getEnts n (rFail (ec (getEnt (rBytes 512 s).1)) (rBytes 512 s).2) (l ++ [(getEnt (rBytes 512 s).1).getD Ent.zero])
def Fld.get (s : Rd) (m : Msg) : Fld -> Rd × Msg
 | .idx => ((rUint mxU s).2, { m with idx := (rUint mxU s).1 })
 | .lt => ((rUint mxU s).2, { m with lt := (rUint mxU s).1 })
 | .com => ((rUint mxU s).2, { m with com := (rUint mxU s).1 })
 | .rnd => ((rUint mxU s).2, { m with rnd := (rUint mxU s).1 })
 | .off => ((rUint 2097152 s).2, { m with off := ((rUint 2097152 s).1 : Nat) })
 | .whole => ((rUint 2097152 s).2, { m with whole := ((rUint 2097152 s).1 : Nat) })
 | .good => (if 1 < (rByte s).1 then rFail 170 (rByte s).2 else (rByte s).2, { m with good := decide ((rByte s).1 = 1) })
 | .ents => ((getEnts (rUint 8 s).1 (rUint 8 s).2 m.ents).1, { m with ents := (getEnts (rUint 8 s).1 (rUint 8 s).2 m.ents).2 })
 | .vot => (rFail (ec (getConf [UInt8.ofNat (rByte s).1])) (rByte s).2, { m with vot := (getConf [UInt8.ofNat (rByte s).1]).getD [] })
 | .data => ((rBytes 256 s).2, { m with data := (rBytes 256 s).1 })
def getAll : List Fld -> Rd -> Msg -> Rd × Msg
 | [], s, m => (s, m)
 | f :: r, s, m => getAll r (f.get s m).1 (f.get s m).2
def clrAll : List Fld -> Msg -> Msg
 | [], m => m
 | f :: r, m => clrAll r (f.clr m)
def pbyAll (m : Msg) : List Fld -> List UInt8
 | [] => []
 | f :: r => f.pby m ++ pbyAll m r
def bareP (m : Msg) : Prop := m.idx = 0 /\ m.lt = 0 /\ m.com = 0 /\ m.rnd = 0 /\ m.good = false /\ m.off = 0 /\ m.whole = 0 /\ m.ents = [] /\ m.vot = [] /\ m.data = []
instance (m : Msg) : Decidable (bareP m) := by unfold bareP; infer_instance
def placedP (n : Int) : Prop := 0 <= n /\ n < 7
instance (n : Int) : Decidable (placedP n) := by unfold placedP; infer_instance
def hdr (m : Msg) : List UInt8 := UInt8.ofNat m.kind.toNat :: UInt8.ofNat m.frm.toNat :: UInt8.ofNat m.to.toNat :: uint m.term
def Msg.pre (m : Msg) : Prop := fieldsOf m.kind ≠ [] /\ placedP m.frm /\ placedP m.to /\ m.frm ≠ m.to /\ m.term ≠ 0
instance (m : Msg) : Decidable m.pre := by unfold Msg.pre; infer_instance
def Msg.ok (m : Msg) : Prop := m.pre /\ (∀ f ∈ fieldsOf m.kind, f.pok m) /\ bareP (clrAll (fieldsOf m.kind) m)
instance (m : Msg) : Decidable m.ok := by unfold Msg.ok; infer_instance
def Msg.body (m : Msg) : List UInt8 := hdr m ++ pbyAll m (fieldsOf m.kind)
def enc (m : Msg) : Option (List UInt8) := if m.ok then some (sealed m.body) else none
def Msg.zero : Msg := ⟨0, 0, 0, 0, 0, 0, 0, 0, false, [], 0, 0, [], []⟩
structure Msg.bd (m : Msg) : Prop where
 term : m.term <= mxU
 idx : m.idx <= mxU
 lt : m.lt <= mxU
 com : m.com <= mxU
 rnd : m.rnd <= mxU
 off : -9223372036854775808 <= m.off /\ m.off <= 9223372036854775807
 whole : -9223372036854775808 <= m.whole /\ m.whole <= 9223372036854775807
 ents : ∀ e ∈ m.ents, e.idx <= mxU /\ e.term <= mxU /\ e.data.length <= 4194304
 entsL : m.ents.length <= 4194304
 vot : ∀ v ∈ m.vot, -9223372036854775808 <= v /\ v <= 9223372036854775807
 votL : m.vot.length <= 4194304
 dataL : m.data.length <= 4194304
def hdrR (b : List UInt8) : Rd × Msg :=
 let k := rByte (b, 0)
 let f := rByte k.2
 let t := rByte f.2
 let u := rUint mxU t.2
 (u.2, { Msg.zero with kind := (k.1 : Nat), frm := (f.1 : Nat), to := (t.1 : Nat), term := u.1 })
def readR (b : List UInt8) : Rd × Msg := getAll (fieldsOf (hdrR b).2.kind) (hdrR b).1 (hdrR b).2
def dec (b : List UInt8) : Option Msg :=
 if (unsealed b).2.2 = 0 /\ (unsealed b).2.1 = b.length /\ rEnd (readR (unsealed b).1).1 = 0 /\ enc (readR (unsealed b).1).2 = some b then some (readR (unsealed b).1).2 else none
end Go.En
namespace Go.En
theorem rBytes_max (m : Int) (s : Rd) : (rBytes m s).1.length <= m.toNat := by
 obtain ⟨b, e⟩ := s
 by_cases h : (rBytes m (b, e)).2.2 = 0
 ·exact (rBytes_fin h).2.2
 ·have h1 : (rBytes m (b, e)).1 = [] := by
   unfold rBytes at h ⊢
   dsimp only at h ⊢
   split
   ·rename_i h1
    rw [if_pos h1] at h
    split
    ·rfl
    ·rename_i h2
     rw [if_neg h2] at h
     exact absurd rfl h
   ·rfl
  rw [h1]
  exact Nat.zero_le _
theorem unsealed_len (b : List UInt8) : (unsealed b).1.length <= 2097152 /\ (unsealed b).1.length <= b.length := by
 have h1 := rBytes_max 2097152 (b, 0)
 have h2 := (rBytes_bd 2097152 b 0).1
 have h3 : (2097152 : Int).toNat = 2097152 := rfl
 unfold unsealed unsealedOf
 generalize rBytes 2097152 (b, 0) = y at h1 h2
 repeat' split
 all_goals first | (simp; done) | exact ⟨h3 ▸ h1, h2⟩
theorem rByte_le (s : Rd) : (rByte s).2.1.length <= s.1.length := by
 obtain ⟨b, e⟩ := s
 unfold rByte
 dsimp only
 split
 ·cases b <;> simp
 ·exact Nat.le_refl _
theorem getEnts_len : ∀ (n : Nat) (s : Rd) (l : List Ent), (getEnts n s l).1.1.length <= s.1.length /\ (getEnts n s l).2.length = l.length + n
 | 0, s, l => ⟨Nat.le_refl _, rfl⟩
 | n + 1, s, l => by
  have h := getEnts_len n (rFail (ec (getEnt (rBytes 512 s).1)) (rBytes 512 s).2) (l ++ [(getEnt (rBytes 512 s).1).getD Ent.zero])
  have h2 := (rBytes_bd 512 s.1 s.2).2
  simp only [getEnts]
  refine ⟨Nat.le_trans h.1 h2, ?_⟩
  rw [h.2]
  simp
  omega
theorem getEnt_bd (x : List UInt8) : ((getEnt x).getD Ent.zero).idx <= mxU /\ ((getEnt x).getD Ent.zero).term <= mxU /\ ((getEnt x).getD Ent.zero).data.length <= 4194304 := by
 cases h : getEnt x with
 | none => exact ⟨Nat.zero_le _, Nat.zero_le _, Nat.zero_le _⟩
 | some e =>
  obtain ⟨h1, h2, h3⟩ := putEnt_get h
  have hok : e.ok := by
   unfold putEnt at h1
   split at h1
   ·assumption
   ·cases h1
  have := held_len hok.2.2
  exact ⟨h2, h3, by simp only [Option.getD_some]; omega⟩
theorem getEnts_mem : ∀ (n : Nat) (s : Rd) (l : List Ent), (∀ e ∈ l, e.idx <= mxU /\ e.term <= mxU /\ e.data.length <= 4194304) -> ∀ e ∈ (getEnts n s l).2, e.idx <= mxU /\ e.term <= mxU /\ e.data.length <= 4194304
 | 0, s, l, h => h
 | n + 1, s, l, h => by
  simp only [getEnts]
  refine getEnts_mem n _ _ fun e he => ?_
  rcases List.mem_append.1 he with he | he
  ·exact h e he
  ·rw [List.mem_singleton.1 he]
   exact getEnt_bd _
theorem get_len (f : Fld) (s : Rd) (m : Msg) : (f.get s m).1.1.length <= s.1.length := by
 have h1 : ∀ k, (rUint k s).2.1.length <= s.1.length := fun k => (rUint_bd k s.1 s.2).2
 have h2 := rByte_le s
 have h3 := (rBytes_bd 256 s.1 s.2).2
 cases f <;> simp only [Fld.get, rFail] <;> first
  | exact h1 _
  | exact h2
  | exact h3
  | (split <;> exact h2)
  | exact Nat.le_trans (getEnts_len _ _ _).1 (h1 _)
theorem voters_mem (n : Nat) : ∀ k, k <= 7 -> ∀ v ∈ voters n k, 0 <= v /\ v < 7 := by
 intro k hk v hv
 unfold voters at hv
 obtain ⟨w, h1, rfl⟩ := List.mem_map.1 hv
 have := List.mem_range.1 (List.mem_filter.1 h1).1
 have e : (Int.ofNat w) = (w : Int) := rfl
 omega
theorem getConf_mem (x : List UInt8) : ((getConf x).getD []).length <= 7 /\ ∀ v ∈ (getConf x).getD [], 0 <= v /\ v < 7 := by
 unfold getConf
 split
 ·split
  ·simp
  ·exact ⟨voters_len _ _, voters_mem _ 7 (Nat.le_refl _)⟩
 ·simp
theorem get_bd {f : Fld} {s : Rd} {m : Msg} (hbd : m.bd) (he : f = .ents -> m.ents = []) : (f.get s m).2.bd := by
 have h1 : (rUint mxU s).1 <= mxU := rUint_le _ _
 have h2 := rUint_le 2097152 s
 cases f
 case idx => exact { hbd with idx := h1 }
 case lt => exact { hbd with lt := h1 }
 case com => exact { hbd with com := h1 }
 case rnd => exact { hbd with rnd := h1 }
 case off => exact { hbd with off := ⟨show (-9223372036854775808 : Int) <= ((rUint 2097152 s).1 : Nat) by omega, show (((rUint 2097152 s).1 : Nat) : Int) <= 9223372036854775807 by omega⟩ }
 case whole => exact { hbd with whole := ⟨show (-9223372036854775808 : Int) <= ((rUint 2097152 s).1 : Nat) by omega, show (((rUint 2097152 s).1 : Nat) : Int) <= 9223372036854775807 by omega⟩ }
 case good => exact { hbd with }
 case ents =>
  have h3 := he rfl
  have h4 := getEnts_len (rUint 8 s).1 (rUint 8 s).2 m.ents
  have h5 := rUint_le 8 s
  rw [h3] at h4
  refine { hbd with ents := getEnts_mem _ _ _ (by rw [h3]; simp), entsL := ?_ }
  show (getEnts (rUint 8 s).1 (rUint 8 s).2 m.ents).2.length <= 4194304
  rw [h3, h4.2]
  simp only [List.length_nil]
  omega
 case vot =>
  have h3 := getConf_mem [UInt8.ofNat (rByte s).1]
  refine { hbd with vot := fun v hv => ?_, votL := ?_ }
  ·have := h3.2 v hv; omega
  ·have := h3.1; show ((getConf [UInt8.ofNat (rByte s).1]).getD []).length <= 4194304; omega
 case data =>
  have h3 := rBytes_max 256 s
  have h4 : (256 : Int).toNat = 256 := rfl
  exact { hbd with dataL := (show (rBytes 256 s).1.length <= 4194304 by omega) }
theorem get_ents {f : Fld} (h : f ≠ .ents) (s : Rd) (m : Msg) : (f.get s m).2.ents = m.ents := by
 cases f <;> first | rfl | exact absurd rfl h
theorem fields_nodup (k : Int) : (fieldsOf k).Nodup := by
 unfold fieldsOf
 repeat' split
 all_goals decide
theorem getAll_bd : ∀ {fs : List Fld} {s : Rd} {m : Msg}, fs.Nodup -> m.bd -> (.ents ∈ fs -> m.ents = []) -> (getAll fs s m).2.bd
 | [], _, _, _, h, _ => h
 | f :: fs, s, m, hn, h, he => by
  obtain ⟨hn1, hn2⟩ := List.nodup_cons.1 hn
  refine getAll_bd (fs := fs) hn2 (get_bd h fun hf => he (by simp [hf])) fun hm => ?_
  by_cases hf : f = .ents
  ·subst hf; exact absurd hm hn1
  ·rw [get_ents hf]; exact he (by simp [hm])
theorem hdrR_bd (b : List UInt8) : (hdrR b).2.bd where
 term := rUint_le _ _
 idx := Nat.zero_le _
 lt := Nat.zero_le _
 com := Nat.zero_le _
 rnd := Nat.zero_le _
 off := ⟨by show (-9223372036854775808 : Int) <= 0; decide, by show (0 : Int) <= 9223372036854775807; decide⟩
 whole := ⟨by show (-9223372036854775808 : Int) <= 0; decide, by show (0 : Int) <= 9223372036854775807; decide⟩
 ents := fun e (he : e ∈ []) => by simp at he
 entsL := Nat.zero_le _
 vot := fun e (he : e ∈ []) => by simp at he
 votL := Nat.zero_le _
 dataL := Nat.zero_le _
theorem readR_bd (b : List UInt8) : (readR b).2.bd := getAll_bd (fields_nodup _) (hdrR_bd b) (fun _ => rfl)
end Go.En
namespace Go.En
def getEnts2 : Nat -> Rd -> List Ent -> Rd × List Ent
 | 0, s, l => (s, l)
 | n + 1, s, l => getEnts2 n (rBytes 512 s).2 (l ++ [(getEnt (rBytes 512 s).1).getD Ent.zero])
def Fld.get2 (s : Rd) (m : Msg) : Fld -> Rd × Msg
 | .good => ((rByte s).2, { m with good := decide ((rByte s).1 = 1) })
 | .ents => ((getEnts2 (rUint 8 s).1 (rUint 8 s).2 []).1, { m with ents := (getEnts2 (rUint 8 s).1 (rUint 8 s).2 []).2 })
 | .vot => ((rByte s).2, { m with vot := (getConf [UInt8.ofNat (rByte s).1]).getD [] })
 | f => f.get s m
def getAll2 : List Fld -> Rd -> Msg -> Rd × Msg
 | [], s, m => (s, m)
 | f :: r, s, m => getAll2 r (f.get2 s m).1 (f.get2 s m).2
def gIf (c : Prop) [Decidable c] (fs : List Fld) (x : Rd × Msg) : Rd × Msg := if c then getAll2 fs x.1 x.2 else x
def rr1 (b : List UInt8) : Rd × Msg := gIf ((hdrR b).2.kind = 2 \/ (hdrR b).2.kind = 4) [.good] (hdrR b)
def rr2 (b : List UInt8) : Rd × Msg := gIf (¬ (hdrR b).2.kind = 2) [.idx] (rr1 b)
def rr3 (b : List UInt8) : Rd × Msg := gIf (((hdrR b).2.kind = 1 \/ (hdrR b).2.kind = 3) \/ (hdrR b).2.kind = 5) [.lt] (rr2 b)
def rr4 (b : List UInt8) : Rd × Msg := gIf ((hdrR b).2.kind = 3) [.com] (rr3 b)
def rr5 (b : List UInt8) : Rd × Msg := gIf ((hdrR b).2.kind = 3 \/ (hdrR b).2.kind = 4) [.rnd] (rr4 b)
def rr6 (b : List UInt8) : Rd × Msg := gIf ((hdrR b).2.kind = 3) [.ents] (rr5 b)
def rr7 (b : List UInt8) : Rd × Msg := gIf ((hdrR b).2.kind = 5 \/ (hdrR b).2.kind = 6) [.off] (rr6 b)
def rr8 (b : List UInt8) : Rd × Msg := gIf ((hdrR b).2.kind = 5) [.whole, .vot, .data] (rr7 b)
theorem rr_eq {b : List UInt8} (h : fieldsOf (hdrR b).2.kind ≠ []) : rr8 b = getAll2 (fieldsOf (hdrR b).2.kind) (hdrR b).1 (hdrR b).2 := by
 unfold rr8 rr7 rr6 rr5 rr4 rr3 rr2 rr1
 generalize hdrR b = x at h ⊢
 obtain ⟨s, m⟩ := x
 dsimp only at h ⊢
 generalize m.kind = k at h ⊢
 by_cases h1 : k = 1
 ·subst h1; rfl
 ·by_cases h2 : k = 2
  ·subst h2; rfl
  ·by_cases h3 : k = 3
   ·subst h3; rfl
   ·by_cases h4 : k = 4
    ·subst h4; rfl
    ·by_cases h5 : k = 5
     ·subst h5; rfl
     ·by_cases h6 : k = 6
      ·subst h6; rfl
      ·exact absurd (by simp [fieldsOf, h1, h2, h3, h4, h5, h6]) h
def Fld.set (m m' : Msg) : Fld -> Msg
 | .idx => { m' with idx := m.idx }
 | .lt => { m' with lt := m.lt }
 | .com => { m' with com := m.com }
 | .rnd => { m' with rnd := m.rnd }
 | .good => { m' with good := m.good }
 | .off => { m' with off := m.off }
 | .whole => { m' with whole := m.whole }
 | .ents => { m' with ents := m.ents }
 | .vot => { m' with vot := m.vot }
 | .data => { m' with data := m.data }
def setAll (m : Msg) : List Fld -> Msg -> Msg
 | [], m' => m'
 | f :: r, m' => setAll m r (f.set m m')
theorem getEnts_rt {a : Nat} : ∀ (l : List Ent) (i : Nat) (r : List UInt8) (l0 : List Ent), entsOK a i l -> (∀ e ∈ l, e.idx <= mxU /\ e.term <= mxU) -> getEnts l.length (entsBytes l ++ r, 0) l0 = ((r, 0), l0 ++ l)
 | [], i, r, l0, _, _ => by simp [getEnts, entsBytes]
 | e :: l, i, r, l0, h, hb => by
  obtain ⟨h1, _, _, h4⟩ := h
  have h5 := Ent.bytes_length e h1 (hb e (by simp)).1 (hb e (by simp)).2
  have h6 := getEnt_put (hb e (by simp)).1 (hb e (by simp)).2 (show putEnt e = some e.bytes from if_pos h1)
  have h7 := rBytes_put (most := 512) (x := e.bytes) (entsBytes l ++ r) (by omega) (by omega)
  simp only [List.length_cons, getEnts, entsBytes, List.append_assoc, h7, h6, Option.getD_some]
  rw [show rFail (ec (some e)) (entsBytes l ++ r, 0) = (entsBytes l ++ r, 0) from rfl, getEnts_rt l (i + 1) r _ h4 (fun x hx => hb x (by simp [hx]))]
  simp
theorem getEnts2_rt {a : Nat} : ∀ (l : List Ent) (i : Nat) (r : List UInt8) (l0 : List Ent), entsOK a i l -> (∀ e ∈ l, e.idx <= mxU /\ e.term <= mxU) -> getEnts2 l.length (entsBytes l ++ r, 0) l0 = ((r, 0), l0 ++ l)
 | [], i, r, l0, _, _ => by simp [getEnts2, entsBytes]
 | e :: l, i, r, l0, h, hb => by
  obtain ⟨h1, _, _, h4⟩ := h
  have h5 := Ent.bytes_length e h1 (hb e (by simp)).1 (hb e (by simp)).2
  have h6 := getEnt_put (hb e (by simp)).1 (hb e (by simp)).2 (show putEnt e = some e.bytes from if_pos h1)
  have h7 := rBytes_put (most := 512) (x := e.bytes) (entsBytes l ++ r) (by omega) (by omega)
  simp only [List.length_cons, getEnts2, entsBytes, List.append_assoc, h7, h6, Option.getD_some]
  rw [getEnts2_rt l (i + 1) r _ h4 (fun x hx => hb x (by simp [hx]))]
  simp
theorem u64of_small {x : Int} (h : 0 <= x /\ x <= 2097152) : u64of x <= 2097152 /\ ((u64of x : Nat) : Int) = x := by unfold u64of; omega
theorem get_rt {m m' : Msg} (f : Fld) (r : List UInt8) (hbd : m.bd) (h : f.pok m) (he : m'.ents = []) : f.get (f.pby m ++ r, 0) m' = ((r, 0), f.set m m') /\ f.get2 (f.pby m ++ r, 0) m' = ((r, 0), f.set m m') := by
 have hmx : mxU = 18446744073709551615 := rfl
 have hU : ∀ n, n <= mxU -> rUint mxU (uint n ++ r, 0) = (n, (r, 0)) := fun n hn => rUint_uint r (by omega) hn
 cases f
 case idx => simp only [Fld.pby, Fld.get, Fld.get2, Fld.set, hU _ hbd.idx, and_self]
 case lt => simp only [Fld.pby, Fld.get, Fld.get2, Fld.set, hU _ hbd.lt, and_self]
 case com => simp only [Fld.pby, Fld.get, Fld.get2, Fld.set, hU _ hbd.com, and_self]
 case rnd => simp only [Fld.pby, Fld.get, Fld.get2, Fld.set, hU _ hbd.rnd, and_self]
 case off =>
  have h1 := u64of_small h
  have h2 := rUint_uint (m := 2097152) (n := u64of m.off) r (by omega) h1.1
  simp only [Fld.pby, Fld.get, Fld.get2, Fld.set, h2, h1.2, and_self]
 case whole =>
  have h1 := u64of_small h
  have h2 := rUint_uint (m := 2097152) (n := u64of m.whole) r (by omega) h1.1
  simp only [Fld.pby, Fld.get, Fld.get2, Fld.set, h2, h1.2, and_self]
 case good =>
  cases hg : m.good <;> simp only [Fld.pby, Fld.get, Fld.get2, Fld.set, List.singleton_append, rByte_cons, hg] <;> exact ⟨rfl, rfl⟩
 case ents =>
  obtain ⟨h1, h2⟩ := h
  have h3 := rUint_uint (m := 8) (n := m.ents.length) (entsBytes m.ents ++ r) (by omega) h2
  have hb : ∀ e ∈ m.ents, e.idx <= mxU /\ e.term <= mxU := fun e he => ⟨(hbd.ents e he).1, (hbd.ents e he).2.1⟩
  simp only [Fld.pby, Fld.get, Fld.get2, Fld.set, List.append_assoc, h3, he, getEnts_rt m.ents 0 r [] h1 hb, getEnts2_rt m.ents 0 r [] h1 hb, List.nil_append, and_self]
 case vot =>
  have hs : (putConf m.vot).isSome = true := h
  obtain ⟨c, hc⟩ := Option.isSome_iff_exists.1 hs
  have h1 := getConf_put hc
  have h2 : ∃ x : UInt8, c = [x] := by
   unfold putConf at hc
   split at hc
   ·exact ⟨_, (Option.some.inj hc).symm⟩
   ·cases hc
  obtain ⟨x, rfl⟩ := h2
  have h3 : UInt8.ofNat x.toNat = x := by simp
  simp only [Fld.pby, Fld.get, Fld.get2, Fld.set, hc, ob, List.singleton_append, rByte_cons, h3, h1, Option.getD_some]
  exact ⟨rfl, trivial⟩
 case data =>
  have h1 := rBytes_put (most := 256) (x := m.data) r (by have := hbd.dataL; omega) (by have := h.1; omega)
  simp only [Fld.pby, Fld.get, Fld.get2, Fld.set, h1, and_self]
theorem set_ents {f : Fld} {m m' : Msg} (h : f ≠ .ents) : (f.set m m').ents = m'.ents := by cases f <;> first | rfl | exact absurd rfl h
theorem getAll_rt {m : Msg} (hbd : m.bd) : ∀ (fs : List Fld) (m' : Msg), fs.Nodup -> (∀ f ∈ fs, f.pok m) -> (.ents ∈ fs -> m'.ents = []) ->
  getAll fs (pbyAll m fs, 0) m' = (([], 0), setAll m fs m') /\ getAll2 fs (pbyAll m fs, 0) m' = (([], 0), setAll m fs m')
 | [], m', _, _, _ => ⟨rfl, rfl⟩
 | f :: fs, m', hn, h, he => by
  obtain ⟨hn1, hn2⟩ := List.nodup_cons.1 hn
  have hf : ∀ m'' : Msg, m''.ents = [] -> _ := fun m'' h' => get_rt (m' := m'') f (pbyAll m fs) hbd (h f (by simp)) h'
  have h1 : f.get (f.pby m ++ pbyAll m fs, 0) m' = ((pbyAll m fs, 0), f.set m m') /\ f.get2 (f.pby m ++ pbyAll m fs, 0) m' = ((pbyAll m fs, 0), f.set m m') := by
   by_cases hq : f = .ents
   ·exact hf m' (he (by simp [hq]))
   ·have h2 := hf { m' with ents := [] } rfl
    have e1 : ∀ s, f.get s m' = ((f.get s { m' with ents := [] }).1, { (f.get s { m' with ents := [] }).2 with ents := m'.ents }) := by
     intro s; cases f <;> first | rfl | exact absurd rfl hq
    have e2 : ∀ s, f.get2 s m' = ((f.get2 s { m' with ents := [] }).1, { (f.get2 s { m' with ents := [] }).2 with ents := m'.ents }) := by
     intro s; cases f <;> first | rfl | exact absurd rfl hq
    rw [e1, e2, h2.1, h2.2]
    have e3 : ({ f.set m { m' with ents := [] } with ents := m'.ents } : Msg) = f.set m m' := by cases f <;> first | rfl | exact absurd rfl hq
    dsimp only
    rw [e3]
    exact ⟨rfl, rfl⟩
  have h4 := getAll_rt hbd fs (f.set m m') hn2 (fun x hx => h x (by simp [hx])) (fun hx => by
   by_cases hq : f = .ents
   ·subst hq; exact absurd hx hn1
   ·rw [set_ents hq]; exact he (by simp [hx]))
  simp only [getAll, getAll2, pbyAll, h1.1, h1.2]
  exact h4
def baseH (m : Msg) : Msg := { Msg.zero with kind := m.kind, frm := m.frm, to := m.to, term := m.term }
theorem hdrR_rt {m : Msg} (hbd : m.bd) (hok : m.ok) : hdrR m.body = ((pbyAll m (fieldsOf m.kind), 0), baseH m) := by
 have hmx : mxU = 18446744073709551615 := rfl
 have hk : 1 <= m.kind /\ m.kind <= 6 := by
  have h := hok.1.1
  unfold fieldsOf at h
  repeat' split at h
  all_goals first | omega | exact absurd rfl h
 obtain ⟨⟨f1, f2⟩, ⟨t1, t2⟩⟩ := hok.1.2.1, hok.1.2.2.1
 obtain ⟨k, hk'⟩ : ∃ k : Nat, m.kind = (k : Nat) := Int.eq_ofNat_of_zero_le (by omega)
 obtain ⟨f, hf⟩ : ∃ k : Nat, m.frm = (k : Nat) := Int.eq_ofNat_of_zero_le (by omega)
 obtain ⟨t, ht⟩ : ∃ k : Nat, m.to = (k : Nat) := Int.eq_ofNat_of_zero_le (by omega)
 have hte := hbd.term
 have h1 := rUint_uint (m := mxU) (n := m.term) (pbyAll m (fieldsOf m.kind)) (by omega) hte
 unfold hdrR Msg.body hdr
 simp only [List.cons_append, rByte_cons, h1, baseH, hk', hf, ht]
 have e1 : (UInt8.ofNat k).toNat = k := by simp; omega
 have e2 : (UInt8.ofNat f).toNat = f := by simp; omega
 have e3 : (UInt8.ofNat t).toNat = t := by simp; omega
 have e4 : ((UInt8.ofNat m.kind.toNat).toNat : Int) = m.kind := by rw [hk']; simp; omega
 simp only [Int.toNat_natCast, e2, e3, <- hk', h1, e4]
theorem setAll_base {m : Msg} (hok : m.ok) : setAll m (fieldsOf m.kind) (baseH m) = m := by
 obtain ⟨hp, _, hb⟩ := hok
 have hk := hp.1
 obtain ⟨k, f, t, te, i, l, c, r, g, e, o, w, v, d⟩ := m
 dsimp only at hk hb ⊢
 by_cases h1 : k = 1
 ·subst h1; simp [fieldsOf, clrAll, Fld.clr, bareP] at hb; simp [fieldsOf, setAll, Fld.set, baseH, Msg.zero]; simp_all
 ·by_cases h2 : k = 2
  ·subst h2; simp [fieldsOf, clrAll, Fld.clr, bareP] at hb; simp [fieldsOf, setAll, Fld.set, baseH, Msg.zero]; simp_all
  ·by_cases h3 : k = 3
   ·subst h3; simp [fieldsOf, clrAll, Fld.clr, bareP] at hb; simp [fieldsOf, setAll, Fld.set, baseH, Msg.zero]; simp_all
   ·by_cases h4 : k = 4
    ·subst h4; simp [fieldsOf, clrAll, Fld.clr, bareP] at hb; simp [fieldsOf, setAll, Fld.set, baseH, Msg.zero]; simp_all
    ·by_cases h5 : k = 5
     ·subst h5; simp [fieldsOf, clrAll, Fld.clr, bareP] at hb; simp [fieldsOf, setAll, Fld.set, baseH, Msg.zero]; simp_all
     ·by_cases h6 : k = 6
      ·subst h6; simp [fieldsOf, clrAll, Fld.clr, bareP] at hb; simp [fieldsOf, setAll, Fld.set, baseH, Msg.zero]; simp_all
      ·exact absurd (by simp [fieldsOf, h1, h2, h3, h4, h5, h6]) hk
theorem read_rt {m : Msg} (hbd : m.bd) (hok : m.ok) : readR m.body = (([], 0), m) /\ rr8 m.body = (([], 0), m) := by
 have h1 := hdrR_rt hbd hok
 have h2 := getAll_rt hbd (fieldsOf m.kind) (baseH m) (fields_nodup _) hok.2.1 (fun _ => rfl)
 rw [setAll_base hok] at h2
 constructor
 ·unfold readR; rw [h1]; exact h2.1
 ·rw [rr_eq (by rw [h1]; exact hok.1.1), h1]; exact h2.2
theorem enc_some {m : Msg} {b : List UInt8} (h : enc m = some b) : m.ok /\ b = sealed m.body := by
 unfold enc at h
 split at h
 ·rename_i h1; exact ⟨h1, (Option.some.inj h).symm⟩
 ·cases h
theorem dec_iff (b : List UInt8) (m : Msg) (hl : ∀ m : Msg, m.bd -> m.ok -> m.body.length <= 2097152) : dec b = some m ↔ enc m = some b /\ m.bd := by
 constructor
 ·intro h
  unfold dec at h
  split at h
  ·rename_i h1
   cases h
   exact ⟨h1.2.2.2, readR_bd _⟩
  ·cases h
 ·rintro ⟨h, hbd⟩
  obtain ⟨hok, rfl⟩ := enc_some h
  have h1 : unsealed (sealed m.body) = (m.body, (sealed m.body).length, 0) := by
   have := unsealed_sealed (b := m.body) [] (hl m hbd hok)
   rwa [List.append_nil] at this
  unfold dec
  rw [h1]
  dsimp only
  rw [(read_rt hbd hok).1]
  exact if_pos ⟨rfl, rfl, rfl, h⟩
end Go.En
end
section
namespace Go.Proofs.YtejkjbkodcamoaaGreatDoor
open Go.En
def T : Tab := {
 kinds := [(1, .fn), (2, .int .i64), (3, .int .i64), (4, .bool), (5, .int .u8), (6, .int .u8), (9, .str), (10, .str), (11, .str), (12, .int .u64), (15, .ptr), (16, .ptr), (17, .ptr), (21, .int .i32), (22, .slice), (23, .int .u64), (24, .ptr), (25, .fn), (26, .slice), (27, .slice), (32, .slice), (33, .int .i64), (35, .fn), (38, .fn), (39, .slice), (40, .slice), (44, .fn), (46, .fn), (50, .fn), (51, .fn), (52, .fn), (53, .fn), (54, .fn), (55, .ptr), (56, .fn), (57, .ptr), (58, .fn), (61, .fn), (62, .fn), (63, .slice), (64, .fn), (65, .fn), (66, .fn), (67, .fn), (68, .fn), (72, .ptr), (73, .fn), (74, .fn), (76, .fn), (77, .ptr), (78, .fn), (79, .fn), (80, .fn), (81, .fn), (82, .fn), (83, .fn), (84, .fn), (88, .fn), (89, .fn), (90, .fn), (91, .fn), (93, .fn), (95, .fn), (97, .fn), (98, .fn), (102, .fn), (103, .slice), (106, .int .u64), (107, .fn), (108, .fn), (109, .fn), (110, .fn), (111, .fn), (112, .int .u32), (113, .fn), (116, .fn), (118, .fn), (119, .fn), (121, .fn), (122, .fn), (123, .fn), (124, .ptr), (127, .fn), (129, .fn), (130, .fn), (131, .fn), (132, .fn), (133, .fn), (134, .fn), (135, .slice), (139, .fn), (141, .fn), (142, .ptr), (143, .fn), (145, .fn), (146, .ptr), (147, .fn), (151, .fn), (152, .slice), (154, .fn), (155, .fn), (156, .fn), (157, .fn), (158, .fn), (159, .fn), (160, .fn), (163, .fn), (164, .fn), (165, .slice), (168, .ptr), (169, .map), (170, .map), (173, .fn), (174, .fn), (175, .slice), (178, .fn), (181, .fn), (183, .fn), (184, .fn), (185, .fn), (186, .fn), (188, .fn), (189, .fn), (190, .fn), (191, .slice), (192, .fn), (193, .fn), (194, .fn), (196, .fn), (197, .fn), (198, .slice), (199, .map), (200, .fn), (204, .fn), (206, .fn), (207, .fn), (208, .fn), (209, .fn), (210, .fn), (212, .fn), (213, .fn), (214, .fn), (215, .fn), (216, .fn), (219, .fn), (220, .fn), (221, .fn), (222, .slice), (223, .fn), (224, .fn), (225, .fn), (226, .fn), (232, .int .u8), (233, .int .u8), (234, .fn), (235, .ptr), (236, .int .i32), (237, .int .i32)],
 flds := [(448, 0), (449, 1), (450, 2), (451, 3), (512, 0), (513, 1), (514, 2), (515, 3), (832, 0), (833, 1), (896, 0), (897, 1), (1152, 0), (1216, 0), (1792, 0), (1793, 1), (1856, 0), (1857, 1), (1920, 0), (1921, 1), (1922, 2), (1923, 3), (1924, 4), (1984, 0), (1985, 1), (1986, 2), (1987, 3), (1988, 4), (2304, 0), (2305, 1), (2306, 2), (2307, 3), (2368, 0), (2369, 1), (2370, 2), (2371, 3), (2624, 0), (2625, 1), (2626, 2), (2627, 3), (2628, 4), (2629, 5), (2630, 6), (2631, 7), (2632, 8), (2633, 9), (2634, 10), (2635, 11), (2636, 12), (2637, 13), (2688, 0), (2689, 1), (2690, 2), (2691, 3), (2692, 4), (2693, 5), (2694, 6), (2695, 7), (2696, 8), (2697, 9), (2698, 10), (2699, 11), (2700, 12), (2701, 13), (3008, 0), (3009, 1), (3010, 2), (3072, 0), (3073, 1), (3074, 2), (3776, 0), (3777, 1), (3840, 0), (3841, 1), (4416, 0), (4417, 1), (4418, 2), (4480, 0), (4481, 1), (4482, 2), (5440, 0), (5441, 1), (5504, 0), (5505, 1), (6336, 0), (6337, 1), (6400, 0), (6401, 1), (6656, 0), (6720, 0), (7296, 0), (7297, 1), (7360, 0), (7361, 1), (8000, 0), (8001, 1), (8002, 2), (8064, 0), (8065, 1), (8066, 2), (8192, 0), (8193, 1), (8704, 0), (8705, 1), (8768, 0), (8769, 1), (9472, 0), (9536, 0), (10304, 0), (10305, 1), (10306, 2), (10368, 0), (10369, 1), (10370, 2), (10624, 0), (10625, 1), (10688, 0), (10689, 1), (10944, 0), (10945, 1), (10946, 2), (11008, 0), (11009, 1), (11010, 2), (11264, 0), (11265, 1), (11266, 2), (11328, 0), (11329, 1), (11330, 2), (11456, 0), (11457, 1), (11458, 2), (11520, 0), (11521, 1), (11522, 2), (12864, 0), (12865, 1), (12866, 2), (12928, 0), (12929, 1), (12930, 2), (13888, 0), (13889, 1), (13890, 2), (13891, 3), (13892, 4), (13893, 5), (13952, 0), (13953, 1), (13954, 2), (13955, 3), (13956, 4), (13957, 5), (14528, 0), (14529, 1), (14530, 2), (14531, 3), (14592, 0), (14593, 1), (14594, 2), (14595, 3), (15232, 0), (15233, 1), (15234, 2), (15235, 3), (15236, 4), (15237, 5), (15238, 6), (15239, 7), (15240, 8), (15241, 9), (15242, 10), (15296, 0), (15297, 1), (15298, 2), (15299, 3), (15300, 4), (15301, 5), (15302, 6), (15303, 7), (15304, 8), (15305, 9), (15306, 10)],
 sls := [(22, ⟨31, 5, 48, .agg #[.int .i64 0, .int .u64 0, .int .u64 0, .string ⟨#[]⟩, .int .i64 0]⟩),
  (26, ⟨100, 2, 24, .agg #[.string ⟨#[]⟩, .int .i64 0]⟩),
  (27, ⟨86, 4, 32, .agg #[.int .u64 0, .int .i64 0, .int .u64 0, .int .i64 0]⟩),
  (32, ⟨5, 1, 1, .int .u8 0⟩),
  (39, ⟨37, 4, 48, .agg #[.int .u64 0, .int .u64 0, .int .i64 0, .slice none 0 0]⟩),
  (40, ⟨3, 1, 8, .int .i64 0⟩),
  (63, ⟨70, 3, 24, .agg #[.nilFunc, .nilFunc, .nilFunc]⟩),
  (103, ⟨128, 4, 32, .agg #[.int .u64 0, .int .i64 0, .int .u64 0, .int .i64 0]⟩),
  (135, ⟨177, 3, 40, .agg #[.bool false, .int .i64 0, .slice none 0 0]⟩),
  (152, ⟨21, 1, 4, .int .i32 0⟩),
  (165, ⟨167, 2, 32, .agg #[.slice none 0 0, .int .i64 0]⟩),
  (175, ⟨180, 3, 24, .agg #[.int .i32 0, .int .i64 0, .int .i64 0]⟩),
  (191, ⟨26, 1, 24, .slice none 0 0⟩),
  (198, ⟨202, 3, 24, .agg #[.int .i64 0, .int .i64 0, .int .i64 0]⟩),
  (222, ⟨4, 1, 1, .bool false⟩)] }
theorem hT : TabOK Tryz.prog T where
 kinds := by kernel_rfl
 flds := by kernel_rfl
 sls := by kernel_rfl
end Go.Proofs.YtejkjbkodcamoaaGreatDoor
end
section
namespace Go.Proofs.YtejkjbkodcamoaaGreatDoor
open Go.En
attribute [local irreducible] Code.wp wpList Calls
theorem putUint {w0 : World} {K h : PH} {R : List PH} (ao : Option Addr) (c1 : Nat) (bs : List UInt8) (n : Nat) (o : Own h ao bs.length c1 5 1 (bv bs)) (hn : n < 18446744073709551616) (hb : bs.length < 1099511627776) :
  Ct Tryz.prog w0 16 [.slice ao bs.length c1, .int .u64 (n : Nat)] K (h :: R)
   (fun v K' hs' => ∃ h', hs' = h' :: R /\ K' = K /\ ∃ ao' c', v = .slice ao' (bs ++ uint n).length c' /\ Own h' ao' (bs ++ uint n).length c' 5 1 (bv (bs ++ uint n))) := by
 refine enter Tryz.func16 (by kernel_rfl) rfl rfl rfl ?_
 refine sq (rg ?_)
 refine fin hT 1 rfl (th ?_)
 refine sq (bk ?_)
 refine loop (σ := List UInt8 × Nat × Option Addr × Nat × PH) (fun x => [(0, .slice x.2.2.1 x.1.length x.2.2.2.1), (1, .int .u64 (x.2.1 : Nat)), (4, .slice none 0 0)]) (fun _ => K) (fun x => x.2.2.2.2 :: R)
  (fun x => Own x.2.2.2.2 x.2.2.1 x.1.length x.2.2.2.1 5 1 (bv x.1) /\ x.1 ++ uint x.2.1 = bs ++ uint n /\ x.2.1 < 18446744073709551616) (fun x => x.2.1) (bs, n, ao, c1, h) ⟨o, rfl, hn⟩ ⟨rfl, rfl, rfl, trivial⟩ rfl rfl ?_
 rintro ⟨bs', m, ao', c', h'⟩ ⟨o', heq, hm⟩
 dsimp only at o' heq hm ⊢
 have hbs : bs'.length <= bs.length + 10 := by
  have h1 := congrArg List.length heq
  have h2 := uint_le10 hn
  simp at h1
  omega
 refine sq (sq (rg ?_))
 refine cmp hT 1 rfl (fun h1 => ?_) (fun h1 => ?_)
 ·refine fin hT 0 rfl (th (ifT rfl (sk (th (bk (sq (rg ?_)))))))
  refine ar hT 2 rfl (u8m m) ?_
  refine ar hT 0 rfl (v' := .int .u8 ((m % 128 + 128 : Nat) : Int)) (u8or128 m) ?_
  refine lit hT 0 #[.int .u8 ((m % 128 + 128 : Nat) : Int)] rfl (by decide) (by kernel_rfl) fun b => ?_
  refine app hT 0 1 rfl rfl o' (.inr ⟨0, rfl⟩) (isS_byte b (m % 128 + 128) (by omega)) rfl (by decide) (bv_one _) (by simp; omega) (by simp [maxLen]; omega) fun ao2 c2 h2 o2 => ?_
  refine fin hT 1 rfl (th (rg ?_))
  refine ar hT 1 rfl (v' := .int .u64 ((m / 128 : Nat) : Int)) (u64shr7 m) ?_
  refine fin hT 1 rfl (bl ?_)
  refine WQ.drop ?_
  rw [<- bv_append] at o2
  have e1 : (bs' ++ [UInt8.ofNat (m % 128 + 128)]).length = bs'.length + 1 := by simp
  rw [<- e1] at o2
  have e2 := uint_ge (n := m) (by omega)
  exact again (x := (bs', m, ao', c', h')) (bs' ++ [UInt8.ofNat (m % 128 + 128)], m / 128, ao2, c2, h2) ⟨by rw [<- e1]; rfl, rfl, rfl, trivial⟩ rfl rfl
   ⟨o2, by simp only [List.append_assoc, List.singleton_append]; rw [<- e2]; exact heq, by dsimp only; omega⟩ (by dsimp only; omega)
 ·refine fin hT 0 rfl (th (ifF rfl (ex (xt (xt (xb (th (sq (rg ?_)))))) )))
  have hlt : m < 128 := by omega
  refine ar hT 2 rfl (u8m m) ?_
  refine lit hT 0 #[.int .u8 ((m % 256 : Nat) : Int)] rfl (by decide) (by kernel_rfl) fun b => ?_
  refine app hT 0 1 rfl rfl o' (.inr ⟨0, rfl⟩) (isS_byte b (m % 256) (by omega)) rfl (by decide) (bv_one _) (by simp; omega) (by simp [maxLen]; omega) fun ao2 c2 h2 o2 => ?_
  refine fin hT 1 rfl (th (WC.drop (rt ?_)))
  rw [<- bv_append] at o2
  have e1 : m % 256 = m := by omega
  have e2 : bs' ++ [UInt8.ofNat (m % 256)] = bs ++ uint n := by rw [e1, <- heq, uint_lt hlt]
  have e3 : bs'.length + 1 = (bs ++ uint n).length := by rw [<- e2]; simp
  rw [e2, e3] at o2
  exact ret1 rfl (by rw [<- e3]; rfl) ⟨h2, rfl, rfl, ao2, c2, rfl, o2⟩
theorem sumC {w0 : World} {K hb : PH} {hs : List PH} (ao : Option Addr) (cap : Nat) (b : List UInt8) (hm : In K hs hb) (x : IsS hb ao b.length cap 1 (bv b)) (hl : b.length < 1099511627776) :
  Ct Tryz.prog w0 51 [.slice ao b.length cap] K hs (fun v K' hs' => K' = K /\ hs' = hs /\ v = .int .u32 ((crc b).toNat : Nat)) := by
 refine enter Tryz.func51 (by kernel_rfl) rfl rfl rfl ?_
 refine sq (rg ?_)
 refine fin hT 1 rfl (th (sq (rg ?_)))
 refine fin hT 1 rfl (th (sq (sq (rg ?_))))
 refine fin hT 3 rfl (th (bk ?_))
 refine loop (σ := Nat) (fun j => [(6, .slice ao b.length cap), (7, .int .i64 (b.length : Nat)), (8, .int .i64 (j : Nat)), (3, .int .u32 ((crcRaw 4294967295#32 (b.take j)).toNat : Nat))]) (fun _ => K) (fun _ => hs) (fun j => j <= b.length) (fun j => b.length - j)
  0 (Nat.zero_le _) ⟨rfl, rfl, rfl, rfl, trivial⟩ rfl rfl ?_
 intro j hj
 refine sq (rg ?_)
 refine cmp hT 0 rfl (fun h1 => ?_) (fun h1 => ?_)
 ·have hlt : j < b.length := by omega
  refine fin hT 0 rfl (th (sq (ifT rfl (sk (th (sq (bk (sq (rg ?_)))))))))
  refine ix1 hT 0 j rfl rfl rfl x (bv_get hlt) fun a10 hc10 => ?_
  refine ld hT 0 rfl hm hc10 ?_
  refine fin hT 1 rfl (th (sq (rg ?_)))
  refine ar hT 2 rfl (u32ofByte _) ?_
  refine ar hT 0 rfl (u32xor _ _) ?_
  refine fin hT 1 rfl (th (sq (rg ?_)))
  refine fin hT 1 rfl (th (bk ?_))
  refine loop (σ := Nat) (fun i => [(16, .int .i64 (i : Nat)), (3, .int .u32 ((crcBits i (crcRaw 4294967295#32 (b.take j) ^^^ BitVec.ofNat 32 b[j].toNat)).toNat : Nat)), (6, .slice ao b.length cap), (7, .int .i64 (b.length : Nat)), (8, .int .i64 (j : Nat))]) (fun _ => K) (fun _ => hs) (fun i => i <= 8) (fun i => 8 - i)
   0 (Nat.zero_le _) ⟨rfl, rfl, rfl, rfl, rfl, trivial⟩ rfl rfl ?_
  intro i hi
  refine sq (rg ?_)
  refine cmp hT 0 rfl (fun h2 => ?_) (fun h2 => ?_)
  ·refine fin hT 0 rfl (th (sq (ifT rfl (sk (th (sq (bk (rg ?_))))))))
   refine ar hT 1 rfl (u32shr1 _) ?_
   refine ar hT 1 rfl (u32and1 _) ?_
   refine ar hT 0 rfl (u32neg _) ?_
   refine ar hT 0 rfl (u32andP _) ?_
   refine ar hT 0 rfl (u32xor _ _) ?_
   refine fin hT 1 rfl (bl (th (rg ?_)))
   refine ar hT 0 rfl (i64w (by omega)) ?_
   refine fin hT 1 rfl ?_
   exact again (x := i) (i + 1) ⟨rfl, by rw [crcBits_succ]; rfl, rfl, rfl, rfl, trivial⟩ rfl rfl (by omega) (by omega)
  ·obtain rfl : i = 8 := by omega
   refine fin hT 0 rfl (th (sq (ifF rfl (ex (xt (xt (xb (bl (th (rg ?_))))))))))
   refine ar hT 0 rfl (i64w (by omega)) ?_
   refine fin hT 1 rfl ?_
   exact again (x := j) (j + 1) ⟨rfl, rfl, rfl, by rw [take_succ_get b j hlt, crcRaw_snoc]; rfl, trivial⟩ rfl rfl (by omega) (by omega)
 ·obtain rfl : j = b.length := by omega
  refine fin hT 0 rfl (th (sq (ifF rfl (ex (xt (xt (xb (th (sq (rg ?_))))))))))
  refine ar hT 1 rfl (u32not _) ?_
  refine fin hT 1 rfl (th (rt ?_))
  exact ret1 rfl rfl ⟨rfl, rfl, by rw [List.take_length]; rfl⟩
end Go.Proofs.YtejkjbkodcamoaaGreatDoor
end
section
namespace Go.Proofs.YtejkjbkodcamoaaGreatDoor
open Go.En
attribute [local irreducible] Code.wp wpList Calls
theorem cloneB {w0 : World} {K hb : PH} {hs : List PH} (ao : Option Addr) (cap : Nat) (b : List UInt8) (hm : In K hs hb) (x : IsS hb ao b.length cap 1 (bv b)) (hl : b.length < 1099511627776) :
  Ct Tryz.prog w0 52 [.slice ao b.length cap] K hs
   (fun v K' hs' => K' = K /\ ∃ h' ao' c', hs' = h' :: hs /\ v = .slice ao' b.length c' /\ Own h' ao' b.length c' 5 1 (bv b)) := by
 refine enter Tryz.func52 (by kernel_rfl) rfl rfl rfl ?_
 refine sq (rg ?_)
 refine fin hT 1 rfl (th (sq (sq (rg ?_))))
 refine cb hT 1 rfl (fun h1 => ?_) (fun h1 => ?_)
 ·have hao : ao = none := by simpa using h1
  subst hao
  have hb0 : b = [] := by
   cases b with
   | nil => rfl
   | cons c r => obtain ⟨a, ha, _⟩ := x.2.2 0 _ (by simp [bv]; rfl); cases ha
  subst hb0
  refine fin hT 0 rfl (th (ifT rfl (sq (rg ?_))))
  refine fin hT 1 rfl (th (rt (rT (WQ.em ?_))))
  exact ret1 rfl rfl ⟨rfl, em, none, 0, rfl, rfl, Own.nil _ _⟩
 ·refine fin hT 0 rfl (th (ifF rfl (sk (th (sq (rg ?_))))))
  refine lit hT 0 #[] rfl (by decide) (by kernel_rfl) fun b5 => ?_
  refine app hT 1 0 rfl rfl (Own.ofPt (c := #[]) (n := 0) (by simp) (by simp [maxLen])) (In.cons hm) x rfl (by decide) (bv_one _) (by simp; omega) (by simp [maxLen]; omega) fun ao7 c7 g7 o7 => ?_
  refine fin hT 1 rfl (th (rt ?_))
  have e : 0 + b.length = b.length := Nat.zero_add _
  rw [e] at o7
  exact ret1 rfl (by rw [e]; rfl) ⟨rfl, g7, ao7, c7, rfl, rfl, o7⟩
theorem numberC {w0 : World} {K hb : PH} {hs : List PH} (ao : Option Addr) (cap : Nat) (b : List UInt8) (hm : In K hs hb) (x : IsS hb ao b.length cap 1 (bv b)) (hl : b.length < 1099511627776) :
  Ct Tryz.prog w0 53 [.slice ao b.length cap] K hs
   (fun v K' hs' => K' = K /\ hs' = hs /\ v = .tuple #[.int .u64 ((number 0 0 b).1 : Nat), .int .i64 ((number 0 0 b).2.1 : Nat), .int .i64 (number 0 0 b).2.2]) := by
 refine enter Tryz.func53 (by kernel_rfl) rfl rfl rfl ?_
 refine sq (rg ?_)
 refine fin hT 3 rfl (th (sq (rg ?_)))
 refine fin hT 1 rfl (th (sq (sq (rg ?_))))
 refine fin hT 3 rfl (th (bk ?_))
 refine loop (σ := Nat × Nat) (fun s => [(5, .int .u64 (s.2 : Nat)), (8, .slice ao b.length cap), (9, .int .i64 (b.length : Nat)), (10, .int .i64 (s.1 : Nat))]) (fun _ => K) (fun _ => hs)
  (fun s => s.1 <= b.length /\ s.1 <= 9 /\ s.2 < 128 ^ s.1 /\ number s.1 s.2 (b.drop s.1) = number 0 0 b) (fun s => b.length - s.1) (0, 0) ⟨Nat.zero_le _, by omega, by simp, rfl⟩ ⟨rfl, rfl, rfl, rfl, trivial⟩ rfl rfl ?_
 rintro ⟨i, acc⟩ ⟨hi, hi9, hacc, hnum⟩
 dsimp only at hi hi9 hacc hnum ⊢
 refine sq (rg ?_)
 refine cmp hT 0 rfl (fun h1 => ?_) (fun h1 => ?_)
 ·have hlt : i < b.length := by omega
  have hd : b.drop i = b[i] :: b.drop (i + 1) := List.drop_eq_getElem_cons hlt
  rw [hd] at hnum
  have hc := b[i].toNat_lt
  generalize hcc : b[i] = c at *
  have hm128 : c.toNat % 128 < 128 := Nat.mod_lt _ (by decide)
  rw [number_cons] at hnum
  refine fin hT 0 rfl (th (sq (ifT rfl (sk (th (sq (bk (sq (rg ?_)))))))))
  refine ix1 hT 1 i rfl rfl rfl x (by rw [bv_get hlt, hcc]) fun a13 hc13 => ?_
  refine ld hT 0 rfl hm hc13 ?_
  refine fin hT 2 rfl (th (sq (sq (rg ?_))))
  refine cmp hT 1 rfl (fun h2 => ?_) (fun h2 => ?_)
  ·refine cmp hT 2 rfl (fun h3 => ?_) (fun h3 => ?_)
   ·rw [if_pos ⟨by omega, by omega⟩] at hnum
    refine fin hT 1 rfl (th (ifT rfl (sq (rg ?_))))
    refine fin hT 3 rfl (th (rt (rT (rB (rT (rT (rB (rT ?_))))))))
    exact ret3 rfl rfl rfl rfl ⟨rfl, rfl, by rw [<- hnum]; rfl⟩
   ·rw [if_neg (by omega), if_neg (by omega)] at hnum
    have hb1 := mul_pow_lt hi9 hacc hm128 (by omega)
    refine fin hT 1 rfl (th (ifF rfl (sk (th (sq (rg ?_))))))
    refine ar hT 2 rfl (u8and127 _) ?_
    refine ar hT 0 rfl (u64w (by omega)) ?_
    refine ar hT 1 rfl (i64w (by omega)) ?_
    refine shf hT 0 rfl (by omega) (.inl ⟨rfl, u64shl7 _ _ hi9 (by omega)⟩) ?_
    refine ar hT 0 rfl (u64or _ _ _ hacc hb1.1) ?_
    refine fin hT 1 rfl (th (sq (sq (rg ?_))))
    refine cmp hT 1 rfl (fun h4 => absurd h4 (by omega)) (fun h4 => ?_)
    refine fin hT 0 rfl (th (ifF rfl (sk (th (sq (sq (rg ?_)))))))
    refine cmp hT 1 rfl (fun h5 => ?_) (fun h5 => ?_)
    ·refine cmp hT 2 rfl (fun h6 => ?_) (fun h6 => absurd h6 (by omega))
     rw [if_pos ⟨by omega, by omega⟩] at hnum
     refine fin hT 1 rfl (th (ifT rfl (sq (rg ?_))))
     refine fin hT 3 rfl (th (rt (rT (rB (rT (rT (rB (rT ?_))))))))
     exact ret3 rfl rfl rfl rfl ⟨rfl, rfl, by rw [<- hnum]; rfl⟩
    ·rw [if_neg (by omega)] at hnum
     refine fin hT 4 rfl (th (ifF rfl (sk (th (sq (rg ?_))))))
     refine ar hT 2 rfl (i64w (by omega)) ?_
     refine fin hT 3 rfl (th (rt (rB (rT (rT (rB (rT ?_)))))))
     exact ret3 rfl rfl rfl rfl ⟨rfl, rfl, by rw [<- hnum]; rfl⟩
  ·rw [if_neg (by omega)] at hnum
   have hb1 := mul_pow_lt hi9 hacc hm128 (by omega)
   refine fin hT 4 rfl (th (ifF rfl (sk (th (sq (rg ?_))))))
   refine ar hT 2 rfl (u8and127 _) ?_
   refine ar hT 0 rfl (u64w (by omega)) ?_
   refine ar hT 1 rfl (i64w (by omega)) ?_
   refine shf hT 0 rfl (by omega) (.inl ⟨rfl, u64shl7 _ _ hi9 (by omega)⟩) ?_
   refine ar hT 0 rfl (u64or _ _ _ hacc hb1.1) ?_
   refine fin hT 1 rfl (th (sq (sq (rg ?_))))
   refine cmp hT 1 rfl (fun h7 => ?_) (fun h7 => ?_)
   ·rw [if_pos (by omega)] at hnum
    refine fin hT 0 rfl (th (ifT rfl (ex (xt (xb (th (rg ?_)))))))
    refine ar hT 0 rfl (i64w (by omega)) ?_
    refine fin hT 1 rfl ?_
    exact again (x := (i, acc)) (i + 1, acc + c.toNat % 128 * 128 ^ i) ⟨rfl, rfl, rfl, rfl, trivial⟩ rfl rfl ⟨by dsimp only; omega, by dsimp only; omega, hb1.2 (by omega), hnum⟩ (by dsimp only; omega)
   ·rw [if_neg (by omega)] at hnum
    refine fin hT 0 rfl (th (ifF rfl (sk (th (sq (sq (rg ?_)))))))
    refine cmp hT 1 rfl (fun h8 => ?_) (fun h8 => ?_)
    ·refine cmp hT 2 rfl (fun h9 => ?_) (fun h9 => ?_)
     ·rw [if_pos ⟨by omega, by omega⟩] at hnum
      refine fin hT 1 rfl (th (ifT rfl (sq (rg ?_))))
      refine fin hT 3 rfl (th (rt (rT (rB (rT (rT (rB (rT ?_))))))))
      exact ret3 rfl rfl rfl rfl ⟨rfl, rfl, by rw [<- hnum]; rfl⟩
     ·rw [if_neg (by omega)] at hnum
      refine fin hT 1 rfl (th (ifF rfl (sk (th (sq (rg ?_))))))
      refine ar hT 2 rfl (i64w (by omega)) ?_
      refine fin hT 3 rfl (th (rt (rB (rT (rT (rB (rT ?_)))))))
      exact ret3 rfl rfl rfl rfl ⟨rfl, rfl, by rw [<- hnum]; rfl⟩
    ·rw [if_neg (by omega)] at hnum
     refine fin hT 4 rfl (th (ifF rfl (sk (th (sq (rg ?_))))))
     refine ar hT 2 rfl (i64w (by omega)) ?_
     refine fin hT 3 rfl (th (rt (rB (rT (rT (rB (rT ?_)))))))
     exact ret3 rfl rfl rfl rfl ⟨rfl, rfl, by rw [<- hnum]; rfl⟩
 ·obtain rfl : i = b.length := by omega
  refine fin hT 0 rfl (th (sq (ifF rfl (ex (xt (xt (xb (th (sq (rg ?_))))))))))
  refine fin hT 3 rfl (th (rt ?_))
  exact ret3 rfl rfl rfl rfl ⟨rfl, rfl, by rw [<- hnum, List.drop_length]; rfl⟩
end Go.Proofs.YtejkjbkodcamoaaGreatDoor
end
