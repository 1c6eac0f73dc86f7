/-
  Ranges over functions: the control rules once more, for activations that hold marks and for a loop's rounds; iterators.
-/
import Derived.Test.YtlnhbilpkcfdlaaDoorEx
import Derived.RangeFuncRecord
import Derived.Sort.LoopGhostIn
import Derived.OrdersIn
set_option linter.unusedSimpArgs false
set_option linter.unusedVariables false
namespace Go.En
set_option linter.unusedVariables false

def fz (r : Option Nat) : Fence := { fn := fun _ => True, depth := none, alive := false, round := r }
theorem fz_none : fz none = Fence.wide := rfl
def wd (ds : List Deferred) (a : Act) : Act := { a with defers := ds }
def adj (ds : List Deferred) (Q : Exit → Act → World → Prop) : Exit → Act → World → Prop
  | .outgrown, _, _ => False
  | e, a, w => a.defers = [] ∧ Q e (wd ds a) w
def WX (P : Program) (w0 : World) (r : Option Nat) (ds : List Deferred) (c : Code) (Q : Exit → Act → World → Prop) (n : Nat) (l : Sl) (K : PH) (hs : List PH) : Prop :=
  ∀ a w, Ag n l a → Sat w0 w K hs → c.wpIn (fz r) 0 P Q (wd ds a) w
def WQX (ds : List Deferred) (w0 : World) (Q : Exit → Act → World → Prop) (e : Exit) (n : Nat) (l : Sl) (K : PH) (hs : List PH) : Prop :=
  ∀ a w, Ag n l a → Sat w0 w K hs → Q e (wd ds a) w
def WLI (P : Program) (w0 : World) (r : Option Nat) (ds : List Deferred) (ops : Array Oper) (Q : Exit → Act → World → Prop) (rest : List Oper) (n : Nat) (l : Sl) (K : PH) (hs : List PH) : Prop :=
  ∀ a w, Ag n l a → Sat w0 w K hs → wpListIn (fz r) 0 P ops Q rest (wd ds a) w

/-! From the plain steps of a region to those within a round, or behind a mark. -/
theorem wd_put (ds : List Deferred) (a : Act) (d : Option Tmp) (v : Value) : wd ds (a.put d v) = (wd ds a).put d v := by cases d <;> rfl
theorem calls_fz {r : Option Nat} {P : Program} {f : FuncId} {args : Array Value} {w : World} {R : Ending → World → Prop} (h : Calls P f args w R) : CallsIn (fz r) 0 P f args w R := by
  have h1 : CallsIn Fence.wide 0 P f args w R := callsIn_wide.2 h
  cases r with
  | none => exact h1
  | some l => exact h1
theorem rows_fz {r : Option Nat} {P : Program} {row : String} {args : Array Value} {w : World} {R : Value → World → Prop} (h : Rows P row args w R) : RowsIn (fz r) 0 P row args w R :=
  fun c cs _ => let ⟨v, w', hr, s⟩ := h c cs; ⟨v, w', hr, (stepsIn_wide.2 s : StepsIn (Machine.fenced P Fence.wide) P _ _)⟩
theorem adj_d {ds : List Deferred} {Q : Exit → Act → World → Prop} {e : Exit} {a : Act} {w : World} (h : adj ds Q e a w) : a.defers = [] := by cases e <;> first | exact h.1 | exact h.elim
theorem put_d (a : Act) (d : Option Tmp) (v : Value) : (a.put d v).defers = a.defers := by cases d <;> rfl
theorem upon_d {P : Program} {o : Oper} {a : Act} {N : Act → World → Prop} {Q : Exit → Act → World → Prop} (hN : ∀ a w, N a w → a.defers = []) (hQ : ∀ e a w, Q e a w → a.defers = []) (hg : ∀ a w, ¬ Q .outgrown a w) {x : Result Next} (h : o.upon P a N Q x) : a.defers = [] := by
  cases x with
  | ok n w' =>
    cases n <;> simp only [Oper.upon] at h <;> first
      | exact (put_d _ _ _).symm.trans (hN _ _ h)
      | exact h.elim
      | (have := hN _ _ h
         rw [put_d] at this
         cases this)
      | (obtain ⟨v, w1, hR, _⟩ := h default []
         exact (put_d _ _ _).symm.trans (hN _ _ hR))
      | (obtain ⟨e, w1, fr, hR, _⟩ := h []
         cases e with
         | returned v => exact (put_d _ _ _).symm.trans (hN _ _ hR)
         | panicked c => exact hQ _ _ _ hR
         | outgrown => obtain ⟨a1, w1, hh⟩ := hR; exact (hg _ _ hh).elim)
  | halt x w' =>
    cases x <;> simp only [Oper.upon] at h <;> first
      | exact h.elim
      | exact hQ _ _ _ h
theorem upon_fz {r : Option Nat} {P : Program} {o : Oper} {a : Act} {ds : List Deferred} {N N' : Act → World → Prop} {Q Q' : Exit → Act → World → Prop} (hd : ∀ a w, N a w → a.defers = []) (hN : ∀ a w, N a w → N' (wd ds a) w) (hQ : ∀ c w, Q (.panic c) a w → Q' (.panic c) (wd ds a) w)
    (hg : ∀ a w, ¬ Q .outgrown a w) {x : Result Next} (h : o.upon P a N Q x) : o.uponIn (fz r) 0 P (wd ds a) N' Q' x := by
  cases x with
  | ok n w' =>
    cases n <;> simp only [Oper.upon] at h <;> first
      | (simp only [Oper.uponIn, ← wd_put]; exact hN _ _ h)
      | exact h.elim
      | (have := hd _ _ h
         rw [put_d] at this
         cases this)
      | (refine ⟨by simp [fz], (rows_fz h).mono fun v w'' he => ?_⟩
         simp only [← wd_put]; exact hN _ _ he)
      | (refine ⟨by simp [fz], (calls_fz h).mono fun e w'' he => ?_⟩
         cases e with
         | returned v => simp only [← wd_put]; exact hN _ _ he
         | panicked c => exact hQ _ _ he
         | outgrown => obtain ⟨a1, w1, hh⟩ := he; exact (hg _ _ hh).elim)
  | halt x w' =>
    cases x <;> simp only [Oper.upon] at h ⊢ <;> first
      | exact h.elim
      | exact hQ _ _ h
theorem wpList_d {P : Program} {ops : Array Oper} {ds : List Deferred} {Q : Exit → Act → World → Prop} : ∀ (rest : List Oper) (a : Act) (w : World), wpList P ops (adj ds Q) rest a w → a.defers = []
  | [], a, w, h => adj_d h
  | o :: rest, a, w, h => by
    unfold wpList at h
    split at h
    · rcases h with h | ⟨_, a1, w1, h⟩
      · exact upon_d (Q := adj ds Q) (fun a w => wpList_d rest a w) (fun e a w h => adj_d h) (fun a w h => h) h
      · exact h.elim
    · exact (put_d _ _ _).symm.trans (wpList_d rest _ _ h)
/-- an operation that would be a defer statement is none here: what is known of an activation says that none was deferred -/
theorem semAt_fz {r : Option Nat} {P : Program} {o : Oper} {a : Act} {w : World} {N : Act → World → Prop} {Q : Exit → Act → World → Prop} (hN : ∀ a w, N a w → a.defers = []) (h : o.wp P a w N Q) (ds : List Deferred) : o.semAt r (wd ds a).eval = execOp a.eval o ∨ ∃ c, o.op = .defer c := by
  cases r with
  | none => exact .inl rfl
  | some l =>
    unfold Oper.semAt
    cases ho : o.op <;> first | exact .inl rfl | exact .inr ⟨_, rfl⟩
theorem wp_nodefer {P : Program} {o : Oper} {a : Act} {w : World} {N : Act → World → Prop} {Q : Exit → Act → World → Prop} (hN : ∀ a w, N a w → a.defers = []) (h : o.wp P a w N Q) {c : Call} (hc : o.op = .defer c) : ∃ v w', (resolve a.eval c o.type).run P w = .halt v w' := by
  unfold Oper.wp at h
  simp only [execOp, hc] at h
  rw [Sem.run_bind] at h
  cases e : (resolve a.eval c o.type).run P w with
  | ok x w1 =>
    rw [e] at h
    simp only [Result.andThen, Sem.run_pure, Oper.upon] at h
    have := hN _ _ h
    rw [put_d] at this
    cases this
  | halt v w1 => exact ⟨v, w1, rfl⟩
theorem wpIn_fz {r : Option Nat} {P : Program} {o : Oper} {a : Act} {w : World} {ds : List Deferred} {N N' : Act → World → Prop} {Q Q' : Exit → Act → World → Prop} (hd : ∀ a w, N a w → a.defers = []) (hN : ∀ a w, N a w → N' (wd ds a) w) (hQ : ∀ c w, Q (.panic c) a w → Q' (.panic c) (wd ds a) w)
    (hg : ∀ a w, ¬ Q .outgrown a w) (h : o.wp P a w N Q) : o.wpIn (fz r) 0 P (wd ds a) w N' Q' := by
  refine ⟨fun _ _ => trivial, ?_⟩
  have h1 := upon_fz (r := r) hd hN hQ hg h
  by_cases hc : ∃ c, o.op = .defer c
  · obtain ⟨c, hc⟩ := hc
    obtain ⟨v, w1, he⟩ := wp_nodefer hd h hc
    have e1 : (execOp a.eval o).run P w = .halt v w1 := by simp only [execOp, hc]; rw [Sem.run_bind, he]; rfl
    rw [e1] at h1
    have e2 : (o.semAt (fz r).round (wd ds a).eval).run P w = .halt v w1 := by
      cases r with
      | none => exact e1
      | some l =>
        simp only [Oper.semAt, fz, hc]
        rw [Sem.run_bind]
        show Result.andThen ((resolve a.eval c o.type).run P w) _ = _
        rw [he]; rfl
    rw [e2]; exact h1
  · have e2 : o.semAt (fz r).round (wd ds a).eval = execOp a.eval o := Oper.semAt_eq _ _ _ (fun c hh => hc ⟨c, hh⟩)
    rw [e2]; exact h1
theorem list_fz2 {r : Option Nat} {P : Program} {ops : Array Oper} {ds : List Deferred} {Q Q' : Exit → Act → World → Prop} (rest2 : List Oper) (hn : ∀ a w, Q .normal (wd ds a) w → wpListIn (fz r) 0 P ops Q' rest2 (wd ds a) w) (hp : ∀ c a w, Q (.panic c) (wd ds a) w → Q' (.panic c) (wd ds a) w) : ∀ (rest : List Oper) (a : Act) (w : World), wpList P ops (adj ds Q) rest a w → wpListIn (fz r) 0 P ops Q' (rest ++ rest2) (wd ds a) w
  | [], a, w, h => hn a w h.2
  | o :: rest, a, w, h => by
    unfold wpList at h
    rw [List.cons_append]
    unfold wpListIn
    show if Region.wanted o (yielded ops a.tmps) = true then _ else _
    split at h
    · rename_i hw
      rw [if_pos hw]
      rcases h with h | ⟨_, a1, w1, h⟩
      · exact wpIn_fz (fun a w => wpList_d rest a w) (fun a w => list_fz2 rest2 hn hp rest a w) (fun c w h => hp c a w h.2) (fun a w h => h) h
      · exact h.elim
    · rename_i hw
      rw [if_neg hw]
      exact ⟨fun _ _ => trivial, by rw [← wd_put]; exact list_fz2 rest2 hn hp rest _ w h⟩
theorem list_fz {r : Option Nat} {P : Program} {ops : Array Oper} {ds : List Deferred} {Q : Exit → Act → World → Prop} (rest : List Oper) (a : Act) (w : World) (h : wpList P ops (adj ds Q) rest a w) : wpListIn (fz r) 0 P ops Q rest (wd ds a) w := by
  have := list_fz2 (r := r) (ds := ds) (Q := Q) (Q' := Q) (P := P) (ops := ops) [] (fun a w h => h) (fun c a w h => h) rest a w h
  rwa [List.append_nil] at this
theorem adj_out {ds : List Deferred} {Q : Exit → Act → World → Prop} (e : Exit) (a : Act) (w : World) (h : adj ds Q e a w) : Q e (wd ds a) w := by cases e <;> first | exact h.2 | exact h.elim
theorem tr_d {P : Program} {md : Region.Mode} {ops : Array Oper} {q : Act → World → Prop} {S : Array Bool → World → Prop} (hq : ∀ a w, q a w → a.defers = []) : ∀ (f : Nat) (L : Array Bool) (a : Act) (w : World), tr P md ops q S f L a w → a.defers = []
  | 0, _, a, w, h => hq _ _ h.2
  | f + 1, L, a, w, h => by
    cases e : Region.ready md ops L with
    | nil => exact hq _ _ (h.1 e)
    | cons i rs =>
      have h1 := h.2 i (by rw [e]; simp)
      unfold wpOp at h1
      split at h1
      · exact tr_d hq f _ _ _ h1.2
      · split at h1
        · rcases h1 with h1 | ⟨_, a1, w1, h1⟩
          · exact upon_d (fun a w h => tr_d hq f _ _ _ h.2) (fun e a w h => by cases e <;> first | exact hq _ _ h | exact h.elim) (fun a w h => h) h1
          · exact h1.elim
        · exact (put_d _ _ _).symm.trans (tr_d hq f _ _ _ h1.2)
theorem tr_fz {r : Option Nat} {P : Program} {md : Region.Mode} {ops : Array Oper} {ds : List Deferred} {q : Act → World → Prop} {S : Array Bool → World → Prop} {Q : Exit → Act → World → Prop} (hd : ∀ a w, q a w → a.defers = []) (hq : ∀ a w, q a w → Q .normal (wd ds a) w) :
    ∀ (f : Nat) (L : Array Bool) (a : Act) (w : World), tr P md ops q S f L a w → wpAnyIn (fz r) 0 P md ops Q f L (wd ds a) w
  | 0, _, a, w, h => ⟨h.1, hq _ _ h.2⟩
  | f + 1, L, a, w, h => by
    refine ⟨fun h0 => hq _ _ (h.1 h0), fun i hi => ?_⟩
    have h1 := h.2 i hi
    unfold wpOp at h1
    unfold wpOpIn
    split at h1
    · rename_i e; simp only [e]; exact tr_fz hd hq f _ _ _ h1.2
    · rename_i o e
      simp only [e]
      split at h1
      · rename_i hw
        rw [if_pos (show Region.wanted o (yielded ops (wd ds a).tmps) = true from hw)]
        rcases h1 with h1 | ⟨_, a1, w1, h1⟩
        · exact wpIn_fz (fun a w h => tr_d hd f _ _ _ h.2) (fun a w h => tr_fz hd hq f _ _ _ h.2) (fun c w h => h.elim) (fun a w h => h) h1
        · exact h1.elim
      · rename_i hw
        rw [if_neg (show ¬ Region.wanted o (yielded ops (wd ds a).tmps) = true from hw)]
        exact ⟨fun _ _ => trivial, by rw [← wd_put]; exact tr_fz hd hq f _ _ _ h1.2⟩

section code
variable {P : Program} {w0 : World} {r : Option Nat} {ds : List Deferred} {Q : Exit → Act → World → Prop} {n : Nat} {l : Sl} {K : PH} {hs : List PH}
theorem sqX {x y : Code} (h : WX P w0 r ds x (Exit.then (y.wpIn (fz r) 0 P Q) Q) n l K hs) : WX P w0 r ds (.seq x y) Q n l K hs :=
  fun a w ha hw => wpIn_seq (h a w ha hw)
theorem rgX {id : Nat} {o : List Oper} (h : WL P w0 o.toArray (adj ds Q) o n l K hs) : WX P w0 r ds (.region id o.toArray false) Q n l K hs :=
  fun a w ha hw => wpIn_region_lit (list_fz o a w (h a w ha hw))
theorem bkX {id : Nat} {c : Code} (h : WX P w0 r ds c (Exit.inBlock id Q) n l K hs) : WX P w0 r ds (.block id c) Q n l K hs :=
  fun a w ha hw => wpIn_block (h a w ha hw)
theorem exX {id : Nat} (h : WQX ds w0 Q (.exit id) n l K hs) : WX P w0 r ds (.exit id) Q n l K hs :=
  fun a w ha hw => wpIn_exit (h a w ha hw)
theorem rtX (h : WQX ds w0 Q .ret n l K hs) : WX P w0 r ds .ret Q n l K hs :=
  fun a w ha hw => wpIn_ret (h a w ha hw)
theorem skX (h : WQX ds w0 Q .normal n l K hs) : WX P w0 r ds .skip Q n l K hs :=
  fun a w ha hw => wpIn_skip (h a w ha hw)
theorem evX {n : Nat} {l : Sl} {a : Act} (h : Ag n l a) {x : Operand} {v : Value} (hx : ev l x = some v) : (wd ds a).eval x = v := h.ev hx
theorem ifTX {c : Operand} {x y : Code} (hc : ev l c = some (.bool true)) (h : WX P w0 r ds x Q n l K hs) : WX P w0 r ds (.cond c x y) Q n l K hs :=
  fun a w ha hw => wpIn_cond_true (evX ha hc) (h a w ha hw)
theorem ifFX {c : Operand} {x y : Code} (hc : ev l c = some (.bool false)) (h : WX P w0 r ds y Q n l K hs) : WX P w0 r ds (.cond c x y) Q n l K hs :=
  fun a w ha hw => wpIn_cond_false (evX ha hc) (h a w ha hw)
theorem ifBX {c : Operand} {x y : Code} {b : Bool} (hc : ev l c = some (.bool b)) (h : b = true → WX P w0 r ds x Q n l K hs) (h' : b = false → WX P w0 r ds y Q n l K hs) : WX P w0 r ds (.cond c x y) Q n l K hs :=
  fun a w ha hw => wpIn_cond_split (evX ha hc) (fun e => h e a w ha hw) (fun e => h' e a w ha hw)
theorem ifPX {c : Operand} {x y : Code} {b : Bool} {p : Prop} (hb : b = true ↔ p) (hc : ev l c = some (.bool b)) (h : p → WX P w0 r ds x Q n l K hs) (h' : ¬ p → WX P w0 r ds y Q n l K hs) : WX P w0 r ds (.cond c x y) Q n l K hs :=
  ifBX hc (fun e => h (hb.1 e)) (fun e => h' (fun hp => by rw [hb.2 hp] at e; cases e))
theorem ifPTX {c : Operand} {x y : Code} {b : Bool} {p : Prop} (hb : b = true ↔ p) (hp : p) (hc : ev l c = some (.bool b)) (h : WX P w0 r ds x Q n l K hs) : WX P w0 r ds (.cond c x y) Q n l K hs :=
  ifPX hb hc (fun _ => h) (fun hn => (hn hp).elim)
theorem ifPFX {c : Operand} {x y : Code} {b : Bool} {p : Prop} (hb : b = true ↔ p) (hp : ¬ p) (hc : ev l c = some (.bool b)) (h : WX P w0 r ds y Q n l K hs) : WX P w0 r ds (.cond c x y) Q n l K hs :=
  ifPX hb hc (fun h0 => (hp h0).elim) (fun _ => h)
theorem nxX (h : WQX ds w0 Q .normal n l K hs) : WQ w0 (adj ds Q) .normal n l K hs := fun a w ha hw => ⟨ha.defers, h a w ha hw⟩
theorem thX {y : Code} {Q' : Exit → Act → World → Prop} (h : WX P w0 r ds y Q n l K hs) : WQX ds w0 (Exit.then (y.wpIn (fz r) 0 P Q) Q') .normal n l K hs := h
theorem blX {id : Nat} (h : WQX ds w0 Q .normal n l K hs) : WQX ds w0 (Exit.inBlock id Q) .normal n l K hs := h
theorem xtX {id : Nat} {N : Act → World → Prop} (h : WQX ds w0 Q (.exit id) n l K hs) : WQX ds w0 (Exit.then N Q) (.exit id) n l K hs := h
theorem xbX {id : Nat} (h : WQX ds w0 Q .normal n l K hs) : WQX ds w0 (Exit.inBlock id Q) (.exit id) n l K hs := fun a w ha hw => by
  simpa [Exit.inBlock] using h a w ha hw
theorem xnX {id id' : Nat} (hne : Nat.beq id' id = false) (h : WQX ds w0 Q (.exit id') n l K hs) : WQX ds w0 (Exit.inBlock id Q) (.exit id') n l K hs := fun a w ha hw => by
  have : id' ≠ id := Nat.ne_of_beq_eq_false hne
  simpa [Exit.inBlock, this] using h a w ha hw
theorem rTX {N : Act → World → Prop} (h : WQX ds w0 Q .ret n l K hs) : WQX ds w0 (Exit.then N Q) .ret n l K hs := h
theorem rBX {id : Nat} (h : WQX ds w0 Q .ret n l K hs) : WQX ds w0 (Exit.inBlock id Q) .ret n l K hs := h
theorem loopX {σ : Type} {body : Code} (F : σ → Sl) (HK : σ → PH) (H : σ → List PH) (J : σ → Prop) (μ : σ → Nat) (x0 : σ) (h0 : J x0) (hF : Sub l (F x0)) (hK : K = HK x0) (hH : hs = H x0)
    (round : ∀ x, J x → WX P w0 r ds body (Exit.then (fun a w => ∃ x', J x' ∧ μ x' < μ x ∧ (∃ a', a = wd ds a' ∧ Ag n (F x') a') ∧ Sat w0 w (HK x') (H x')) Q) n (F x) (HK x) (H x)) :
    WX P w0 r ds (.loop body) Q n l K hs := fun a w ha hw => by
  subst hK
  subst hH
  refine wpIn_loop_ghost (fun m a w => ∃ x, J x ∧ μ x = m ∧ (∃ a', a = wd ds a' ∧ Ag n (F x) a') ∧ Sat w0 w (HK x) (H x)) (μ x0) ⟨x0, h0, rfl, ⟨a, rfl, ha.sub hF⟩, hw⟩ ?_
  rintro m a w ⟨x, hJ, rfl, ⟨a', rfl, hA⟩, hS⟩
  refine wpIn_mono (round x hJ a' w hA hS) ?_
  intro e a' w' hq
  cases e with
  | normal =>
    obtain ⟨x', h1, h2, h3, h4⟩ := hq
    exact ⟨μ x', h2, x', h1, rfl, h3, h4⟩
  | exit id => exact hq
  | goto l => exact hq
  | ret => exact hq
  | panic ch => exact hq
  | outgrown => exact hq
theorem againX {σ : Type} {F : σ → Sl} {HK : σ → PH} {H : σ → List PH} {J : σ → Prop} {μ : σ → Nat} {x : σ} {Q' : Exit → Act → World → Prop} (x' : σ) (hF : Sub l (F x')) (hK : K = HK x') (hH : hs = H x')
    (h1 : J x') (h2 : μ x' < μ x) : WQX ds w0 (Exit.then (fun a w => ∃ x', J x' ∧ μ x' < μ x ∧ (∃ a', a = wd ds a' ∧ Ag n (F x') a') ∧ Sat w0 w (HK x') (H x')) Q') .normal n l K hs := fun a w ha hw => by
  subst hK
  subst hH
  exact ⟨x', h1, h2, ⟨a, rfl, ha.sub hF⟩, hw⟩
theorem rgaX {id : Nat} {o : List Oper} (A : List PH) (z : Nat) (plan : List Nat) (hA : ∀ h ∈ A, h ∈ hs) (hm : P.follows .mixedOrders = true) (hp : (planOK .any o.toArray plan (Array.replicate o.toArray.size false) && Nat.beq plan.length o.toArray.size) = true)
    (h : WA P w0 o.toArray (adj ds Q) K A z plan (Array.replicate o.toArray.size false) n l K hs) : WX P w0 r ds (.region id o.toArray true) Q n l K hs := by
  intro a w ha hw
  simp only [Bool.and_eq_true] at hp
  refine wpIn_region_any hm ?_
  have hlen : plan.length = o.toArray.size := Nat.eq_of_beq_eq_true hp.2
  have hw' : Sat w0 { w with drawn := w.drawn + 1 } K hs := hw.drew
  have hc : Closed .any o.toArray (Array.replicate o.toArray.size false) := by
    refine ⟨by simp, ?_⟩
    intro j oj hj hl
    have : (Array.replicate o.toArray.size false).getD j false = false := getD_replicate_false _ _
    rw [this] at hl
    cases hl
  have hh := h hp.1 hc a { w with drawn := w.drawn + 1 } ha hw' (fun _ => HasL.ofMem hw' hA)
  rw [hlen] at hh
  exact tr_fz (fun a w h => adj_d h) (fun a w h => adj_out .normal a w h) _ _ _ _ hh
end code

/-! Functions whose body holds such a loop; their ends. -/
def mkd (D : Nat) : Deferred := { target := .collected D, args := #[] }
def dfr (D : Nat) : PH := sg D (.deferred (some []))
theorem Sat.putObj {w0 w : World} {K : PH} {hs : List PH} (s : Sat w0 w K hs) {i b : Nat} {o : Obj} (hi : hs[i]? = some (sg b o)) (o' : Obj) : Sat w0 (w.putObj b o') K (hs.set i (sg b o')) := by
  have hb : w.heap[b]? = some o := s.own i _ hi b _ (by simp)
  refine s.upd hi rfl rfl rfl (by simp) ?_ ?_ ?_
  · intro x u hx
    simp only [sg] at hx
    split at hx
    · rename_i e; subst e; cases hx; exact World.putObj_heap_same (lt_of_some hb)
    · cases hx
  · intro x hx hn
    simp only [sg] at hn
    split at hn
    · cases hn
    · rename_i e; exact World.putObj_heap_other e
  · intro x u hx hn
    simp only [sg] at hx hn
    split at hx
    · rename_i e; rw [if_pos e] at hn; cases hn
    · cases hx
theorem Sat.dropLast {w0 w : World} {K x : PH} {hs : List PH} (s : Sat w0 w K (hs ++ [x])) : Sat w0 w K hs := (s.perm (List.perm_append_singleton x hs)).dropHead
theorem Sat.putLast {w0 w : World} {K : PH} {hs : List PH} {b : Nat} {o : Obj} (s : Sat w0 w K (hs ++ [sg b o])) (o' : Obj) : Sat w0 (w.putObj b o') K (hs ++ [sg b o']) := by
  have := s.putObj (i := hs.length) (b := b) (o := o) (by simp) o'
  rwa [List.set_append_right _ _ (Nat.le_refl _), Nat.sub_self, List.set_cons_zero] at this
theorem Sat.last {w0 w : World} {K : PH} {hs : List PH} {b : Nat} {o : Obj} (s : Sat w0 w K (hs ++ [sg b o])) : w.heap[b]? = some o := s.own hs.length (sg b o) (by simp) b o (by simp)
theorem enterX {P : Program} {w0 : World} {f : FuncId} {fn : Func} {c : Code} {n : Nat} {args : List Value} {K : PH} {hs : List PH} {R : Value → PH → List PH → Prop}
    (hf : P.funcs[f]? = some fn) (hcal : callable P f = true) (hb : fn.body = some c) (hn : fn.ntmps = n) (hl : Nat.ble args.length n = true)
    (h : WX P w0 none [] c (bodyPostM (fz none) 0 P fn (endR w0 R)) n (params 0 args) K hs) : Ct P w0 f args K hs R := by
  refine ⟨hcal, fun w hw => callsIn_wide.1 (callsIn_of_wp_marks (F := fz none) (n := 0) hf hb trivial (h { tmps := args.toArray ++ Array.replicate (fn.ntmps - args.toArray.size) undef, defers := [] } w ⟨?_, rfl, ?_⟩ hw))⟩
  · have := Nat.le_of_ble_eq_true hl
    simp [hn]
    omega
  · intro t v ht
    obtain ⟨h1, h2⟩ := look_params args 0 t v ht
    have h3 : args[t]? = some v := by simpa using h2
    have h4 : t < args.length := (List.getElem?_eq_some_iff.1 h3).1
    have h5 : args[t] = v := by rw [List.getElem?_eq_getElem h4] at h3; exact Option.some.inj h3
    simp [Array.getElem?_append, h4, h5]
section ret
variable {P : Program} {w0 : World} {fn : Func} {R : Value → PH → List PH → Prop} {n : Nat} {l : Sl} {K : PH} {hs hs' : List PH} {v x y : Value}
theorem retsX {e : Exit} (he : e = .ret ∨ e = .normal) (hres : ∀ a w, Ag n l a → Sat w0 w K hs → (results fn a.tmps).run P w = .ok v w) (h : R v K hs) : WQX [] w0 (bodyPostM (fz none) 0 P fn (endR w0 R)) e n l K hs := by
  intro a w ha hw
  rcases he with rfl | rfl <;> exact ⟨v, hres a w ha hw, v, K, hs, rfl, h, hw⟩
theorem retmX {e : Exit} (D : Nat) (hh : hs = hs' ++ [dfr D]) (he : e = .ret ∨ e = .normal) (hres : ∀ a w, Ag n l a → Sat w0 w K hs' → (results fn a.tmps).run P w = .ok v w) (h : R v K hs') : WQX [mkd D] w0 (bodyPostM (fz none) 0 P fn (endR w0 R)) e n l K hs := by
  subst hh
  intro a w ha hw
  have h1 : Sat w0 (w.putObj D (.deferred none)) K hs' := (hw.putLast (.deferred none)).dropLast
  have h2 := run_takeDeferred (P := P) (hw.last)
  rcases he with rfl | rfl <;> exact ⟨by simp, .inl ⟨D, _, rfl, h2, v, hres a _ ha h1, v, K, hs', rfl, h, h1⟩⟩
theorem res0 (hr : fn.results = #[]) {a : Act} {w : World} : (results fn a.tmps).run P w = .ok (.tuple #[]) w := results_none hr _ _ _
theorem res1 {t : Nat} (hr : fn.results = #[.tmp t]) (hv : look l t = some v) {a : Act} (ha : Ag n l a) {w : World} : (results fn a.tmps).run P w = .ok v w := by
  have := results_tmp hr a.tmps P w
  rw [this]; simp [ha.slot t v hv]
theorem res2 {t u : Nat} (hr : fn.results = #[.tmp t, .tmp u]) (hv : look l t = some v) (hx : look l u = some x) {a : Act} (ha : Ag n l a) {w : World} : (results fn a.tmps).run P w = .ok (.tuple #[v, x]) w := by
  have := results_tmp2 hr a.tmps P w
  rw [this]; simp [ha.slot t v hv, ha.slot u x hx]
theorem ret0X (hr : fn.results = #[]) (h : R (.tuple #[]) K hs) : WQX [] w0 (bodyPostM (fz none) 0 P fn (endR w0 R)) .ret n l K hs := retsX (.inl rfl) (fun _ _ _ _ => res0 hr) h
theorem end0X (hr : fn.results = #[]) (h : R (.tuple #[]) K hs) : WQX [] w0 (bodyPostM (fz none) 0 P fn (endR w0 R)) .normal n l K hs := retsX (.inr rfl) (fun _ _ _ _ => res0 hr) h
theorem ret1X {t : Nat} (hr : fn.results = #[.tmp t]) (hv : look l t = some v) (h : R v K hs) : WQX [] w0 (bodyPostM (fz none) 0 P fn (endR w0 R)) .ret n l K hs := retsX (.inl rfl) (fun _ _ ha _ => res1 hr hv ha) h
theorem ret2X {t u : Nat} (hr : fn.results = #[.tmp t, .tmp u]) (hv : look l t = some v) (hx : look l u = some x) (h : R (.tuple #[v, x]) K hs) : WQX [] w0 (bodyPostM (fz none) 0 P fn (endR w0 R)) .ret n l K hs := retsX (.inl rfl) (fun _ _ ha _ => res2 hr hv hx ha) h
theorem end0M (D : Nat) (hh : hs = hs' ++ [dfr D]) (hr : fn.results = #[]) (h : R (.tuple #[]) K hs') : WQX [mkd D] w0 (bodyPostM (fz none) 0 P fn (endR w0 R)) .normal n l K hs := retmX D hh (.inr rfl) (fun _ _ _ _ => res0 hr) h
theorem ret0M (D : Nat) (hh : hs = hs' ++ [dfr D]) (hr : fn.results = #[]) (h : R (.tuple #[]) K hs') : WQX [mkd D] w0 (bodyPostM (fz none) 0 P fn (endR w0 R)) .ret n l K hs := retmX D hh (.inl rfl) (fun _ _ _ _ => res0 hr) h
theorem ret1M (D : Nat) (hh : hs = hs' ++ [dfr D]) {t : Nat} (hr : fn.results = #[.tmp t]) (hv : look l t = some v) (h : R v K hs') : WQX [mkd D] w0 (bodyPostM (fz none) 0 P fn (endR w0 R)) .ret n l K hs := retmX D hh (.inl rfl) (fun _ _ ha _ => res1 hr hv ha) h
theorem ret2M (D : Nat) (hh : hs = hs' ++ [dfr D]) {t u : Nat} (hr : fn.results = #[.tmp t, .tmp u]) (hv : look l t = some v) (hx : look l u = some x) (h : R (.tuple #[v, x]) K hs') : WQX [mkd D] w0 (bodyPostM (fz none) 0 P fn (endR w0 R)) .ret n l K hs := retmX D hh (.inl rfl) (fun _ _ ha _ => res2 hr hv hx ha) h
end ret

/-! Iterators. -/
def YCt (P : Program) (w0 : World) (L : Nat) (vs : List Value) (K : PH) (hs : List PH) (R : Value → PH → List PH → Prop) : Prop := ∀ w, Sat w0 w K hs → ∃ fn tmps assign body, (Instr.yield L vs.toArray).run P w = .ok (.round L fn tmps assign body) w ∧ RoundIn (fz none) 0 P L fn tmps assign body w (endR w0 R)
/-- a function that tells the elements of a list, one by one: 'St i': what is known ahead of the i-th; 'Sp': behind a round that said 'no more' -/
def ItCt (P : Program) (w0 : World) (f : Nat) (cap : List Value) (xs : List (List Value)) (Rd : PH → List PH → Prop) : Prop :=
  ∀ (L : Nat) (St : Nat → PH → List PH → Prop) (Sp : PH → List PH → Prop), (∀ i K hs, St i K hs → Rd K hs) →
    (∀ i vs K hs, xs[i]? = some vs → St i K hs → YCt P w0 L vs K hs (fun v K' hs' => (v = .bool true ∧ St (i + 1) K' hs') ∨ (v = .bool false ∧ Sp K' hs'))) →
    ∀ K hs, St 0 K hs → Ct P w0 f (.func (.yield L) #[] #[] :: cap) K hs (fun _ K' hs' => St xs.length K' hs' ∨ Sp K' hs')
section it
variable {P : Program} {T : Tab} {w0 : World} {r : Option Nat} {ds : List Deferred} {ops : Array Oper} {Q : Exit → Act → World → Prop} {rest rest' : List Oper} {n : Nat} {l : Sl} {K : PH} {hs : List PH}
theorem rgI {id : Nat} {o : List Oper} (h : WLI P w0 r ds o.toArray Q o n l K hs) : WX P w0 r ds (.region id o.toArray false) Q n l K hs := fun a w ha hw => wpIn_region_lit (h a w ha hw)
theorem WLI.fin (h : WL P w0 ops (adj ds Q) rest n l K hs) : WLI P w0 r ds ops Q rest n l K hs := fun a w ha hw => list_fz rest a w (h a w ha hw)
def cutQ (P : Program) (r : Option Nat) (ops : Array Oper) (Q : Exit → Act → World → Prop) (rest2 : List Oper) : Exit → Act → World → Prop
  | .normal, a, w => wpListIn (fz r) 0 P ops Q rest2 a w
  | _, _, _ => False
theorem WLI.cut (k : Nat) (h : WL P w0 ops (adj ds (cutQ P r ops Q (rest.drop k))) (rest.take k) n l K hs) : WLI P w0 r ds ops Q rest n l K hs := fun a w ha hw => by
  have := list_fz2 (r := r) (Q := cutQ P r ops Q (rest.drop k)) (Q' := Q) (rest.drop k) (fun a w h => h) (fun c a w h => h.elim) (rest.take k) a w (h a w ha hw)
  rwa [List.take_append_drop] at this
theorem cutX {rest2 : List Oper} (h : WLI P w0 r ds ops Q rest2 n l K hs) : WQ w0 (adj ds (cutQ P r ops Q rest2)) .normal n l K hs := fun a w ha hw => ⟨ha.defers, h a w ha hw⟩
def yAt (ops : Array Oper) (n : Nat) (rest : List Oper) (l : Sl) : Option (Nat × Nat × List Value × List Oper) :=
  match rest with
  | o :: r => match gOK ops l o.guard, o.dst, o.op with
    | some true, some d, .call { callee := .value f, args, .. } => match Nat.blt d n, ev l f, args.toList.mapM (ev l) with
      | true, some (.func (.yield L) first captured), some vs => match first.toList with
        | [] => some (d, L, vs, r)
        | _ => none
      | _, _, _ => none
    | _, _, _ => none
  | [] => none
theorem yld {d L : Nat} {vs : List Value} {R : Value → PH → List PH → Prop} (h0 : yAt ops n rest l = some (d, L, vs, rest')) (hc : YCt P w0 L vs K hs R) (hk : ∀ v K' hs', R v K' hs' → WLI P w0 r ds ops Q rest' n ((d, v) :: l) K' hs') : WLI P w0 r ds ops Q rest n l K hs := by
  unfold yAt at h0
  split at h0
  · rename_i o rr
    split at h0
    · rename_i d' f args ats hg hd hop
      split at h0
      · rename_i L' first captured vs' hb hf hvs
        split at h0
        · rename_i hfi
          simp only [Option.some.injEq, Prod.mk.injEq] at h0
          obtain ⟨rfl, rfl, rfl, rfl⟩ := h0
          have hfi' : first = #[] := by cases first; simp_all
          subst hfi'
          intro a w ha hw
          have h1 := gOK_wanted ha hg
          have h6 := ev_map ha _ _ hvs
          have h7 : args.map a.eval = vs'.toArray := by
            apply Array.ext'
            simpa using h6
          obtain ⟨fn, tmps, assign, body, hy, hR⟩ := hc w hw
          unfold wpListIn
          rw [if_pos (show Region.wanted o (yielded ops (wd ds a).tmps) = true from h1)]
          refine ⟨fun _ _ => trivial, ?_⟩
          have e1 : o.semAt (fz r).round (wd ds a).eval = execOp a.eval o := Oper.semAt_eq _ _ _ (fun c hh => by rw [hop] at hh; cases hh)
          have e2 : (execOp a.eval o).run P w = .ok (.round L' fn tmps assign body) w := by
            simp only [execOp, hop]
            simp [resolve, h7, ha.ev hf, Deferred.ofValue, invoke, hy]
          rw [e1, e2]
          refine ⟨by simp [fz], RoundIn.mono (R := endR w0 R) hR fun e w' he => ?_⟩
          obtain ⟨v, K', hs', rfl, hr, hs2⟩ := he
          simp only [← wd_put, hd]
          exact hk v K' hs' hr _ w' (ha.put hb) hs2
        · simp at h0
      · simp at h0
    · simp at h0
  · simp at h0
/-! The statement itself. -/
def prm : List Nat → List Value → Sl → Sl
  | t :: ts, v :: vs, l => prm ts vs ((t, v) :: l)
  | _, _, l => l
theorem Ag.prm : ∀ (ts : List Nat) (vs : List Value) {l : Sl} {a : Act} (h : Ag n l a) (ht : ∀ t ∈ ts, t < n), Ag n (prm ts vs l) { tmps := (ts.zip vs).foldl (fun tmps (x : Nat × Value) => tmps.setIfInBounds x.1 x.2) a.tmps, defers := [] }
  | [], vs, l, a, h, _ => ⟨by simpa using h.size, rfl, by simpa [En.prm] using h.slot⟩
  | t :: ts, [], l, a, h, _ => ⟨by simpa using h.size, rfl, by simpa [En.prm] using h.slot⟩
  | t :: ts, v :: vs, l, a, h, ht => by
    have h1 := h.put (d := t) (v := v) (Nat.ble_eq_true_of_le (ht t (by simp)))
    have h2 := Ag.prm ts vs h1 (fun x hx => ht x (by simp [hx]))
    simpa [En.prm, Act.put] using h2
def rQ (w0 : World) (St : Nat → PH → List PH → Prop) (Jm : Code → PH → List PH → Prop) (t u : PH) (i : Nat) : Exit → Act → World → Prop
  | .normal, _, w => ∃ K hs, Sat w0 w K (hs ++ [t, u]) ∧ St (i + 1) K hs
  | .ret, _, w => ∃ K hs, Sat w0 w K (hs ++ [t, u]) ∧ Jm .ret K hs
  | .exit id, _, w => ∃ K hs, Sat w0 w K (hs ++ [t, u]) ∧ Jm (.exit id) K hs
  | _, _, _ => False
def aQ (P : Program) (w0 : World) (L n : Nat) (body : Code) (St : Nat → PH → List PH → Prop) (Jm : Code → PH → List PH → Prop) (t u : PH) (i : Nat) (a : Act) (w : World) : Prop :=
  ∃ l' K' hs', Ag n l' a ∧ Sat w0 w K' (hs' ++ [t, u]) ∧ ∀ u, WX P w0 (some L) [] body (rQ w0 St Jm t u i) n l' K' (hs' ++ [t, u])
theorem wd_nil {n : Nat} {l : Sl} {a : Act} (h : Ag n l a) : wd [] a = a := by cases a; have := h.defers; simp only at this; subst this; rfl
theorem asgX {L : Nat} {body : Code} {St : Nat → PH → List PH → Prop} {Jm : Code → PH → List PH → Prop} {t u : PH} {i : Nat} {hs' : List PH} (hh : hs = hs' ++ [t, u]) (h : ∀ u, WX P w0 (some L) [] body (rQ w0 St Jm t u i) n l K (hs' ++ [t, u])) :
    WQX [] w0 (Exit.then (aQ P w0 L n body St Jm t u i) (fun _ _ _ => False)) .normal n l K hs := fun a w ha hw => by
  subst hh
  rw [wd_nil ha]
  exact ⟨l, K, hs', ha, hw, h⟩
theorem rndX {St : Nat → PH → List PH → Prop} {Jm : Code → PH → List PH → Prop} {t u : PH} {i : Nat} {hs' : List PH} (hh : hs = hs' ++ [t, u]) (h : St (i + 1) K hs') : WQX [] w0 (rQ w0 St Jm t u i) .normal n l K hs := fun a w ha hw => by
  subst hh
  exact ⟨K, hs', hw, h⟩
theorem jmpR {St : Nat → PH → List PH → Prop} {Jm : Code → PH → List PH → Prop} {t u : PH} {i : Nat} {hs' : List PH} (hh : hs = hs' ++ [t, u]) (h : Jm .ret K hs') : WQX [] w0 (rQ w0 St Jm t u i) .ret n l K hs := fun a w ha hw => by
  subst hh
  exact ⟨K, hs', hw, h⟩
theorem jmpE {id : Nat} {St : Nat → PH → List PH → Prop} {Jm : Code → PH → List PH → Prop} {t u : PH} {i : Nat} {hs' : List PH} (hh : hs = hs' ++ [t, u]) (h : Jm (.exit id) K hs') : WQX [] w0 (rQ w0 St Jm t u i) (.exit id) n l K hs := fun a w ha hw => by
  subst hh
  exact ⟨K, hs', hw, h⟩
theorem app2 {α : Type} (hs : List α) (t u : α) : hs ++ [t, u] = (hs ++ [t]) ++ [u] := by simp
theorem rgf {g : Operand} {ps : Array Tmp} {assign body : Code} {f : Nat} (cap : List Value) (xs : List (List Value)) (Rd : PH → List PH → Prop) (hg : ev l g = some (.func (.func f) #[] cap.toArray)) (it : ItCt P w0 f cap xs Rd) (hcal : callable P f = true)
    (hps : ∀ vs ∈ xs, vs.length = ps.size) (hpn : (ps.toList.all fun t => Nat.blt t n) = true) (St : Nat → PH → List PH → Prop) (Jm : Code → PH → List PH → Prop) (h0 : St 0 K hs) (hRd : ∀ i K hs t u, St i K hs → Rd K (hs ++ [t, u]))
    (round : ∀ L i vs K hs t u, xs[i]? = some vs → St i K hs → WX P w0 (some L) [] assign (Exit.then (aQ P w0 L n body St Jm t u i) (fun _ _ _ => False)) n (prm ps.toList vs l) K (hs ++ [t, u]))
    (done : ∀ D K' hs', St xs.length K' hs' → WQX (mkd D :: ds) w0 Q .normal n l K' (hs' ++ [dfr D]))
    (stop : ∀ D c K' hs', Jm c K' hs' → WX P w0 none (mkd D :: ds) c Q n l K' (hs' ++ [dfr D])) : WX P w0 none ds (.rangeFunc g ps assign body) Q n l K hs := by
  intro a w ha hw
  refine wpIn_rangeFunc ?_
  intro fn _
  obtain ⟨rec, hrec⟩ : ∃ rec : LoopState → Option Code → Loop, rec = fun st pe => { state := st, pending := pe, fn, tmps := a.tmps, params := ps, assign, body, defers := w.heap.size } := ⟨_, rfl⟩
  obtain ⟨D, hD⟩ : ∃ D, D = w.heap.size := ⟨_, rfl⟩
  obtain ⟨W1, hW1⟩ : ∃ W1, (w.alloc (.deferred (some []))).alloc (.loop (rec .ready none)) = W1 := ⟨_, rfl⟩
  have hS1 : Sat w0 W1 K (hs ++ [dfr D, sg (D + 1) (.loop (rec .ready none))]) := by
    have h1 := (hw.alloc (.deferred (some []))).alloc (.loop (rec .ready none))
    rw [World.size_alloc, ← hD, hW1] at h1
    refine h1.perm ?_
    rw [app2]
    exact ((List.perm_append_singleton _ _).symm.cons _).trans (List.perm_append_singleton _ _).symm
  refine ⟨D + 1, [mkd D], W1, { target := .fn (.func f) cap.toArray, args := #[.func (.yield (D + 1)) #[] #[]] }, W1, f, #[.func (.yield (D + 1)) #[] #[]] ++ cap.toArray, W1, ?_, ?_, ?_, ?_, fun h => by simp [fz] at h, ?_⟩
  · rw [← hW1, hrec, hD]; exact run_enterLoop_outer _ _ _ _ _
  · simp only [resolve, evX ha hg]
    simp [Deferred.ofValue]
    rfl
  · intro f' _; trivial
  · have hcal' := hcal
    unfold callable at hcal'
    cases hfn : P.funcs[f]? with
    | none => simp [hfn] at hcal'
    | some fn =>
      simp only [hfn, Bool.and_eq_true, Bool.not_eq_true'] at hcal'
      have hbn : ¬ fn.body = none := fun e => by simp [e] at hcal'
      have hnm : ¬ fn.name = "runtime.NumGoroutine" := by simpa using hcal'.2
      simp [invoke, callFunc, hfn, hbn, hnm]
  · have hargs : (#[Value.func (.yield (D + 1)) #[] #[]] ++ cap.toArray : Array Value) = (Value.func (.yield (D + 1)) #[] #[] :: cap).toArray := by simp
    rw [hargs]
    have key := it (D + 1) (fun i K hs => ∃ hs', hs = hs' ++ [dfr D, sg (D + 1) (.loop (rec .ready none))] ∧ St i K hs') (fun K hs => ∃ c hs', hs = hs' ++ [dfr D, sg (D + 1) (.loop (rec .done (some c)))] ∧ Jm c K hs')
      (by rintro i K hs ⟨hs', rfl, h⟩; exact hRd i K hs' _ _ h) ?_ K _ ⟨hs, rfl, h0⟩
    · refine (callsIn_wide.2 (key.2 _ hS1)).mono ?_
      rintro e w2 ⟨v, K2, hs2, rfl, hh, hw2⟩
      rcases hh with ⟨hs', rfl, hst⟩ | ⟨c, hs', rfl, hjm⟩
      · rw [app2] at hw2
        have h1 := run_endLoop (P := P) hw2.last (by rw [hrec]; simp)
        rw [hrec] at h1
        exact ⟨none, _, h1, done D K2 hs' hst a _ ha (hw2.putLast _).dropLast⟩
      · rw [app2] at hw2
        have h1 := run_endLoop (P := P) hw2.last (by rw [hrec]; simp)
        rw [hrec] at h1
        exact ⟨some c, _, h1, stop D c K2 hs' hjm a _ ha (hw2.putLast _).dropLast⟩
    · rintro i vs K1 hs1 hvs ⟨hs', rfl, hst⟩ w1 hw1
      have hl1 : w1.heap[D + 1]? = some (.loop (rec .ready none)) := by rw [app2] at hw1; exact hw1.last
      have hsz : vs.toArray.size = (rec .ready none).params.size := by rw [hrec]; simpa using hps vs (List.mem_of_getElem? hvs)
      have hy := run_yield (P := P) hl1 hsz
      refine ⟨_, _, _, _, hy, roundIn_of_wpIn (F := fz none) trivial ?_⟩
      have hA : Ag n (prm ps.toList vs l) { tmps := ((rec .ready none).params.zip vs.toArray).foldl (fun tmps (t, a) => tmps.setIfInBounds t a) (rec .ready none).tmps, defers := [] } := by
        have h1 := Ag.prm ps.toList vs ha (fun t ht => Nat.le_of_ble_eq_true (List.all_eq_true.1 hpn t ht))
        rw [hrec]
        have e1 : (ps.zip vs.toArray).foldl (fun tmps (x : Nat × Value) => tmps.setIfInBounds x.1 x.2) a.tmps = (ps.toList.zip vs).foldl (fun tmps (x : Nat × Value) => tmps.setIfInBounds x.1 x.2) a.tmps := by
          rw [← Array.foldl_toList]; simp
        show Ag n _ { tmps := (ps.zip vs.toArray).foldl (fun tmps (x : Nat × Value) => tmps.setIfInBounds x.1 x.2) a.tmps, defers := [] }
        rw [e1]; exact h1
      have h2 := round (D + 1) i vs K1 hs' (dfr D) (sg (D + 1) (.loop (rec .ready none))) hvs hst _ w1 hA hw1
      rw [hrec] at h2 ⊢
      refine wpIn_mono h2 ?_
      intro e a3 w3 hq
      cases e with
      | normal =>
        obtain ⟨l', K', hs3, hA3, hS3, hb⟩ := hq
        rw [app2] at hS3
        refine ⟨_, run_beginRound hS3.last rfl, ?_⟩
        have hS4 := hS3.putLast (.loop { rec .ready none with state := .busy })
        rw [hrec] at hS4
        have h5 := hb _ a3 _ hA3 (by rw [app2]; exact hS4)
        rw [wd_nil hA3] at h5
        refine wpIn_mono h5 ?_
        intro e a4 w4 hq4
        cases e with
        | normal =>
          obtain ⟨K5, hs5, hS5, hst5⟩ := hq4
          rw [app2] at hS5
          refine ⟨_, _, run_endRound none hS5.last, _, K5, _, rfl, .inl ⟨rfl, hs5, rfl, hst5⟩, ?_⟩
          rw [app2]; exact hS5.putLast _
        | ret =>
          obtain ⟨K5, hs5, hS5, hst5⟩ := hq4
          rw [app2] at hS5
          refine ⟨_, _, run_endRound (some .ret) hS5.last, _, K5, _, rfl, .inr ⟨rfl, .ret, hs5, rfl, hst5⟩, ?_⟩
          rw [app2]; exact hS5.putLast _
        | exit id =>
          obtain ⟨K5, hs5, hS5, hst5⟩ := hq4
          rw [app2] at hS5
          refine ⟨_, _, run_endRound (some (.exit id)) hS5.last, _, K5, _, rfl, .inr ⟨rfl, .exit id, hs5, rfl, hst5⟩, ?_⟩
          rw [app2]; exact hS5.putLast _
        | goto l => exact hq4.elim
        | panic ch => exact hq4.elim
        | outgrown => exact hq4.elim
      | exit id => exact hq.elim
      | goto l => exact hq.elim
      | ret => exact hq.elim
      | panic ch => exact hq.elim
      | outgrown => exact hq.elim
end it
end Go.En
