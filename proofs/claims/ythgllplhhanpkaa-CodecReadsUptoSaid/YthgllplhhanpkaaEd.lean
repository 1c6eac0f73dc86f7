/-
  Regions whose order is open: what looks alone is done first, in any order; what acts comes in its turn.
-/
import Derived.Test.YthgllplhhanpkaaEq
import Derived.OrdersHeld
import Derived.StillTail
namespace Go.En
set_option linter.unusedVariables false

section tree
variable {P : Program} {ops : Array Oper} {md : Region.Mode} {S : Array Bool → World → Prop}
/-- the normal exit alone -/
def nrm (q : Act → World → Prop) : Exit → Act → World → Prop
  | .normal, a, w => q a w
  | _, _, _ => False
theorem upon_q {o : Oper} {a : Act} {K : Act → World → Prop} {Q Q' : Exit → Act → World → Prop} (hp : ∀ c a w, Q (.panic c) a w → Q' (.panic c) a w) (hg : ∀ a w, Q .outgrown a w → Q' .outgrown a w) {r : Result Next} (h : o.upon P a K Q r) : o.upon P a K Q' r := by
  cases r with
  | ok n w' =>
    cases n <;> simp only [Oper.upon] at h ⊢ <;> first
      | exact h
      | (refine Calls.mono h fun e w'' he => ?_
         cases e with
         | returned v => exact he
         | panicked c => exact hp _ _ _ he
         | outgrown => obtain ⟨a, w, hh⟩ := he; exact ⟨a, w, hg _ _ hh⟩)
  | halt x w' =>
    cases x <;> simp only [Oper.upon] at h ⊢ <;> first
      | exact hp _ _ _ h
      | exact h
theorem wpOp_q {i : Nat} {K : Act → World → Prop} {Q Q' : Exit → Act → World → Prop} (hq : ∀ e a w, Q e a w → Q' e a w) {a : Act} {w : World} (h : wpOp P ops Q i K a w) : wpOp P ops Q' i K a w := by
  unfold wpOp at *
  split
  · exact by simpa [*] using h
  · rename_i o ho
    simp only [ho] at h
    split
    · rename_i hw
      simp only [hw, if_true] at h
      exact h.imp (upon_q (fun c => hq (.panic c)) (hq .outgrown)) (fun ⟨h1, a, w, h2⟩ => ⟨h1, a, w, hq _ _ _ h2⟩)
    · rename_i hw; simp only [hw] at h; exact h
/-- whatever order is picked; behind each operation 'S' holds of what is done and of the world -/
def tr (P : Program) (md : Region.Mode) (ops : Array Oper) (q : Act → World → Prop) (S : Array Bool → World → Prop) : Nat → Array Bool → Act → World → Prop
  | 0, listed, a, w => Region.ready md ops listed = [] ∧ q a w
  | f + 1, listed, a, w => (Region.ready md ops listed = [] → q a w) ∧
    ∀ i ∈ Region.ready md ops listed, wpOp P ops (nrm q) i (fun a' w' => S (listed.setIfInBounds i true) w' ∧ tr P md ops q S f (listed.setIfInBounds i true) a' w') a w
theorem tr_any {q : Act → World → Prop} {Q : Exit → Act → World → Prop} (hq : ∀ e a w, nrm q e a w → Q e a w) : ∀ (f : Nat) (listed : Array Bool) (a : Act) (w : World), tr P md ops q S f listed a w → wpAny P md ops Q f listed a w
  | 0, _, _, _, h => ⟨h.1, hq .normal _ _ h.2⟩
  | f + 1, _, _, _, h => ⟨fun h0 => hq .normal _ _ (h.1 h0), fun i hi => wpOp_mono (fun a' w' h' => tr_any hq f _ a' w' h'.2) (wpOp_q hq (h.2 i hi))⟩
/-- who is done has done behind whom he waits for -/
def Closed (md : Region.Mode) (ops : Array Oper) (L : Array Bool) : Prop := L.size = ops.size ∧ ∀ j oj, ops[j]? = some oj → L.getD j false = true → ∀ e ∈ oj.after, Region.binds md e = true → L.getD e.on false = true
theorem Closed.set {L : Array Bool} {i : Nat} (c : Closed md ops L) (hr : i ∈ Region.ready md ops L) : Closed md ops (L.setIfInBounds i true) := by
  obtain ⟨_, oi, hoi, hall⟩ := mem_ready.1 hr
  refine ⟨by simpa using c.1, ?_⟩
  intro j oj hj hl e he hb
  by_cases hij : i = j
  · subst hij
    obtain rfl : oj = oi := Option.some.inj (hj.symm.trans hoi)
    exact getD_set_true (hall e he hb)
  · rw [getD_set_ne false hij] at hl
    exact getD_set_true (c.2 j oj hj hl e he hb)
theorem tr_first {q : Act → World → Prop} {i : Nat} {oi : Oper} {v : Value} (hi : ops[i]? = some oi) (hsel : ∀ (j : Nat) (o : Oper) cs b, ops[j]? = some o → o.op ≠ .select cs b) :
    ∀ (f : Nat) (listed : Array Bool) (a : Act) (w : World), Closed md ops listed →
      (∀ j oj, ops[j]? = some oj → j ≠ i → listed.getD j true = false → (∀ e ∈ oj.after, Region.binds md e = true → e.on ≠ i) → oi.apart ops oj = true) →
      i ∈ Region.ready md ops listed → YieldsIf P ops (fun w => ∃ L : Array Bool, Closed md ops L ∧ L.getD i true = false ∧ S L w) oi v a → S listed w →
      (∀ (L : Array Bool) w', S L w' → S (L.setIfInBounds i true) w') → (∀ (L : Array Bool) w', S (L.setIfInBounds i true) w' → S L w') →
      tr P md ops q S f (listed.setIfInBounds i true) (a.put oi.dst v) w → tr P md ops q S (f + 1) listed a w := by
  intro f
  induction f with
  | zero =>
    intro listed a w hc _ hr hy hS hup hdown H
    refine ⟨fun h => (by rw [h] at hr; cases hr), fun j hj => ?_⟩
    by_cases hji : j = i
    · subst hji; exact hy.wpOp hi ⟨listed, hc, (mem_ready.1 hr).1, hS⟩ ⟨hup _ _ hS, H⟩
    · have := ready_mono hj hji
      rw [H.1] at this
      cases this
  | succ f ih =>
    intro listed a w hc hfree hr hy hS hup hdown H
    refine ⟨fun h => (by rw [h] at hr; cases hr), fun j hj => ?_⟩
    by_cases hji : j = i
    · subst hji; exact hy.wpOp hi ⟨listed, hc, (mem_ready.1 hr).1, hS⟩ ⟨hup _ _ hS, H⟩
    · have h1 := H.2 j (ready_mono hj hji)
      obtain ⟨hjun, oj, hoj, hall⟩ := mem_ready.1 hj
      have hnot : ∀ e ∈ oj.after, Region.binds md e = true → e.on ≠ i := fun e he hb heq => by
        have h1 := hall e he hb
        have h0 := (mem_ready.1 hr).1
        rw [heq] at h1
        rcases Nat.lt_or_ge i listed.size with h' | h'
        · simp [h'] at h0 h1; rw [h0] at h1; cases h1
        · simp [Array.getElem?_eq_none h'] at h1
      have h2 := wpOp_putIf hoj (hfree j oj hoj hji hjun hnot) (fun cs b => hsel i oi cs b hi) (fun cs b => hsel j oj cs b hoj) (fun c a w h => h) hy h1
      have hfree' : ∀ k ok, ops[k]? = some ok → k ≠ i → (listed.setIfInBounds j true).getD k true = false →
          (∀ e ∈ ok.after, Region.binds md e = true → e.on ≠ i) → oi.apart ops ok = true := fun k ok hk hki hun hno => by
        refine hfree k ok hk hki ?_ hno
        by_cases hjk : j = k
        · subst hjk; exact hjun
        · rw [getD_set_ne true hjk] at hun; exact hun
      refine wpOp_mono (fun a' w' h3 => ?_) h2
      obtain ⟨g1, g2, g3⟩ := h3
      have e1 : (listed.setIfInBounds i true).setIfInBounds j true = (listed.setIfInBounds j true).setIfInBounds i true := Array.setIfInBounds_comm _ _ (Ne.symm hji)
      rw [e1] at g2 g3
      have g4 := hdown _ _ g2
      exact ⟨g4, ih (listed.setIfInBounds j true) a' w' (hc.set hj) hfree' (ready_mono hr (Ne.symm hji)) g1 g4 hup hdown g3⟩
end tree

/-! The judgement: a plan says in which order to go: 2i: operation i only looks; 2i+1: it acts, and nothing else can come. 'z' is the operation that first changes what the others look at. -/
def planOK (md : Region.Mode) (ops : Array Oper) : List Nat → Array Bool → Bool
  | [], listed => (Region.ready md ops listed).isEmpty
  | p :: r, listed => (cond (Nat.beq (p % 2) 0) ((Region.ready md ops listed).contains (p / 2) && Region.free md ops listed (p / 2)) (Region.ready md ops listed == [p / 2])) && planOK md ops r (listed.setIfInBounds (p / 2) true)
def HasL (K : PH) (A : List PH) (w : World) : Prop := (∀ b o, K b = some o → w.heap[b]? = some o) ∧ ∀ h ∈ A, ∀ b o, h b = some o → w.heap[b]? = some o
def still (z : Nat) (H : World → Prop) (L : Array Bool) (w : World) : Prop := L.getD z false = false → H w
def WA (P : Program) (w0 : World) (ops : Array Oper) (Q : Exit → Act → World → Prop) (K0 : PH) (A : List PH) (z : Nat) (plan : List Nat) (listed : Array Bool) (n : Nat) (l : Sl) (K : PH) (hs : List PH) : Prop :=
  planOK .any ops plan listed = true → Closed .any ops listed → ∀ a w, Ag n l a → Sat w0 w K hs → still z (HasL K0 A) listed w → tr P .any ops (Q .normal) (still z (HasL K0 A)) plan.length listed a w
theorem HasL.of {w0 w : World} {K : PH} {hs A : List PH} (s : Sat w0 w K hs) (hA : hs.take A.length = A) : HasL K A w := by
  refine ⟨s.imm, fun h hm b o hb => ?_⟩
  rw [← hA] at hm
  exact s.block (.inr (List.getElem?_of_mem (List.mem_of_mem_take hm))) hb
theorem HasL.cell {w : World} {K : PH} {A : List PH} (s : HasL K A w) {h : PH} (hi : In K A h) {a : Addr} {v : Value} (hc : Cell h a v) : w.cell? a = some v := by
  obtain ⟨hsp, c, ty, fr, hb, hv⟩ := hc
  have : w.heap[a.block]? = some (.cells c ty fr) := by
    rcases hi with rfl | ⟨i, hi⟩
    · exact s.1 _ _ hb
    · exact s.2 h (List.mem_of_getElem? hi) _ _ hb
  simp [World.cell?, this, hsp, hv]
section rules
variable {P : Program} {T : Tab} {w0 : World} {ops : Array Oper} {Q : Exit → Act → World → Prop} {plan plan' : List Nat} {z : Nat} {listed listed' : Array Bool} {n : Nat} {l l' : Sl} {K K0 : PH} {hs A : List PH}
theorem rgd {id : Nat} {o : List Oper} (m z : Nat) (plan : List Nat) (hm : P.follows .mixedOrders = true) (hp : (planOK .any o.toArray plan (Array.replicate o.toArray.size false) && Nat.beq plan.length o.toArray.size) = true)
    (h : WA P w0 o.toArray Q K (hs.take m) z plan (Array.replicate o.toArray.size false) n l K hs) : WC P w0 (.region id o.toArray true) Q n l K hs := by
  intro a w ha hw
  simp only [Bool.and_eq_true] at hp
  refine wp_region_any hm ?_
  have hlen : plan.length = o.toArray.size := Nat.eq_of_beq_eq_true hp.2
  have hw' : Sat w0 { w with drawn := w.drawn + 1 } K hs := hw.drew
  have hc : Closed .any o.toArray (Array.replicate o.toArray.size false) := by
    refine ⟨by simp, ?_⟩
    intro j oj hj hl
    have : (Array.replicate o.toArray.size false).getD j false = false := getD_replicate_false _ _
    rw [this] at hl
    cases hl
  have hh := h hp.1 hc a { w with drawn := w.drawn + 1 } ha hw' (fun _ => HasL.of hw' (by simp))
  rw [hlen] at hh
  refine tr_any (q := Q .normal) (fun e a w h => ?_) _ _ _ _ hh
  cases e <;> first | exact h | exact h.elim
theorem still_up {H : World → Prop} (i : Nat) (L : Array Bool) (w : World) (h : still z H L w) : still z H (L.setIfInBounds i true) w := by
  intro hr
  refine h ?_
  cases e : L.getD z false with
  | false => rfl
  | true => rw [getD_set_true e] at hr; cases hr
theorem still_down {H : World → Prop} {i : Nat} (hi : i ≠ z) (L : Array Bool) (w : World) (h : still z H (L.setIfInBounds i true) w) : still z H L w := by
  intro hr
  exact h (by rw [getD_set_ne false hi]; exact hr)
/-- the general step: an operation that looks -/
theorem WA.look {i : Nat} {o : Oper} {d : Nat} {v : Value} (hi : ops[i]? = some o) (hsel : Region.noSelect ops = true) (hz : Nat.beq i z = false) (hd : o.dst = some d) (hb : Nat.blt d n = true)
    (hy : ∀ a, Ag n l a → YieldsIf P ops (fun w => ∃ L : Array Bool, Closed .any ops L ∧ L.getD i true = false ∧ still z (HasL K0 A) L w) o v a)
    (hk : WA P w0 ops Q K0 A z plan (listed.setIfInBounds i true) n ((d, v) :: l) K hs) : WA P w0 ops Q K0 A z (2 * i :: plan) listed n l K hs := by
  intro hp hc a w ha hw hl
  simp only [planOK, Bool.and_eq_true] at hp
  obtain ⟨h1, h2⟩ := hp
  rw [show 2 * i % 2 = 0 from by omega, show 2 * i / 2 = i from by omega] at h1
  rw [show 2 * i / 2 = i from by omega] at h2
  have h3 : ((Region.ready .any ops listed).contains i && Region.free .any ops listed i) = true := h1
  simp only [Bool.and_eq_true] at h3
  have hready : i ∈ Region.ready .any ops listed := by simpa using h3.1
  have hkk := hk h2 (hc.set hready) _ w (ha.put (v := v) hb) hw (still_up i listed w hl)
  have hzi : i ≠ z := Nat.ne_of_beq_eq_false hz
  refine tr_first hi (Region.noSelect_spec hsel) _ listed a w hc (Region.free_spec hi h3.2) hready (hy a ha) hl (fun L w' h => still_up i L w' h) (fun L w' h => still_down hzi L w' h) ?_
  rw [hd]
  exact hkk
/-- an operation that looks at nothing -/
theorem WA.pure (hT : TabOK P T) {i : Nat} {o : Oper} {d : Nat} {v : Value} (hi : ops[i]? = some o) (hsel : Region.noSelect ops = true) (hz : Nat.beq i z = false) (hd : o.dst = some d) (hb : Nat.blt d n = true)
    (hv : gOK ops l o.guard = some true ∧ pureOp T l o.op = some v ∨ gOK ops l o.guard = some false ∧ v = undef)
    (hk : WA P w0 ops Q K0 A z plan (listed.setIfInBounds i true) n ((d, v) :: l) K hs) : WA P w0 ops Q K0 A z (2 * i :: plan) listed n l K hs := by
  refine WA.look hi hsel hz hd hb (fun a ha => ?_) hk
  rcases hv with ⟨hg, hv⟩ | ⟨hg, rfl⟩
  · exact .inl ⟨gOK_wanted ha hg, fun w _ => pureOp_run hT hv ha w⟩
  · exact .inr ⟨gOK_wanted ha hg, rfl⟩
/-- pure operations by the plan -/
def planN (T : Tab) (ops : Array Oper) (n z : Nat) : Nat → List Nat → Array Bool → Sl → Option (List Nat × Array Bool × Sl)
  | 0, p, L, l => some (p, L, l)
  | _ + 1, [], _, _ => none
  | k + 1, p :: r, L, l => match Nat.beq (p % 2) 0, Nat.beq (p / 2) z, ops[p / 2]? with
    | true, false, some o => match o.dst with
      | some d => match Nat.blt d n, gOK ops l o.guard with
        | true, some true => match pureOp T l o.op with
          | some v => planN T ops n z k r (L.setIfInBounds (p / 2) true) ((d, v) :: l)
          | none => none
        | true, some false => planN T ops n z k r (L.setIfInBounds (p / 2) true) ((d, undef) :: l)
        | _, _ => none
      | none => none
    | _, _, _ => none
theorem WA.pures (hT : TabOK P T) (hsel : Region.noSelect ops = true) : ∀ (k : Nat) {plan : List Nat} {listed : Array Bool} {l : Sl}, planN T ops n z k plan listed l = some (plan', listed', l') →
    WA P w0 ops Q K0 A z plan' listed' n l' K hs → WA P w0 ops Q K0 A z plan listed n l K hs
  | 0, plan, listed, l, h, hk => by simp only [planN, Option.some.injEq, Prod.mk.injEq] at h; obtain ⟨rfl, rfl, rfl⟩ := h; exact hk
  | k + 1, [], listed, l, h, hk => by simp [planN] at h
  | k + 1, p :: r, listed, l, h, hk => by
    simp only [planN] at h
    cases h1 : Nat.beq (p % 2) 0 with
    | false => simp [h1] at h
    | true =>
      cases h2 : Nat.beq (p / 2) z with
      | true => simp [h1, h2] at h
      | false =>
        cases h3 : ops[p / 2]? with
        | none => simp [h1, h2, h3] at h
        | some o =>
          simp only [h1, h2, h3] at h
          have hp2 : p = 2 * (p / 2) := by have := Nat.eq_of_beq_eq_true h1; omega
          cases hd : o.dst with
          | none => simp [hd] at h
          | some d =>
            simp only [hd] at h
            cases hb : Nat.blt d n with
            | false => simp [hb] at h
            | true =>
              cases hg : gOK ops l o.guard with
              | none => simp [hb, hg] at h
              | some g =>
                cases g with
                | true =>
                  simp only [hb, hg] at h
                  cases hv : pureOp T l o.op with
                  | none => simp [hv] at h
                  | some v =>
                    simp only [hv] at h
                    rw [hp2]
                    exact WA.pure hT h3 hsel h2 hd hb (.inl ⟨hg, hv⟩) (WA.pures hT hsel k h hk)
                | false =>
                  simp only [hb, hg] at h
                  rw [hp2]
                  exact WA.pure hT h3 hsel h2 hd hb (.inr ⟨hg, rfl⟩) (WA.pures hT hsel k h hk)
/-- the operation of the plan's head -/
def headAt (T : Tab) (ops : Array Oper) (n z k : Nat) (plan : List Nat) (L : Array Bool) (l : Sl) : Option (Nat × Oper × List Nat × Array Bool × Sl) :=
  match planN T ops n z k plan L l with
  | some (p :: r, L', l') => match ops[p / 2]? with
    | some o => some (p, o, r, L', l')
    | none => none
  | _ => none
theorem headAt_spec {k p : Nat} {o : Oper} (h : headAt T ops n z k plan listed l = some (p, o, plan', listed', l')) : planN T ops n z k plan listed l = some (p :: plan', listed', l') ∧ ops[p / 2]? = some o := by
  unfold headAt at h
  split at h
  · rename_i p' r L' l2 hp
    split at h
    · rename_i o' ho
      simp only [Option.some.injEq, Prod.mk.injEq] at h
      obtain ⟨rfl, rfl, rfl, rfl, rfl⟩ := h
      exact ⟨hp, ho⟩
    · simp at h
  · simp at h
/-- a load in a region whose order is open -/
def dldAt (T : Tab) (ops : Array Oper) (n z k : Nat) (plan : List Nat) (L : Array Bool) (l : Sl) : Option (Nat × Addr × List Nat × Array Bool × Sl) :=
  match headAt T ops n z k plan L l with
  | some (p, o, r, L', l') => match Nat.beq (p % 2) 0, Nat.beq (p / 2) z, cond (Nat.blt z ops.size) (Region.waitsFor .any ops z (p / 2)) true, gOK ops l' o.guard, o.dst, o.op with
    | true, false, true, some true, some d, .load t x => match Nat.blt d n, asc T.kinds t, ev l' x with
      | true, some kd, some (.pointer (some a)) => cond kd.one (some (d, a, r, L'.setIfInBounds (p / 2) true, l')) none
      | _, _, _ => none
    | _, _, _, _, _, _ => none
  | none => none
theorem closed_waits {L : Array Bool} {i : Nat} (c : Closed .any ops L) (hi : L.getD i true = false) (hw : cond (Nat.blt z ops.size) (Region.waitsFor .any ops z i) true = true) : L.getD z false = false := by
  cases hb : Nat.blt z ops.size with
  | false =>
    have : ¬ z < ops.size := fun h => by
      have : Nat.blt z ops.size = true := Nat.ble_eq_true_of_le h
      rw [this] at hb; cases hb
    have h2 : L.size ≤ z := by rw [c.1]; omega
    simp [Array.getElem?_eq_none h2]
  | true =>
    rw [hb] at hw
    obtain ⟨oj, hoj, e, he, hbb, hon⟩ := Region.waitsFor_spec hw
    cases hz : L.getD z false with
    | false => rfl
    | true =>
      have := c.2 z oj hoj hz e he hbb
      rw [hon] at this
      rcases Nat.lt_or_ge i L.size with h' | h'
      · simp [h'] at hi this; rw [hi] at this; cases this
      · simp [Array.getElem?_eq_none h'] at this
theorem dld (hT : TabOK P T) (hsel : Region.noSelect ops = true) (k : Nat) {d : Nat} {a : Addr} {v : Value} {h : PH} (h0 : dldAt T ops n z k plan listed l = some (d, a, plan', listed', l')) (hm : In K0 A h) (hc : Cell h a v)
    (hk : WA P w0 ops Q K0 A z plan' listed' n ((d, v) :: l') K hs) : WA P w0 ops Q K0 A z plan listed n l K hs := by
  unfold dldAt at h0
  split at h0
  · rename_i p o r L' l2 hh
    split at h0
    · rename_i dd t x hp hz hwf hg hd hop
      split at h0
      · rename_i kd a' hb hkd hx
        cases h1 : kd.one with
        | false => simp [h1] at h0
        | true =>
          simp only [h1, cond_true, Option.some.injEq, Prod.mk.injEq] at h0
          obtain ⟨rfl, rfl, rfl, rfl, rfl⟩ := h0
          obtain ⟨g1, g2⟩ := headAt_spec hh
          refine WA.pures hT hsel k g1 ?_
          have hp2 : p = 2 * (p / 2) := by have := Nat.eq_of_beq_eq_true hp; omega
          rw [hp2]
          refine WA.look g2 hsel hz hd hb (fun A' ha => .inl ⟨gOK_wanted ha hg, fun w hw => ?_⟩) hk
          obtain ⟨L, hcl, hun, hst⟩ := hw
          have hcell := (hst (closed_waits hcl hun hwf)).cell hm hc
          have h2 := run_load1 (P := P) hT hkd h1 hcell
          simp only [execOp, hop, ha.ev hx]
          simp [h2]
      · simp at h0
    · simp at h0
  · simp at h0
theorem dldp (hT : TabOK P T) (hsel : Region.noSelect ops = true) (k i : Nat) {d b off ty : Nat} {v : Value} {c : Array Value} {fr : Nat × Nat} (h0 : dldAt T ops n z k plan listed l = some (d, ⟨b, off, none⟩, plan', listed', l'))
    (hi : A[i]? = some (pt b c ty fr)) (hv : c[off]? = some v) (hk : WA P w0 ops Q K0 A z plan' listed' n ((d, v) :: l') K hs) : WA P w0 ops Q K0 A z plan listed n l K hs :=
  dld hT hsel k h0 (.inr ⟨i, hi⟩) (Cell.pt hv) hk
/-- any operation that looks at no memory, its value told -/
def dopAt (T : Tab) (ops : Array Oper) (n z k : Nat) (plan : List Nat) (L : Array Bool) (l : Sl) : Option (Nat × Oper × List Nat × Array Bool × Sl) :=
  match headAt T ops n z k plan L l with
  | some (p, o, r, L', l') => match Nat.beq (p % 2) 0, Nat.beq (p / 2) z, gOK ops l' o.guard, o.dst with
    | true, false, some true, some d => match Nat.blt d n with
      | true => some (d, o, r, L'.setIfInBounds (p / 2) true, l')
      | false => none
    | _, _, _, _ => none
  | none => none
theorem dop (hT : TabOK P T) (hsel : Region.noSelect ops = true) (k : Nat) {d : Nat} {o : Oper} {v : Value} (h0 : dopAt T ops n z k plan listed l = some (d, o, plan', listed', l'))
    (hv : ∀ a w, Ag n l' a → (execOp a.eval o).run P w = .ok (.value v) w) (hk : WA P w0 ops Q K0 A z plan' listed' n ((d, v) :: l') K hs) : WA P w0 ops Q K0 A z plan listed n l K hs := by
  unfold dopAt at h0
  split at h0
  · rename_i p o' r L' l2 hh
    split at h0
    · rename_i dd hp hz hg hd
      split at h0
      · rename_i hb
        simp only [Option.some.injEq, Prod.mk.injEq] at h0
        obtain ⟨rfl, rfl, rfl, rfl, rfl⟩ := h0
        obtain ⟨g1, g2⟩ := headAt_spec hh
        refine WA.pures hT hsel k g1 ?_
        have hp2 : p = 2 * (p / 2) := by have := Nat.eq_of_beq_eq_true hp; omega
        rw [hp2]
        exact WA.look g2 hsel hz hd hb (fun A' ha => .inl ⟨gOK_wanted ha hg, fun w _ => hv A' w ha⟩) hk
      · simp at h0
    · simp at h0
  · simp at h0
def dvalAt (T : Tab) (ops : Array Oper) (n z k : Nat) (plan : List Nat) (L : Array Bool) (l : Sl) : Option (Nat × Value × List Nat × Array Bool × Sl) :=
  match dopAt T ops n z k plan L l with
  | some (d, o, r, L', l') => match pureOp T l' o.op with
    | some v => some (d, v, r, L', l')
    | none => none
  | none => none
theorem dar (hT : TabOK P T) (hsel : Region.noSelect ops = true) (k : Nat) {d : Nat} {v v' : Value} (h0 : dvalAt T ops n z k plan listed l = some (d, v, plan', listed', l')) (he : v = v')
    (hk : WA P w0 ops Q K0 A z plan' listed' n ((d, v') :: l') K hs) : WA P w0 ops Q K0 A z plan listed n l K hs := by
  subst he
  unfold dvalAt at h0
  split at h0
  · rename_i d' o r L' l2 hh
    split at h0
    · rename_i v' hv
      simp only [Option.some.injEq, Prod.mk.injEq] at h0
      obtain ⟨rfl, rfl, rfl, rfl, rfl⟩ := h0
      exact dop hT hsel k hh (fun a w ha => pureOp_run hT hv ha w) hk
    · simp at h0
  · simp at h0
theorem dcb (hT : TabOK P T) (hsel : Region.noSelect ops = true) (k : Nat) {d : Nat} {b : Bool} (h0 : dvalAt T ops n z k plan listed l = some (d, .bool b, plan', listed', l'))
    (hy : b = true → WA P w0 ops Q K0 A z plan' listed' n ((d, .bool true) :: l') K hs) (hn : b = false → WA P w0 ops Q K0 A z plan' listed' n ((d, .bool false) :: l') K hs) : WA P w0 ops Q K0 A z plan listed n l K hs := by
  cases b with
  | true => exact dar hT hsel k h0 rfl (hy rfl)
  | false => exact dar hT hsel k h0 rfl (hn rfl)
theorem dcmp (hT : TabOK P T) (hsel : Region.noSelect ops = true) (k : Nat) {d : Nat} {b : Bool} (p : Prop) (h0 : dvalAt T ops n z k plan listed l = some (d, .bool b, plan', listed', l')) (hp : p ↔ b = true)
    (hy : p → WA P w0 ops Q K0 A z plan' listed' n ((d, .bool true) :: l') K hs) (hn : ¬ p → WA P w0 ops Q K0 A z plan' listed' n ((d, .bool false) :: l') K hs) : WA P w0 ops Q K0 A z plan listed n l K hs :=
  dcb hT hsel k h0 (fun h => hy (hp.2 h)) (fun h => hn (fun h' => by rw [hp.1 h'] at h; cases h))
/-- a part of a slice, in a region whose order is open -/
theorem dsl (hT : TabOK P T) (hsel : Region.noSelect ops = true) (k : Nat) {d d' : Nat} {o : Oper} {si : SlI} {ao : Option Addr} {n1 c1 : Nat} {lo hi : Option Int} {h : PH} {xs ys : List Value} (L N : Nat)
    (h0 : dopAt T ops n z k plan listed l = some (d, o, plan', listed', l')) (h1 : slAt T ops n 0 [o] l' = some (d', si, (ao, n1, c1), lo, hi, [], l')) (x : IsS h ao n1 c1 si.size xs) (hL : lo.getD 0 = (L : Int)) (hH : hi.getD n1 = ((L + N : Nat) : Int)) (hN : L + N ≤ n1)
    (hy : (xs.drop (L * si.size)).take (N * si.size) = ys)
    (hk : ∀ ao' cap', IsS h ao' N cap' si.size ys → WA P w0 ops Q K0 A z plan' listed' n ((d, .slice ao' N cap') :: l') K hs) : WA P w0 ops Q K0 A z plan listed n l K hs := by
  obtain ⟨o', ho, hd, hb, hrun⟩ := slAt_run (P := P) hT L (L + N) h1 hL hH (by omega) (by have := x.2.1; omega)
  have ho' : o' = o := by
    have e : pureN T ops n 0 [o] l' = some ([o], l') := rfl
    unfold opAt at ho
    rw [e] at ho
    dsimp only at ho
    split at ho
    · simp only [Option.some.injEq, Prod.mk.injEq] at ho
      exact ho.1.symm
    · simp at ho
  subst ho'
  refine dop hT hsel k h0 (v := .slice (cutA ao c1 L si.size) N (c1 - L)) (fun a w ha => ?_) (hk _ _ (x.cut L N hN hy))
  have := hrun a w ha
  rw [Nat.add_sub_cancel_left] at this
  exact this
/-- all is done -/
theorem dend (hT : TabOK P T) (hsel : Region.noSelect ops = true) (k : Nat) (h0 : planN T ops n z k plan listed l = some ([], listed', l')) (hk : WQ w0 Q .normal n l' K hs) : WA P w0 ops Q K0 A z plan listed n l K hs :=
  WA.pures hT hsel k h0 fun hp _ a w ha hw _ => by
    simp only [planOK, List.isEmpty_iff] at hp
    exact ⟨hp, hk a w ha hw⟩
/-- what comes behind an operation that acts: inside it the steps of plain regions serve -/
def aft (P : Program) (w0 : World) (ops : Array Oper) (Q : Exit → Act → World → Prop) (K0 : PH) (A : List PH) (z : Nat) (plan : List Nat) (listed : Array Bool) : Exit → Act → World → Prop :=
  nrm fun a w => still z (HasL K0 A) listed w ∧ tr P .any ops (Q .normal) (still z (HasL K0 A)) plan.length listed a w
def actAt (T : Tab) (ops : Array Oper) (n z k : Nat) (plan : List Nat) (L : Array Bool) (l : Sl) : Option (Oper × List Nat × Array Bool × Sl) :=
  match headAt T ops n z k plan L l with
  | some (p, o, r, L', l') => cond (Nat.beq (p % 2) 1) (some (o, r, L'.setIfInBounds (p / 2) true, l')) none
  | none => none
theorem dact (hT : TabOK P T) (hsel : Region.noSelect ops = true) (k : Nat) {o : Oper} (h0 : actAt T ops n z k plan listed l = some (o, plan', listed', l'))
    (hk : WL P w0 ops (fun e a w => planOK .any ops plan' listed' = true → Closed .any ops listed' → aft P w0 ops Q K0 A z plan' listed' e a w) [o] n l' K hs) : WA P w0 ops Q K0 A z plan listed n l K hs := by
  unfold actAt at h0
  split at h0
  · rename_i p o' r L' l2 hh
    cases hp1 : Nat.beq (p % 2) 1 with
    | false => simp [hp1] at h0
    | true =>
      simp only [hp1, cond_true, Option.some.injEq, Prod.mk.injEq] at h0
      obtain ⟨rfl, rfl, rfl, rfl⟩ := h0
      obtain ⟨g1, g2⟩ := headAt_spec hh
      refine WA.pures hT hsel k g1 ?_
      intro hp hc a w ha hw hl
      simp only [planOK, Bool.and_eq_true] at hp
      obtain ⟨h1, h2⟩ := hp
      have hpar : p % 2 = 1 := Nat.eq_of_beq_eq_true hp1
      have hpb : Nat.beq (p % 2) 0 = false := by rw [hpar]; rfl
      rw [hpb] at h1
      simp only [cond_false, beq_iff_eq] at h1
      have hmem : p / 2 ∈ Region.ready .any ops L' := by rw [h1]; simp
      have hc' := hc.set hmem
      have hwl := hk a w ha hw
      refine ⟨fun h0 => (by rw [h1] at h0; cases h0), fun i hi => ?_⟩
      rw [h1] at hi
      simp only [List.mem_singleton] at hi
      subst hi
      unfold wpOp
      simp only [g2]
      unfold wpList at hwl
      have conv : ∀ e a w, (planOK .any ops r (L'.setIfInBounds (p / 2) true) = true → Closed .any ops (L'.setIfInBounds (p / 2) true) → aft P w0 ops Q K0 A z r (L'.setIfInBounds (p / 2) true) e a w) →
          nrm (fun a w => still z (HasL K0 A) (L'.setIfInBounds (p / 2) true) w ∧ tr P .any ops (Q .normal) (still z (HasL K0 A)) r.length (L'.setIfInBounds (p / 2) true) a w) e a w := fun e a w h => h h2 hc'
      split
      · rename_i hwn
        rw [if_pos hwn] at hwl
        rcases hwl with hwl | ⟨_, a', w', hwl⟩
        · refine .inl (Oper.wp_mono ?_ (upon_q (Q' := nrm (Q .normal)) (fun c a w h => (conv (.panic c) a w h).elim) (fun a w h => (conv .outgrown a w h).elim) hwl))
          intro a w h
          simp only [wpList] at h
          exact conv .normal a w h
        · exact (conv .outgrown a' w' hwl).elim
      · rename_i hwn
        rw [if_neg hwn] at hwl
        simp only [wpList] at hwl
        exact conv .normal _ _ hwl
  · simp at h0
/-- back to the plan -/
theorem dnext {L : Array Bool} (hst : L.getD z false = true ∨ hs.take A.length = A ∧ K0 = K) (hk : WA P w0 ops Q K0 A z plan L n l K hs) :
    WL P w0 ops (fun e a w => planOK .any ops plan L = true → Closed .any ops L → aft P w0 ops Q K0 A z plan L e a w) [] n l K hs := by
  intro a w ha hw
  refine wpList_nil fun hp hc => ?_
  have hst' : still z (HasL K0 A) L w := by
    intro hz
    rcases hst with h | ⟨h1, rfl⟩
    · rw [h] at hz; cases hz
    · exact HasL.of hw h1
  exact ⟨hst', hk hp hc a w ha hw hst'⟩
end rules
end Go.En
