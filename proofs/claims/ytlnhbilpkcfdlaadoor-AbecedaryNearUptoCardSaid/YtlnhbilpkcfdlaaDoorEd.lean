/-
  Regions whose order is open: what looks alone is done first, in any order; what acts comes in its turn.
  The rules of the engine: structs, texts of bytes.
  Bytes turned into texts, in plain regions and in those whose order is open; results that lie in cells.
  More rules: an element's address where the order is open; an element stored; branches that meet again.
  More rules: a text turned into bytes; structs compared; what is owned laid among what stays; a struct handed back alone.
  Truths that are not told apart: tests whose result is a name, parts of a region that are only done if a truth stands so, joined again at once.
-/
import Derived.Test.YtlnhbilpkcfdlaaDoorEn
import Derived.OrdersHeld
import Derived.StillTail
import Derived.Laws.BytesArg
import Derived.Lib.ConvBytes
import Derived.Laws.StructEq
set_option linter.unusedSimpArgs false
set_option linter.unusedVariables false
namespace Go.En
set_option linter.unusedVariables false

section tree
variable {P : Program} {ops : Array Oper} {md : Region.Mode} {S : Array Bool → World → Prop}
/-- the normal exit alone -/
def nrm (q : Act → World → Prop) : Exit → Act → World → Prop
  | .normal, a, w => q a w
  | _, _, _ => False
theorem upon_q {o : Oper} {a : Act} {K : Act → World → Prop} {Q Q' : Exit → Act → World → Prop} (hp : ∀ c a w, Q (.panic c) a w → Q' (.panic c) a w) (hg : ∀ a w, Q .outgrown a w → Q' .outgrown a w) {r : Result Next} (h : o.upon P a K Q r) : o.upon P a K Q' r := by
  cases r with
  | ok n w' =>
    cases n <;> simp only [Oper.upon] at h ⊢ <;> first
      | exact h
      | (refine Calls.mono h fun e w'' he => ?_
         cases e with
         | returned v => exact he
         | panicked c => exact hp _ _ _ he
         | outgrown => obtain ⟨a, w, hh⟩ := he; exact ⟨a, w, hg _ _ hh⟩)
  | halt x w' =>
    cases x <;> simp only [Oper.upon] at h ⊢ <;> first
      | exact hp _ _ _ h
      | exact h
theorem wpOp_q {i : Nat} {K : Act → World → Prop} {Q Q' : Exit → Act → World → Prop} (hq : ∀ e a w, Q e a w → Q' e a w) {a : Act} {w : World} (h : wpOp P ops Q i K a w) : wpOp P ops Q' i K a w := by
  unfold wpOp at *
  split
  · exact by simpa [*] using h
  · rename_i o ho
    simp only [ho] at h
    split
    · rename_i hw
      simp only [hw, if_true] at h
      exact h.imp (upon_q (fun c => hq (.panic c)) (hq .outgrown)) (fun ⟨h1, a, w, h2⟩ => ⟨h1, a, w, hq _ _ _ h2⟩)
    · rename_i hw; simp only [hw] at h; exact h
/-- whatever order is picked; behind each operation 'S' holds of what is done and of the world -/
def tr (P : Program) (md : Region.Mode) (ops : Array Oper) (q : Act → World → Prop) (S : Array Bool → World → Prop) : Nat → Array Bool → Act → World → Prop
  | 0, listed, a, w => Region.ready md ops listed = [] ∧ q a w
  | f + 1, listed, a, w => (Region.ready md ops listed = [] → q a w) ∧
    ∀ i ∈ Region.ready md ops listed, wpOp P ops (nrm q) i (fun a' w' => S (listed.setIfInBounds i true) w' ∧ tr P md ops q S f (listed.setIfInBounds i true) a' w') a w
theorem tr_any {q : Act → World → Prop} {Q : Exit → Act → World → Prop} (hq : ∀ e a w, nrm q e a w → Q e a w) : ∀ (f : Nat) (listed : Array Bool) (a : Act) (w : World), tr P md ops q S f listed a w → wpAny P md ops Q f listed a w
  | 0, _, _, _, h => ⟨h.1, hq .normal _ _ h.2⟩
  | f + 1, _, _, _, h => ⟨fun h0 => hq .normal _ _ (h.1 h0), fun i hi => wpOp_mono (fun a' w' h' => tr_any hq f _ a' w' h'.2) (wpOp_q hq (h.2 i hi))⟩
/-- who is done has done behind whom he waits for -/
def Closed (md : Region.Mode) (ops : Array Oper) (L : Array Bool) : Prop := L.size = ops.size ∧ ∀ j oj, ops[j]? = some oj → L.getD j false = true → ∀ e ∈ oj.after, Region.binds md e = true → L.getD e.on false = true
theorem Closed.set {L : Array Bool} {i : Nat} (c : Closed md ops L) (hr : i ∈ Region.ready md ops L) : Closed md ops (L.setIfInBounds i true) := by
  obtain ⟨_, oi, hoi, hall⟩ := mem_ready.1 hr
  refine ⟨by simpa using c.1, ?_⟩
  intro j oj hj hl e he hb
  by_cases hij : i = j
  · subst hij
    obtain rfl : oj = oi := Option.some.inj (hj.symm.trans hoi)
    exact getD_set_true (hall e he hb)
  · rw [getD_set_ne false hij] at hl
    exact getD_set_true (c.2 j oj hj hl e he hb)
theorem tr_first {q : Act → World → Prop} {i : Nat} {oi : Oper} {v : Value} (hi : ops[i]? = some oi) (hsel : ∀ (j : Nat) (o : Oper) cs b, ops[j]? = some o → o.op ≠ .select cs b) :
    ∀ (f : Nat) (listed : Array Bool) (a : Act) (w : World), Closed md ops listed →
      (∀ j oj, ops[j]? = some oj → j ≠ i → listed.getD j true = false → (∀ e ∈ oj.after, Region.binds md e = true → e.on ≠ i) → oi.apart ops oj = true) →
      i ∈ Region.ready md ops listed → YieldsIf P ops (fun w => ∃ L : Array Bool, Closed md ops L ∧ L.getD i true = false ∧ S L w) oi v a → S listed w →
      (∀ (L : Array Bool) w', S L w' → S (L.setIfInBounds i true) w') → (∀ (L : Array Bool) w', S (L.setIfInBounds i true) w' → S L w') →
      tr P md ops q S f (listed.setIfInBounds i true) (a.put oi.dst v) w → tr P md ops q S (f + 1) listed a w := by
  intro f
  induction f with
  | zero =>
    intro listed a w hc _ hr hy hS hup hdown H
    refine ⟨fun h => (by rw [h] at hr; cases hr), fun j hj => ?_⟩
    by_cases hji : j = i
    · subst hji; exact hy.wpOp hi ⟨listed, hc, (mem_ready.1 hr).1, hS⟩ ⟨hup _ _ hS, H⟩
    · have := ready_mono hj hji
      rw [H.1] at this
      cases this
  | succ f ih =>
    intro listed a w hc hfree hr hy hS hup hdown H
    refine ⟨fun h => (by rw [h] at hr; cases hr), fun j hj => ?_⟩
    by_cases hji : j = i
    · subst hji; exact hy.wpOp hi ⟨listed, hc, (mem_ready.1 hr).1, hS⟩ ⟨hup _ _ hS, H⟩
    · have h1 := H.2 j (ready_mono hj hji)
      obtain ⟨hjun, oj, hoj, hall⟩ := mem_ready.1 hj
      have hnot : ∀ e ∈ oj.after, Region.binds md e = true → e.on ≠ i := fun e he hb heq => by
        have h1 := hall e he hb
        have h0 := (mem_ready.1 hr).1
        rw [heq] at h1
        rcases Nat.lt_or_ge i listed.size with h' | h'
        · simp [h'] at h0 h1; rw [h0] at h1; cases h1
        · simp [Array.getElem?_eq_none h'] at h1
      have h2 := wpOp_putIf hoj (hfree j oj hoj hji hjun hnot) (fun cs b => hsel i oi cs b hi) (fun cs b => hsel j oj cs b hoj) (fun c a w h => h) hy h1
      have hfree' : ∀ k ok, ops[k]? = some ok → k ≠ i → (listed.setIfInBounds j true).getD k true = false →
          (∀ e ∈ ok.after, Region.binds md e = true → e.on ≠ i) → oi.apart ops ok = true := fun k ok hk hki hun hno => by
        refine hfree k ok hk hki ?_ hno
        by_cases hjk : j = k
        · subst hjk; exact hjun
        · rw [getD_set_ne true hjk] at hun; exact hun
      refine wpOp_mono (fun a' w' h3 => ?_) h2
      obtain ⟨g1, g2, g3⟩ := h3
      have e1 : (listed.setIfInBounds i true).setIfInBounds j true = (listed.setIfInBounds j true).setIfInBounds i true := Array.setIfInBounds_comm _ _ (Ne.symm hji)
      rw [e1] at g2 g3
      have g4 := hdown _ _ g2
      exact ⟨g4, ih (listed.setIfInBounds j true) a' w' (hc.set hj) hfree' (ready_mono hr (Ne.symm hji)) g1 g4 hup hdown g3⟩
end tree

/-! The judgement: a plan says in which order to go: 2i: operation i only looks; 2i+1: it acts, and nothing else can come. 'z' is the operation that first changes what the others look at. -/
def planOK (md : Region.Mode) (ops : Array Oper) : List Nat → Array Bool → Bool
  | [], listed => (Region.ready md ops listed).isEmpty
  | p :: r, listed => (cond (Nat.beq (p % 2) 0) ((Region.ready md ops listed).contains (p / 2) && Region.free md ops listed (p / 2)) ((Region.ready md ops listed).contains (p / 2))) && planOK md ops r (listed.setIfInBounds (p / 2) true)
def HasL (K : PH) (A : List PH) (w : World) : Prop := (∀ b o, K b = some o → w.heap[b]? = some o) ∧ ∀ h ∈ A, ∀ b o, h b = some o → w.heap[b]? = some o
def still (z : Nat) (H : World → Prop) (L : Array Bool) (w : World) : Prop := L.getD z false = false → H w
def WA (P : Program) (w0 : World) (ops : Array Oper) (Q : Exit → Act → World → Prop) (K0 : PH) (A : List PH) (z : Nat) (plan : List Nat) (listed : Array Bool) (n : Nat) (l : Sl) (K : PH) (hs : List PH) : Prop :=
  planOK .any ops plan listed = true → Closed .any ops listed → ∀ a w, Ag n l a → Sat w0 w K hs → still z (HasL K0 A) listed w → tr P .any ops (Q .normal) (still z (HasL K0 A)) plan.length listed a w
theorem HasL.of {w0 w : World} {K : PH} {hs A : List PH} (s : Sat w0 w K hs) (hA : hs.take A.length = A) : HasL K A w := by
  refine ⟨s.imm, fun h hm b o hb => ?_⟩
  rw [← hA] at hm
  exact s.block (.inr (List.getElem?_of_mem (List.mem_of_mem_take hm))) hb
theorem HasL.cell {w : World} {K : PH} {A : List PH} (s : HasL K A w) {h : PH} (hi : In K A h) {a : Addr} {v : Value} (hc : Cell h a v) : w.cell? a = some v := by
  obtain ⟨hsp, c, ty, fr, hb, hv⟩ := hc
  have : w.heap[a.block]? = some (.cells c ty fr) := by
    rcases hi with rfl | ⟨i, hi⟩
    · exact s.1 _ _ hb
    · exact s.2 h (List.mem_of_getElem? hi) _ _ hb
  simp [World.cell?, this, hsp, hv]
section rules
variable {P : Program} {T : Tab} {w0 : World} {ops : Array Oper} {Q : Exit → Act → World → Prop} {plan plan' : List Nat} {z : Nat} {listed listed' : Array Bool} {n : Nat} {l l' : Sl} {K K0 : PH} {hs A : List PH}
theorem rgd {id : Nat} {o : List Oper} (m z : Nat) (plan : List Nat) (hm : P.follows .mixedOrders = true) (hp : (planOK .any o.toArray plan (Array.replicate o.toArray.size false) && Nat.beq plan.length o.toArray.size) = true)
    (h : WA P w0 o.toArray Q K (hs.take m) z plan (Array.replicate o.toArray.size false) n l K hs) : WC P w0 (.region id o.toArray true) Q n l K hs := by
  intro a w ha hw
  simp only [Bool.and_eq_true] at hp
  refine wp_region_any hm ?_
  have hlen : plan.length = o.toArray.size := Nat.eq_of_beq_eq_true hp.2
  have hw' : Sat w0 { w with drawn := w.drawn + 1 } K hs := hw.drew
  have hc : Closed .any o.toArray (Array.replicate o.toArray.size false) := by
    refine ⟨by simp, ?_⟩
    intro j oj hj hl
    have : (Array.replicate o.toArray.size false).getD j false = false := getD_replicate_false _ _
    rw [this] at hl
    cases hl
  have hh := h hp.1 hc a { w with drawn := w.drawn + 1 } ha hw' (fun _ => HasL.of hw' (by simp))
  rw [hlen] at hh
  refine tr_any (q := Q .normal) (fun e a w h => ?_) _ _ _ _ hh
  cases e <;> first | exact h | exact h.elim
theorem still_up {H : World → Prop} (i : Nat) (L : Array Bool) (w : World) (h : still z H L w) : still z H (L.setIfInBounds i true) w := by
  intro hr
  refine h ?_
  cases e : L.getD z false with
  | false => rfl
  | true => rw [getD_set_true e] at hr; cases hr
theorem still_down {H : World → Prop} {i : Nat} (hi : i ≠ z) (L : Array Bool) (w : World) (h : still z H (L.setIfInBounds i true) w) : still z H L w := by
  intro hr
  exact h (by rw [getD_set_ne false hi]; exact hr)
/-- the general step: an operation that looks -/
theorem WA.look {i : Nat} {o : Oper} {d : Nat} {v : Value} (hi : ops[i]? = some o) (hsel : Region.noSelect ops = true) (hz : Nat.beq i z = false) (hd : o.dst = some d) (hb : Nat.blt d n = true)
    (hy : ∀ a, Ag n l a → YieldsIf P ops (fun w => ∃ L : Array Bool, Closed .any ops L ∧ L.getD i true = false ∧ still z (HasL K0 A) L w) o v a)
    (hk : WA P w0 ops Q K0 A z plan (listed.setIfInBounds i true) n ((d, v) :: l) K hs) : WA P w0 ops Q K0 A z (2 * i :: plan) listed n l K hs := by
  intro hp hc a w ha hw hl
  simp only [planOK, Bool.and_eq_true] at hp
  obtain ⟨h1, h2⟩ := hp
  rw [show 2 * i % 2 = 0 from by omega, show 2 * i / 2 = i from by omega] at h1
  rw [show 2 * i / 2 = i from by omega] at h2
  have h3 : ((Region.ready .any ops listed).contains i && Region.free .any ops listed i) = true := h1
  simp only [Bool.and_eq_true] at h3
  have hready : i ∈ Region.ready .any ops listed := by simpa using h3.1
  have hkk := hk h2 (hc.set hready) _ w (ha.put (v := v) hb) hw (still_up i listed w hl)
  have hzi : i ≠ z := Nat.ne_of_beq_eq_false hz
  refine tr_first hi (Region.noSelect_spec hsel) _ listed a w hc (Region.free_spec hi h3.2) hready (hy a ha) hl (fun L w' h => still_up i L w' h) (fun L w' h => still_down hzi L w' h) ?_
  rw [hd]
  exact hkk
/-- an operation that looks at nothing -/
theorem WA.pure (hT : TabOK P T) {i : Nat} {o : Oper} {d : Nat} {v : Value} (hi : ops[i]? = some o) (hsel : Region.noSelect ops = true) (hz : Nat.beq i z = false) (hd : o.dst = some d) (hb : Nat.blt d n = true)
    (hv : gOK ops l o.guard = some true ∧ pureOp T l o.op = some v ∨ gOK ops l o.guard = some false ∧ v = undef)
    (hk : WA P w0 ops Q K0 A z plan (listed.setIfInBounds i true) n ((d, v) :: l) K hs) : WA P w0 ops Q K0 A z (2 * i :: plan) listed n l K hs := by
  refine WA.look hi hsel hz hd hb (fun a ha => ?_) hk
  rcases hv with ⟨hg, hv⟩ | ⟨hg, rfl⟩
  · exact .inl ⟨gOK_wanted ha hg, fun w _ => pureOp_run hT hv ha w⟩
  · exact .inr ⟨gOK_wanted ha hg, rfl⟩
/-- pure operations by the plan -/
def planN (T : Tab) (ops : Array Oper) (n z : Nat) : Nat → List Nat → Array Bool → Sl → Option (List Nat × Array Bool × Sl)
  | 0, p, L, l => some (p, L, l)
  | _ + 1, [], _, _ => none
  | k + 1, p :: r, L, l => match Nat.beq (p % 2) 0, Nat.beq (p / 2) z, ops[p / 2]? with
    | true, false, some o => match o.dst with
      | some d => match Nat.blt d n, gOK ops l o.guard with
        | true, some true => match pureOp T l o.op with
          | some v => planN T ops n z k r (L.setIfInBounds (p / 2) true) ((d, v) :: l)
          | none => none
        | true, some false => planN T ops n z k r (L.setIfInBounds (p / 2) true) ((d, undef) :: l)
        | _, _ => none
      | none => none
    | _, _, _ => none
theorem WA.pures (hT : TabOK P T) (hsel : Region.noSelect ops = true) : ∀ (k : Nat) {plan : List Nat} {listed : Array Bool} {l : Sl}, planN T ops n z k plan listed l = some (plan', listed', l') →
    WA P w0 ops Q K0 A z plan' listed' n l' K hs → WA P w0 ops Q K0 A z plan listed n l K hs
  | 0, plan, listed, l, h, hk => by simp only [planN, Option.some.injEq, Prod.mk.injEq] at h; obtain ⟨rfl, rfl, rfl⟩ := h; exact hk
  | k + 1, [], listed, l, h, hk => by simp [planN] at h
  | k + 1, p :: r, listed, l, h, hk => by
    simp only [planN] at h
    cases h1 : Nat.beq (p % 2) 0 with
    | false => simp [h1] at h
    | true =>
      cases h2 : Nat.beq (p / 2) z with
      | true => simp [h1, h2] at h
      | false =>
        cases h3 : ops[p / 2]? with
        | none => simp [h1, h2, h3] at h
        | some o =>
          simp only [h1, h2, h3] at h
          have hp2 : p = 2 * (p / 2) := by have := Nat.eq_of_beq_eq_true h1; omega
          cases hd : o.dst with
          | none => simp [hd] at h
          | some d =>
            simp only [hd] at h
            cases hb : Nat.blt d n with
            | false => simp [hb] at h
            | true =>
              cases hg : gOK ops l o.guard with
              | none => simp [hb, hg] at h
              | some g =>
                cases g with
                | true =>
                  simp only [hb, hg] at h
                  cases hv : pureOp T l o.op with
                  | none => simp [hv] at h
                  | some v =>
                    simp only [hv] at h
                    rw [hp2]
                    exact WA.pure hT h3 hsel h2 hd hb (.inl ⟨hg, hv⟩) (WA.pures hT hsel k h hk)
                | false =>
                  simp only [hb, hg] at h
                  rw [hp2]
                  exact WA.pure hT h3 hsel h2 hd hb (.inr ⟨hg, rfl⟩) (WA.pures hT hsel k h hk)
/-- the operation of the plan's head -/
def headAt (T : Tab) (ops : Array Oper) (n z k : Nat) (plan : List Nat) (L : Array Bool) (l : Sl) : Option (Nat × Oper × List Nat × Array Bool × Sl) :=
  match planN T ops n z k plan L l with
  | some (p :: r, L', l') => match ops[p / 2]? with
    | some o => some (p, o, r, L', l')
    | none => none
  | _ => none
theorem headAt_spec {k p : Nat} {o : Oper} (h : headAt T ops n z k plan listed l = some (p, o, plan', listed', l')) : planN T ops n z k plan listed l = some (p :: plan', listed', l') ∧ ops[p / 2]? = some o := by
  unfold headAt at h
  split at h
  · rename_i p' r L' l2 hp
    split at h
    · rename_i o' ho
      simp only [Option.some.injEq, Prod.mk.injEq] at h
      obtain ⟨rfl, rfl, rfl, rfl, rfl⟩ := h
      exact ⟨hp, ho⟩
    · simp at h
  · simp at h
/-- a load in a region whose order is open -/
def dldAt (T : Tab) (ops : Array Oper) (n z k : Nat) (plan : List Nat) (L : Array Bool) (l : Sl) : Option (Nat × Addr × List Nat × Array Bool × Sl) :=
  match headAt T ops n z k plan L l with
  | some (p, o, r, L', l') => match Nat.beq (p % 2) 0, Nat.beq (p / 2) z, cond (Nat.blt z ops.size) (Region.waitsFor .any ops z (p / 2)) true, gOK ops l' o.guard, o.dst, o.op with
    | true, false, true, some true, some d, .load t x => match Nat.blt d n, asc T.kinds t, ev l' x with
      | true, some kd, some (.pointer (some a)) => cond kd.one (some (d, a, r, L'.setIfInBounds (p / 2) true, l')) none
      | _, _, _ => none
    | _, _, _, _, _, _ => none
  | none => none
theorem closed_waits {L : Array Bool} {i : Nat} (c : Closed .any ops L) (hi : L.getD i true = false) (hw : cond (Nat.blt z ops.size) (Region.waitsFor .any ops z i) true = true) : L.getD z false = false := by
  cases hb : Nat.blt z ops.size with
  | false =>
    have : ¬ z < ops.size := fun h => by
      have : Nat.blt z ops.size = true := Nat.ble_eq_true_of_le h
      rw [this] at hb; cases hb
    have h2 : L.size ≤ z := by rw [c.1]; omega
    simp [Array.getElem?_eq_none h2]
  | true =>
    rw [hb] at hw
    obtain ⟨oj, hoj, e, he, hbb, hon⟩ := Region.waitsFor_spec hw
    cases hz : L.getD z false with
    | false => rfl
    | true =>
      have := c.2 z oj hoj hz e he hbb
      rw [hon] at this
      rcases Nat.lt_or_ge i L.size with h' | h'
      · simp [h'] at hi this; rw [hi] at this; cases this
      · simp [Array.getElem?_eq_none h'] at this
theorem dld (hT : TabOK P T) (hsel : Region.noSelect ops = true) (k : Nat) {d : Nat} {a : Addr} {v : Value} {h : PH} (h0 : dldAt T ops n z k plan listed l = some (d, a, plan', listed', l')) (hm : In K0 A h) (hc : Cell h a v)
    (hk : WA P w0 ops Q K0 A z plan' listed' n ((d, v) :: l') K hs) : WA P w0 ops Q K0 A z plan listed n l K hs := by
  unfold dldAt at h0
  split at h0
  · rename_i p o r L' l2 hh
    split at h0
    · rename_i dd t x hp hz hwf hg hd hop
      split at h0
      · rename_i kd a' hb hkd hx
        cases h1 : kd.one with
        | false => simp [h1] at h0
        | true =>
          simp only [h1, cond_true, Option.some.injEq, Prod.mk.injEq] at h0
          obtain ⟨rfl, rfl, rfl, rfl, rfl⟩ := h0
          obtain ⟨g1, g2⟩ := headAt_spec hh
          refine WA.pures hT hsel k g1 ?_
          have hp2 : p = 2 * (p / 2) := by have := Nat.eq_of_beq_eq_true hp; omega
          rw [hp2]
          refine WA.look g2 hsel hz hd hb (fun A' ha => .inl ⟨gOK_wanted ha hg, fun w hw => ?_⟩) hk
          obtain ⟨L, hcl, hun, hst⟩ := hw
          have hcell := (hst (closed_waits hcl hun hwf)).cell hm hc
          have h2 := run_load1 (P := P) hT hkd h1 hcell
          simp only [execOp, hop, ha.ev hx]
          simp [h2]
      · simp at h0
    · simp at h0
  · simp at h0
theorem dldp (hT : TabOK P T) (hsel : Region.noSelect ops = true) (k i : Nat) {d b off ty : Nat} {v : Value} {c : Array Value} {fr : Nat × Nat} (h0 : dldAt T ops n z k plan listed l = some (d, ⟨b, off, none⟩, plan', listed', l'))
    (hi : A[i]? = some (pt b c ty fr)) (hv : c[off]? = some v) (hk : WA P w0 ops Q K0 A z plan' listed' n ((d, v) :: l') K hs) : WA P w0 ops Q K0 A z plan listed n l K hs :=
  dld hT hsel k h0 (.inr ⟨i, hi⟩) (Cell.pt hv) hk
/-- any operation that looks at no memory, its value told -/
def dopAt (T : Tab) (ops : Array Oper) (n z k : Nat) (plan : List Nat) (L : Array Bool) (l : Sl) : Option (Nat × Oper × List Nat × Array Bool × Sl) :=
  match headAt T ops n z k plan L l with
  | some (p, o, r, L', l') => match Nat.beq (p % 2) 0, Nat.beq (p / 2) z, gOK ops l' o.guard, o.dst with
    | true, false, some true, some d => match Nat.blt d n with
      | true => some (d, o, r, L'.setIfInBounds (p / 2) true, l')
      | false => none
    | _, _, _, _ => none
  | none => none
theorem dop (hT : TabOK P T) (hsel : Region.noSelect ops = true) (k : Nat) {d : Nat} {o : Oper} {v : Value} (h0 : dopAt T ops n z k plan listed l = some (d, o, plan', listed', l'))
    (hv : ∀ a w, Ag n l' a → (execOp a.eval o).run P w = .ok (.value v) w) (hk : WA P w0 ops Q K0 A z plan' listed' n ((d, v) :: l') K hs) : WA P w0 ops Q K0 A z plan listed n l K hs := by
  unfold dopAt at h0
  split at h0
  · rename_i p o' r L' l2 hh
    split at h0
    · rename_i dd hp hz hg hd
      split at h0
      · rename_i hb
        simp only [Option.some.injEq, Prod.mk.injEq] at h0
        obtain ⟨rfl, rfl, rfl, rfl, rfl⟩ := h0
        obtain ⟨g1, g2⟩ := headAt_spec hh
        refine WA.pures hT hsel k g1 ?_
        have hp2 : p = 2 * (p / 2) := by have := Nat.eq_of_beq_eq_true hp; omega
        rw [hp2]
        exact WA.look g2 hsel hz hd hb (fun A' ha => .inl ⟨gOK_wanted ha hg, fun w _ => hv A' w ha⟩) hk
      · simp at h0
    · simp at h0
  · simp at h0
def dvalAt (T : Tab) (ops : Array Oper) (n z k : Nat) (plan : List Nat) (L : Array Bool) (l : Sl) : Option (Nat × Value × List Nat × Array Bool × Sl) :=
  match dopAt T ops n z k plan L l with
  | some (d, o, r, L', l') => match pureOp T l' o.op with
    | some v => some (d, v, r, L', l')
    | none => none
  | none => none
theorem dar (hT : TabOK P T) (hsel : Region.noSelect ops = true) (k : Nat) {d : Nat} {v v' : Value} (h0 : dvalAt T ops n z k plan listed l = some (d, v, plan', listed', l')) (he : v = v')
    (hk : WA P w0 ops Q K0 A z plan' listed' n ((d, v') :: l') K hs) : WA P w0 ops Q K0 A z plan listed n l K hs := by
  subst he
  unfold dvalAt at h0
  split at h0
  · rename_i d' o r L' l2 hh
    split at h0
    · rename_i v' hv
      simp only [Option.some.injEq, Prod.mk.injEq] at h0
      obtain ⟨rfl, rfl, rfl, rfl, rfl⟩ := h0
      exact dop hT hsel k hh (fun a w ha => pureOp_run hT hv ha w) hk
    · simp at h0
  · simp at h0
theorem dcb (hT : TabOK P T) (hsel : Region.noSelect ops = true) (k : Nat) {d : Nat} {b : Bool} (h0 : dvalAt T ops n z k plan listed l = some (d, .bool b, plan', listed', l'))
    (hy : b = true → WA P w0 ops Q K0 A z plan' listed' n ((d, .bool true) :: l') K hs) (hn : b = false → WA P w0 ops Q K0 A z plan' listed' n ((d, .bool false) :: l') K hs) : WA P w0 ops Q K0 A z plan listed n l K hs := by
  cases b with
  | true => exact dar hT hsel k h0 rfl (hy rfl)
  | false => exact dar hT hsel k h0 rfl (hn rfl)
theorem dcmp (hT : TabOK P T) (hsel : Region.noSelect ops = true) (k : Nat) {d : Nat} {b : Bool} (p : Prop) (h0 : dvalAt T ops n z k plan listed l = some (d, .bool b, plan', listed', l')) (hp : p ↔ b = true)
    (hy : p → WA P w0 ops Q K0 A z plan' listed' n ((d, .bool true) :: l') K hs) (hn : ¬ p → WA P w0 ops Q K0 A z plan' listed' n ((d, .bool false) :: l') K hs) : WA P w0 ops Q K0 A z plan listed n l K hs :=
  dcb hT hsel k h0 (fun h => hy (hp.2 h)) (fun h => hn (fun h' => by rw [hp.1 h'] at h; cases h))
/-- a part of a slice, in a region whose order is open -/
theorem dsl (hT : TabOK P T) (hsel : Region.noSelect ops = true) (k : Nat) {d d' : Nat} {o : Oper} {si : SlI} {ao : Option Addr} {n1 c1 : Nat} {lo hi : Option Int} {h : PH} {xs ys : List Value} (L N : Nat)
    (h0 : dopAt T ops n z k plan listed l = some (d, o, plan', listed', l')) (h1 : slAt T ops n 0 [o] l' = some (d', si, (ao, n1, c1), lo, hi, [], l')) (x : IsS h ao n1 c1 si.size xs) (hL : lo.getD 0 = (L : Int)) (hH : hi.getD n1 = ((L + N : Nat) : Int)) (hN : L + N ≤ n1)
    (hy : (xs.drop (L * si.size)).take (N * si.size) = ys)
    (hk : ∀ ao' cap', IsS h ao' N cap' si.size ys → WA P w0 ops Q K0 A z plan' listed' n ((d, .slice ao' N cap') :: l') K hs) : WA P w0 ops Q K0 A z plan listed n l K hs := by
  obtain ⟨o', ho, hd, hb, hrun⟩ := slAt_run (P := P) hT L (L + N) h1 hL hH (by omega) (by have := x.2.1; omega)
  have ho' : o' = o := by
    have e : pureN T ops n 0 [o] l' = some ([o], l') := rfl
    unfold opAt at ho
    rw [e] at ho
    dsimp only at ho
    split at ho
    · simp only [Option.some.injEq, Prod.mk.injEq] at ho
      exact ho.1.symm
    · simp at ho
  subst ho'
  refine dop hT hsel k h0 (v := .slice (cutA ao c1 L si.size) N (c1 - L)) (fun a w ha => ?_) (hk _ _ (x.cut L N hN hy))
  have := hrun a w ha
  rw [Nat.add_sub_cancel_left] at this
  exact this
/-- all is done -/
theorem dend (hT : TabOK P T) (hsel : Region.noSelect ops = true) (k : Nat) (h0 : planN T ops n z k plan listed l = some ([], listed', l')) (hk : WQ w0 Q .normal n l' K hs) : WA P w0 ops Q K0 A z plan listed n l K hs :=
  WA.pures hT hsel k h0 fun hp _ a w ha hw _ => by
    simp only [planOK, List.isEmpty_iff] at hp
    exact ⟨hp, hk a w ha hw⟩
/-- what comes behind an operation that acts: inside it the steps of plain regions serve -/
def aft (P : Program) (w0 : World) (ops : Array Oper) (Q : Exit → Act → World → Prop) (K0 : PH) (A : List PH) (z : Nat) (plan : List Nat) (listed : Array Bool) : Exit → Act → World → Prop :=
  nrm fun a w => still z (HasL K0 A) listed w ∧ tr P .any ops (Q .normal) (still z (HasL K0 A)) plan.length listed a w
def actAt (T : Tab) (ops : Array Oper) (n z k : Nat) (plan : List Nat) (L : Array Bool) (l : Sl) : Option (Oper × List Nat × Array Bool × Sl) :=
  match headAt T ops n z k plan L l with
  | some (p, o, r, L', l') => cond (Nat.beq (p % 2) 1) (some (o, r, L'.setIfInBounds (p / 2) true, l')) none
  | none => none
theorem wpOp_of_WL {i : Nat} {o : Oper} {r : List Nat} {L : Array Bool} {a : Act} {w : World} (g2 : ops[i]? = some o) (h2 : planOK .any ops r L = true) (hc' : Closed .any ops L)
    (hwl : wpList P ops (fun e a w => planOK .any ops r L = true → Closed .any ops L → aft P w0 ops Q K0 A z r L e a w) [o] a w) :
    wpOp P ops (nrm (Q .normal)) i (fun a' w' => still z (HasL K0 A) L w' ∧ tr P .any ops (Q .normal) (still z (HasL K0 A)) r.length L a' w') a w := by
  unfold wpOp
  simp only [g2]
  unfold wpList at hwl
  have conv : ∀ e a w, (planOK .any ops r L = true → Closed .any ops L → aft P w0 ops Q K0 A z r L e a w) →
      nrm (fun a w => still z (HasL K0 A) L w ∧ tr P .any ops (Q .normal) (still z (HasL K0 A)) r.length L a w) e a w := fun e a w h => h h2 hc'
  split
  · rename_i hwn
    rw [if_pos hwn] at hwl
    rcases hwl with hwl | ⟨_, a', w', hwl⟩
    · refine .inl (Oper.wp_mono ?_ (upon_q (Q' := nrm (Q .normal)) (fun c a w h => (conv (.panic c) a w h).elim) (fun a w h => (conv .outgrown a w h).elim) hwl))
      intro a w h
      simp only [wpList] at h
      exact conv .normal a w h
    · exact (conv .outgrown a' w' hwl).elim
  · rename_i hwn
    rw [if_neg hwn] at hwl
    simp only [wpList] at hwl
    exact conv .normal _ _ hwl
/-- nothing else can come where the plan acts next -/
def alone (ops : Array Oper) : List Nat → Array Bool → Bool
  | [], _ => false
  | p :: r, L => cond (Nat.beq (p % 2) 0) (alone ops r (L.setIfInBounds (p / 2) true)) (Region.ready .any ops L == [p / 2])
/-- one other can come -/
def either (ops : Array Oper) (j : Nat) : List Nat → Array Bool → Bool
  | [], _ => false
  | p :: r, L => cond (Nat.beq (p % 2) 0) (either ops j r (L.setIfInBounds (p / 2) true)) (Region.ready .any ops L == [p / 2, j] || Region.ready .any ops L == [j, p / 2])
theorem planN_act : ∀ (k : Nat) {plan : List Nat} {L L' : Array Bool} {l l' : Sl} {p : Nat} {r : List Nat}, planN T ops n z k plan L l = some (p :: r, L', l') → Nat.beq (p % 2) 1 = true →
    alone ops plan L = (Region.ready .any ops L' == [p / 2]) ∧ ∀ j, either ops j plan L = (Region.ready .any ops L' == [p / 2, j] || Region.ready .any ops L' == [j, p / 2])
  | 0, plan, L, L', l, l', p, r, h, hp => by
    simp only [planN, Option.some.injEq, Prod.mk.injEq] at h
    obtain ⟨rfl, rfl, rfl⟩ := h
    have h1 : p % 2 = 1 := Nat.eq_of_beq_eq_true hp
    have h0 : Nat.beq (p % 2) 0 = false := by rw [h1]; rfl
    exact ⟨by simp only [alone, h0, cond_false], fun j => by simp only [either, h0, cond_false]⟩
  | k + 1, [], L, L', l, l', p, r, h, hp => by simp [planN] at h
  | k + 1, p0 :: r0, L, L', l, l', p, r, h, hp => by
    simp only [planN] at h
    split at h
    · rename_i h0 _ _
      split at h
      · split at h
        · split at h
          · have := planN_act k h hp; exact ⟨by simp only [alone, h0, cond_true]; exact this.1, fun j => by simp only [either, h0, cond_true]; exact this.2 j⟩
          · simp at h
        · have := planN_act k h hp; exact ⟨by simp only [alone, h0, cond_true]; exact this.1, fun j => by simp only [either, h0, cond_true]; exact this.2 j⟩
        · simp at h
      · simp at h
    · simp at h
theorem dact (hT : TabOK P T) (hsel' : (Region.noSelect ops && alone ops plan listed) = true) (k : Nat) {o : Oper} (h0 : actAt T ops n z k plan listed l = some (o, plan', listed', l'))
    (hk : WL P w0 ops (fun e a w => planOK .any ops plan' listed' = true → Closed .any ops listed' → aft P w0 ops Q K0 A z plan' listed' e a w) [o] n l' K hs) : WA P w0 ops Q K0 A z plan listed n l K hs := by
  simp only [Bool.and_eq_true] at hsel'
  obtain ⟨hsel, hal⟩ := hsel'
  unfold actAt at h0
  split at h0
  · rename_i p o' r L' l2 hh
    cases hp1 : Nat.beq (p % 2) 1 with
    | false => simp [hp1] at h0
    | true =>
      simp only [hp1, cond_true, Option.some.injEq, Prod.mk.injEq] at h0
      obtain ⟨rfl, rfl, rfl, rfl⟩ := h0
      obtain ⟨g1, g2⟩ := headAt_spec hh
      have h1 := (planN_act k g1 hp1).1
      rw [hal] at h1
      refine WA.pures hT hsel k g1 ?_
      intro hp hc a w ha hw hl
      simp only [planOK, Bool.and_eq_true] at hp
      obtain ⟨_, h2⟩ := hp
      have h1 : Region.ready .any ops L' = [p / 2] := by simpa using h1.symm
      have hmem : p / 2 ∈ Region.ready .any ops L' := by rw [h1]; simp
      have hc' := hc.set hmem
      refine ⟨fun h0 => (by rw [h1] at h0; cases h0), fun i hi => ?_⟩
      rw [h1] at hi
      simp only [List.mem_singleton] at hi
      subst hi
      exact wpOp_of_WL g2 h2 hc' (hk a w ha hw)
  · simp at h0
/-- two operations that act, either first -/
def forkAt (T : Tab) (ops : Array Oper) (n z k : Nat) (plan : List Nat) (L : Array Bool) (l : Sl) (j : Nat) : Option (Oper × Oper × List Nat × Array Bool × Array Bool × Sl) :=
  match headAt T ops n z k plan L l with
  | some (p, o, r, L', l') => match ops[j]? with
    | some oj => cond (Nat.beq (p % 2) 1) (some (o, oj, r, L'.setIfInBounds (p / 2) true, L'.setIfInBounds j true, l')) none
    | none => none
  | none => none
theorem dfork (j : Nat) (hT : TabOK P T) (hsel' : (Region.noSelect ops && either ops j plan listed) = true) (k : Nat) (plan2 : List Nat) {oi oj : Oper} {Li Lj : Array Bool} (h0 : forkAt T ops n z k plan listed l j = some (oi, oj, plan', Li, Lj, l')) (hp2 : (planOK .any ops plan2 Lj && Nat.beq plan2.length plan'.length) = true)
    (hk1 : WL P w0 ops (fun e a w => planOK .any ops plan' Li = true → Closed .any ops Li → aft P w0 ops Q K0 A z plan' Li e a w) [oi] n l' K hs)
    (hk2 : WL P w0 ops (fun e a w => planOK .any ops plan2 Lj = true → Closed .any ops Lj → aft P w0 ops Q K0 A z plan2 Lj e a w) [oj] n l' K hs) : WA P w0 ops Q K0 A z plan listed n l K hs := by
  simp only [Bool.and_eq_true] at hsel'
  obtain ⟨hsel, hal⟩ := hsel'
  unfold forkAt at h0
  split at h0
  · rename_i p o' r L' l2 hh
    split at h0
    · rename_i oj' hoj
      cases hp1 : Nat.beq (p % 2) 1 with
      | false => simp [hp1] at h0
      | true =>
        simp only [hp1, cond_true, Option.some.injEq, Prod.mk.injEq] at h0
        obtain ⟨rfl, rfl, rfl, rfl, rfl, rfl⟩ := h0
        obtain ⟨g1, g2⟩ := headAt_spec hh
        have h1 := (planN_act k g1 hp1).2 j
        rw [hal] at h1
        refine WA.pures hT hsel k g1 ?_
        intro hp hc a w ha hw hl
        simp only [planOK, Bool.and_eq_true] at hp
        obtain ⟨_, h2⟩ := hp
        have h1 : Region.ready .any ops L' = [p / 2, j] ∨ Region.ready .any ops L' = [j, p / 2] := by simpa using h1.symm
        simp only [Bool.and_eq_true] at hp2
        have hlen : plan2.length = r.length := Nat.eq_of_beq_eq_true hp2.2
        have hne : Region.ready .any ops L' ≠ [] := by rcases h1 with h1 | h1 <;> rw [h1] <;> simp
        have hmi : p / 2 ∈ Region.ready .any ops L' := by rcases h1 with h1 | h1 <;> rw [h1] <;> simp
        have hmj : j ∈ Region.ready .any ops L' := by rcases h1 with h1 | h1 <;> rw [h1] <;> simp
        refine ⟨fun h0 => (hne h0).elim, fun i hi => ?_⟩
        have hij : i = p / 2 ∨ i = j := by
          rcases h1 with h1 | h1 <;> rw [h1] at hi <;> simp only [List.mem_cons, List.not_mem_nil, or_false] at hi
          · exact hi
          · exact hi.symm
        rcases hij with rfl | rfl
        · exact wpOp_of_WL g2 h2 (hc.set hmi) (hk1 a w ha hw)
        · have := wpOp_of_WL hoj hp2.1 (hc.set hmj) (hk2 a w ha hw)
          rw [hlen] at this
          exact this
    · simp at h0
  · simp at h0
/-- back to the plan -/
theorem dnext {L : Array Bool} (hst : L.getD z false = true ∨ hs.take A.length = A ∧ K0 = K) (hk : WA P w0 ops Q K0 A z plan L n l K hs) :
    WL P w0 ops (fun e a w => planOK .any ops plan L = true → Closed .any ops L → aft P w0 ops Q K0 A z plan L e a w) [] n l K hs := by
  intro a w ha hw
  refine wpList_nil fun hp hc => ?_
  have hst' : still z (HasL K0 A) L w := by
    intro hz
    rcases hst with h | ⟨h1, rfl⟩
    · rw [h] at hz; cases hz
    · exact HasL.of hw h1
  exact ⟨hst', hk hp hc a w ha hw hst'⟩
end rules
end Go.En
namespace Go.En
set_option linter.unusedVariables false

section rules
variable {P : Program} {T : Tab} {w0 : World} {ops : Array Oper} {Q : Exit → Act → World → Prop} {rest rest' : List Oper} {n : Nat} {l l' : Sl} {K : PH} {hs : List PH}

/-- a struct put together -/
def bdAt (T : Tab) (ops : Array Oper) (n k : Nat) (rest : List Oper) (l : Sl) : Option (Nat × Nat × List (Nat × Value) × List Oper × Sl) :=
  match opAt T ops n k rest l with
  | some (o, r, l') => match o.dst, o.op with
    | some d, .build t parts => match Nat.blt d n, parts.toList.mapM (fun x => (ev l' x.2).map (fun v => (x.1, v))) with
      | true, some vs => some (d, t, vs, r, l')
      | _, _ => none
    | _, _ => none
  | none => none
theorem bd (hT : TabOK P T) (k : Nat) {d t : Nat} {vs : List (Nat × Value)} (v : Value) (h0 : bdAt T ops n k rest l = some (d, t, vs, rest', l')) (hv : ∀ w, (Instr.build t vs.toArray).run P w = .ok v w)
    (hk : WL P w0 ops Q rest' n ((d, v) :: l') K hs) : WL P w0 ops Q rest n l K hs := by
  unfold bdAt at h0
  split at h0
  · rename_i o r l2 ho
    split at h0
    · rename_i d' t' parts hd hop
      split at h0
      · rename_i vs' hb hvs
        simp only [Option.some.injEq, Prod.mk.injEq] at h0
        obtain ⟨rfl, rfl, rfl, rfl, rfl⟩ := h0
        refine WL.at' hT ho fun hg => WL.val (R := fun u K' hs' => u = v ∧ K' = K ∧ hs' = hs) hd hb hg (fun A w ha hw => ⟨v, w, K, hs, ?_, hw, rfl, rfl, rfl⟩) ?_
        · have h6 := evs_map ha _ _ hvs
          have h7 : (parts.map fun (i, x) => (i, A.eval x)) = vs'.toArray := by
            apply Array.ext'
            simpa using h6
          simp only [execOp, hop, h7]
          simp [hv w]
        · rintro u K' hs' ⟨rfl, rfl, rfl⟩
          exact hk
      · simp at h0
    · simp at h0
  · simp at h0
/-- a struct stored -/
def ssAt (T : Tab) (ops : Array Oper) (n k : Nat) (rest : List Oper) (l : Sl) : Option (Nat × Addr × Array Value × List Oper × Sl) :=
  match opAt T ops n k rest l with
  | some (o, r, l') => match o.dst, o.op with
    | none, .store t x y => match ev l' x, ev l' y with
      | some (.pointer (some a)), some (.agg cs) => some (t, a, cs, r, l')
      | _, _ => none
    | _, _ => none
  | none => none
theorem sts (hT : TabOK P T) (k i : Nat) {t b off ty : Nat} {c cs : Array Value} (h0 : ssAt T ops n k rest l = some (t, ⟨b, off, none⟩, cs, rest', l')) (hi : hs[i]? = some (pt b c ty)) (hsz : (P.info? t).map (·.size) = some cs.size)
    (hf : off + cs.size ≤ c.size) (h1 : ∀ v ∈ cs.toList, v.oneCell' = true)
    (hk : WL P w0 ops Q rest' n l' K (hs.set i (pt b (c.toList.take off ++ cs.toList ++ c.toList.drop (off + cs.toList.length)).toArray ty))) : WL P w0 ops Q rest n l K hs := by
  unfold ssAt at h0
  split at h0
  · rename_i o r l2 ho
    split at h0
    · rename_i t' x y hd hop
      split at h0
      · rename_i a' cs' hx hy
        simp only [Option.some.injEq, Prod.mk.injEq] at h0
        obtain ⟨rfl, rfl, rfl, rfl, rfl⟩ := h0
        refine WL.at' hT ho fun hg => WL.skp hd hg (fun A w ha hw => ⟨_, ?_, hw.setRow hi _⟩) hk
        have hb : w.heap[b]? = some (.cells c ty (0, 0)) := hw.own i _ hi b _ (by simp)
        have h2 := run_storeCells_at P b off ty cs'.toList 0 c w hb (by simpa using hf) h1
        simp only [Nat.add_zero] at h2
        obtain ⟨ii, hii, hs'⟩ := Option.map_eq_some_iff.1 hsz
        simp only [execOp, hop, ha.ev hx, ha.ev hy]
        simp only [Instr.storeAt, Instr.sureAddr, storeVar, sizeOf, typeInfo, Value.cells]
        simp [hii, hs', h2]
      · simp at h0
    · simp at h0
  · simp at h0
/-- a struct loaded -/
def lsAt (T : Tab) (ops : Array Oper) (n k : Nat) (rest : List Oper) (l : Sl) : Option (Nat × Nat × Addr × List Oper × Sl) :=
  match opAt T ops n k rest l with
  | some (o, r, l') => match o.dst, o.op with
    | some d, .load t x => match Nat.blt d n, ev l' x with
      | true, some (.pointer (some a)) => some (d, t, a, r, l')
      | _, _ => none
    | _, _ => none
  | none => none
def aggOK (P : Program) (t m : Nat) : Bool := (match P.underlying t with | some (.struct _) => true | some (.array _ _) => true | _ => false) && (match P.info? t with | some i => i.size == m | none => false)
theorem run_loadS {w : World} {t m : Nat} {a : Addr} {cs : List Value} (hm : aggOK P t m = true) (hl : cs.length = m) (hc : ∀ (j : Nat) v, cs[j]? = some v → w.cell? (a.add j) = some v) : (Instr.loadAt t (.pointer (some a))).run P w = .ok (.agg cs.toArray) w := by
  unfold aggOK at hm
  simp only [Bool.and_eq_true] at hm
  obtain ⟨h1, h2⟩ := hm
  cases hu : P.underlying t with
  | none => simp [hu] at h1
  | some d =>
    cases hi : P.info? t with
    | none => simp [hi] at h2
    | some i =>
      have h3 : i.size = m := by simpa [hi] using h2
      have hagg : (isAgg t).run P w = .ok true w := by
        cases d <;> simp [hu] at h1 <;> simp [isAgg, run_underlying hu]
      have h4 := run_loadCells_list (P := P) (w := w) a cs hc
      simp [Instr.loadAt, Instr.sureAddr, loadVar, hagg, sizeOf, typeInfo, hi, h3, ← hl, h4]
theorem lds (hT : TabOK P T) (k : Nat) {d t : Nat} {a : Addr} {h : PH} (cs : List Value) (h0 : lsAt T ops n k rest l = some (d, t, a, rest', l')) (hm : aggOK P t cs.length = true) (hin : In K hs h) (hc : ∀ (j : Nat) v, cs[j]? = some v → Cell h (a.add j) v)
    (hk : WL P w0 ops Q rest' n ((d, .agg cs.toArray) :: l') K hs) : WL P w0 ops Q rest n l K hs := by
  unfold lsAt at h0
  split at h0
  · rename_i o r l2 ho
    split at h0
    · rename_i d' t' x hd hop
      split at h0
      · rename_i a' hb hx
        simp only [Option.some.injEq, Prod.mk.injEq] at h0
        obtain ⟨rfl, rfl, rfl, rfl, rfl⟩ := h0
        refine WL.at' hT ho fun hg => WL.val (R := fun u K' hs' => u = .agg cs.toArray ∧ K' = K ∧ hs' = hs) hd hb hg (fun A w ha hw => ⟨_, w, K, hs, ?_, hw, rfl, rfl, rfl⟩) ?_
        · have h2 := run_loadS (P := P) (w := w) hm rfl (fun j v hv => hw.cell hin (hc j v hv))
          simp only [execOp, hop, ha.ev hx]
          simp [h2]
        · rintro u K' hs' ⟨rfl, rfl, rfl⟩
          exact hk
      · simp at h0
    · simp at h0
  · simp at h0
theorem cells_pt {b off : Nat} {c : Array Value} {ty : Nat} {fr : Nat × Nat} (cs : List Value) (h : ∀ (j : Nat) v, cs[j]? = some v → c[off + j]? = some v) : ∀ (j : Nat) v, cs[j]? = some v → Cell (pt b c ty fr) ((⟨b, off, none⟩ : Addr).add j) v := by
  intro j v hv
  rw [add_mk]
  exact Cell.pt (h j v hv)
/-- bytes out of a text that is told: they bear a mark -/
def mkAt (T : Tab) (ops : Array Oper) (n k : Nat) (rest : List Oper) (l : Sl) : Option (Nat × Nat × (Nat × Nat × Nat × Nat) × List Oper × Sl) :=
  match opAt T ops n k rest l with
  | some (o, r, l') => match o.dst, o.op with
    | some d, .convert t t' x => match Nat.blt d n, Nat.beq t t', ev l' x with
      | true, true, some (.slice (some a) m c) => some (d, t, (a.block, a.off, m, c), r, cond a.spot.isNone l' [])
      | _, _, _ => none
    | _, _ => none
  | none => none
theorem Sat.remark {w w' : World} (s : Sat w0 w K hs) {i b : Nat} {c : Array Value} {ty : Nat} {fr fr' : Nat × Nat} (hi : hs[i]? = some (pt b c ty fr)) (h1 : w'.heap[b]? = some (.cells c ty fr')) (h2 : ∀ k, k ≠ b → w'.heap[k]? = w.heap[k]?)
    (hos : w'.os = w.os) (htp : w'.tape = w.tape) (hout : w'.output = w.output) (hsz : w'.heap.size = w.heap.size) : Sat w0 w' K (hs.set i (pt b c ty fr')) := by
  refine s.upd hi hos htp hout (by omega) ?_ ?_ ?_
  · intro x o hx
    simp only [pt, sg] at hx
    split at hx
    · rename_i e; subst e; cases hx; exact h1
    · cases hx
  · intro x hx hn
    simp only [pt, sg] at hn
    split at hn
    · cases hn
    · rename_i e; exact h2 x e
  · intro x o hx hn
    simp only [pt, sg] at hx hn
    split at hx
    · rename_i e; rw [if_pos e] at hn; cases hn
    · cases hx
theorem mk (hT : TabOK P T) (k i : Nat) {d t b off m cc ty : Nat} {c : Array Value} (h0 : mkAt T ops n k rest l = some (d, t, (b, off, m, cc), rest', l')) (hl : l' ≠ []) (hi : hs[i]? = some (pt b c ty)) (hu : ∃ e, P.underlying t = some (.slice e) ∧ P.underlying e = some (.int .u8))
    (hk : WL P w0 ops Q rest' n ((d, .slice (some ⟨b, off, none⟩) m cc) :: l') K (hs.set i (pt b c ty (c.size, c.size + 1)))) : WL P w0 ops Q rest n l K hs := by
  unfold mkAt at h0
  split at h0
  · rename_i o r l2 ho
    split at h0
    · rename_i d' t1 t2 x hd hop
      split at h0
      · rename_i a m' c' hb htt hx
        simp only [Option.some.injEq, Prod.mk.injEq] at h0
        obtain ⟨rfl, rfl, ⟨rfl, rfl, rfl, rfl⟩, rfl, hl2⟩ := h0
        obtain ⟨ab, ao, asp⟩ := a
        cases asp with
        | some q => simp at hl2; first | exact absurd hl2 hl | exact absurd hl2.symm hl
        | none =>
          simp only [Option.isNone_none, cond_true] at hl2
          subst hl2
          obtain rfl : t1 = t2 := Nat.eq_of_beq_eq_true htt
          obtain ⟨e, hu1, hu2⟩ := hu
          refine WL.at' hT ho fun hg => WL.val (R := fun u K' hs' => u = .slice (some ⟨ab, ao, none⟩) m' c' ∧ K' = K ∧ hs' = hs.set i (pt ab c ty (c.size, c.size + 1))) hd hb hg (fun A w ha hw => ?_) ?_
          · have hbk : w.heap[ab]? = some (.cells c ty (0, 0)) := hw.own i _ hi ab _ (by simp)
            refine ⟨_, w.freeze ⟨ab, c.size, none⟩ 1, K, _, ?_, hw.remark hi (fr' := (c.size, c.size + 1)) ?_ ?_ rfl rfl rfl ?_, rfl, rfl, rfl⟩
            · simp only [execOp, hop, ha.ev hx]
              simp [convert, run_underlying hu1, run_underlying hu2, markStringish, shape, World.shape?, hbk, freeze, Sem.run]
            · simp [World.freeze, Array.getElem?_modify, hbk]
            · intro kk hkk
              simp [World.freeze, Array.getElem?_modify, Ne.symm hkk]
            · simp [World.freeze]
          · rintro u K' hs' ⟨rfl, rfl, rfl⟩
            exact hk
      · simp at h0
    · simp at h0
  · simp at h0
/-- shifts by a number that is reckoned -/
def shAt (T : Tab) (ops : Array Oper) (n k : Nat) (rest : List Oper) (l : Sl) : Option (Nat × BinOp × IntKind × Int × Int × List Oper × Sl) :=
  match opAt T ops n k rest l with
  | some (o, r, l') => match o.dst, o.op with
    | some d, .binOp op _ x y _ => match Nat.blt d n, ev l' x, ev l' y with
      | true, some (.int kd a), some (.int _ b) => some (d, op, kd, a, b, r, l')
      | _, _, _ => none
    | _, _ => none
  | none => none
theorem shf (hT : TabOK P T) (k : Nat) {d : Nat} {op : BinOp} {kd : IntKind} {a b : Int} {v' : Value} (h0 : shAt T ops n k rest l = some (d, op, kd, a, b, rest', l')) (hb : 0 ≤ b)
    (he : op = .shl ∧ Value.int kd (kd.wrap (a * 2 ^ (min b.toNat kd.bits))) = v' ∨ op = .shr ∧ Value.int kd (a.fdiv (2 ^ (min b.toNat kd.bits))) = v')
    (hk : WL P w0 ops Q rest' n ((d, v') :: l') K hs) : WL P w0 ops Q rest n l K hs := by
  unfold shAt at h0
  split at h0
  · rename_i o r l2 ho
    split at h0
    · rename_i d' op' t x y t2 hd hop
      split at h0
      · rename_i kd' a' kb b' hblt hx hy
        simp only [Option.some.injEq, Prod.mk.injEq] at h0
        obtain ⟨rfl, rfl, rfl, rfl, rfl, rfl, rfl⟩ := h0
        have hpb : pureOp T l2 o.op = some v' := by
          rw [hop]
          simp only [pureOp, hx, hy]
          rcases he with ⟨rfl, he⟩ | ⟨rfl, he⟩
          · simp [pureBin, hb, he]
          · simp [pureBin, hb, he]
        exact WL.at' hT ho fun hg => WL.pure1 hT hd hblt hg hpb hk
      · simp at h0
    · simp at h0
  · simp at h0
end rules
end Go.En
namespace Go.En
set_option linter.unusedVariables false

def str (xs : List UInt8) : Value := .string ⟨xs.toArray⟩
theorem str_toList (xs : List UInt8) : (⟨xs.toArray⟩ : ByteArray).toList = xs := by rw [ByteArray.toList_eq]
theorem str_eq (xs ys : List UInt8) : Value.bool ((⟨xs.toArray⟩ : ByteArray).toList == (⟨ys.toArray⟩ : ByteArray).toList) = .bool (decide (xs = ys)) := by
  rw [str_toList, str_toList]
  by_cases h : xs = ys <;> simp [h]
def isStr (P : Program) (t t' : Nat) : Bool := (match P.underlying t with | some (.slice e) => (match P.underlying e with | some (.int .u8) => true | _ => false) | _ => false) && (match P.underlying t' with | some .string => true | _ => false)
theorem run_toStr {P : Program} {w : World} {t t' n c : Nat} {ao : Option Addr} (hs : isStr P t t' = true) (xs : List UInt8) (hl : xs.length = n)
    (hx : ∀ (j : Nat) u, ((xs.map fun b => Value.int .u8 ((b.toNat : Nat) : Int)))[j]? = some u → ∃ a, ao = some a ∧ w.cell? (a.add j) = some u) : (convert t t' (.slice ao n c)).run P w = .ok (str xs) w := by
  unfold isStr at hs
  simp only [Bool.and_eq_true] at hs
  obtain ⟨h1, h2⟩ := hs
  cases e1 : P.underlying t with
  | none => simp [e1] at h1
  | some d1 =>
    cases d1 <;> simp [e1] at h1
    rename_i e
    cases e2 : P.underlying e with
    | none => simp [e2] at h1
    | some d2 =>
      cases d2 <;> simp [e2] at h1
      rename_i kd
      cases kd <;> simp at h1
      cases e3 : P.underlying t' with
      | none => simp [e3] at h2
      | some d3 =>
        cases d3 <;> simp [e3] at h2
        rw [run_convert_bytes_string w t t' e _ n c e1 e2 e3]
        cases ao with
        | none =>
          have : xs = [] := by
            cases xs with
            | nil => rfl
            | cons x r => obtain ⟨a, h, _⟩ := hx 0 _ rfl; cases h
          subst this
          simp [Conv.bytesToString, str]
          rfl
        | some a =>
          have hld : (loadCells a n).run P w = .ok ((xs.map fun b => ((b.toNat : Nat) : Int)).map (Value.int .u8)).toArray w := by
            have := run_loadCells_list (P := P) w a (xs.map fun b => Value.int .u8 ((b.toNat : Nat) : Int)) (fun j v hj => by
              obtain ⟨a', h, h'⟩ := hx j v hj
              cases h; exact h')
            simpa [hl, Function.comp_def] using this
          rw [run_bytesToString w a n c _ hld, foldl_push_bytes]
          simp [str, ByteArray.empty, ByteArray.emptyWithCapacity, Function.comp_def]
          try rfl
section rules
variable {P : Program} {T : Tab} {w0 : World} {ops : Array Oper} {Q : Exit → Act → World → Prop} {rest rest' : List Oper} {n : Nat} {l l' : Sl} {K : PH} {hs : List PH}
def csAt (T : Tab) (ops : Array Oper) (n k : Nat) (rest : List Oper) (l : Sl) : Option (Nat × Nat × Nat × (Option Addr × Nat × Nat) × List Oper × Sl) :=
  match opAt T ops n k rest l with
  | some (o, r, l') => match o.dst, o.op with
    | some d, .convert t t' x => match Nat.blt d n, ev l' x with
      | true, some (.slice ao m c) => some (d, t, t', (ao, m, c), r, l')
      | _, _ => none
    | _, _ => none
  | none => none
theorem cvs (hT : TabOK P T) (k : Nat) {d t t' m c : Nat} {ao : Option Addr} {h : PH} (xs : List UInt8) (h0 : csAt T ops n k rest l = some (d, t, t', (ao, m, c), rest', l')) (hin : In K hs h)
    (x : IsS h ao m c 1 (xs.map fun b => Value.int .u8 ((b.toNat : Nat) : Int))) (hs' : isStr P t t' = true)
    (hk : WL P w0 ops Q rest' n ((d, str xs) :: l') K hs) : WL P w0 ops Q rest n l K hs := by
  unfold csAt at h0
  split at h0
  · rename_i o r l2 ho
    split at h0
    · rename_i d' t1 t2 y hd hop
      split at h0
      · rename_i ao' m' c' hb hx
        simp only [Option.some.injEq, Prod.mk.injEq] at h0
        obtain ⟨rfl, rfl, rfl, ⟨rfl, rfl, rfl⟩, rfl, rfl⟩ := h0
        refine WL.at' hT ho fun hg => WL.val (R := fun u K' hs' => u = str xs ∧ K' = K ∧ hs' = hs) hd hb hg (fun A w ha hw => ⟨str xs, w, K, hs, ?_, hw, rfl, rfl, rfl⟩) ?_
        · have h2 := run_toStr (P := P) (w := w) (c := c') hs' xs (by have := x.1; simpa using this) (fun j u hj => by
            obtain ⟨a, h3, h4⟩ := x.2.2 j u hj
            exact ⟨a, h3, hw.cell hin h4⟩)
          simp only [execOp, hop, ha.ev hx]
          simp [h2]
        · rintro u K' hs' ⟨rfl, rfl, rfl⟩
          exact hk
      · simp at h0
    · simp at h0
  · simp at h0
/-- a whole struct, out of a block and into one -/
theorem ldS (hT : TabOK P T) (k i : Nat) {d t b ty : Nat} {c : Array Value} {fr : Nat × Nat} (h0 : lsAt T ops n k rest l = some (d, t, ⟨b, 0, none⟩, rest', l')) (hi : hs[i]? = some (pt b c ty fr)) (hm : aggOK P t c.size = true)
    (hk : WL P w0 ops Q rest' n ((d, .agg c) :: l') K hs) : WL P w0 ops Q rest n l K hs :=
  lds hT k c.toList h0 (by simpa using hm) (.inr ⟨i, hi⟩) (cells_pt _ fun j v h => by simpa using h) (by simpa using hk)
theorem stS (hT : TabOK P T) (k i : Nat) {t b ty : Nat} {c cs : Array Value} (h0 : ssAt T ops n k rest l = some (t, ⟨b, 0, none⟩, cs, rest', l')) (hi : hs[i]? = some (pt b c ty)) (hsz : (P.info? t).map (·.size) = some cs.size)
    (hf : cs.size = c.size) (h1 : cs.toList.all (·.oneCell') = true) (hk : WL P w0 ops Q rest' n l' K (hs.set i (pt b cs ty))) : WL P w0 ops Q rest n l K hs := by
  refine sts hT k i h0 hi hsz (by omega) (fun v hv => (List.all_eq_true.1 h1) v hv) ?_
  have e : (c.toList.take 0 ++ cs.toList ++ c.toList.drop (0 + cs.toList.length)).toArray = cs := by
    rw [List.take_zero, List.nil_append, List.drop_of_length_le (by simp [hf]), List.append_nil]
  rw [e]
  exact hk
end rules
section open_
variable {P : Program} {T : Tab} {w0 : World} {ops : Array Oper} {Q : Exit → Act → World → Prop} {plan plan' : List Nat} {z : Nat} {listed listed' : Array Bool} {n : Nat} {l l' : Sl} {K K0 : PH} {hs A : List PH}
def dcsAt (T : Tab) (ops : Array Oper) (n z k : Nat) (plan : List Nat) (L : Array Bool) (l : Sl) : Option (Nat × Nat × Nat × (Option Addr × Nat × Nat) × List Nat × Array Bool × Sl) :=
  match headAt T ops n z k plan L l with
  | some (p, o, r, L', l') => match Nat.beq (p % 2) 0, Nat.beq (p / 2) z, cond (Nat.blt z ops.size) (Region.waitsFor .any ops z (p / 2)) true, gOK ops l' o.guard, o.dst, o.op with
    | true, false, true, some true, some d, .convert t t' x => match Nat.blt d n, ev l' x with
      | true, some (.slice ao m c) => some (d, t, t', (ao, m, c), r, L'.setIfInBounds (p / 2) true, l')
      | _, _ => none
    | _, _, _, _, _, _ => none
  | none => none
theorem dcvs (hT : TabOK P T) (hsel : Region.noSelect ops = true) (k : Nat) {d t t' m c : Nat} {ao : Option Addr} {h : PH} (xs : List UInt8) (h0 : dcsAt T ops n z k plan listed l = some (d, t, t', (ao, m, c), plan', listed', l')) (hm : In K0 A h)
    (x : IsS h ao m c 1 (xs.map fun b => Value.int .u8 ((b.toNat : Nat) : Int))) (hs' : isStr P t t' = true)
    (hk : WA P w0 ops Q K0 A z plan' listed' n ((d, str xs) :: l') K hs) : WA P w0 ops Q K0 A z plan listed n l K hs := by
  unfold dcsAt at h0
  split at h0
  · rename_i p o r L' l2 hh
    split at h0
    · rename_i dd t1 t2 y hp hz hwf hg hd hop
      split at h0
      · rename_i ao' m' c' hb hx
        simp only [Option.some.injEq, Prod.mk.injEq] at h0
        obtain ⟨rfl, rfl, rfl, ⟨rfl, rfl, rfl⟩, rfl, rfl, rfl⟩ := h0
        obtain ⟨g1, g2⟩ := headAt_spec hh
        refine WA.pures hT hsel k g1 ?_
        have hp2 : p = 2 * (p / 2) := by have := Nat.eq_of_beq_eq_true hp; omega
        rw [hp2]
        refine WA.look g2 hsel hz hd hb (fun A' ha => .inl ⟨gOK_wanted ha hg, fun w hw => ?_⟩) hk
        obtain ⟨L, hcl, hun, hst⟩ := hw
        have h2 := run_toStr (P := P) (w := w) (c := c') hs' xs (by have := x.1; simpa using this) (fun j u hj => by
          obtain ⟨a, h3, h4⟩ := x.2.2 j u hj
          exact ⟨a, h3, (hst (closed_waits hcl hun hwf)).cell hm h4⟩)
        simp only [execOp, hop, ha.ev hx]
        simp [h2]
      · simp at h0
    · simp at h0
  · simp at h0
/-- the list of what may be looked at can grow -/
theorem tr_S {md : Region.Mode} {q : Act → World → Prop} {S S' : Array Bool → World → Prop} (h : ∀ L w, S' L w → S L w) : ∀ (f : Nat) (L : Array Bool) (a : Act) (w : World), tr P md ops q S' f L a w → tr P md ops q S f L a w
  | 0, _, _, _, hh => hh
  | f + 1, _, _, _, hh => ⟨hh.1, fun i hi => wpOp_mono (fun a' w' h' => ⟨h _ _ h'.1, tr_S h f _ a' w' h'.2⟩) (hh.2 i hi)⟩
theorem HasL.ofMem {w0 w : World} {K : PH} {hs A : List PH} (s : Sat w0 w K hs) (hA : ∀ h ∈ A, h ∈ hs) : HasL K A w :=
  ⟨s.imm, fun h hm b o hb => s.block (.inr (List.getElem?_of_mem (hA h hm))) hb⟩
theorem dnex {L : Array Bool} (A' : List PH) (hA : ∀ h ∈ A', h ∈ hs) (hAA : ∀ h ∈ A, h ∈ A') (hK : K0 = K) (hk : WA P w0 ops Q K A' z plan L n l K hs) :
    WL P w0 ops (fun e a w => planOK .any ops plan L = true → Closed .any ops L → aft P w0 ops Q K0 A z plan L e a w) [] n l K hs := by
  subst hK
  intro a w ha hw
  refine wpList_nil fun hp hc => ?_
  have up : ∀ L w, still z (HasL K0 A') L w → still z (HasL K0 A) L w := fun L w h hz => ⟨(h hz).1, fun x hx => (h hz).2 x (hAA x hx)⟩
  have hst : still z (HasL K0 A') L w := fun _ => HasL.ofMem hw hA
  exact ⟨up _ _ hst, tr_S up _ _ _ _ (hk hp hc a w ha hw hst)⟩
theorem rga {id : Nat} {o : List Oper} (A : List PH) (z : Nat) (plan : List Nat) (hA : ∀ h ∈ A, h ∈ hs) (hm : P.follows .mixedOrders = true) (hp : (planOK .any o.toArray plan (Array.replicate o.toArray.size false) && Nat.beq plan.length o.toArray.size) = true)
    (h : WA P w0 o.toArray Q K A z plan (Array.replicate o.toArray.size false) n l K hs) : WC P w0 (.region id o.toArray true) Q n l K hs := by
  intro a w ha hw
  simp only [Bool.and_eq_true] at hp
  refine wp_region_any hm ?_
  have hlen : plan.length = o.toArray.size := Nat.eq_of_beq_eq_true hp.2
  have hw' : Sat w0 { w with drawn := w.drawn + 1 } K hs := hw.drew
  have hc : Closed .any o.toArray (Array.replicate o.toArray.size false) := by
    refine ⟨by simp, ?_⟩
    intro j oj hj hl
    have : (Array.replicate o.toArray.size false).getD j false = false := getD_replicate_false _ _
    rw [this] at hl
    cases hl
  have hh := h hp.1 hc a { w with drawn := w.drawn + 1 } ha hw' (fun _ => HasL.ofMem hw' hA)
  rw [hlen] at hh
  refine tr_any (q := Q .normal) (fun e a w h => ?_) _ _ _ _ hh
  cases e <;> first | exact h | exact h.elim
end open_
section ret
variable {P : Program} {w0 : World} {fn : Func} {R : Value → PH → List PH → Prop} {n : Nat} {l : Sl} {K : PH} {hs : List PH}
theorem run_loadVarS {w : World} {t m : Nat} {a : Addr} {cs : List Value} (hm : aggOK P t m = true) (hl : cs.length = m) (hc : ∀ (j : Nat) v, cs[j]? = some v → w.cell? (a.add j) = some v) : (loadVar t a).run P w = .ok (.agg cs.toArray) w := by
  have := run_loadS (P := P) hm hl hc
  simpa [Instr.loadAt, Instr.sureAddr] using this
theorem retc2 {t ty u : Nat} {a : Addr} {x : Value} {h : PH} (cs : List Value) (hr : fn.results = #[.cell t ty, .tmp u]) (hv : look l t = some (.pointer (some a))) (hx : look l u = some x) (hm : aggOK P ty cs.length = true) (hin : In K hs h) (hc : ∀ (j : Nat) v, cs[j]? = some v → Cell h (a.add j) v)
    (hk : R (.tuple #[.agg cs.toArray, x]) K hs) : WQ w0 (bodyPost P fn (endR w0 R)) .ret n l K hs :=
  fun _ w ha hw => bodyPost_ret (v := .tuple #[.agg cs.toArray, x]) (by
    have h2 := run_loadVarS (P := P) (w := w) hm rfl (fun j v hv => hw.cell hin (hc j v hv))
    simp [results, hr, ha.slot t _ hv, ha.slot u x hx, asAddr, h2]) ha.defers ⟨_, _, _, rfl, hk, hw⟩
theorem Sat.dropN {w w0 : World} : ∀ (m : Nat) {hs : List PH}, Sat w0 w K hs → Sat w0 w K (hs.drop m)
  | 0, _, s => s
  | _ + 1, [], s => s
  | m + 1, _ :: r, s => Sat.dropN m s.dropHead
/-- a struct in a block and a value are handed back; the first m heaps are let go -/
theorem retcP (i m : Nat) {t ty u b ty' : Nat} {x : Value} {c : Array Value} {fr : Nat × Nat} (hr : fn.results = #[.cell t ty, .tmp u]) (hv : look l t = some (.pointer (some ⟨b, 0, none⟩))) (hx : look l u = some x) (hi : hs[i]? = some (pt b c ty' fr)) (hm : aggOK P ty c.size = true)
    (hk : R (.tuple #[.agg c, x]) K (hs.drop m)) : WQ w0 (bodyPost P fn (endR w0 R)) .ret n l K hs :=
  fun _ w ha hw => bodyPost_ret (v := .tuple #[.agg c, x]) (by
    have h2 := run_loadVarS (P := P) (w := w) (t := ty) (a := ⟨b, 0, none⟩) (cs := c.toList) (by simpa using hm) rfl (fun j v hv => hw.cell (.inr ⟨i, hi⟩) (cells_pt c.toList (fun j v h => by simpa using h) j v hv))
    have e : c.toList.toArray = c := by simp
    rw [e] at h2
    simp [results, hr, ha.slot t _ hv, ha.slot u x hx, asAddr, h2]) ha.defers ⟨_, _, _, rfl, hk, hw.dropN m⟩
end ret
end Go.En
namespace Go.En
set_option linter.unusedVariables false

section open_
variable {P : Program} {T : Tab} {w0 : World} {ops : Array Oper} {Q : Exit → Act → World → Prop} {plan plan' : List Nat} {z : Nat} {listed listed' : Array Bool} {n : Nat} {l l' : Sl} {K K0 : PH} {hs A : List PH}
def dixAt (T : Tab) (ops : Array Oper) (n z k : Nat) (plan : List Nat) (L : Array Bool) (l : Sl) : Option (Nat × Oper × SlI × (Option Addr × Nat × Nat) × Int × List Nat × Array Bool × Sl) :=
  match dopAt T ops n z k plan L l with
  | some (d, o, r, L', l') => match o.op with
    | .indexAddr t x i => match asc T.sls t, ev l' x, ev l' i with
      | some si, some (.slice a1 n1 c1), some (.int _ j) => some (d, o, si, (a1, n1, c1), j, r, L', l')
      | _, _, _ => none
    | _ => none
  | none => none
theorem dixs (hT : TabOK P T) (hsel : Region.noSelect ops = true) (k : Nat) {d : Nat} {o : Oper} {si : SlI} {a : Addr} {n1 c1 : Nat} {i : Int} (j : Nat)
    (h0 : dixAt T ops n z k plan listed l = some (d, o, si, (some a, n1, c1), i, plan', listed', l')) (hj : i = (j : Int)) (hjn : j < n1)
    (hk : WA P w0 ops Q K0 A z plan' listed' n ((d, .pointer (some (a.add (j * si.size)))) :: l') K hs) : WA P w0 ops Q K0 A z plan listed n l K hs := by
  unfold dixAt at h0
  split at h0
  · rename_i d' o' r L' l2 hh
    split at h0
    · rename_i t x' i' hop
      split at h0
      · rename_i si' a1 m1 k1 kk jj hsi hx hi
        simp only [Option.some.injEq, Prod.mk.injEq] at h0
        obtain ⟨rfl, rfl, rfl, ⟨rfl, rfl, rfl⟩, rfl, rfl, rfl, rfl⟩ := h0
        subst hj
        obtain ⟨g1, ii, g2, g3, g4, g5⟩ := hT.sl hsi
        refine dop hT hsel k hh (fun A w ha => ?_) hk
        simp only [execOp, hop, ha.ev hx, ha.ev hi]
        simp [Instr.indexAt, asIntOf, run_underlying g1, sizeOf, typeInfo, g2, g4, hjn]
      · simp at h0
    · simp at h0
  · simp at h0
/-- a load ahead of the operation that first changes what is looked at -/
def dldwAt (T : Tab) (ops : Array Oper) (n z k : Nat) (plan : List Nat) (L : Array Bool) (l : Sl) : Option (Nat × Nat × Addr × List Nat × Array Bool × Sl) :=
  match headAt T ops n z k plan L l with
  | some (p, o, r, L', l') => match Nat.beq (p % 2) 0, Nat.beq (p / 2) z, gOK ops l' o.guard, o.dst, o.op with
    | true, false, some true, some d, .load t x => match Nat.blt d n, asc T.kinds t, ev l' x with
      | true, some kd, some (.pointer (some a)) => cond kd.one (some (p, d, a, r, L'.setIfInBounds (p / 2) true, l')) none
      | _, _, _ => none
    | _, _, _, _, _ => none
  | none => none
theorem dldw (hT : TabOK P T) (hsel : Region.noSelect ops = true) (k : Nat) {p d : Nat} {a : Addr} {v : Value} {h : PH} (h0 : dldwAt T ops n z k plan listed l = some (p, d, a, plan', listed', l')) (hwf : cond (Nat.blt z ops.size) (Region.waitsFor .any ops z (p / 2)) true = true) (hm : In K0 A h) (hc : Cell h a v)
    (hk : WA P w0 ops Q K0 A z plan' listed' n ((d, v) :: l') K hs) : WA P w0 ops Q K0 A z plan listed n l K hs := by
  unfold dldwAt at h0
  split at h0
  · rename_i p' o r L' l2 hh
    split at h0
    · rename_i dd t x hp hz hg hd hop
      split at h0
      · rename_i kd a' hb hkd hx
        cases h1 : kd.one with
        | false => simp [h1] at h0
        | true =>
          simp only [h1, cond_true, Option.some.injEq, Prod.mk.injEq] at h0
          obtain ⟨rfl, rfl, rfl, rfl, rfl, rfl⟩ := h0
          obtain ⟨g1, g2⟩ := headAt_spec hh
          refine WA.pures hT hsel k g1 ?_
          have hp2 : p' = 2 * (p' / 2) := by have := Nat.eq_of_beq_eq_true hp; omega
          rw [hp2]
          refine WA.look g2 hsel hz hd hb (fun A' ha => .inl ⟨gOK_wanted ha hg, fun w hw => ?_⟩) hk
          obtain ⟨L, hcl, hun, hst⟩ := hw
          have hcell := (hst (closed_waits hcl hun hwf)).cell hm hc
          have h2 := run_load1 (P := P) hT hkd h1 hcell
          simp only [execOp, hop, ha.ev hx]
          simp [h2]
      · simp at h0
    · simp at h0
  · simp at h0
theorem dldpw (hT : TabOK P T) (hsel : Region.noSelect ops = true) (k i : Nat) {p d b off ty : Nat} {v : Value} {c : Array Value} {fr : Nat × Nat} (h0 : dldwAt T ops n z k plan listed l = some (p, d, ⟨b, off, none⟩, plan', listed', l')) (hwf : cond (Nat.blt z ops.size) (Region.waitsFor .any ops z (p / 2)) true = true)
    (hi : A[i]? = some (pt b c ty fr)) (hv : c[off]? = some v) (hk : WA P w0 ops Q K0 A z plan' listed' n ((d, v) :: l') K hs) : WA P w0 ops Q K0 A z plan listed n l K hs :=
  dldw hT hsel k h0 hwf (.inr ⟨i, hi⟩) (Cell.pt hv) hk
/-- a struct loaded, where the order is open -/
def dlsAt (T : Tab) (ops : Array Oper) (n z k : Nat) (plan : List Nat) (L : Array Bool) (l : Sl) : Option (Nat × Nat × Nat × Addr × List Nat × Array Bool × Sl) :=
  match headAt T ops n z k plan L l with
  | some (p, o, r, L', l') => match Nat.beq (p % 2) 0, Nat.beq (p / 2) z, gOK ops l' o.guard, o.dst, o.op with
    | true, false, some true, some d, .load t x => match Nat.blt d n, ev l' x with
      | true, some (.pointer (some a)) => some (p, d, t, a, r, L'.setIfInBounds (p / 2) true, l')
      | _, _ => none
    | _, _, _, _, _ => none
  | none => none
theorem dldS (hT : TabOK P T) (hsel : Region.noSelect ops = true) (k i : Nat) {p d t b ty : Nat} {c : Array Value} {fr : Nat × Nat} (h0 : dlsAt T ops n z k plan listed l = some (p, d, t, ⟨b, 0, none⟩, plan', listed', l')) (hwf : cond (Nat.blt z ops.size) (Region.waitsFor .any ops z (p / 2)) true = true)
    (hi : A[i]? = some (pt b c ty fr)) (hm : aggOK P t c.size = true) (hk : WA P w0 ops Q K0 A z plan' listed' n ((d, .agg c) :: l') K hs) : WA P w0 ops Q K0 A z plan listed n l K hs := by
  unfold dlsAt at h0
  split at h0
  · rename_i p' o r L' l2 hh
    split at h0
    · rename_i dd t' x hp hz hg hd hop
      split at h0
      · rename_i a' hb hx
        simp only [Option.some.injEq, Prod.mk.injEq] at h0
        obtain ⟨rfl, rfl, rfl, rfl, rfl, rfl, rfl⟩ := h0
        obtain ⟨g1, g2⟩ := headAt_spec hh
        refine WA.pures hT hsel k g1 ?_
        have hp2 : p' = 2 * (p' / 2) := by have := Nat.eq_of_beq_eq_true hp; omega
        rw [hp2]
        refine WA.look g2 hsel hz hd hb (fun A' ha => .inl ⟨gOK_wanted ha hg, fun w hw => ?_⟩) hk
        obtain ⟨L, hcl, hun, hst⟩ := hw
        have h2 := run_loadS (P := P) (w := w) (t := t') (a := ⟨b, 0, none⟩) (cs := c.toList) (by simpa using hm) rfl (fun j v hv => (hst (closed_waits hcl hun hwf)).cell (.inr ⟨i, hi⟩) (cells_pt c.toList (fun j v h => by simpa using h) j v hv))
        have e : c.toList.toArray = c := by simp
        rw [e] at h2
        simp only [execOp, hop, ha.ev hx]
        simp [h2]
      · simp at h0
    · simp at h0
  · simp at h0
def dshAt (T : Tab) (ops : Array Oper) (n z k : Nat) (plan : List Nat) (L : Array Bool) (l : Sl) : Option (Nat × Oper × BinOp × IntKind × Int × Int × List Nat × Array Bool × Sl) :=
  match dopAt T ops n z k plan L l with
  | some (d, o, r, L', l') => match o.op with
    | .binOp op _ x y _ => match ev l' x, ev l' y with
      | some (.int kd a), some (.int _ b) => some (d, o, op, kd, a, b, r, L', l')
      | _, _ => none
    | _ => none
  | none => none
theorem dshf (hT : TabOK P T) (hsel : Region.noSelect ops = true) (k : Nat) {d : Nat} {o : Oper} {op : BinOp} {kd : IntKind} {a b : Int} {v' : Value} (h0 : dshAt T ops n z k plan listed l = some (d, o, op, kd, a, b, plan', listed', l')) (hb : 0 ≤ b)
    (he : op = .shl ∧ Value.int kd (kd.wrap (a * 2 ^ (min b.toNat kd.bits))) = v' ∨ op = .shr ∧ Value.int kd (a.fdiv (2 ^ (min b.toNat kd.bits))) = v')
    (hk : WA P w0 ops Q K0 A z plan' listed' n ((d, v') :: l') K hs) : WA P w0 ops Q K0 A z plan listed n l K hs := by
  unfold dshAt at h0
  split at h0
  · rename_i d' o' r L' l2 hh
    split at h0
    · rename_i op' t x y t2 hop
      split at h0
      · rename_i kd' a' kb b' hx hy
        simp only [Option.some.injEq, Prod.mk.injEq] at h0
        obtain ⟨rfl, rfl, rfl, rfl, rfl, rfl, rfl, rfl, rfl⟩ := h0
        have hpb : pureOp T l2 o'.op = some v' := by
          rw [hop]
          simp only [pureOp, hx, hy]
          rcases he with ⟨rfl, he⟩ | ⟨rfl, he⟩
          · simp [pureBin, hb, he]
          · simp [pureBin, hb, he]
        exact dop hT hsel k hh (fun A w ha => pureOp_run hT hpb ha w) hk
      · simp at h0
    · simp at h0
  · simp at h0
end open_
theorem Own.set1 {g off n cap e : Nat} {cur : Array Value} {xs : List Value} (o : Own (pt g cur e) (some ⟨g, off, none⟩) n cap e 1 xs) (hc : cur.size = off + cap * 1) (ht : (cur.toList.drop off).take (n * 1) = xs) (j : Nat) (v : Value) :
    Own (pt g (cur.setIfInBounds (off + j) v) e) (some ⟨g, off, none⟩) n cap e 1 (xs.set j v) := by
  refine ⟨by simpa using o.1, o.2.1, o.2.2.1, .inr ⟨g, off, _, rfl, rfl, by simpa using hc, ?_⟩⟩
  subst ht
  rw [Array.toList_setIfInBounds, List.drop_set, if_neg (by omega), Nat.add_sub_cancel_left, List.take_set]

/-! branches that meet again -/
section join
variable {P : Program} {w0 : World} {Q : Exit → Act → World → Prop} {n : Nat} {l : Sl} {K : PH} {hs : List PH}
def JQ (w0 : World) {σ : Type} (F : σ → Sl) (HK : PH) (H : σ → List PH) (J : σ → Prop) (n : Nat) (Q : Exit → Act → World → Prop) : Exit → Act → World → Prop
  | .normal, a, w => ∃ s, J s ∧ Ag n (F s) a ∧ Sat w0 w HK (H s)
  | e, a, w => Q e a w
theorem jn {σ : Type} {x y : Code} (F : σ → Sl) (H : σ → List PH) (J : σ → Prop) (h1 : WC P w0 x (JQ w0 F K H J n Q) n l K hs) (h2 : ∀ s, J s → WC P w0 y Q n (F s) K (H s)) : WC P w0 (.seq x y) Q n l K hs :=
  sq fun a w ha hw => Code.wp_mono (fun e a w h => by
    cases e with
    | normal => obtain ⟨s, hJ, ha, hw⟩ := h; exact h2 s hJ a w ha hw
    | _ => exact h) (h1 a w ha hw)
theorem jx {σ : Type} {F : σ → Sl} {HK : PH} {H : σ → List PH} {J : σ → Prop} (s : σ) (hJ : J s) (hF : Sub l (F s)) (hK : K = HK) (hH : hs = H s) : WQ w0 (JQ w0 F HK H J n Q) .normal n l K hs :=
  fun a w ha hw => ⟨s, hJ, ha.sub hF, by rw [← hK, ← hH]; exact hw⟩
theorem jr {σ : Type} {F : σ → Sl} {HK : PH} {H : σ → List PH} {J : σ → Prop} (h : WQ w0 Q .ret n l K hs) : WQ w0 (JQ w0 F HK H J n Q) .ret n l K hs := h
theorem je {σ : Type} {F : σ → Sl} {HK : PH} {H : σ → List PH} {J : σ → Prop} {i : Nat} (h : WQ w0 Q (.exit i) n l K hs) : WQ w0 (JQ w0 F HK H J n Q) (.exit i) n l K hs := h
end join
end Go.En
namespace Go.En
set_option linter.unusedVariables false

/-! one heap within another -/
def Le (K K' : PH) : Prop := ∀ b o, K b = some o → K' b = some o
theorem Le.refl (K : PH) : Le K K := fun _ _ h => h
theorem Le.trans {A B C : PH} (h : Le A B) (g : Le B C) : Le A C := fun b o x => g b o (h b o x)
theorem Le.em (K : PH) : Le em K := fun b o h => by simp [En.em] at h
theorem Cell.le {h h' : PH} (l : Le h h') {a : Addr} {v : Value} (c : Cell h a v) : Cell h' a v := by
  obtain ⟨h1, cs, ty, fr, h2, h3⟩ := c
  exact ⟨h1, cs, ty, fr, l _ _ h2, h3⟩
theorem IsS.le {h h' : PH} (l : Le h h') {ao : Option Addr} {n cap size : Nat} {xs : List Value} (x : IsS h ao n cap size xs) : IsS h' ao n cap size xs :=
  ⟨x.1, x.2.1, fun j u hu => by obtain ⟨a, h1, h2⟩ := x.2.2 j u hu; exact ⟨a, h1, h2.le l⟩⟩
def un (K h : PH) : PH := fun b => match K b with | some o => some o | none => h b
theorem Sat.frz {w0 w : World} {K h : PH} {hs : List PH} (s : Sat w0 w K (h :: hs)) : Le K (un K h) ∧ Le h (un K h) ∧ Sat w0 w (un K h) hs := by
  have hap : ∀ b o, h b = some o → K b = none := fun b o hb => s.apart 0 h rfl b o hb
  refine ⟨fun b o hb => by simp [un, hb], fun b o hb => by simp [un, hap b o hb, hb], ⟨s.os, s.tape, s.output, s.size, ?_, s.dropHead.own, ?_, s.dropHead.sep⟩⟩
  · intro b o hb
    unfold un at hb
    cases hk : K b with
    | some x => rw [hk] at hb; cases hb; exact s.imm b _ hk
    | none => rw [hk] at hb; exact s.own 0 h rfl b o hb
  · intro i g hg b o hb
    have h1 := s.dropHead.apart i g hg b o hb
    have h2 := s.sep (i + 1) 0 g h (by simpa using hg) rfl (by omega) b o hb
    simp [un, h1, h2]
theorem Sat.weak {w0 w : World} {K K' : PH} {hs : List PH} (l : Le K K') (s : Sat w0 w K' hs) : Sat w0 w K hs := by
  refine ⟨s.os, s.tape, s.output, s.size, fun b o hb => s.imm b o (l b o hb), s.own, fun i h hi b o hb => ?_, s.sep⟩
  have := s.apart i h hi b o hb
  cases hk : K b with
  | none => rfl
  | some x => rw [l b x hk] at this; cases this
section frz
variable {P : Program} {w0 : World} {ops : Array Oper} {Q : Exit → Act → World → Prop} {rest : List Oper} {n : Nat} {l : Sl} {K h : PH} {hs : List PH} {c : Code} {e : Exit}
theorem WL.frz (hk : ∀ K', Le K K' → Le h K' → WL P w0 ops Q rest n l K' hs) : WL P w0 ops Q rest n l K (h :: hs) := fun a w ha hw => by
  obtain ⟨h1, h2, h3⟩ := hw.frz
  exact hk _ h1 h2 a w ha h3
theorem WC.frz (hk : ∀ K', Le K K' → Le h K' → WC P w0 c Q n l K' hs) : WC P w0 c Q n l K (h :: hs) := fun a w ha hw => by
  obtain ⟨h1, h2, h3⟩ := hw.frz
  exact hk _ h1 h2 a w ha h3
theorem WQ.frz (hk : ∀ K', Le K K' → Le h K' → WQ w0 Q e n l K' hs) : WQ w0 Q e n l K (h :: hs) := fun a w ha hw => by
  obtain ⟨h1, h2, h3⟩ := hw.frz
  exact hk _ h1 h2 a w ha h3
theorem WL.weak {K' : PH} (le : Le K K') (hk : WL P w0 ops Q rest n l K hs) : WL P w0 ops Q rest n l K' hs := fun a w ha hw => hk a w ha (hw.weak le)
theorem WC.weak {K' : PH} (le : Le K K') (hk : WC P w0 c Q n l K hs) : WC P w0 c Q n l K' hs := fun a w ha hw => hk a w ha (hw.weak le)
theorem WQ.weak {K' : PH} (le : Le K K') (hk : WQ w0 Q e n l K hs) : WQ w0 Q e n l K' hs := fun a w ha hw => hk a w ha (hw.weak le)
theorem In.le {K K' : PH} {hs : List PH} {x : PH} (hm : In K hs x) (l : Le K K') : ∃ y, In K' hs y ∧ Le x y := by
  rcases hm with rfl | h
  · exact ⟨K', .inl rfl, l⟩
  · exact ⟨x, .inr h, Le.refl _⟩
theorem Ct.weak {P : Program} {w0 : World} {f : FuncId} {args : List Value} {K : PH} {hs : List PH} {R : Value → PH → List PH → Prop} (c : Ct P w0 f args K hs (fun v K' hs' => ∃ K1, Le K' K1 ∧ R v K1 hs')) :
    Ct P w0 f args K hs (fun v K' hs' => ∃ K1, Le K' K1 ∧ R v K1 hs') := c
end frz

section rules
variable {P : Program} {T : Tab} {w0 : World} {ops : Array Oper} {Q : Exit → Act → World → Prop} {rest rest' : List Oper} {n : Nat} {l l' : Sl} {K : PH} {hs : List PH}
/-- any operation that looks at nothing, its value told -/
def ovAt (T : Tab) (ops : Array Oper) (n k : Nat) (rest : List Oper) (l : Sl) : Option (Nat × Oper × List Oper × Sl) :=
  match opAt T ops n k rest l with
  | some (o, r, l') => match o.dst with
    | some d => cond (Nat.blt d n) (some (d, o, r, l')) none
    | none => none
  | none => none
theorem opv (hT : TabOK P T) (k : Nat) {d : Nat} {o : Oper} {v : Value} (h0 : ovAt T ops n k rest l = some (d, o, rest', l')) (hv : ∀ a w, Ag n l' a → (execOp a.eval o).run P w = .ok (.value v) w)
    (hk : WL P w0 ops Q rest' n ((d, v) :: l') K hs) : WL P w0 ops Q rest n l K hs := by
  unfold ovAt at h0
  split at h0
  · rename_i o' r l2 ho
    split at h0
    · rename_i d' hd
      cases hb : Nat.blt d' n with
      | false => simp [hb] at h0
      | true =>
        simp only [hb, cond_true, Option.some.injEq, Prod.mk.injEq] at h0
        obtain ⟨rfl, rfl, rfl, rfl⟩ := h0
        exact WL.at' hT ho fun hg => WL.val (R := fun u K' hs' => u = v ∧ K' = K ∧ hs' = hs) hd hb hg (fun a w ha hw => ⟨v, w, K, hs, hv a w ha, hw, rfl, rfl, rfl⟩)
          (fun u K' hs' ⟨h1, h2, h3⟩ => by subst h1; subst h2; subst h3; exact hk)
    · simp at h0
  · simp at h0
/-- structs compared -/
def esAt (T : Tab) (ops : Array Oper) (n k : Nat) (rest : List Oper) (l : Sl) : Option (Nat × Bool × Nat × Array Value × Array Value × List Oper × Sl) :=
  match opAt T ops n k rest l with
  | some (o, r, l') => match o.dst, o.op with
    | some d, .binOp .eql t x y _ => match Nat.blt d n, ev l' x, ev l' y with
      | true, some (.agg xs), some (.agg ys) => some (d, true, t, xs, ys, r, l')
      | _, _, _ => none
    | some d, .binOp .neq t x y _ => match Nat.blt d n, ev l' x, ev l' y with
      | true, some (.agg xs), some (.agg ys) => some (d, false, t, xs, ys, r, l')
      | _, _, _ => none
    | _, _ => none
  | none => none
theorem eqs (hT : TabOK P T) (k : Nat) {d t : Nat} {same b : Bool} {xs ys : Array Value} (h0 : esAt T ops n k rest l = some (d, same, t, xs, ys, rest', l')) (hg0 : P.eqGuardType P.depth t = false)
    (hr : ∀ w, (Op.equalIn 10000 t (.agg xs) (.agg ys)).run P w = .ok b w) (hk : WL P w0 ops Q rest' n ((d, .bool (b == same)) :: l') K hs) : WL P w0 ops Q rest n l K hs := by
  unfold esAt at h0
  split at h0
  · rename_i o r l2 ho
    split at h0
    · rename_i d' t' x y ty hd hop
      split at h0
      · rename_i xs' ys' hb hx hy
        simp only [Option.some.injEq, Prod.mk.injEq] at h0
        obtain ⟨rfl, rfl, rfl, rfl, rfl, rfl, rfl⟩ := h0
        refine WL.at' hT ho fun hg => WL.val (R := fun u K' hs' => u = .bool (b == true) ∧ K' = K ∧ hs' = hs) hd hb hg (fun A w ha hw => ⟨_, w, K, hs, ?_, hw, rfl, rfl, rfl⟩) (fun u K' hs' ⟨h1, h2, h3⟩ => by subst h1; subst h2; subst h3; exact hk)
        simp only [execOp, hop, ha.ev hx, ha.ev hy]
        simp [run_eqGuard_agg, hg0, run_eql_struct, hr]
      · simp at h0
    · rename_i d' t' x y ty hd hop
      split at h0
      · rename_i xs' ys' hb hx hy
        simp only [Option.some.injEq, Prod.mk.injEq] at h0
        obtain ⟨rfl, rfl, rfl, rfl, rfl, rfl, rfl⟩ := h0
        refine WL.at' hT ho fun hg => WL.val (R := fun u K' hs' => u = .bool (b == false) ∧ K' = K ∧ hs' = hs) hd hb hg (fun A w ha hw => ⟨_, w, K, hs, ?_, hw, rfl, rfl, rfl⟩) (fun u K' hs' ⟨h1, h2, h3⟩ => by subst h1; subst h2; subst h3; exact hk)
        simp only [execOp, hop, ha.ev hx, ha.ev hy]
        simp [run_eqGuard_agg, hg0, run_neq_struct, hr]
      · simp at h0
    · simp at h0
  · simp at h0
/-- a text turned into bytes: a block of its own -/
def cbAt (T : Tab) (ops : Array Oper) (n k : Nat) (rest : List Oper) (l : Sl) : Option (Nat × Nat × Nat × ByteArray × List Oper × Sl) :=
  match opAt T ops n k rest l with
  | some (o, r, l') => match o.dst, o.op with
    | some d, .convert t t' x => match Nat.blt d n, ev l' x with
      | true, some (.string s) => some (d, t, t', s, r, l')
      | _, _ => none
    | _, _ => none
  | none => none
theorem cvb (hT : TabOK P T) (k : Nat) {d t t' : Nat} {xs : List UInt8} (h0 : cbAt T ops n k rest l = some (d, t, t', ⟨xs.toArray⟩, rest', l')) (hs' : isStr P t' t = true)
    (hk : ∀ b cap h, IsS h (some ⟨b, 0, none⟩) xs.length cap 1 (xs.map fun b => Value.int .u8 ((b.toNat : Nat) : Int)) → WL P w0 ops Q rest' n ((d, .slice (some ⟨b, 0, none⟩) xs.length cap) :: l') K (h :: hs)) : WL P w0 ops Q rest n l K hs := by
  unfold cbAt at h0
  split at h0
  · rename_i o r l2 ho
    split at h0
    · rename_i d' t1 t2 y hd hop
      split at h0
      · rename_i s hb hy
        simp only [Option.some.injEq, Prod.mk.injEq] at h0
        obtain ⟨rfl, rfl, rfl, rfl, rfl, rfl⟩ := h0
        unfold isStr at hs'
        simp only [Bool.and_eq_true] at hs'
        obtain ⟨q1, q2⟩ := hs'
        cases e1 : P.underlying t2 with
        | none => simp [e1] at q1
        | some d1 =>
          cases d1 <;> simp [e1] at q1
          rename_i e
          cases e2 : P.underlying e with
          | none => simp [e2] at q1
          | some d2 =>
            cases d2 <;> simp [e2] at q1
            rename_i kd
            cases kd <;> simp at q1
            cases e3 : P.underlying t1 with
            | none => simp [e3] at q2
            | some d3 =>
              refine WL.at' hT ho fun hg => WL.val (R := fun u K' hs' => ∃ b cap h, u = .slice (some ⟨b, 0, none⟩) xs.length cap ∧ K' = K ∧ hs' = h :: hs ∧ IsS h (some ⟨b, 0, none⟩) xs.length cap 1 (xs.map fun b => Value.int .u8 ((b.toNat : Nat) : Int))) hd hb hg
                (fun A w ha hw => ?_) (fun u K' hs' ⟨b, cap, h, h1, h2, h3, h4⟩ => by subst h1; subst h2; subst h3; exact hk b cap h h4)
              have hsz : (⟨xs.toArray⟩ : ByteArray).size = xs.length := by simp [ByteArray.size]
              have hr := Lib.run_convert_string_bytes (P := P) w t1 t2 e ⟨xs.toArray⟩ e3 e1 e2
              have hcap : xs.length ≤ grownCap w xs.length 0 e := grownCap_ge w xs.length 0 e
              have hcs : (Lib.bytesCells w e ⟨xs.toArray⟩).toList = xs.map (fun b => Value.int .u8 ((b.toNat : Nat) : Int)) ++ List.replicate (grownCap w xs.length 0 e - xs.length) (.int .u8 0) := by
                simp [Lib.bytesCells, hsz]
              refine ⟨.slice (some ⟨w.heap.size, 0, none⟩) xs.length (grownCap w xs.length 0 e), Lib.bytesWorld w e ⟨xs.toArray⟩, K, pt w.heap.size (Lib.bytesCells w e ⟨xs.toArray⟩) e ((Lib.bytesCells w e ⟨xs.toArray⟩).size, (Lib.bytesCells w e ⟨xs.toArray⟩).size + 1) :: hs, ?_, ?_, w.heap.size, grownCap w xs.length 0 e, _, rfl, rfl, rfl, ?_⟩
              · simp only [execOp, hop, ha.ev hy]
                rw [← hsz]
                simp [hr]
              · have h1 := (hw.drew.alloc (.cells (Lib.bytesCells w e ⟨xs.toArray⟩) e)).remark (i := 0) (w' := Lib.bytesWorld w e ⟨xs.toArray⟩) (fr' := ((Lib.bytesCells w e ⟨xs.toArray⟩).size, (Lib.bytesCells w e ⟨xs.toArray⟩).size + 1)) rfl
                  (Lib.bytesWorld_at_new w e _) ?_ rfl rfl rfl ?_
                · exact h1
                · intro k hk
                  rcases Nat.lt_or_ge k w.heap.size with h | h
                  · rw [Lib.bytesWorld_at_old w e _ k h]
                    exact (RowKit.Below.heap_alloc w.drew _ k h).symm
                  · have hk' : w.heap.size < k := by have : k ≠ w.heap.size := hk; omega
                    rw [Array.getElem?_eq_none (by rw [Lib.bytesWorld_size]; omega), Array.getElem?_eq_none (by simp; omega)]
                · rw [Lib.bytesWorld_size]; simp
              · refine ⟨by simp, hcap, fun j u hu => ⟨_, rfl, ?_⟩⟩
                rw [add_mk, Nat.zero_add]
                refine Cell.pt ?_
                have hj : j < xs.length := by have := (List.getElem?_eq_some_iff.1 hu).1; simpa using this
                rw [← Array.getElem?_toList, hcs, List.getElem?_append_left (by simpa using hj)]
                exact hu
      · simp at h0
    · simp at h0
  · simp at h0
end rules
section ret
variable {P : Program} {w0 : World} {fn : Func} {R : Value → PH → List PH → Prop} {n : Nat} {l : Sl} {K : PH} {hs : List PH}
/-- a struct in a block is handed back alone; the first m heaps are let go -/
theorem retcA (i m : Nat) {t ty b ty' : Nat} {c : Array Value} {fr : Nat × Nat} (hr : fn.results = #[.cell t ty]) (hv : look l t = some (.pointer (some ⟨b, 0, none⟩))) (hi : hs[i]? = some (pt b c ty' fr)) (hm : aggOK P ty c.size = true)
    (hk : R (.agg c) K (hs.drop m)) : WQ w0 (bodyPost P fn (endR w0 R)) .ret n l K hs :=
  fun _ w ha hw => bodyPost_ret (v := .agg c) (by
    have h2 := run_loadVarS (P := P) (w := w) (t := ty) (a := ⟨b, 0, none⟩) (cs := c.toList) (by simpa using hm) rfl (fun j v hv => hw.cell (.inr ⟨i, hi⟩) (cells_pt c.toList (fun j v h => by simpa using h) j v hv))
    have e : c.toList.toArray = c := by simp
    rw [e] at h2
    simp [results, hr, ha.slot t _ hv, asAddr, h2]) ha.defers ⟨_, _, _, rfl, hk, hw.dropN m⟩
end ret
end Go.En
namespace Go.En
set_option linter.unusedVariables false

theorem bnot {b : Bool} {p : Prop} (h : b = true ↔ p) : (!b) = true ↔ ¬ p := by cases b <;> simp_all
theorem bdec (p : Prop) [Decidable p] : decide p = true ↔ p := by simp
theorem Ag.cut {n : Nat} {l l' : Sl} {a : Act} (h : Ag n l' a) (h1 : l'.drop (l'.length - l.length) = l) (h2 : ((l'.take (l'.length - l.length)).all fun x => (look l x.1).isNone) = true) : Ag n l a := by
  refine ⟨h.size, h.defers, fun t v ht => h.slot t v ?_⟩
  generalize l'.length - l.length = k at h1 h2
  clear h
  induction k generalizing l' with
  | zero => simp at h1; rw [h1]; exact ht
  | succ k ih =>
    cases l' with
    | nil => simp at h1; subst h1; exact ht
    | cons x r =>
      obtain ⟨t', u⟩ := x
      simp only [List.take_succ_cons, List.all_cons, Bool.and_eq_true] at h2
      have := ih (l' := r) (by simpa using h1) h2.2
      simp only [look]
      cases e : Nat.beq t' t with
      | false => simpa using this
      | true =>
        have : t' = t := Nat.eq_of_beq_eq_true e
        subst this
        simp [ht] at h2
theorem Ag.cons {n : Nat} {l : Sl} {a : Act} {t : Nat} {v : Value} (h : Ag n l a) (ht : a.tmps[t]? = some v) : Ag n ((t, v) :: l) a := by
  refine ⟨h.size, h.defers, fun s u hs => ?_⟩
  simp only [look] at hs
  cases e : Nat.beq t s with
  | true =>
    have : t = s := Nat.eq_of_beq_eq_true e
    subst this
    rw [e] at hs
    simp only [cond_true, Option.some.injEq] at hs
    rw [← hs]; exact ht
  | false => rw [e] at hs; exact h.slot s u hs
def BJ (w0 : World) (t n : Nat) (l : Sl) (q : Prop) (K : PH) (hs : List PH) : Exit → Act → World → Prop := fun e a w => e = .normal ∧ ∃ c : Bool, (c = true ↔ q) ∧ Ag n ((t, .bool c) :: l) a ∧ Sat w0 w K hs
theorem bjx {w0 : World} {t n : Nat} {l l' : Sl} {q : Prop} {K : PH} {hs : List PH} {c : Bool} (hc : c = true ↔ q) (hl : look l' t = some (.bool c)) (h1 : l'.drop (l'.length - l.length) = l) (h2 : ((l'.take (l'.length - l.length)).all fun x => (look l x.1).isNone) = true) :
    WQ w0 (BJ w0 t n l q K hs) .normal n l' K hs := fun a w ha hw => ⟨rfl, c, hc, (ha.cut h1 h2).cons (ha.slot t _ hl), hw⟩
theorem wpList_app {P : Program} {ops : Array Oper} {Q Q1 : Exit → Act → World → Prop} {rest : List Oper} (h1 : ∀ e a w, Q1 e a w → e = .normal) (h2 : ∀ a w, Q1 .normal a w → wpList P ops Q rest a w) :
    ∀ (seg : List Oper) (a : Act) (w : World), wpList P ops Q1 seg a w → wpList P ops Q (seg ++ rest) a w
  | [], a, w, h => h2 a w h
  | o :: seg, a, w, h => by
    unfold wpList at h
    rw [List.cons_append]
    unfold wpList
    split
    · rename_i hw
      rw [if_pos hw] at h
      rcases h with h | ⟨_, a', w', h⟩
      · refine .inl (Oper.wp_mono (fun a w h => wpList_app h1 h2 seg a w h) ?_)
        unfold Oper.wp at h ⊢
        refine upon_q (fun c a w h => ?_) (fun a w h => ?_) h
        · have := h1 _ _ _ h; cases this
        · have := h1 _ _ _ h; cases this
      · have := h1 _ _ _ h; cases this
    · rename_i hw
      rw [if_neg hw] at h
      exact wpList_app h1 h2 seg _ w h
section rules
variable {P : Program} {T : Tab} {w0 : World} {ops : Array Oper} {Q : Exit → Act → World → Prop} {rest rest' rest2 : List Oper} {n : Nat} {l l' lE : Sl} {K : PH} {hs : List PH}
/-- the slots 'ts' say w -/
def setb (ts : List Nat) (w : Bool) : Sl → Sl
  | [] => []
  | (k, v) :: r => (k, cond (ts.any (Nat.beq k)) (.bool w) v) :: setb ts w r
theorem bj (hT : TabOK P T) (k m t : Nat) (ts : List Nat) (want : Bool) (b : Bool) {φ q : Prop} (h0 : pureN T ops n k rest l = some (rest', l')) (hlf : setb ts b l' = l') (hno : pureN T ops n m rest' (setb ts (!want) l') = some (rest2, lE)) (hl : look lE t = some (.bool (!want)))
    (h1 : lE.drop (lE.length - (setb ts (!want) l').length) = setb ts (!want) l') (h2 : ((lE.take (lE.length - (setb ts (!want) l').length)).all fun x => (look (setb ts (!want) l') x.1).isNone) = true) (hr : rest' = rest'.take m ++ rest2)
    (hn : b = !want → ((!want) = true ↔ φ)) (hq : b = want → (q ↔ φ))
    (hex : b = want → WL P w0 ops (BJ w0 t n (setb ts want l') q K hs) (rest'.take m) n (setb ts want l') K hs)
    (hk : ∀ b', (b' = true ↔ φ) → WL P w0 ops Q rest2 n ((t, .bool b') :: l') K hs) : WL P w0 ops Q rest n l K hs := by
  refine WL.pures hT k h0 ?_
  by_cases hb : b = want
  · subst hb
    rw [hlf] at hex
    intro a w ha hw
    rw [hr]
    refine wpList_app (Q1 := BJ w0 t n l' q K hs) (fun e a w h => h.1) (fun a w h => ?_) _ a w (hex rfl a w ha hw)
    obtain ⟨_, c, hc, hA, hS⟩ := h
    exact hk c (hc.trans (hq rfl)) a w hA hS
  · have hb' : b = !want := by cases b <;> cases want <;> first | rfl | exact absurd rfl hb
    subst hb'
    rw [hlf] at hno h1 h2
    refine WL.pures hT m hno fun a w ha hw => ?_
    exact hk _ (hn rfl) a w ((ha.cut h1 h2).cons (ha.slot t _ hl)) hw
/-- done unless b -/
theorem bjo (hT : TabOK P T) (k m t : Nat) (ts : List Nat) {b : Bool} {p q : Prop} (hb : b = true ↔ p) (h0 : pureN T ops n k rest l = some (rest', l')) (hlf : setb ts b l' = l') (hno : pureN T ops n m rest' (setb ts true l') = some (rest2, lE)) (hl : look lE t = some (.bool true))
    (h1 : lE.drop (lE.length - (setb ts true l').length) = setb ts true l') (h2 : ((lE.take (lE.length - (setb ts true l').length)).all fun x => (look (setb ts true l') x.1).isNone) = true) (hr : rest' = rest'.take m ++ rest2)
    (hex : ¬ p → WL P w0 ops (BJ w0 t n (setb ts false l') q K hs) (rest'.take m) n (setb ts false l') K hs)
    (hk : ∀ b', (b' = true ↔ p ∨ q) → WL P w0 ops Q rest2 n ((t, .bool b') :: l') K hs) : WL P w0 ops Q rest n l K hs :=
  bj hT k m t ts false b (φ := p ∨ q) (q := q) h0 hlf hno hl h1 h2 hr (fun h => by subst h; simpa using Or.inl (hb.1 rfl)) (fun h => ⟨.inr, fun g => g.resolve_left (fun hp => by have := hb.2 hp; rw [h] at this; cases this)⟩)
    (fun h => hex (fun hp => by have := hb.2 hp; rw [h] at this; cases this)) hk
/-- done if b -/
theorem bja (hT : TabOK P T) (k m t : Nat) (ts : List Nat) {b : Bool} {p q : Prop} (hb : b = true ↔ p) (h0 : pureN T ops n k rest l = some (rest', l')) (hlf : setb ts b l' = l') (hno : pureN T ops n m rest' (setb ts false l') = some (rest2, lE)) (hl : look lE t = some (.bool false))
    (h1 : lE.drop (lE.length - (setb ts false l').length) = setb ts false l') (h2 : ((lE.take (lE.length - (setb ts false l').length)).all fun x => (look (setb ts false l') x.1).isNone) = true) (hr : rest' = rest'.take m ++ rest2)
    (hex : p → WL P w0 ops (BJ w0 t n (setb ts true l') q K hs) (rest'.take m) n (setb ts true l') K hs)
    (hk : ∀ b', (b' = true ↔ p ∧ q) → WL P w0 ops Q rest2 n ((t, .bool b') :: l') K hs) : WL P w0 ops Q rest n l K hs :=
  bj hT k m t ts true b (φ := p ∧ q) (q := q) h0 hlf hno hl h1 h2 hr (fun h => Iff.intro (fun h' => absurd h' (by decide)) (fun h' => by have := hb.2 h'.1; rw [h] at this; cases this)) (fun h => Iff.intro (fun g => ⟨hb.1 h, g⟩) (fun g => g.2))
    (fun h => hex (hb.1 h)) hk
/-- a test on numbers whose result is a name -/
theorem cmpS (hT : TabOK P T) (k : Nat) {d : Nat} {p : Prop} (h : cmpAt T ops n k rest l = some (d, p, rest', l')) (hk : ∀ b : Bool, (b = true ↔ p) → WL P w0 ops Q rest' n ((d, .bool b) :: l') K hs) : WL P w0 ops Q rest n l K hs :=
  cmp hT k h (fun hp => hk true (by simpa using hp)) (fun hp => hk false (by simpa using hp))
/-- any truth, named -/
theorem cbS (hT : TabOK P T) (k : Nat) {d : Nat} {c : Bool} (p : Prop) (h : valAt T ops n k rest l = some (d, .bool c, rest', l')) (hp : c = true ↔ p) (hk : ∀ b : Bool, (b = true ↔ p) → WL P w0 ops Q rest' n ((d, .bool b) :: l') K hs) : WL P w0 ops Q rest n l K hs :=
  ar hT k h rfl (hk c hp)
/-- texts compared -/
theorem seS (hT : TabOK P T) (k : Nat) {d : Nat} {xs ys : List UInt8} (h : valAt T ops n k rest l = some (d, .bool ((⟨xs.toArray⟩ : ByteArray).toList == (⟨ys.toArray⟩ : ByteArray).toList), rest', l')) (hk : ∀ b : Bool, (b = true ↔ xs = ys) → WL P w0 ops Q rest' n ((d, .bool b) :: l') K hs) : WL P w0 ops Q rest n l K hs :=
  ar hT k h rfl (hk _ (by rw [str_toList, str_toList]; simp))
theorem snS (hT : TabOK P T) (k : Nat) {d : Nat} {xs ys : List UInt8} (h : valAt T ops n k rest l = some (d, .bool !((⟨xs.toArray⟩ : ByteArray).toList == (⟨ys.toArray⟩ : ByteArray).toList), rest', l')) (hk : ∀ b : Bool, (b = true ↔ xs ≠ ys) → WL P w0 ops Q rest' n ((d, .bool b) :: l') K hs) : WL P w0 ops Q rest n l K hs :=
  ar hT k h rfl (hk _ (by rw [str_toList, str_toList]; simp))
/-- a truth in a slot, named -/
theorem nmS {t : Nat} {c : Bool} (hk : ∀ b : Bool, (b = true ↔ c = true) → WL P w0 ops Q rest n ((t, .bool b) :: l) K hs) : WL P w0 ops Q rest n ((t, .bool c) :: l) K hs := hk c Iff.rfl
end rules
theorem ifP {P : Program} {w0 : World} {Q : Exit → Act → World → Prop} {n : Nat} {l : Sl} {K : PH} {hs : List PH} {c : Operand} {x y : Code} {b : Bool} {p : Prop} (hb : b = true ↔ p) (hc : ev l c = some (.bool b)) (h : p → WC P w0 x Q n l K hs) (h' : ¬ p → WC P w0 y Q n l K hs) :
    WC P w0 (.cond c x y) Q n l K hs := ifB hc (fun e => h (hb.1 e)) (fun e => h' (fun hp => by rw [hb.2 hp] at e; cases e))
theorem ifPT {P : Program} {w0 : World} {Q : Exit → Act → World → Prop} {n : Nat} {l : Sl} {K : PH} {hs : List PH} {c : Operand} {x y : Code} {b : Bool} {p : Prop} (hb : b = true ↔ p) (hp : p) (hc : ev l c = some (.bool b)) (h : WC P w0 x Q n l K hs) :
    WC P w0 (.cond c x y) Q n l K hs := ifP hb hc (fun _ => h) (fun g => absurd hp g)
theorem ifPF {P : Program} {w0 : World} {Q : Exit → Act → World → Prop} {n : Nat} {l : Sl} {K : PH} {hs : List PH} {c : Operand} {x y : Code} {b : Bool} {p : Prop} (hb : b = true ↔ p) (hp : ¬ p) (hc : ev l c = some (.bool b)) (h : WC P w0 y Q n l K hs) :
    WC P w0 (.cond c x y) Q n l K hs := ifP hb hc (fun g => absurd g hp) (fun _ => h)
theorem dcbS {P : Program} {T : Tab} {w0 : World} {ops : Array Oper} {Q : Exit → Act → World → Prop} {plan plan' : List Nat} {z : Nat} {listed listed' : Array Bool} {n : Nat} {l l' : Sl} {K K0 : PH} {hs A : List PH}
    (hT : TabOK P T) (hsel : Region.noSelect ops = true) (k : Nat) {d : Nat} {c : Bool} (p : Prop) (h0 : dvalAt T ops n z k plan listed l = some (d, .bool c, plan', listed', l')) (hp : p ↔ c = true)
    (hk : ∀ b : Bool, (b = true ↔ p) → WA P w0 ops Q K0 A z plan' listed' n ((d, .bool b) :: l') K hs) : WA P w0 ops Q K0 A z plan listed n l K hs :=
  dar hT hsel k h0 rfl (hk c hp.symm)
/-- a contract that leaves the first owned heap as it is, used at the i-th -/
theorem Ct.keep {P : Program} {w0 : World} {f : FuncId} {args : List Value} {K : PH} {hs : List PH} {h : PH} {u : Value} (i : Nat) (hi : hs[i]? = some h)
    (c : Ct P w0 f args K (h :: hs.eraseIdx i) (fun v K' hs' => K' = K ∧ hs' = h :: hs.eraseIdx i ∧ v = u)) : Ct P w0 f args K hs (fun v K' hs' => K' = K ∧ hs' = hs ∧ v = u) := by
  refine ⟨c.1, fun w hw => (c.2 w (hw.perm (perm_front hs i h hi))).mono ?_⟩
  rintro e w' ⟨v, K', hs', rfl, ⟨rfl, rfl, rfl⟩, hw'⟩
  exact ⟨_, _, _, rfl, ⟨rfl, rfl, rfl⟩, hw'.perm (perm_front hs i h hi).symm⟩
/-- a struct loaded from wherever it lies, where the order is open -/
theorem dlds {P : Program} {T : Tab} {w0 : World} {ops : Array Oper} {Q : Exit → Act → World → Prop} {plan plan' : List Nat} {z : Nat} {listed listed' : Array Bool} {n : Nat} {l l' : Sl} {K K0 : PH} {hs A : List PH}
    (hT : TabOK P T) (hsel : Region.noSelect ops = true) (k : Nat) {p d t : Nat} {a : Addr} {h : PH} (cs : List Value) (h0 : dlsAt T ops n z k plan listed l = some (p, d, t, a, plan', listed', l')) (hwf : cond (Nat.blt z ops.size) (Region.waitsFor .any ops z (p / 2)) true = true)
    (hm : aggOK P t cs.length = true) (hin : In K0 A h) (hc : ∀ (j : Nat) v, cs[j]? = some v → Cell h (a.add j) v) (hk : WA P w0 ops Q K0 A z plan' listed' n ((d, .agg cs.toArray) :: l') K hs) : WA P w0 ops Q K0 A z plan listed n l K hs := by
  unfold dlsAt at h0
  split at h0
  · rename_i p' o r L' l2 hh
    split at h0
    · rename_i dd t' x hp hz hg hd hop
      split at h0
      · rename_i a' hb hx
        simp only [Option.some.injEq, Prod.mk.injEq] at h0
        obtain ⟨rfl, rfl, rfl, rfl, rfl, rfl, rfl⟩ := h0
        obtain ⟨g1, g2⟩ := headAt_spec hh
        refine WA.pures hT hsel k g1 ?_
        have hp2 : p' = 2 * (p' / 2) := by have := Nat.eq_of_beq_eq_true hp; omega
        rw [hp2]
        refine WA.look g2 hsel hz hd hb (fun A' ha => .inl ⟨gOK_wanted ha hg, fun w hw => ?_⟩) hk
        obtain ⟨L, hcl, hun, hst⟩ := hw
        have h2 := run_loadS (P := P) (w := w) (t := t') (a := a') (cs := cs) hm rfl (fun j v hv => (hst (closed_waits hcl hun hwf)).cell hin (hc j v hv))
        simp only [execOp, hop, ha.ev hx]
        simp [h2]
      · simp at h0
    · simp at h0
  · simp at h0
/-- the owned heaps in another form -/
theorem WL.hs {P : Program} {w0 : World} {ops : Array Oper} {Q : Exit → Act → World → Prop} {rest : List Oper} {n : Nat} {l : Sl} {K : PH} {hs : List PH} (hs' : List PH) (e : hs = hs') (hk : WL P w0 ops Q rest n l K hs') : WL P w0 ops Q rest n l K hs := by
  subst e; exact hk
end Go.En
