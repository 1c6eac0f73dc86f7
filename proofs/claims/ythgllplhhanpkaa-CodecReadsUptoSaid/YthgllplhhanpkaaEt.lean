/-
  More rules: an element's address where the order is open; an element stored; branches that meet again.
-/
import Derived.Test.YthgllplhhanpkaaEs
namespace Go.En
set_option linter.unusedVariables false

section open_
variable {P : Program} {T : Tab} {w0 : World} {ops : Array Oper} {Q : Exit → Act → World → Prop} {plan plan' : List Nat} {z : Nat} {listed listed' : Array Bool} {n : Nat} {l l' : Sl} {K K0 : PH} {hs A : List PH}
def dixAt (T : Tab) (ops : Array Oper) (n z k : Nat) (plan : List Nat) (L : Array Bool) (l : Sl) : Option (Nat × Oper × SlI × (Option Addr × Nat × Nat) × Int × List Nat × Array Bool × Sl) :=
  match dopAt T ops n z k plan L l with
  | some (d, o, r, L', l') => match o.op with
    | .indexAddr t x i => match asc T.sls t, ev l' x, ev l' i with
      | some si, some (.slice a1 n1 c1), some (.int _ j) => some (d, o, si, (a1, n1, c1), j, r, L', l')
      | _, _, _ => none
    | _ => none
  | none => none
theorem dixs (hT : TabOK P T) (hsel : Region.noSelect ops = true) (k : Nat) {d : Nat} {o : Oper} {si : SlI} {a : Addr} {n1 c1 : Nat} {i : Int} (j : Nat)
    (h0 : dixAt T ops n z k plan listed l = some (d, o, si, (some a, n1, c1), i, plan', listed', l')) (hj : i = (j : Int)) (hjn : j < n1)
    (hk : WA P w0 ops Q K0 A z plan' listed' n ((d, .pointer (some (a.add (j * si.size)))) :: l') K hs) : WA P w0 ops Q K0 A z plan listed n l K hs := by
  unfold dixAt at h0
  split at h0
  · rename_i d' o' r L' l2 hh
    split at h0
    · rename_i t x' i' hop
      split at h0
      · rename_i si' a1 m1 k1 kk jj hsi hx hi
        simp only [Option.some.injEq, Prod.mk.injEq] at h0
        obtain ⟨rfl, rfl, rfl, ⟨rfl, rfl, rfl⟩, rfl, rfl, rfl, rfl⟩ := h0
        subst hj
        obtain ⟨g1, ii, g2, g3, g4, g5⟩ := hT.sl hsi
        refine dop hT hsel k hh (fun A w ha => ?_) hk
        simp only [execOp, hop, ha.ev hx, ha.ev hi]
        simp [Instr.indexAt, asIntOf, run_underlying g1, sizeOf, typeInfo, g2, g4, hjn]
      · simp at h0
    · simp at h0
  · simp at h0
/-- a load ahead of the operation that first changes what is looked at -/
def dldwAt (T : Tab) (ops : Array Oper) (n z k : Nat) (plan : List Nat) (L : Array Bool) (l : Sl) : Option (Nat × Nat × Addr × List Nat × Array Bool × Sl) :=
  match headAt T ops n z k plan L l with
  | some (p, o, r, L', l') => match Nat.beq (p % 2) 0, Nat.beq (p / 2) z, gOK ops l' o.guard, o.dst, o.op with
    | true, false, some true, some d, .load t x => match Nat.blt d n, asc T.kinds t, ev l' x with
      | true, some kd, some (.pointer (some a)) => cond kd.one (some (p, d, a, r, L'.setIfInBounds (p / 2) true, l')) none
      | _, _, _ => none
    | _, _, _, _, _ => none
  | none => none
theorem dldw (hT : TabOK P T) (hsel : Region.noSelect ops = true) (k : Nat) {p d : Nat} {a : Addr} {v : Value} {h : PH} (h0 : dldwAt T ops n z k plan listed l = some (p, d, a, plan', listed', l')) (hwf : cond (Nat.blt z ops.size) (Region.waitsFor .any ops z (p / 2)) true = true) (hm : In K0 A h) (hc : Cell h a v)
    (hk : WA P w0 ops Q K0 A z plan' listed' n ((d, v) :: l') K hs) : WA P w0 ops Q K0 A z plan listed n l K hs := by
  unfold dldwAt at h0
  split at h0
  · rename_i p' o r L' l2 hh
    split at h0
    · rename_i dd t x hp hz hg hd hop
      split at h0
      · rename_i kd a' hb hkd hx
        cases h1 : kd.one with
        | false => simp [h1] at h0
        | true =>
          simp only [h1, cond_true, Option.some.injEq, Prod.mk.injEq] at h0
          obtain ⟨rfl, rfl, rfl, rfl, rfl, rfl⟩ := h0
          obtain ⟨g1, g2⟩ := headAt_spec hh
          refine WA.pures hT hsel k g1 ?_
          have hp2 : p' = 2 * (p' / 2) := by have := Nat.eq_of_beq_eq_true hp; omega
          rw [hp2]
          refine WA.look g2 hsel hz hd hb (fun A' ha => .inl ⟨gOK_wanted ha hg, fun w hw => ?_⟩) hk
          obtain ⟨L, hcl, hun, hst⟩ := hw
          have hcell := (hst (closed_waits hcl hun hwf)).cell hm hc
          have h2 := run_load1 (P := P) hT hkd h1 hcell
          simp only [execOp, hop, ha.ev hx]
          simp [h2]
      · simp at h0
    · simp at h0
  · simp at h0
theorem dldpw (hT : TabOK P T) (hsel : Region.noSelect ops = true) (k i : Nat) {p d b off ty : Nat} {v : Value} {c : Array Value} {fr : Nat × Nat} (h0 : dldwAt T ops n z k plan listed l = some (p, d, ⟨b, off, none⟩, plan', listed', l')) (hwf : cond (Nat.blt z ops.size) (Region.waitsFor .any ops z (p / 2)) true = true)
    (hi : A[i]? = some (pt b c ty fr)) (hv : c[off]? = some v) (hk : WA P w0 ops Q K0 A z plan' listed' n ((d, v) :: l') K hs) : WA P w0 ops Q K0 A z plan listed n l K hs :=
  dldw hT hsel k h0 hwf (.inr ⟨i, hi⟩) (Cell.pt hv) hk
/-- a struct loaded, where the order is open -/
def dlsAt (T : Tab) (ops : Array Oper) (n z k : Nat) (plan : List Nat) (L : Array Bool) (l : Sl) : Option (Nat × Nat × Nat × Addr × List Nat × Array Bool × Sl) :=
  match headAt T ops n z k plan L l with
  | some (p, o, r, L', l') => match Nat.beq (p % 2) 0, Nat.beq (p / 2) z, gOK ops l' o.guard, o.dst, o.op with
    | true, false, some true, some d, .load t x => match Nat.blt d n, ev l' x with
      | true, some (.pointer (some a)) => some (p, d, t, a, r, L'.setIfInBounds (p / 2) true, l')
      | _, _ => none
    | _, _, _, _, _ => none
  | none => none
theorem dldS (hT : TabOK P T) (hsel : Region.noSelect ops = true) (k i : Nat) {p d t b ty : Nat} {c : Array Value} {fr : Nat × Nat} (h0 : dlsAt T ops n z k plan listed l = some (p, d, t, ⟨b, 0, none⟩, plan', listed', l')) (hwf : cond (Nat.blt z ops.size) (Region.waitsFor .any ops z (p / 2)) true = true)
    (hi : A[i]? = some (pt b c ty fr)) (hm : aggOK P t c.size = true) (hk : WA P w0 ops Q K0 A z plan' listed' n ((d, .agg c) :: l') K hs) : WA P w0 ops Q K0 A z plan listed n l K hs := by
  unfold dlsAt at h0
  split at h0
  · rename_i p' o r L' l2 hh
    split at h0
    · rename_i dd t' x hp hz hg hd hop
      split at h0
      · rename_i a' hb hx
        simp only [Option.some.injEq, Prod.mk.injEq] at h0
        obtain ⟨rfl, rfl, rfl, rfl, rfl, rfl, rfl⟩ := h0
        obtain ⟨g1, g2⟩ := headAt_spec hh
        refine WA.pures hT hsel k g1 ?_
        have hp2 : p' = 2 * (p' / 2) := by have := Nat.eq_of_beq_eq_true hp; omega
        rw [hp2]
        refine WA.look g2 hsel hz hd hb (fun A' ha => .inl ⟨gOK_wanted ha hg, fun w hw => ?_⟩) hk
        obtain ⟨L, hcl, hun, hst⟩ := hw
        have h2 := run_loadS (P := P) (w := w) (t := t') (a := ⟨b, 0, none⟩) (cs := c.toList) (by simpa using hm) rfl (fun j v hv => (hst (closed_waits hcl hun hwf)).cell (.inr ⟨i, hi⟩) (cells_pt c.toList (fun j v h => by simpa using h) j v hv))
        have e : c.toList.toArray = c := by simp
        rw [e] at h2
        simp only [execOp, hop, ha.ev hx]
        simp [h2]
      · simp at h0
    · simp at h0
  · simp at h0
def dshAt (T : Tab) (ops : Array Oper) (n z k : Nat) (plan : List Nat) (L : Array Bool) (l : Sl) : Option (Nat × Oper × BinOp × IntKind × Int × Int × List Nat × Array Bool × Sl) :=
  match dopAt T ops n z k plan L l with
  | some (d, o, r, L', l') => match o.op with
    | .binOp op _ x y _ => match ev l' x, ev l' y with
      | some (.int kd a), some (.int _ b) => some (d, o, op, kd, a, b, r, L', l')
      | _, _ => none
    | _ => none
  | none => none
theorem dshf (hT : TabOK P T) (hsel : Region.noSelect ops = true) (k : Nat) {d : Nat} {o : Oper} {op : BinOp} {kd : IntKind} {a b : Int} {v' : Value} (h0 : dshAt T ops n z k plan listed l = some (d, o, op, kd, a, b, plan', listed', l')) (hb : 0 ≤ b)
    (he : op = .shl ∧ Value.int kd (kd.wrap (a * 2 ^ (min b.toNat kd.bits))) = v' ∨ op = .shr ∧ Value.int kd (a.fdiv (2 ^ (min b.toNat kd.bits))) = v')
    (hk : WA P w0 ops Q K0 A z plan' listed' n ((d, v') :: l') K hs) : WA P w0 ops Q K0 A z plan listed n l K hs := by
  unfold dshAt at h0
  split at h0
  · rename_i d' o' r L' l2 hh
    split at h0
    · rename_i op' t x y t2 hop
      split at h0
      · rename_i kd' a' kb b' hx hy
        simp only [Option.some.injEq, Prod.mk.injEq] at h0
        obtain ⟨rfl, rfl, rfl, rfl, rfl, rfl, rfl, rfl, rfl⟩ := h0
        have hpb : pureOp T l2 o'.op = some v' := by
          rw [hop]
          simp only [pureOp, hx, hy]
          rcases he with ⟨rfl, he⟩ | ⟨rfl, he⟩
          · simp [pureBin, hb, he]
          · simp [pureBin, hb, he]
        exact dop hT hsel k hh (fun A w ha => pureOp_run hT hpb ha w) hk
      · simp at h0
    · simp at h0
  · simp at h0
end open_
theorem Own.set1 {g off n cap e : Nat} {cur : Array Value} {xs : List Value} (o : Own (pt g cur e) (some ⟨g, off, none⟩) n cap e 1 xs) (hc : cur.size = off + cap * 1) (ht : (cur.toList.drop off).take (n * 1) = xs) (j : Nat) (v : Value) :
    Own (pt g (cur.setIfInBounds (off + j) v) e) (some ⟨g, off, none⟩) n cap e 1 (xs.set j v) := by
  refine ⟨by simpa using o.1, o.2.1, o.2.2.1, .inr ⟨g, off, _, rfl, rfl, by simpa using hc, ?_⟩⟩
  subst ht
  rw [Array.toList_setIfInBounds, List.drop_set, if_neg (by omega), Nat.add_sub_cancel_left, List.take_set]

/-! branches that meet again -/
section join
variable {P : Program} {w0 : World} {Q : Exit → Act → World → Prop} {n : Nat} {l : Sl} {K : PH} {hs : List PH}
def JQ (w0 : World) {σ : Type} (F : σ → Sl) (HK : PH) (H : σ → List PH) (J : σ → Prop) (n : Nat) (Q : Exit → Act → World → Prop) : Exit → Act → World → Prop
  | .normal, a, w => ∃ s, J s ∧ Ag n (F s) a ∧ Sat w0 w HK (H s)
  | e, a, w => Q e a w
theorem jn {σ : Type} {x y : Code} (F : σ → Sl) (H : σ → List PH) (J : σ → Prop) (h1 : WC P w0 x (JQ w0 F K H J n Q) n l K hs) (h2 : ∀ s, J s → WC P w0 y Q n (F s) K (H s)) : WC P w0 (.seq x y) Q n l K hs :=
  sq fun a w ha hw => Code.wp_mono (fun e a w h => by
    cases e with
    | normal => obtain ⟨s, hJ, ha, hw⟩ := h; exact h2 s hJ a w ha hw
    | _ => exact h) (h1 a w ha hw)
theorem jx {σ : Type} {F : σ → Sl} {HK : PH} {H : σ → List PH} {J : σ → Prop} (s : σ) (hJ : J s) (hF : Sub l (F s)) (hK : K = HK) (hH : hs = H s) : WQ w0 (JQ w0 F HK H J n Q) .normal n l K hs :=
  fun a w ha hw => ⟨s, hJ, ha.sub hF, by rw [← hK, ← hH]; exact hw⟩
theorem jr {σ : Type} {F : σ → Sl} {HK : PH} {H : σ → List PH} {J : σ → Prop} (h : WQ w0 Q .ret n l K hs) : WQ w0 (JQ w0 F HK H J n Q) .ret n l K hs := h
theorem je {σ : Type} {F : σ → Sl} {HK : PH} {H : σ → List PH} {J : σ → Prop} {i : Nat} (h : WQ w0 Q (.exit i) n l K hs) : WQ w0 (JQ w0 F HK H J n Q) (.exit i) n l K hs := h
end join
end Go.En
