/-
  Bytes turned into texts, in plain regions and in those whose order is open; results that lie in cells.
-/
import Derived.Test.YthgllplhhanpkaaEr
import Derived.Laws.BytesArg
namespace Go.En
set_option linter.unusedVariables false

def str (xs : List UInt8) : Value := .string ⟨xs.toArray⟩
theorem str_toList (xs : List UInt8) : (⟨xs.toArray⟩ : ByteArray).toList = xs := by rw [ByteArray.toList_eq]
theorem str_eq (xs ys : List UInt8) : Value.bool ((⟨xs.toArray⟩ : ByteArray).toList == (⟨ys.toArray⟩ : ByteArray).toList) = .bool (decide (xs = ys)) := by
  rw [str_toList, str_toList]
  by_cases h : xs = ys <;> simp [h]
def isStr (P : Program) (t t' : Nat) : Bool := (match P.underlying t with | some (.slice e) => (match P.underlying e with | some (.int .u8) => true | _ => false) | _ => false) && (match P.underlying t' with | some .string => true | _ => false)
theorem run_toStr {P : Program} {w : World} {t t' n c : Nat} {ao : Option Addr} (hs : isStr P t t' = true) (xs : List UInt8) (hl : xs.length = n)
    (hx : ∀ (j : Nat) u, ((xs.map fun b => Value.int .u8 ((b.toNat : Nat) : Int)))[j]? = some u → ∃ a, ao = some a ∧ w.cell? (a.add j) = some u) : (convert t t' (.slice ao n c)).run P w = .ok (str xs) w := by
  unfold isStr at hs
  simp only [Bool.and_eq_true] at hs
  obtain ⟨h1, h2⟩ := hs
  cases e1 : P.underlying t with
  | none => simp [e1] at h1
  | some d1 =>
    cases d1 <;> simp [e1] at h1
    rename_i e
    cases e2 : P.underlying e with
    | none => simp [e2] at h1
    | some d2 =>
      cases d2 <;> simp [e2] at h1
      rename_i kd
      cases kd <;> simp at h1
      cases e3 : P.underlying t' with
      | none => simp [e3] at h2
      | some d3 =>
        cases d3 <;> simp [e3] at h2
        rw [run_convert_bytes_string w t t' e _ n c e1 e2 e3]
        cases ao with
        | none =>
          have : xs = [] := by
            cases xs with
            | nil => rfl
            | cons x r => obtain ⟨a, h, _⟩ := hx 0 _ rfl; cases h
          subst this
          simp [Conv.bytesToString, str]
          rfl
        | some a =>
          have hld : (loadCells a n).run P w = .ok ((xs.map fun b => ((b.toNat : Nat) : Int)).map (Value.int .u8)).toArray w := by
            have := run_loadCells_list (P := P) w a (xs.map fun b => Value.int .u8 ((b.toNat : Nat) : Int)) (fun j v hj => by
              obtain ⟨a', h, h'⟩ := hx j v hj
              cases h; exact h')
            simpa [hl, Function.comp_def] using this
          rw [run_bytesToString w a n c _ hld, foldl_push_bytes]
          simp [str, ByteArray.empty, ByteArray.emptyWithCapacity, Function.comp_def]
          try rfl
section rules
variable {P : Program} {T : Tab} {w0 : World} {ops : Array Oper} {Q : Exit → Act → World → Prop} {rest rest' : List Oper} {n : Nat} {l l' : Sl} {K : PH} {hs : List PH}
def csAt (T : Tab) (ops : Array Oper) (n k : Nat) (rest : List Oper) (l : Sl) : Option (Nat × Nat × Nat × (Option Addr × Nat × Nat) × List Oper × Sl) :=
  match opAt T ops n k rest l with
  | some (o, r, l') => match o.dst, o.op with
    | some d, .convert t t' x => match Nat.blt d n, ev l' x with
      | true, some (.slice ao m c) => some (d, t, t', (ao, m, c), r, l')
      | _, _ => none
    | _, _ => none
  | none => none
theorem cvs (hT : TabOK P T) (k : Nat) {d t t' m c : Nat} {ao : Option Addr} {h : PH} (xs : List UInt8) (h0 : csAt T ops n k rest l = some (d, t, t', (ao, m, c), rest', l')) (hin : In K hs h)
    (x : IsS h ao m c 1 (xs.map fun b => Value.int .u8 ((b.toNat : Nat) : Int))) (hs' : isStr P t t' = true)
    (hk : WL P w0 ops Q rest' n ((d, str xs) :: l') K hs) : WL P w0 ops Q rest n l K hs := by
  unfold csAt at h0
  split at h0
  · rename_i o r l2 ho
    split at h0
    · rename_i d' t1 t2 y hd hop
      split at h0
      · rename_i ao' m' c' hb hx
        simp only [Option.some.injEq, Prod.mk.injEq] at h0
        obtain ⟨rfl, rfl, rfl, ⟨rfl, rfl, rfl⟩, rfl, rfl⟩ := h0
        refine WL.at' hT ho fun hg => WL.val (R := fun u K' hs' => u = str xs ∧ K' = K ∧ hs' = hs) hd hb hg (fun A w ha hw => ⟨str xs, w, K, hs, ?_, hw, rfl, rfl, rfl⟩) ?_
        · have h2 := run_toStr (P := P) (w := w) (c := c') hs' xs (by have := x.1; simpa using this) (fun j u hj => by
            obtain ⟨a, h3, h4⟩ := x.2.2 j u hj
            exact ⟨a, h3, hw.cell hin h4⟩)
          simp only [execOp, hop, ha.ev hx]
          simp [h2]
        · rintro u K' hs' ⟨rfl, rfl, rfl⟩
          exact hk
      · simp at h0
    · simp at h0
  · simp at h0
/-- a whole struct, out of a block and into one -/
theorem ldS (hT : TabOK P T) (k i : Nat) {d t b ty : Nat} {c : Array Value} {fr : Nat × Nat} (h0 : lsAt T ops n k rest l = some (d, t, ⟨b, 0, none⟩, rest', l')) (hi : hs[i]? = some (pt b c ty fr)) (hm : aggOK P t c.size = true)
    (hk : WL P w0 ops Q rest' n ((d, .agg c) :: l') K hs) : WL P w0 ops Q rest n l K hs :=
  lds hT k c.toList h0 (by simpa using hm) (.inr ⟨i, hi⟩) (cells_pt _ fun j v h => by simpa using h) (by simpa using hk)
theorem stS (hT : TabOK P T) (k i : Nat) {t b ty : Nat} {c cs : Array Value} (h0 : ssAt T ops n k rest l = some (t, ⟨b, 0, none⟩, cs, rest', l')) (hi : hs[i]? = some (pt b c ty)) (hsz : (P.info? t).map (·.size) = some cs.size)
    (hf : cs.size = c.size) (h1 : cs.toList.all (·.oneCell') = true) (hk : WL P w0 ops Q rest' n l' K (hs.set i (pt b cs ty))) : WL P w0 ops Q rest n l K hs := by
  refine sts hT k i h0 hi hsz (by omega) (fun v hv => (List.all_eq_true.1 h1) v hv) ?_
  have e : (c.toList.take 0 ++ cs.toList ++ c.toList.drop (0 + cs.toList.length)).toArray = cs := by
    rw [List.take_zero, List.nil_append, List.drop_of_length_le (by simp [hf]), List.append_nil]
  rw [e]
  exact hk
end rules
section open_
variable {P : Program} {T : Tab} {w0 : World} {ops : Array Oper} {Q : Exit → Act → World → Prop} {plan plan' : List Nat} {z : Nat} {listed listed' : Array Bool} {n : Nat} {l l' : Sl} {K K0 : PH} {hs A : List PH}
def dcsAt (T : Tab) (ops : Array Oper) (n z k : Nat) (plan : List Nat) (L : Array Bool) (l : Sl) : Option (Nat × Nat × Nat × (Option Addr × Nat × Nat) × List Nat × Array Bool × Sl) :=
  match headAt T ops n z k plan L l with
  | some (p, o, r, L', l') => match Nat.beq (p % 2) 0, Nat.beq (p / 2) z, cond (Nat.blt z ops.size) (Region.waitsFor .any ops z (p / 2)) true, gOK ops l' o.guard, o.dst, o.op with
    | true, false, true, some true, some d, .convert t t' x => match Nat.blt d n, ev l' x with
      | true, some (.slice ao m c) => some (d, t, t', (ao, m, c), r, L'.setIfInBounds (p / 2) true, l')
      | _, _ => none
    | _, _, _, _, _, _ => none
  | none => none
theorem dcvs (hT : TabOK P T) (hsel : Region.noSelect ops = true) (k : Nat) {d t t' m c : Nat} {ao : Option Addr} {h : PH} (xs : List UInt8) (h0 : dcsAt T ops n z k plan listed l = some (d, t, t', (ao, m, c), plan', listed', l')) (hm : In K0 A h)
    (x : IsS h ao m c 1 (xs.map fun b => Value.int .u8 ((b.toNat : Nat) : Int))) (hs' : isStr P t t' = true)
    (hk : WA P w0 ops Q K0 A z plan' listed' n ((d, str xs) :: l') K hs) : WA P w0 ops Q K0 A z plan listed n l K hs := by
  unfold dcsAt at h0
  split at h0
  · rename_i p o r L' l2 hh
    split at h0
    · rename_i dd t1 t2 y hp hz hwf hg hd hop
      split at h0
      · rename_i ao' m' c' hb hx
        simp only [Option.some.injEq, Prod.mk.injEq] at h0
        obtain ⟨rfl, rfl, rfl, ⟨rfl, rfl, rfl⟩, rfl, rfl, rfl⟩ := h0
        obtain ⟨g1, g2⟩ := headAt_spec hh
        refine WA.pures hT hsel k g1 ?_
        have hp2 : p = 2 * (p / 2) := by have := Nat.eq_of_beq_eq_true hp; omega
        rw [hp2]
        refine WA.look g2 hsel hz hd hb (fun A' ha => .inl ⟨gOK_wanted ha hg, fun w hw => ?_⟩) hk
        obtain ⟨L, hcl, hun, hst⟩ := hw
        have h2 := run_toStr (P := P) (w := w) (c := c') hs' xs (by have := x.1; simpa using this) (fun j u hj => by
          obtain ⟨a, h3, h4⟩ := x.2.2 j u hj
          exact ⟨a, h3, (hst (closed_waits hcl hun hwf)).cell hm h4⟩)
        simp only [execOp, hop, ha.ev hx]
        simp [h2]
      · simp at h0
    · simp at h0
  · simp at h0
/-- the list of what may be looked at can grow -/
theorem tr_S {md : Region.Mode} {q : Act → World → Prop} {S S' : Array Bool → World → Prop} (h : ∀ L w, S' L w → S L w) : ∀ (f : Nat) (L : Array Bool) (a : Act) (w : World), tr P md ops q S' f L a w → tr P md ops q S f L a w
  | 0, _, _, _, hh => hh
  | f + 1, _, _, _, hh => ⟨hh.1, fun i hi => wpOp_mono (fun a' w' h' => ⟨h _ _ h'.1, tr_S h f _ a' w' h'.2⟩) (hh.2 i hi)⟩
theorem HasL.ofMem {w0 w : World} {K : PH} {hs A : List PH} (s : Sat w0 w K hs) (hA : ∀ h ∈ A, h ∈ hs) : HasL K A w :=
  ⟨s.imm, fun h hm b o hb => s.block (.inr (List.getElem?_of_mem (hA h hm))) hb⟩
theorem dnex {L : Array Bool} (A' : List PH) (hA : ∀ h ∈ A', h ∈ hs) (hAA : ∀ h ∈ A, h ∈ A') (hK : K0 = K) (hk : WA P w0 ops Q K A' z plan L n l K hs) :
    WL P w0 ops (fun e a w => planOK .any ops plan L = true → Closed .any ops L → aft P w0 ops Q K0 A z plan L e a w) [] n l K hs := by
  subst hK
  intro a w ha hw
  refine wpList_nil fun hp hc => ?_
  have up : ∀ L w, still z (HasL K0 A') L w → still z (HasL K0 A) L w := fun L w h hz => ⟨(h hz).1, fun x hx => (h hz).2 x (hAA x hx)⟩
  have hst : still z (HasL K0 A') L w := fun _ => HasL.ofMem hw hA
  exact ⟨up _ _ hst, tr_S up _ _ _ _ (hk hp hc a w ha hw hst)⟩
theorem rga {id : Nat} {o : List Oper} (A : List PH) (z : Nat) (plan : List Nat) (hA : ∀ h ∈ A, h ∈ hs) (hm : P.follows .mixedOrders = true) (hp : (planOK .any o.toArray plan (Array.replicate o.toArray.size false) && Nat.beq plan.length o.toArray.size) = true)
    (h : WA P w0 o.toArray Q K A z plan (Array.replicate o.toArray.size false) n l K hs) : WC P w0 (.region id o.toArray true) Q n l K hs := by
  intro a w ha hw
  simp only [Bool.and_eq_true] at hp
  refine wp_region_any hm ?_
  have hlen : plan.length = o.toArray.size := Nat.eq_of_beq_eq_true hp.2
  have hw' : Sat w0 { w with drawn := w.drawn + 1 } K hs := hw.drew
  have hc : Closed .any o.toArray (Array.replicate o.toArray.size false) := by
    refine ⟨by simp, ?_⟩
    intro j oj hj hl
    have : (Array.replicate o.toArray.size false).getD j false = false := getD_replicate_false _ _
    rw [this] at hl
    cases hl
  have hh := h hp.1 hc a { w with drawn := w.drawn + 1 } ha hw' (fun _ => HasL.ofMem hw' hA)
  rw [hlen] at hh
  refine tr_any (q := Q .normal) (fun e a w h => ?_) _ _ _ _ hh
  cases e <;> first | exact h | exact h.elim
end open_
section ret
variable {P : Program} {w0 : World} {fn : Func} {R : Value → PH → List PH → Prop} {n : Nat} {l : Sl} {K : PH} {hs : List PH}
theorem run_loadVarS {w : World} {t m : Nat} {a : Addr} {cs : List Value} (hm : aggOK P t m = true) (hl : cs.length = m) (hc : ∀ (j : Nat) v, cs[j]? = some v → w.cell? (a.add j) = some v) : (loadVar t a).run P w = .ok (.agg cs.toArray) w := by
  have := run_loadS (P := P) hm hl hc
  simpa [Instr.loadAt, Instr.sureAddr] using this
theorem retc2 {t ty u : Nat} {a : Addr} {x : Value} {h : PH} (cs : List Value) (hr : fn.results = #[.cell t ty, .tmp u]) (hv : look l t = some (.pointer (some a))) (hx : look l u = some x) (hm : aggOK P ty cs.length = true) (hin : In K hs h) (hc : ∀ (j : Nat) v, cs[j]? = some v → Cell h (a.add j) v)
    (hk : R (.tuple #[.agg cs.toArray, x]) K hs) : WQ w0 (bodyPost P fn (endR w0 R)) .ret n l K hs :=
  fun _ w ha hw => bodyPost_ret (v := .tuple #[.agg cs.toArray, x]) (by
    have h2 := run_loadVarS (P := P) (w := w) hm rfl (fun j v hv => hw.cell hin (hc j v hv))
    simp [results, hr, ha.slot t _ hv, ha.slot u x hx, asAddr, h2]) ha.defers ⟨_, _, _, rfl, hk, hw⟩
theorem Sat.dropN {w w0 : World} : ∀ (m : Nat) {hs : List PH}, Sat w0 w K hs → Sat w0 w K (hs.drop m)
  | 0, _, s => s
  | _ + 1, [], s => s
  | m + 1, _ :: r, s => Sat.dropN m s.dropHead
/-- a struct in a block and a value are handed back; the first m heaps are let go -/
theorem retcP (i m : Nat) {t ty u b ty' : Nat} {x : Value} {c : Array Value} {fr : Nat × Nat} (hr : fn.results = #[.cell t ty, .tmp u]) (hv : look l t = some (.pointer (some ⟨b, 0, none⟩))) (hx : look l u = some x) (hi : hs[i]? = some (pt b c ty' fr)) (hm : aggOK P ty c.size = true)
    (hk : R (.tuple #[.agg c, x]) K (hs.drop m)) : WQ w0 (bodyPost P fn (endR w0 R)) .ret n l K hs :=
  fun _ w ha hw => bodyPost_ret (v := .tuple #[.agg c, x]) (by
    have h2 := run_loadVarS (P := P) (w := w) (t := ty) (a := ⟨b, 0, none⟩) (cs := c.toList) (by simpa using hm) rfl (fun j v hv => hw.cell (.inr ⟨i, hi⟩) (cells_pt c.toList (fun j v h => by simpa using h) j v hv))
    have e : c.toList.toArray = c := by simp
    rw [e] at h2
    simp [results, hr, ha.slot t _ hv, ha.slot u x hx, asAddr, h2]) ha.defers ⟨_, _, _, rfl, hk, hw.dropN m⟩
end ret
end Go.En
