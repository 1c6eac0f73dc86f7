/-
  Arguments of any plain type, opened: what reads as data stands for a Lean value.
-/
import Derived.Test.YthpiokdibknpaaaZc
import Derived.Deep.Slices
import Derived.Deep.Strs
namespace Go.Proofs.Ythpiokdibknpaaa
open Go.En Go.ChangeShapes Go.WideShapes Go.ChangeAt Go.RowKit Go.Deep
set_option linter.unusedVariables false

section opens
variable {H : Type} {enc : TypeId × Value → H} {P : Program} {W : World} {α β γ : Type}
def Opens (enc : TypeId × Value → H) (P : Program) (W : World) (t : TypeId) (sz : Nat) (R : List Value → α → Prop) (m : α → Nat) : Prop :=
  P.cellsOf t = sz ∧ ∀ fuel cs (x : DataW H × List MemPlace), DataW.trod enc P W 0 (fun _ => true) true fuel t cs = some x → ∃ v, R cs v ∧ m v ≤ Rows.uptoBulk x.1 ∧ cs.length = sz
/-- an integer -/
def RI (k : IntKind) (cs : List Value) (n : Int) : Prop := cs = [.int k n] ∧ (Lit.int k n).wf = true
theorem Opens.int {t : TypeId} {k : IntKind} (ht : P.underlying t = some (.int k)) (hc : P.cellsOf t = 1) : Opens enc P W t 1 (RI k) (fun _ => 1) := by
  refine ⟨hc, fun fuel cs x h => ?_⟩
  obtain ⟨n, rfl, rfl, hw⟩ := DataW.trod_int ht h
  exact ⟨n, ⟨rfl, hw⟩, by simp [Rows.uptoBulk], rfl⟩
def RB (cs : List Value) (b : Bool) : Prop := cs = [.bool b]
theorem Opens.bool {t : TypeId} (ht : P.underlying t = some .bool) (hc : P.cellsOf t = 1) : Opens enc P W t 1 RB (fun _ => 1) := by
  refine ⟨hc, fun fuel cs x h => ?_⟩
  obtain ⟨n, rfl, rfl⟩ := DataW.trod_bool ht h
  exact ⟨n, rfl, by simp [Rows.uptoBulk], rfl⟩
def RS (cs : List Value) (s : List UInt8) : Prop := cs = [str s]
theorem Opens.str {t : TypeId} (ht : P.underlying t = some .string) (hc : P.cellsOf t = 1) : Opens enc P W t 1 RS (fun s => s.length + 1) := by
  refine ⟨hc, fun fuel cs x h => ?_⟩
  obtain ⟨s, rfl, rfl, hw⟩ := DataW.trod_string ht h
  exact ⟨s.data.toList, by simp [RS, En.str], by simp [Rows.uptoBulk], rfl⟩
def All2 (R : List Value → α → Prop) : List (List Value) → List α → Prop
  | [], [] => True
  | c :: cs, x :: xs => R c x ∧ All2 R cs xs
  | _, _ => False
theorem All2.snoc {R : List Value → α → Prop} {c : List Value} {x : α} (h : R c x) : ∀ {cs : List (List Value)} {xs : List α}, All2 R cs xs → All2 R (cs ++ [c]) (xs ++ [x])
  | [], [], _ => ⟨h, trivial⟩
  | _ :: _, _ :: _, g => ⟨g.1, All2.snoc h g.2⟩
  | [], _ :: _, g => g.elim
  | _ :: _, [], g => g.elim
/-- a slice of whatever opens -/
def RSl (W : World) (sz : Nat) (R : List Value → α → Prop) (cs : List Value) (xs : List α) : Prop :=
  ∃ ao cap, ∃ css : List (List Value), cs = [.slice ao xs.length cap] ∧ IsS (hp W) ao xs.length cap sz css.flatten ∧ All2 R css xs
theorem sum_snoc (m : α → Nat) (v : α) (sumM : List α → Nat) (h0 : sumM [] = 0) (h1 : ∀ x r, sumM (x :: r) = m x + sumM r) : ∀ xs, sumM (xs ++ [v]) = sumM xs + m v
  | [] => by simp [h0, h1]
  | x :: r => by rw [List.cons_append, h1, h1, sum_snoc m v sumM h0 h1 r]; omega
def sumM (m : α → Nat) : List α → Nat
  | [] => 0
  | x :: r => m x + sumM m r
theorem cell_of {W : World} {a : Addr} {v : Value} (h : W.cell? a = some v) : Cell (hp W) a v := by
  unfold World.cell? at h
  split at h
  · rename_i c ty fr hb
    split at h
    · cases h
    · rename_i hs
      exact ⟨by cases hh : a.spot <;> simp [hh] at hs ⊢, c, ty, fr, hb, h⟩
  · cases h
theorem cells_of {W : World} {base : Nat} {a : Addr} {n : Nat} {cs : List Value} (h : W.cells? base a n = some cs) : cs.length = n ∧ ∀ (j : Nat) u, cs[j]? = some u → W.cell? (a.add j) = some u := by
  unfold World.cells? at h
  split at h
  · refine ⟨by simpa using mapM_some_length h, fun j u hu => ?_⟩
    have hj : j < cs.length := (List.getElem?_eq_some_iff.1 hu).1
    have hl := mapM_some_length h
    have hj' : j < n := by simp at hl; omega
    have := mapM_some_get h j j (by simp [hj'])
    rw [this, hu]
  · cases h
theorem Opens.slice {t e : TypeId} {sz : Nat} {R : List Value → α → Prop} {m : α → Nat} (ht : P.underlying t = some (.slice e)) (hc : P.cellsOf t = 1) (o : Opens enc P W e sz R m) : Opens enc P W t 1 (RSl W sz R) (fun xs => sumM m xs + 1) := by
  refine ⟨hc, fun fuel cs x h => ?_⟩
  rcases open_slice ht h with ⟨rfl, rfl⟩ | ⟨a, len, cap, m', n, D, Pl, rfl, _, hlc, hcm, hm', rfl, hall⟩
  · exact ⟨[], ⟨none, 0, [], rfl, IsS.nil _ _ _ _, trivial⟩, by simp [sumM, Rows.uptoBulk], rfl⟩
  · simp only [if_true] at hm'
    subst hm'
    have hall' : ∀ i, i < len → ∃ (cs' : List Value) (v : α), (∀ (j : Nat) u, cs'[j]? = some u → W.cell? ((a.add (i * sz)).add j) = some u) ∧ cs'.length = sz ∧ R cs' v ∧ m v ≤ Rows.uptoBulk (D i) := fun i hi => by
      obtain ⟨cs', h1, h2⟩ := hall i (by omega)
      rw [o.1] at h1
      obtain ⟨h3, h4⟩ := cells_of h1
      obtain ⟨v, h5, h6, _⟩ := o.2 _ _ _ h2
      exact ⟨cs', v, h4, h3, h5, h6⟩
    have build : ∀ k, k ≤ len → ∃ (css : List (List Value)) (xs : List α), css.length = k ∧ xs.length = k ∧ All2 R css xs ∧ css.flatten.length = k * sz ∧ (∀ (j : Nat) u, css.flatten[j]? = some u → W.cell? (a.add j) = some u) ∧ sumM m xs ≤ Rows.uptoBulkAll ((List.range k).map D) := by
      intro k
      induction k with
      | zero => intro _; exact ⟨[], [], rfl, rfl, trivial, by simp, by simp, by simp [sumM]⟩
      | succ k ih =>
        intro hk
        obtain ⟨css, xs, h1, h2, h3, h4, h5, h6⟩ := ih (by omega)
        obtain ⟨cs', v, g1, g2, g3, g4⟩ := hall' k (by omega)
        have hfl : (css ++ [cs']).flatten = css.flatten ++ cs' := by simp
        refine ⟨css ++ [cs'], xs ++ [v], by simp [h1], by simp [h2], h3.snoc g3, ?_, ?_, ?_⟩
        · rw [hfl, List.length_append, h4, g2, Nat.add_mul]; omega
        · intro j u hu
          rw [hfl] at hu
          rcases Nat.lt_or_ge j (k * sz) with hj | hj
          · rw [List.getElem?_append_left (by omega)] at hu
            exact h5 j u hu
          · rw [List.getElem?_append_right (by omega), h4] at hu
            have := g1 _ u hu
            rw [add_add] at this
            rwa [show k * sz + (j - k * sz) = j from by omega] at this
        · rw [sum_snoc m v (sumM m) rfl (fun _ _ => rfl), List.range_succ, List.map_append]
          have e : ∀ l r : List (DataW H), Rows.uptoBulkAll (l ++ r) = Rows.uptoBulkAll l + Rows.uptoBulkAll r := fun l r => by
            induction l with
            | nil => simp [Rows.uptoBulkAll]
            | cons x l ih => simp only [List.cons_append, Rows.uptoBulkAll, ih]; omega
          rw [e]
          simp only [List.map_cons, List.map_nil, Rows.uptoBulkAll]
          omega
    obtain ⟨css, xs, h1, h2, h3, h4, h5, h6⟩ := build len (Nat.le_refl _)
    refine ⟨xs, ⟨some a, m', css, by rw [h2], ⟨by rw [h4, h2], by omega, fun j u hu => ⟨a, rfl, cell_of (h5 j u hu)⟩⟩, h3⟩, ?_, rfl⟩
    simp only [Rows.uptoBulk]
    omega
/-- fields, one behind the other -/
def OpensF (enc : TypeId × Value → H) (P : Program) (W : World) (off : Nat) (fs : List Field) (sz : Nat) (R : List Value → α → Prop) (m : α → Nat) : Prop :=
  ∀ (n : Nat) (cs : List Value) (xs : List (DataW H × List MemPlace)), cs.length = off + sz → xs.length = fs.length →
    (∀ (i : Nat) (f : Field), fs[i]? = some f → DataW.trod enc P W 0 (fun _ => true) true n f.type ((cs.drop f.offset).take (P.cellsOf f.type)) = xs[i]?) → ∃ v, R (cs.drop off) v ∧ m v ≤ Rows.uptoBulkAll (xs.map (·.1))
def R0 (cs : List Value) (_ : Unit) : Prop := cs = []
theorem OpensF.nil {off : Nat} : OpensF enc P W off [] 0 R0 (fun _ => 0) := fun n cs xs h1 h2 h3 => ⟨(), List.drop_of_length_le (by omega), Nat.zero_le _⟩
def RP (R1 : List Value → α → Prop) (R2 : List Value → β → Prop) (cs : List Value) (x : α × β) : Prop := ∃ c1 c2, cs = c1 ++ c2 ∧ R1 c1 x.1 ∧ R2 c2 x.2
theorem OpensF.cons {off sz1 sz2 : Nat} {f : Field} {fs : List Field} {R1 : List Value → α → Prop} {R2 : List Value → β → Prop} {m1 : α → Nat} {m2 : β → Nat} (hf : f.offset = off) (o1 : Opens enc P W f.type sz1 R1 m1) (o2 : OpensF enc P W (off + sz1) fs sz2 R2 m2) :
    OpensF enc P W off (f :: fs) (sz1 + sz2) (RP R1 R2) (fun x => m1 x.1 + m2 x.2) := by
  intro n cs xs h1 h2 h3
  cases xs with
  | nil => simp at h2
  | cons x xs =>
    have h4 := h3 0 f rfl
    rw [hf, o1.1] at h4
    obtain ⟨v, g1, g2, g3⟩ := o1.2 _ _ _ h4
    obtain ⟨u, k1, k2⟩ := o2 n cs xs (by omega) (by simpa using h2) (fun i f' hi => h3 (i + 1) f' (by simpa using hi))
    refine ⟨(v, u), ⟨_, _, (List.take_append_drop sz1 (cs.drop off)).symm, g1, ?_⟩, ?_⟩
    · rw [List.drop_drop]; exact k1
    · simp only [List.map_cons, Rows.uptoBulkAll]; omega
theorem Opens.struct {t : TypeId} {sz : Nat} {fs : Array Field} {R : List Value → α → Prop} {m : α → Nat} (ht : P.underlying t = some (.struct fs)) (hc : P.cellsOf t = sz) (o : OpensF enc P W 0 fs.toList sz R m) : Opens enc P W t sz R (fun x => m x + 1) := by
  refine ⟨hc, fun fuel cs x h => ?_⟩
  obtain ⟨xs, n, _, rfl, hl, hlen, hf⟩ := DataW.trod_struct ht h
  obtain ⟨v, h1, h2⟩ := o n cs xs (by omega) (by simpa using hlen) (fun i f hi => hf i f (by simpa using hi))
  exact ⟨v, by simpa using h1, by simp only [Rows.uptoBulk]; omega, by omega⟩
/-- an argument, opened -/
theorem Opens.arg {t : TypeId} {sz : Nat} {R : List Value → α → Prop} {m : α → Nat} (o : Opens enc P W t sz R m) {v : Value} {d : DataW H} {ps : List MemPlace} (h : DataW.Trod enc P W 0 (fun _ => true) true t v d ps) : ∃ x, R v.cells.toList x ∧ m x ≤ Rows.uptoBulk d := by
  obtain ⟨fuel, hf⟩ := h
  obtain ⟨x, h1, h2, _⟩ := o.2 _ _ _ hf
  exact ⟨x, h1, h2⟩
end opens
end Go.Proofs.Ythpiokdibknpaaa
