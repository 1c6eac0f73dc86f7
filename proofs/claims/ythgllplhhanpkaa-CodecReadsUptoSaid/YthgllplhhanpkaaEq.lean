/-
  The rules of the engine: other orders of the owned heaps; what is let go; numbers.
-/
import Derived.Test.YthgllplhhanpkaaEp
namespace Go.En
set_option linter.unusedVariables false

theorem Sat.iff {w0 w : World} {K : PH} {hs : List PH} : Sat w0 w K hs ↔ (w.os = w0.os ∧ w.tape = w0.tape ∧ w.output = w0.output ∧ w0.heap.size ≤ w.heap.size ∧ (∀ b o, K b = some o → w.heap[b]? = some o) ∧
    (∀ h ∈ hs, ∀ b o, h b = some o → w.heap[b]? = some o ∧ K b = none)) ∧ hs.Pairwise (fun h h' => ∀ b, h b = none ∨ h' b = none) := by
  constructor
  · intro s
    refine ⟨⟨s.os, s.tape, s.output, s.size, s.imm, fun h hm b o hb => ?_⟩, ?_⟩
    · obtain ⟨i, hi⟩ := List.getElem?_of_mem hm
      exact ⟨s.own i h hi b o hb, s.apart i h hi b o hb⟩
    · rw [List.pairwise_iff_getElem]
      intro i j hi hj hij b
      cases hb : hs[i] b with
      | none => exact .inl rfl
      | some o => exact .inr (s.sep i j _ _ (List.getElem?_eq_getElem hi) (List.getElem?_eq_getElem hj) (by omega) b o hb)
  · rintro ⟨⟨h1, h2, h3, h4, h5, h6⟩, h7⟩
    rw [List.pairwise_iff_getElem] at h7
    refine ⟨h1, h2, h3, h4, h5, fun i h hi b o hb => (h6 h (List.mem_of_getElem? hi) b o hb).1, fun i h hi b o hb => (h6 h (List.mem_of_getElem? hi) b o hb).2, fun i j h h' hi hj hij b o hb => ?_⟩
    obtain ⟨hi1, rfl⟩ := List.getElem?_eq_some_iff.1 hi
    obtain ⟨hj1, rfl⟩ := List.getElem?_eq_some_iff.1 hj
    rcases Nat.lt_or_gt_of_ne hij with hlt | hlt
    · rcases h7 i j hi1 hj1 hlt b with h | h
      · rw [h] at hb; cases hb
      · exact h
    · rcases h7 j i hj1 hi1 hlt b with h | h
      · exact h
      · rw [h] at hb; cases hb
theorem Sat.perm {w0 w : World} {K : PH} {hs hs' : List PH} (p : hs.Perm hs') (s : Sat w0 w K hs) : Sat w0 w K hs' := by
  rw [Sat.iff] at s ⊢
  obtain ⟨⟨h1, h2, h3, h4, h5, h6⟩, h7⟩ := s
  exact ⟨⟨h1, h2, h3, h4, h5, fun h hm => h6 h (p.mem_iff.2 hm)⟩, (p.pairwise_iff (fun {x y} hxy b => (hxy b).symm)).1 h7⟩
theorem perm_front {α : Type} : ∀ (l : List α) (i : Nat) (x : α), l[i]? = some x → l.Perm (x :: l.eraseIdx i)
  | [], i, x, h => by simp at h
  | a :: l, 0, x, h => by simp at h; subst h; simp
  | a :: l, i + 1, x, h => by
    have := perm_front l i x (by simpa using h)
    simp only [List.eraseIdx_cons_succ]
    exact (this.cons a).trans (List.Perm.swap x a _)
theorem perm_set {α : Type} : ∀ (l : List α) (i : Nat) (x y : α), l[i]? = some x → (y :: l.eraseIdx i).Perm (l.set i y)
  | [], i, x, y, h => by simp at h
  | a :: l, 0, x, y, h => by simp
  | a :: l, i + 1, x, y, h => by
    have := perm_set l i x y (by simpa using h)
    simp only [List.eraseIdx_cons_succ, List.set_cons_succ]
    exact (List.Perm.swap a y _).trans (this.cons a)
/-- a contract on the first owned heap, used at the i-th -/
theorem Ct.at {P : Program} {w0 : World} {f : FuncId} {args : List Value} {K : PH} {hs : List PH} {h : PH} {S : Value → PH → PH → Prop} (i : Nat) (hi : hs[i]? = some h)
    (c : Ct P w0 f args K (h :: hs.eraseIdx i) (fun v K' hs' => ∃ h', hs' = h' :: hs.eraseIdx i ∧ S v K' h')) : Ct P w0 f args K hs (fun v K' hs' => ∃ h', hs' = hs.set i h' ∧ S v K' h') := by
  refine ⟨c.1, fun w hw => (c.2 w (hw.perm (perm_front hs i h hi))).mono ?_⟩
  rintro e w' ⟨v, K', hs', rfl, ⟨h', rfl, hS⟩, hw'⟩
  exact ⟨v, K', _, rfl, ⟨h', rfl, hS⟩, hw'.perm (perm_set hs i h h' hi)⟩
/-- the same, where the call has laid new heaps ahead -/
theorem Ct.atN {P : Program} {w0 : World} {f : FuncId} {args : List Value} {K : PH} {hs : List PH} {h : PH} {S : Value → PH → PH → List PH → Prop} (i : Nat) (hi : hs[i]? = some h)
    (c : Ct P w0 f args K (h :: hs.eraseIdx i) (fun v K' hs' => ∃ h' new, hs' = new ++ h' :: hs.eraseIdx i ∧ S v K' h' new)) : Ct P w0 f args K hs (fun v K' hs' => ∃ h' new, hs' = new ++ hs.set i h' ∧ S v K' h' new) := by
  refine ⟨c.1, fun w hw => (c.2 w (hw.perm (perm_front hs i h hi))).mono ?_⟩
  rintro e w' ⟨v, K', hs', rfl, ⟨h', new, rfl, hS⟩, hw'⟩
  exact ⟨v, K', _, rfl, ⟨h', new, rfl, hS⟩, hw'.perm ((perm_set hs i h h' hi).append_left new)⟩
section drop
variable {P : Program} {w0 : World} {ops : Array Oper} {Q : Exit → Act → World → Prop} {rest : List Oper} {n : Nat} {l : Sl} {K h : PH} {hs : List PH} {c : Code} {e : Exit}
theorem WL.drop (hk : WL P w0 ops Q rest n l K hs) : WL P w0 ops Q rest n l K (h :: hs) := fun a w ha hw => hk a w ha hw.dropHead
theorem WC.drop (hk : WC P w0 c Q n l K hs) : WC P w0 c Q n l K (h :: hs) := fun a w ha hw => hk a w ha hw.dropHead
theorem WQ.drop (hk : WQ w0 Q e n l K hs) : WQ w0 Q e n l K (h :: hs) := fun a w ha hw => hk a w ha hw.dropHead
theorem WL.em (hk : WL P w0 ops Q rest n l K (En.em :: hs)) : WL P w0 ops Q rest n l K hs := fun a w ha hw => hk a w ha hw.addEm
theorem WC.em (hk : WC P w0 c Q n l K (En.em :: hs)) : WC P w0 c Q n l K hs := fun a w ha hw => hk a w ha hw.addEm
theorem WQ.em (hk : WQ w0 Q e n l K (En.em :: hs)) : WQ w0 Q e n l K hs := fun a w ha hw => hk a w ha hw.addEm
theorem WL.perm {hs' : List PH} (p : hs.Perm hs') (hk : WL P w0 ops Q rest n l K hs') : WL P w0 ops Q rest n l K hs := fun a w ha hw => hk a w ha (hw.perm p)
theorem WC.perm {hs' : List PH} (p : hs.Perm hs') (hk : WC P w0 c Q n l K hs') : WC P w0 c Q n l K hs := fun a w ha hw => hk a w ha (hw.perm p)
theorem WQ.perm {hs' : List PH} (p : hs.Perm hs') (hk : WQ w0 Q e n l K hs') : WQ w0 Q e n l K hs := fun a w ha hw => hk a w ha (hw.perm p)
end drop

theorem In.cons {K h x : PH} {hs : List PH} (hm : In K hs h) : In K (x :: hs) h := by
  rcases hm with h1 | ⟨i, h1⟩
  · exact .inl h1
  · exact .inr ⟨i + 1, by simpa using h1⟩
/-! Numbers in another form. -/
theorem i64w {x : Int} (h : -9223372036854775808 ≤ x ∧ x ≤ 9223372036854775807) : Value.int .i64 (IntKind.i64.wrap x) = .int .i64 x := by rw [IntWalk.i64_in _ h]
theorem u64w {x : Int} (h : 0 ≤ x ∧ x ≤ 18446744073709551615) : Value.int .u64 (IntKind.u64.wrap x) = .int .u64 x := by rw [IntWalk.u64_in _ h]
theorem u32w {x : Int} (h : 0 ≤ x ∧ x ≤ 4294967295) : Value.int .u32 (IntKind.u32.wrap x) = .int .u32 x := by rw [IntWalk.u32_in _ h]
theorem u8w {x : Int} (h : 0 ≤ x ∧ x ≤ 255) : Value.int .u8 (IntKind.u8.wrap x) = .int .u8 x := by rw [IntWalk.u8_in _ h]
theorem u8m (n : Nat) : Value.int .u8 (IntKind.u8.wrap (n : Int)) = .int .u8 ((n % 256 : Nat) : Int) := by
  simp [IntKind.wrap, IntKind.bits, IntKind.signed]
theorem u32m (n : Nat) : Value.int .u32 (IntKind.u32.wrap (n : Int)) = .int .u32 ((n % 4294967296 : Nat) : Int) := by
  simp [IntKind.wrap, IntKind.bits, IntKind.signed]
theorem u64m (n : Nat) : Value.int .u64 (IntKind.u64.wrap (n : Int)) = .int .u64 ((n % 18446744073709551616 : Nat) : Int) := by
  simp [IntKind.wrap, IntKind.bits, IntKind.signed]
end Go.En
