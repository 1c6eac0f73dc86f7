/-
  Slices whose elements have several cells: what is known of each.
-/
import Derived.Test.YtlnhbilpkcfdlaaDoorEc
set_option linter.unusedSimpArgs false
set_option linter.unusedVariables false
namespace Go.En
set_option linter.unusedVariables false
set_option linter.unusedSectionVars false
def Al2 {α : Type} (R : List Value → α → Prop) : List (List Value) → List α → Prop
  | [], [] => True
  | c :: cs, x :: xs => R c x ∧ Al2 R cs xs
  | _, _ => False
section al
variable {α : Type} {R R' : List Value → α → Prop}
theorem Al2.imp (h : ∀ c x, R c x → R' c x) : ∀ {cs : List (List Value)} {xs : List α}, Al2 R cs xs → Al2 R' cs xs
  | [], [], _ => trivial
  | _ :: _, _ :: _, g => ⟨h _ _ g.1, Al2.imp h g.2⟩
  | [], _ :: _, g => g.elim
  | _ :: _, [], g => g.elim
theorem Al2.len : ∀ {cs : List (List Value)} {xs : List α}, Al2 R cs xs → cs.length = xs.length
  | [], [], _ => rfl
  | _ :: _, _ :: _, g => by simp [Al2.len g.2]
  | [], _ :: _, g => g.elim
  | _ :: _, [], g => g.elim
theorem Al2.get : ∀ {cs : List (List Value)} {xs : List α} {i : Nat} {x : α}, Al2 R cs xs → xs[i]? = some x → ∃ c, cs[i]? = some c ∧ R c x
  | [], [], i, x, _, h => by simp at h
  | c :: cs, y :: xs, 0, x, g, h => by simp at h; subst h; exact ⟨c, by simp, g.1⟩
  | c :: cs, y :: xs, i + 1, x, g, h => by
    obtain ⟨d, h1, h2⟩ := Al2.get (i := i) g.2 (by simpa using h)
    exact ⟨d, by simpa using h1, h2⟩
  | [], _ :: _, _, _, g, _ => g.elim
  | _ :: _, [], _, _, g, _ => g.elim
theorem Al2.append : ∀ {cs ds : List (List Value)} {xs ys : List α}, Al2 R cs xs → Al2 R ds ys → Al2 R (cs ++ ds) (xs ++ ys)
  | [], _, [], _, _, h => h
  | _ :: _, _, _ :: _, _, g, h => ⟨g.1, Al2.append g.2 h⟩
  | [], _, _ :: _, _, g, _ => g.elim
  | _ :: _, _, [], _, g, _ => g.elim
theorem Al2.drop : ∀ (k : Nat) {cs : List (List Value)} {xs : List α}, Al2 R cs xs → Al2 R (cs.drop k) (xs.drop k)
  | 0, _, _, h => h
  | k + 1, [], [], _ => trivial
  | k + 1, _ :: _, _ :: _, g => Al2.drop k g.2
  | k + 1, [], _ :: _, g => g.elim
  | k + 1, _ :: _, [], g => g.elim
theorem Al2.take : ∀ (k : Nat) {cs : List (List Value)} {xs : List α}, Al2 R cs xs → Al2 R (cs.take k) (xs.take k)
  | 0, _, _, _ => trivial
  | k + 1, [], [], _ => trivial
  | k + 1, _ :: _, _ :: _, g => ⟨g.1, Al2.take k g.2⟩
  | k + 1, [], _ :: _, g => g.elim
  | k + 1, _ :: _, [], g => g.elim
theorem Al2.set {c : List Value} {y : α} (hc : R c y) : ∀ (k : Nat) {cs : List (List Value)} {xs : List α}, Al2 R cs xs → Al2 R (cs.set k c) (xs.set k y)
  | _, [], [], _ => trivial
  | 0, _ :: _, _ :: _, g => ⟨hc, g.2⟩
  | k + 1, _ :: _, _ :: _, g => ⟨g.1, Al2.set hc k g.2⟩
  | _, [], _ :: _, g => g.elim
  | _, _ :: _, [], g => g.elim
theorem flat_get {size : Nat} : ∀ {cs : List (List Value)} {i : Nat} {c : List Value}, (∀ d ∈ cs, d.length = size) → cs[i]? = some c → ∀ (j : Nat) v, c[j]? = some v → cs.flatten[i * size + j]? = some v
  | [], i, c, _, h, _, _, _ => by simp at h
  | d :: cs, 0, c, hl, h, j, v, hv => by
    simp at h; subst h
    have hj := (List.getElem?_eq_some_iff.1 hv).1
    rw [List.flatten_cons, Nat.zero_mul, Nat.zero_add, List.getElem?_append_left hj]; exact hv
  | d :: cs, i + 1, c, hl, h, j, v, hv => by
    have hd := hl d (by simp)
    rw [List.flatten_cons, Nat.succ_mul, show i * size + size + j = d.length + (i * size + j) from by omega, List.getElem?_append_right (by omega), Nat.add_sub_cancel_left]
    exact flat_get (fun x hx => hl x (by simp [hx])) (by simpa using h) j v hv
theorem flat_len {size : Nat} : ∀ {cs : List (List Value)}, (∀ d ∈ cs, d.length = size) → cs.flatten.length = cs.length * size
  | [], _ => by simp
  | d :: cs, h => by rw [List.flatten_cons, List.length_append, h d (by simp), flat_len (fun x hx => h x (by simp [hx])), List.length_cons, Nat.succ_mul]; omega
theorem flat_drop {size : Nat} : ∀ (k : Nat) {cs : List (List Value)}, (∀ d ∈ cs, d.length = size) → cs.flatten.drop (k * size) = (cs.drop k).flatten
  | 0, cs, _ => by simp
  | k + 1, [], _ => by simp
  | k + 1, d :: cs, h => by
    rw [List.flatten_cons, Nat.succ_mul, show k * size + size = d.length + k * size from by rw [h d (by simp)]; omega, ← List.drop_drop, List.drop_left, flat_drop k (fun x hx => h x (by simp [hx]))]
    simp
theorem flat_take {size : Nat} : ∀ (k : Nat) {cs : List (List Value)}, (∀ d ∈ cs, d.length = size) → cs.flatten.take (k * size) = (cs.take k).flatten
  | 0, cs, _ => by simp
  | k + 1, [], _ => by simp
  | k + 1, d :: cs, h => by
    rw [List.flatten_cons, Nat.succ_mul, show k * size + size = d.length + k * size from by rw [h d (by simp)]; omega, List.take_append]
    rw [List.take_of_length_le (by omega), Nat.add_sub_cancel_left, flat_take k (fun x hx => h x (by simp [hx]))]
    simp
/-- a slice of things that are read -/
def SlS (size : Nat) (R : List Value → α → Prop) (H : PH) (ao : Option Addr) (n cap : Nat) (xs : List α) : Prop :=
  ∃ css : List (List Value), n = xs.length ∧ IsS H ao n cap size css.flatten ∧ Al2 R css xs ∧ ∀ d ∈ css, d.length = size
theorem SlS.le {size : Nat} {H H' : PH} {ao : Option Addr} {n cap : Nat} {xs : List α} (h : SlS size R H ao n cap xs) (l : Le H H') (hR : ∀ c x, R c x → R' c x) : SlS size R' H' ao n cap xs := by
  obtain ⟨css, h1, h2, h3, h4⟩ := h
  exact ⟨css, h1, h2.le l, h3.imp hR, h4⟩
theorem SlS.nil (size : Nat) (H : PH) (ao : Option Addr) (cap : Nat) : SlS size R H ao 0 cap [] := ⟨[], rfl, IsS.nil H ao cap size, trivial, by simp⟩
theorem SlS.cells {size : Nat} {H : PH} {a : Addr} {n cap i : Nat} {xs : List α} {x : α} (h : SlS size R H (some a) n cap xs) (hx : xs[i]? = some x) : ∃ c, R c x ∧ c.length = size ∧ ∀ (j : Nat) v, c[j]? = some v → Cell H ((a.add (i * size)).add j) v := by
  obtain ⟨css, h1, h2, h3, h4⟩ := h
  obtain ⟨c, hc, hr⟩ := h3.get hx
  refine ⟨c, hr, h4 c (List.mem_of_getElem? hc), fun j v hv => ?_⟩
  obtain ⟨a', e, hcell⟩ := h2.2.2 _ v (flat_get h4 hc j v hv)
  cases e
  obtain ⟨b, o, sp⟩ := a
  have hsp := hcell.1
  have e2 : ((⟨b, o, sp⟩ : Addr).add (i * size)).add j = (⟨b, o, sp⟩ : Addr).add (i * size + j) := by
    unfold Addr.add at hsp ⊢
    by_cases h0 : i * size = 0
    · simp [h0]
    · by_cases h1 : j = 0
      · subst h1; simp [h0]
      · simp [h0, h1, Nat.add_assoc]
  rw [e2]; exact hcell
theorem SlS.isS {size : Nat} {H : PH} {ao : Option Addr} {n cap : Nat} {xs : List α} (h : SlS size R H ao n cap xs) : ∃ vs, IsS H ao n cap size vs := by
  obtain ⟨css, _, h2, _⟩ := h
  exact ⟨_, h2⟩
theorem SlS.len {size : Nat} {H : PH} {ao : Option Addr} {n cap : Nat} {xs : List α} (h : SlS size R H ao n cap xs) : n = xs.length := by
  obtain ⟨css, h1, _⟩ := h
  exact h1
theorem SlS.addr {size : Nat} {H : PH} {ao : Option Addr} {n cap : Nat} {xs : List α} (h : SlS size R H ao n cap xs) (hn : 0 < n) (hs : 0 < size) : ∃ a, ao = some a := by
  obtain ⟨css, _, h2, _⟩ := h
  exact h2.addr hn hs
theorem SlS.cut {size : Nat} {H : PH} {ao : Option Addr} {n cap : Nat} {xs : List α} (h : SlS size R H ao n cap xs) (L : Nat) (hL : L ≤ n) : SlS size R H (cutA ao cap L size) (n - L) (cap - L) (xs.drop L) := by
  obtain ⟨css, h1, h2, h3, h4⟩ := h
  have hl : css.length = n := by rw [h3.len, h1]
  refine ⟨css.drop L, by simp [h1], h2.cut L (n - L) (by omega) ?_, h3.drop L, fun d hd => h4 d (List.mem_of_mem_drop hd)⟩
  rw [flat_drop L h4]
  exact List.take_of_length_le (by rw [flat_len (fun d hd => h4 d (List.mem_of_mem_drop hd))]; simp [hl])
/-- a slice of things that is owned -/
def SlO (size e : Nat) (R : List Value → α → Prop) (h : PH) (ao : Option Addr) (n cap : Nat) (xs : List α) : Prop :=
  ∃ css : List (List Value), n = xs.length ∧ Own h ao n cap e size css.flatten ∧ Al2 R css xs ∧ ∀ d ∈ css, d.length = size
theorem SlO.nil (size e : Nat) : SlO size e R em none 0 0 [] := ⟨[], rfl, Own.nil e size, trivial, by simp⟩
theorem SlO.slS {size e : Nat} {h : PH} {ao : Option Addr} {n cap : Nat} {xs : List α} (x : SlO size e R h ao n cap xs) : SlS size R h ao n cap xs := by
  obtain ⟨css, h1, h2, h3, h4⟩ := x
  exact ⟨css, h1, h2.isS, h3, h4⟩
theorem SlO.imp {size e : Nat} {h : PH} {ao : Option Addr} {n cap : Nat} {xs : List α} (hR : ∀ c x, R c x → R' c x) (x : SlO size e R h ao n cap xs) : SlO size e R' h ao n cap xs := by
  obtain ⟨css, h1, h2, h3, h4⟩ := x
  exact ⟨css, h1, h2, h3.imp hR, h4⟩
theorem SlO.len {size e : Nat} {h : PH} {ao : Option Addr} {n cap : Nat} {xs : List α} (x : SlO size e R h ao n cap xs) : n = xs.length := by
  obtain ⟨css, h1, _⟩ := x
  exact h1
theorem SlO.caps {size e : Nat} {h : PH} {ao : Option Addr} {n cap : Nat} {xs : List α} (x : SlO size e R h ao n cap xs) : n ≤ cap := by
  obtain ⟨css, _, h2, _⟩ := x
  exact h2.2.1
end al
section app
variable {P : Program} {T : Tab} {w0 : World} {ops : Array Oper} {Q : Exit → Act → World → Prop} {rest rest' : List Oper} {n : Nat} {l l' : Sl} {K : PH} {hs : List PH} {α : Type} {R : List Value → α → Prop}
/-- one more behind an owned slice of things: its literal is the first heap -/
theorem appS (hT : TabOK P T) (k i : Nat) {d : Nat} {si : SlI} {ao : Option Addr} {n1 c1 b : Nat} {h : PH} {xs : List α} (c : List Value) (x : α) (h0 : apAt T ops n k rest l = some (d, si, (ao, n1, c1), (some ⟨b, 0, none⟩, 1, 1), rest', l'))
    (h2 : hs[0]? = some (pt b c.toArray si.elem)) (hi : hs[i]? = some h) (o : SlO si.size si.elem R h ao n1 c1 xs) (hc : R c x) (hl : c.length = si.size) (h1 : ∀ u ∈ c, u.oneCell' = true) (hz : si.zero.cells.size = si.size) (hsz : 0 < si.size) (hb : (n1 + 1) * si.bytes ≤ 140737488355328) (h63 : n1 + 1 ≤ maxLen)
    (hk : ∀ ao' cap' h', SlO si.size si.elem R h' ao' (n1 + 1) cap' (xs ++ [x]) → WL P w0 ops Q rest' n ((d, .slice ao' (n1 + 1) cap') :: l') K (hs.set i h')) : WL P w0 ops Q rest n l K hs := by
  obtain ⟨css, q1, q2, q3, q4⟩ := o
  have xv : IsS (pt b c.toArray si.elem) (some ⟨b, 0, none⟩) 1 1 si.size c := by
    simpa using (Own.ofPt (b := b) (c := c.toArray) (e := si.elem) (n := 1) (size := si.size) (by simpa using hl) (by simp [maxLen])).isS
  refine app hT k i h0 hi q2 (.inr ⟨0, h2⟩) xv hz hsz h1 hb h63 fun ao' cap' h' o' => ?_
  refine hk ao' cap' h' ⟨css ++ [c], by simp [q1], by simpa using o', q3.append ⟨hc, trivial⟩, ?_⟩
  intro d hd
  rcases List.mem_append.1 hd with h | h
  · exact q4 d h
  · simp at h; subst h; exact hl
end app

/-! Several heaps as one. -/
def uns : List PH → PH
  | [] => em
  | h :: l => un h (uns l)
def Dj (h h' : PH) : Prop := ∀ b, h b = none ∨ h' b = none
def Djs (l : List PH) : Prop := l.Pairwise Dj
theorem uns_some : ∀ {l : List PH} {b : Nat} {o : Obj}, uns l b = some o → ∃ h ∈ l, h b = some o
  | [], b, o, h => by simp [uns, em] at h
  | x :: l, b, o, h => by
    simp only [uns, un] at h
    cases e : x b with
    | some o' => rw [e] at h; simp only [Option.some.injEq] at h; subst h; exact ⟨x, by simp, e⟩
    | none =>
      rw [e] at h
      obtain ⟨y, h1, h2⟩ := uns_some h
      exact ⟨y, by simp [h1], h2⟩
theorem uns_of : ∀ {l : List PH} (d : Djs l) {h : PH} (hm : h ∈ l) {b : Nat} {o : Obj}, h b = some o → uns l b = some o
  | [], _, _, hm, _, _, _ => by cases hm
  | x :: l, d, h, hm, b, o, hb => by
    simp only [uns, un]
    rcases List.mem_cons.1 hm with rfl | hm
    · rw [hb]
    · have h1 := (List.pairwise_cons.1 d).1 h hm b
      cases e : x b with
      | none => exact uns_of (List.pairwise_cons.1 d).2 hm hb
      | some o' =>
        rcases h1 with h1 | h1
        · rw [e] at h1; cases h1
        · rw [hb] at h1; cases h1
theorem uns_none {l : List PH} {b : Nat} (h : ∀ x ∈ l, x b = none) : uns l b = none := by
  cases e : uns l b with
  | none => rfl
  | some o => obtain ⟨x, h1, h2⟩ := uns_some e; rw [h x h1] at h2; cases h2
theorem Sat.split {w0 w : World} {K : PH} {l hs : List PH} (s : Sat w0 w K (uns l :: hs)) (d : Djs l) : Sat w0 w K (l ++ hs) := by
  rw [Sat.iff] at s ⊢
  obtain ⟨⟨h1, h2, h3, h4, h5, h6⟩, h7⟩ := s
  rw [List.pairwise_cons] at h7
  refine ⟨⟨h1, h2, h3, h4, h5, fun h hm b o hb => ?_⟩, ?_⟩
  · rcases List.mem_append.1 hm with hm | hm
    · exact h6 (uns l) (by simp) b o (uns_of d hm hb)
    · exact h6 h (by simp [hm]) b o hb
  · rw [List.pairwise_append]
    refine ⟨d, h7.2, fun x hx y hy b => ?_⟩
    cases e : x b with
    | none => exact .inl rfl
    | some o =>
      rcases h7.1 y hy b with h | h
      · rw [uns_of d hx e] at h; cases h
      · exact .inr h
theorem Sat.join {w0 w : World} {K : PH} (l : List PH) {hs : List PH} (s : Sat w0 w K (l ++ hs)) : Djs l ∧ Sat w0 w K (uns l :: hs) := by
  rw [Sat.iff] at s ⊢
  obtain ⟨⟨h1, h2, h3, h4, h5, h6⟩, h7⟩ := s
  rw [List.pairwise_append] at h7
  obtain ⟨d, h8, h9⟩ := h7
  refine ⟨d, ⟨h1, h2, h3, h4, h5, fun h hm b o hb => ?_⟩, ?_⟩
  · rcases List.mem_cons.1 hm with rfl | hm
    · obtain ⟨x, g1, g2⟩ := uns_some hb
      exact h6 x (by simp [g1]) b o g2
    · exact h6 h (by simp [hm]) b o hb
  · rw [List.pairwise_cons]
    refine ⟨fun y hy b => ?_, h8⟩
    cases e : y b with
    | none => exact .inr rfl
    | some o =>
      refine .inl (uns_none fun x hx => ?_)
      rcases h9 x hx y hy b with h | h
      · exact h
      · rw [e] at h; cases h
section sj
variable {P : Program} {w0 : World} {ops : Array Oper} {Q : Exit → Act → World → Prop} {rest : List Oper} {n : Nat} {l : Sl} {K : PH} {hs : List PH} {c : Code} {e : Exit} {r : Option Nat} {ds : List Deferred}
theorem WL.split {m : List PH} (d : Djs m) (hk : WL P w0 ops Q rest n l K (m ++ hs)) : WL P w0 ops Q rest n l K (uns m :: hs) := fun a w ha hw => hk a w ha (hw.split d)
theorem WC.split {m : List PH} (d : Djs m) (hk : WC P w0 c Q n l K (m ++ hs)) : WC P w0 c Q n l K (uns m :: hs) := fun a w ha hw => hk a w ha (hw.split d)
theorem WQ.split {m : List PH} (d : Djs m) (hk : WQ w0 Q e n l K (m ++ hs)) : WQ w0 Q e n l K (uns m :: hs) := fun a w ha hw => hk a w ha (hw.split d)
theorem WX.split {m : List PH} (d : Djs m) (hk : WX P w0 r ds c Q n l K (m ++ hs)) : WX P w0 r ds c Q n l K (uns m :: hs) := fun a w ha hw => hk a w ha (hw.split d)
theorem WL.join (m : List PH) (hk : Djs m → WL P w0 ops Q rest n l K (uns m :: hs)) : WL P w0 ops Q rest n l K (m ++ hs) := fun a w ha hw => hk (hw.join m).1 a w ha (hw.join m).2
theorem WC.join (m : List PH) (hk : Djs m → WC P w0 c Q n l K (uns m :: hs)) : WC P w0 c Q n l K (m ++ hs) := fun a w ha hw => hk (hw.join m).1 a w ha (hw.join m).2
theorem WQ.join (m : List PH) (hk : Djs m → WQ w0 Q e n l K (uns m :: hs)) : WQ w0 Q e n l K (m ++ hs) := fun a w ha hw => hk (hw.join m).1 a w ha (hw.join m).2
theorem WX.join (m : List PH) (hk : Djs m → WX P w0 r ds c Q n l K (uns m :: hs)) : WX P w0 r ds c Q n l K (m ++ hs) := fun a w ha hw => hk (hw.join m).1 a w ha (hw.join m).2
theorem WQX.join (m : List PH) (hk : Djs m → WQX ds w0 Q e n l K (uns m :: hs)) : WQX ds w0 Q e n l K (m ++ hs) := fun a w ha hw => hk (hw.join m).1 a w ha (hw.join m).2
theorem WQX.drop {h : PH} (hk : WQX ds w0 Q e n l K hs) : WQX ds w0 Q e n l K (h :: hs) := fun a w ha hw => hk a w ha hw.dropHead
theorem WQX.drop1 {h x : PH} (hk : WQX ds w0 Q e n l K (h :: hs)) : WQX ds w0 Q e n l K (h :: x :: hs) := fun a w ha hw => hk a w ha (hw.perm (List.Perm.swap x h hs)).dropHead
theorem WQ.drop1 {h x : PH} (hk : WQ w0 Q e n l K (h :: hs)) : WQ w0 Q e n l K (h :: x :: hs) := fun a w ha hw => hk a w ha (hw.perm (List.Perm.swap x h hs)).dropHead
theorem WX.drop {h : PH} (hk : WX P w0 r ds c Q n l K hs) : WX P w0 r ds c Q n l K (h :: hs) := fun a w ha hw => hk a w ha hw.dropHead
theorem WQX.perm {hs' : List PH} (p : hs.Perm hs') (hk : WQX ds w0 Q e n l K hs') : WQX ds w0 Q e n l K hs := fun a w ha hw => hk a w ha (hw.perm p)
theorem WX.perm {hs' : List PH} (p : hs.Perm hs') (hk : WX P w0 r ds c Q n l K hs') : WX P w0 r ds c Q n l K hs := fun a w ha hw => hk a w ha (hw.perm p)
theorem WX.frz {h : PH} (hk : ∀ K', Le K K' → Le h K' → WX P w0 r ds c Q n l K' hs) : WX P w0 r ds c Q n l K (h :: hs) := fun a w ha hw => by
  obtain ⟨h1, h2, h3⟩ := hw.frz
  exact hk _ h1 h2 a w ha h3
theorem WQX.frz {h : PH} (hk : ∀ K', Le K K' → Le h K' → WQX ds w0 Q e n l K' hs) : WQX ds w0 Q e n l K (h :: hs) := fun a w ha hw => by
  obtain ⟨h1, h2, h3⟩ := hw.frz
  exact hk _ h1 h2 a w ha h3
theorem WX.weak {K' : PH} (le : Le K K') (hk : WX P w0 r ds c Q n l K hs) : WX P w0 r ds c Q n l K' hs := fun a w ha hw => hk a w ha (hw.weak le)
theorem WQX.weak {K' : PH} (le : Le K K') (hk : WQX ds w0 Q e n l K hs) : WQX ds w0 Q e n l K' hs := fun a w ha hw => hk a w ha (hw.weak le)
theorem WQX.em (hk : WQX ds w0 Q e n l K (En.em :: hs)) : WQX ds w0 Q e n l K hs := fun a w ha hw => hk a w ha hw.addEm
theorem WX.em (hk : WX P w0 r ds c Q n l K (En.em :: hs)) : WX P w0 r ds c Q n l K hs := fun a w ha hw => hk a w ha hw.addEm
end sj
theorem dnexL {P : Program} {w0 : World} {ops : Array Oper} {Q : Exit → Act → World → Prop} {plan : List Nat} {z : Nat} {n : Nat} {l : Sl} {K K0 : PH} {hs A : List PH} {L : Array Bool} (A' : List PH) (hA : ∀ h ∈ A', h ∈ hs) (hAA : ∀ h ∈ A, h ∈ A') (hK : Le K0 K) (hk : WA P w0 ops Q K A' z plan L n l K hs) :
    WL P w0 ops (fun e a w => planOK .any ops plan L = true → Closed .any ops L → aft P w0 ops Q K0 A z plan L e a w) [] n l K hs := by
  intro a w ha hw
  refine wpList_nil fun hp hc => ?_
  have up : ∀ L w, still z (HasL K A') L w → still z (HasL K0 A) L w := fun L w h hz => ⟨fun b o hb => (h hz).1 b o (hK b o hb), fun x hx => (h hz).2 x (hAA x hx)⟩
  have hst : still z (HasL K A') L w := fun _ => HasL.ofMem hw hA
  exact ⟨up _ _ hst, tr_S up _ _ _ _ (hk hp hc a w ha hw hst)⟩
section dbd
variable {P : Program} {T : Tab} {w0 : World} {ops : Array Oper} {Q : Exit → Act → World → Prop} {plan plan' : List Nat} {z : Nat} {listed listed' : Array Bool} {n : Nat} {l l' : Sl} {K K0 : PH} {hs A : List PH}
def dbdAt (T : Tab) (ops : Array Oper) (n z k : Nat) (plan : List Nat) (L : Array Bool) (l : Sl) : Option (Nat × Oper × Nat × List (Nat × Value) × List Nat × Array Bool × Sl) :=
  match dopAt T ops n z k plan L l with
  | some (d, o, r, L', l') => match o.op with
    | .build t parts => match parts.toList.mapM (fun x => (ev l' x.2).map (fun v => (x.1, v))) with
      | some vs => some (d, o, t, vs, r, L', l')
      | none => none
    | _ => none
  | none => none
/-- a struct built, where the order is open -/
theorem dbd (hT : TabOK P T) (hsel : Region.noSelect ops = true) (k : Nat) {d t : Nat} {o : Oper} {vs : List (Nat × Value)} (v : Value) (h0 : dbdAt T ops n z k plan listed l = some (d, o, t, vs, plan', listed', l')) (hv : ∀ w, (Instr.build t vs.toArray).run P w = .ok v w)
    (hk : WA P w0 ops Q K0 A z plan' listed' n ((d, v) :: l') K hs) : WA P w0 ops Q K0 A z plan listed n l K hs := by
  unfold dbdAt at h0
  split at h0
  · rename_i d' o' r L' l2 hh
    split at h0
    · rename_i t' parts hop
      split at h0
      · rename_i vs' hvs
        simp only [Option.some.injEq, Prod.mk.injEq] at h0
        obtain ⟨rfl, rfl, rfl, rfl, rfl, rfl, rfl⟩ := h0
        refine dop hT hsel k hh (fun a w ha => ?_) hk
        have h6 := evs_map ha _ _ hvs
        have h7 : (parts.map fun x => (x.1, a.eval x.2)) = vs'.toArray := by
          apply Array.ext'
          simpa using h6
        simp only [execOp, hop]
        have h8 := hv w
        rw [← h7] at h8
        simp [h8]
      · simp at h0
    · simp at h0
  · simp at h0
end dbd
end Go.En
