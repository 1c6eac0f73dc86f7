/-
  Part 6 of what the proof needs (texts Qd Qe Qf Qg Qh Qk Qi Zo Qj).
-/
import Derived.Test.YtneeeblghijmgaaGreatSB5
set_option linter.unusedSectionVars false
set_option linter.unusedSimpArgs false
set_option linter.unusedVariables false
section
namespace Go.En
theorem trm_true {s : Snp} {l : List Ent} {i : Nat} (h : (trm s l i).2 = true) : s.idx <= i /\ i <= s.idx + l.length := by
 unfold trm at h
 split at h
 ·omega
 ·split at h
  ·cases h
  ·omega
theorem trm_take {s : Snp} {l : List Ent} {i n : Nat} (h : i <= s.idx + n) (hn : n <= l.length) : trm s (l.take n) i = trm s l i := by
 unfold trm
 rw [List.length_take, Nat.min_eq_left hn]
 split
 ·rfl
 ·by_cases h1 : i < s.idx
  ·rw [if_pos (.inl h1), if_pos (.inl h1)]
  ·rw [if_neg (by omega), if_neg (by omega), List.getElem?_take_of_lt (by omega)]
theorem folR_cons (i t : Nat) (e : Ent) (r : List Ent) : folR i t (e :: r) = if e.idx ≠ i + 1 \/ e.term < t then 180 else folR e.idx e.term r := rfl
theorem folR_ok {i t : Nat} {e : Ent} {r : List Ent} (h : folR i t (e :: r) = 0) : e.idx = i + 1 /\ t <= e.term /\ folR e.idx e.term r = 0 := by
 rw [folR_cons] at h
 split at h
 ·cases h
 ·exact ⟨by omega, by omega, h⟩
theorem folR_drop : ∀ (x : List Ent) (i t k : Nat) (e : Ent) (r : List Ent), folR i t x = 0 -> x.drop k = e :: r -> e.idx = i + k + 1 /\ folR e.idx e.term r = 0
 | [], i, t, k, e, r, _, h => by simp at h
 | a :: x, i, t, 0, e, r, hf, h => by
  cases h
  have := folR_ok hf
  exact ⟨by omega, this.2.2⟩
 | a :: x, i, t, k + 1, e, r, hf, h => by
  have h1 := folR_ok hf
  have := folR_drop x a.idx a.term k e r h1.2.2 (by simpa using h)
  exact ⟨by omega, this.2⟩
theorem fol_zero {i t : Nat} {x : List Ent} (hok : ∀ e ∈ x, e.ok) (hf : folR i t x = 0) : fol i t x = 0 := by
 unfold fol
 rw [if_pos (by simp only [List.all_eq_true, putEnt_ok]; exact hok)]
 exact hf
theorem skp_at (s : Snp) (l : List Ent) : ∀ (x : List Ent) (i t : Nat) (b : Bool), folR i t x = 0 -> trm s l i = (t, true) -> ∀ e r B, skp s l x b = (e :: r, B) ->
  ∃ u, i < e.idx /\ trm s l (e.idx - 1) = (u, true) /\ folR (e.idx - 1) u (e :: r) = 0 /\ B = (trm s l e.idx).2
 | [], i, t, b, _, _, e, r, B, h => by cases h
 | a :: x, i, t, b, hf, ht, e, r, B, h => by
  have h1 := folR_ok hf
  rw [skp_cons] at h
  by_cases hc : (trm s l a.idx).2 = false \/ (trm s l a.idx).1 ≠ a.term
  ·rw [if_pos hc] at h
   cases h
   refine ⟨t, by omega, ?_, ?_, rfl⟩
   ·rw [h1.1, Nat.add_sub_cancel]; exact ht
   ·rw [show a.idx - 1 = i by omega]; exact hf
  ·rw [if_neg hc] at h
   have hc := not_or.1 hc
   have h2 : trm s l a.idx = (a.term, true) := Prod.ext (Decidable.not_not.1 hc.2) (by simpa using hc.1)
   obtain ⟨u, g1, g2⟩ := skp_at s l x a.idx a.term true h1.2.2 h2 e r B h
   exact ⟨u, by omega, g2⟩
theorem Sim.merge3 {k q n : Nat} {L : Lg} {D : Dk} (o : Sim k q L) (x : List Ent) (last : Nat) (h : Liv (n + 11 * x.length) D) (hx : ∀ e ∈ x, e.idx <= mxU /\ e.term <= mxU) (hl : L.sn.idx + L.l.length + x.length < 2 * lgTop)
  (hf : folR L.last (trm L.sn L.l L.last).1 x = 0) (hok : ∀ e ∈ x, e.ok) :
  (L.merge3 x last D).2.2 = (last, true, 0) /\ Liv n (L.merge3 x last D).2.1 /\ Sim k (q + x.length) (L.merge3 x last D).1 /\ (L.merge3 x last D).1.rl = { L.rl with l := L.l ++ x } := by
 have h1 := o.append x h hx hl
 have h0 : L.rl.append x = ({ L.rl with l := L.l ++ x }, 0) := by
  unfold Rl.append
  rw [if_neg (by intro hc; exact hc (fol_zero hok hf))]
  rfl
 rw [h0] at h1
 unfold Lg.merge3
 rw [if_neg (by rw [h1.1]; simp)]
 exact ⟨rfl, h1.2.1, h1.2.2.1, h1.2.2.2⟩
theorem Sim.merge2 {k q n : Nat} {L : Lg} {D : Dk} (o : Sim k q L) (i t : Nat) (hi : L.sn.idx <= i) (x : List Ent) (last : Nat) (h : Liv (n + 1 + 11 * x.length) D) (hx : ∀ e ∈ x, e.idx <= mxU /\ e.term <= mxU) (hl : L.sn.idx + L.l.length + x.length < 2 * lgTop)
  (hf : folR i t x = 0) (hok : ∀ e ∈ x, e.ok) (ht : trm L.sn L.l i = (t, true)) :
  (L.merge2 x last D).2.2 = (L.rl.merge2 x last).2 /\ Liv n (L.merge2 x last D).2.1 /\ Sim k (q + 1 + x.length) (L.merge2 x last D).1 /\ (L.merge2 x last D).1.rl = (L.rl.merge2 x last).1 := by
 obtain ⟨⟨y, B⟩, hy⟩ : ∃ p, skp L.sn L.l x true = p := ⟨_, rfl⟩
 have hy2 : skp L.rl.sn L.rl.l x true = (y, B) := hy
 have hsuf := skp_suf L.sn L.l x true
 rw [hy] at hsuf
 dsimp only at hsuf
 have hlen := hsuf.length_le
 cases y with
 | nil =>
  rw [merge2_nil hy, rmerge2_nil hy2]
  have h1 := o.merge3 (n := n) [] last (h.mono (by simp; omega)) (by simp) (by simp; omega) rfl (by simp)
  refine ⟨h1.1, h1.2.1, h1.2.2.1.up (Nat.le_refl _) (by simp; omega), ?_⟩
  rw [h1.2.2.2, List.append_nil]
  rfl
 | cons e r =>
  obtain ⟨u, g1, g2, g3, g4⟩ := skp_at L.sn L.l x i t true hf ht e r B hy
  have hie := hx e (hsuf.subset (by simp))
  have hie2 : e.idx < 18446744073709551616 := by have := hie.1; unfold mxU at this; omega
  have g5 := trm_true (s := L.sn) (l := L.l) (i := e.idx - 1) (by rw [g2])
  rw [merge2_cons hy, rmerge2_cons hy2]
  cases hB : B with
  | true =>
   subst hB
   have g6 := trm_true (s := L.sn) (l := L.l) (i := e.idx) g4.symm
   have hT := o.w.truncate (n := n + 11 * (e :: r).length) (h.mono (by omega)) e.idx hie2 (by rw [o.first]; omega) (by rw [o.first, o.recs]; omega)
   rw [if_pos rfl, if_neg (by rw [hT.1]; simp)]
   have hat : (lgAt L.sn L.l e.idx).getD 0 = e.idx - L.sn.idx - 1 := by
    unfold lgAt
    rw [if_neg (by omega)]
    rfl
   have hMl : (L.cutAt e.idx (L.w.truncate e.idx D).1).l = L.l.take (e.idx - L.sn.idx - 1) := by unfold Lg.cutAt; dsimp only; rw [hat]
   have hlt : (L.l.take (e.idx - L.sn.idx - 1)).length = e.idx - L.sn.idx - 1 := by rw [List.length_take]; omega
   have hM : Sim k (q + 1) (L.cutAt e.idx (L.w.truncate e.idx D).1) :=
    ⟨o.code, hT.2.1, o.hard, o.head, o.place, by have := o.next; have := hT.2.2.2.2.2; unfold Lg.cutAt; dsimp only; omega, by have := o.fr; unfold Lg.cutAt; dsimp only; omega, by unfold Lg.cutAt; dsimp only; rw [hT.2.2.2.1]; exact o.first, by
     rw [hMl, hlt]
     unfold Lg.cutAt
     dsimp only
     rw [hT.2.2.2.2.1, List.length_take, o.first, o.recs]
     omega⟩
   have hsn : (L.cutAt e.idx (L.w.truncate e.idx D).1).sn = L.sn := rfl
   have hla : (L.cutAt e.idx (L.w.truncate e.idx D).1).last = e.idx - 1 := by
    unfold Lg.last
    rw [hMl, hlt, hsn]
    omega
   have h3 := hM.merge3 (n := n) (e :: r) last hT.2.2.1 (fun a ha => hx a (hsuf.subset ha)) (by rw [hMl, hlt, hsn]; omega) (by
    rw [hla, hMl, hsn, trm_take (by omega) (by omega), g2]
    exact g3) (fun a ha => hok a (hsuf.subset ha))
   refine ⟨h3.1, h3.2.1, h3.2.2.1.up (Nat.le_refl _) (by omega), ?_⟩
   rw [h3.2.2.2, hMl]
   rfl
  | false =>
   subst hB
   have g6 : e.idx = L.sn.idx + L.l.length + 1 := by
    rcases Nat.lt_or_ge (L.sn.idx + L.l.length) e.idx with h7 | h7
    ·omega
    ·exfalso
     have : (trm L.sn L.l e.idx).2 = true := by
      unfold trm
      rw [if_neg (by omega), if_neg (by omega)]
     rw [<- g4] at this
     cases this
   rw [if_neg (by simp)]
   have hla : L.last = e.idx - 1 := by unfold Lg.last; omega
   have h3 := o.merge3 (n := n) (e :: r) last (h.mono (by omega)) (fun a ha => hx a (hsuf.subset ha)) (by omega) (by rw [hla, g2]; exact g3) (fun a ha => hok a (hsuf.subset ha))
   refine ⟨h3.1, h3.2.1, h3.2.2.1.up (Nat.le_refl _) (by omega), ?_⟩
   rw [h3.2.2.2]
   have : L.rl.l.take (e.idx - L.rl.sn.idx - 1) = L.l := by
    show L.l.take (e.idx - L.sn.idx - 1) = L.l
    rw [show e.idx - L.sn.idx - 1 = L.l.length by omega, List.take_length]
   rw [this]
theorem Sim.merge1 {k q n : Nat} {L : Lg} {D : Dk} (o : Sim k q L) (i t : Nat) (hi : L.sn.idx <= i) (x : List Ent) (last : Nat) (h : Liv (n + 1 + 11 * x.length) D) (hx : ∀ e ∈ x, e.idx <= mxU /\ e.term <= mxU) (hl : L.sn.idx + L.l.length + x.length < 2 * lgTop)
  (hf : folR i t x = 0) (hok : ∀ e ∈ x, e.ok) :
  (L.merge1 i t x last D).2.2 = (L.rl.merge1 i t x last).2 /\ Liv n (L.merge1 i t x last D).2.1 /\ Sim k (q + 1 + x.length) (L.merge1 i t x last D).1 /\ (L.merge1 i t x last D).1.rl = (L.rl.merge1 i t x last).1 := by
 unfold Lg.merge1 Rl.merge1
 by_cases hc : (trm L.sn L.l i).2 = false \/ (trm L.sn L.l i).1 ≠ t
 ·rw [if_pos hc, if_pos (show (trm L.rl.sn L.rl.l i).2 = false \/ (trm L.rl.sn L.rl.l i).1 ≠ t from hc)]
  exact ⟨rfl, h.mono (by omega), o.up (Nat.le_refl _) (by omega), rfl⟩
 ·rw [if_neg hc, if_neg (show ¬ ((trm L.rl.sn L.rl.l i).2 = false \/ (trm L.rl.sn L.rl.l i).1 ≠ t) from hc)]
  have hc := not_or.1 hc
  exact o.merge2 i t hi x last h hx hl hf hok (Prod.ext (Decidable.not_not.1 hc.2) (by simpa using hc.1))
theorem Sim.merge {k q n : Nat} {L : Lg} {D : Dk} (o : Sim k q L) (i t : Nat) (x : List Ent) (h : Liv (n + 1 + 11 * x.length) D) (hx : ∀ e ∈ x, e.idx <= mxU /\ e.term <= mxU) (hl : L.sn.idx + L.l.length + x.length < 2 * lgTop) :
  (L.merge i t x D).2.2 = (L.rl.merge i t x).2 /\ Liv n (L.merge i t x D).2.1 /\ Sim k (q + 1 + x.length) (L.merge i t x D).1 /\ (L.merge i t x D).1.rl = (L.rl.merge i t x).1 := by
 have h0 : Liv n D /\ Sim k (q + 1 + x.length) L := ⟨h.mono (by omega), o.up (Nat.le_refl _) (by omega)⟩
 have hsn : L.rl.sn = L.sn := rfl
 unfold Lg.merge Rl.merge
 rw [if_neg (by rw [o.code]; simp), hsn]
 by_cases hf : fol i t x ≠ 0
 ·rw [if_pos hf, if_pos hf]
  exact ⟨rfl, h0.1, h0.2, rfl⟩
 ·rw [if_neg hf, if_neg hf]
  have hf := Decidable.not_not.1 hf
  have hok := fol_ok hf
  have hfR := fol_folR hf
  by_cases hi : i < L.sn.idx
  ·rw [if_pos hi, if_pos hi]
   by_cases h1 : i + x.length < L.sn.idx
   ·rw [if_pos h1, if_pos h1]
    exact ⟨rfl, h0.1, h0.2, rfl⟩
   ·rw [if_neg h1, if_neg h1]
    by_cases h2 : ((x.drop (L.sn.idx - i)).head?.map fun e => decide (e.term < L.sn.term)) = some true
    ·rw [if_pos h2, if_pos h2]
     exact ⟨rfl, h0.1, h0.2, rfl⟩
    ·rw [if_neg h2, if_neg h2]
     have hdl : (x.drop (L.sn.idx - i)).length <= x.length := by rw [List.length_drop]; omega
     have hm := o.merge1 (n := n) L.sn.idx L.sn.term (Nat.le_refl _) (x.drop (L.sn.idx - i)) (i + x.length) (h.mono (by omega)) (fun e he => hx e (List.mem_of_mem_drop he)) (by omega) (by
      cases hd : x.drop (L.sn.idx - i) with
      | nil => rfl
      | cons e r =>
       have h3 := folR_drop x i t _ e r hfR hd
       rw [hd] at h2
       simp at h2
       rw [folR_cons, if_neg (by omega)]
       exact h3.2) (fun e he => hok e (List.mem_of_mem_drop he))
     exact ⟨hm.1, hm.2.1, hm.2.2.1.up (Nat.le_refl _) (by omega), hm.2.2.2⟩
  ·rw [if_neg hi, if_neg hi]
   exact o.merge1 i t (by omega) x _ h hx hl hfR hok
theorem Sim.doo {k q n m : Nat} {L : Lg} {D : Dk} (o : Sim k q L) (p : ROp) (hp : p.bd m) (hl : p.low = true) (h : Liv (n + 1300) D) (hk : k <= 1000000) (hq : q <= 1900000) (hi : L.sn.idx <= lgTop) (hn : L.l.length <= 1000000) :
  (L.doo D p).2.2 = (L.rl.doo p).2 /\ Liv n (L.doo D p).2.1 /\ Sim (k + 1) (q + 101) (L.doo D p).1 /\ (L.doo D p).1.rl = (L.rl.doo p).1 := by
 obtain ⟨_, h2, h3⟩ := ROp.low_ok hl
 have hx : ∀ e ∈ p.x, e.idx <= mxU /\ e.term <= mxU := fun e he => ⟨(hp.ents e he).1, (hp.ents e he).2.1⟩
 have hl2 : L.sn.idx + L.l.length + p.x.length < 2 * lgTop := by unfold lgTop at hi ⊢; omega
 unfold Lg.doo Rl.doo
 by_cases e0 : p.kind = 0
 ·rw [if_pos e0, if_pos e0]
  have g := o.setHard (n := n) (h.mono (by omega)) p.ht p.hv hp.ht hk
  exact ⟨by dsimp only; rw [g.1], g.2.1, g.2.2.1.up (Nat.le_refl _) (by omega), g.2.2.2⟩
 ·rw [if_neg e0, if_neg e0]
  by_cases e1 : p.kind = 1
  ·rw [if_pos e1, if_pos e1]
   have g := o.append (n := n) p.x (h.mono (by omega)) hx hl2
   exact ⟨by dsimp only; rw [g.1], g.2.1, g.2.2.1.up (by omega) (by omega), g.2.2.2⟩
  ·rw [if_neg e1, if_neg e1]
   by_cases e2 : p.kind = 2
   ·rw [if_pos e2, if_pos e2]
    have g := o.merge (n := n) p.idx p.term p.x (h.mono (by omega)) hx hl2
    exact ⟨by dsimp only; rw [g.1], g.2.1, g.2.2.1.up (by omega) (by omega), g.2.2.2⟩
   ·rw [if_neg e2, if_neg e2]
    by_cases e3 : p.kind = 3
    ·rw [if_pos e3, if_neg (by omega), if_neg (by omega)]
     have g := o.sync (n := n) (h.mono (by omega))
     exact ⟨by dsimp only; rw [g.1], g.2.1, g.2.2.1.up (by omega) (by omega), g.2.2.2.1⟩
    ·rw [if_neg e3]
     by_cases e4 : p.kind = 4
     ·rw [if_pos e4, if_pos e4]
      have g := o.save (n := n) p.sn (h.mono (by omega)) hp.si hp.st hk (by omega)
      exact ⟨by dsimp only; rw [g.1], g.2.1, g.2.2.1.up (Nat.le_refl _) (by omega), g.2.2.2⟩
     ·rw [if_neg e4, if_neg e4]
      by_cases e5 : p.kind = 5
      ·rw [if_pos e5, if_pos e5]
       have g := o.install (n := n) p.sn (h.mono (by omega)) hp.si hp.st hk (by omega)
       exact ⟨by dsimp only; rw [g.1], g.2.1, g.2.2.1.up (Nat.le_refl _) (by omega), g.2.2.2⟩
      ·rw [if_neg e5, if_neg e5]
       exact ⟨rfl, h.mono (by omega), o.up (by omega) (by omega), rfl⟩
theorem Rl.doo_len (r : Rl) (p : ROp) : (r.doo p).1.l.length <= r.l.length + p.x.length := by
 have hm : ∀ (y : List Ent) (last : Nat), y.length <= p.x.length -> (r.merge2 y last).1.l.length <= r.l.length + p.x.length := by
  intro y last hy
  have hs := (skp_suf r.sn r.l y true).length_le
  unfold Rl.merge2
  split
  ·exact Nat.le_add_right _ _
  ·rename_i e t h
   rw [h] at hs
   dsimp only
   rw [List.length_append, List.length_take]
   omega
 have hm1 : ∀ (i t : Nat) (y : List Ent) (last : Nat), y.length <= p.x.length -> (r.merge1 i t y last).1.l.length <= r.l.length + p.x.length := by
  intro i t y last hy
  unfold Rl.merge1
  split
  ·exact Nat.le_add_right _ _
  ·exact hm y last hy
 have hsv : (r.save p.sn).1.l.length <= r.l.length + p.x.length := by
  unfold Rl.save
  split
  ·exact Nat.le_add_right _ _
  ·split
   ·exact Nat.le_add_right _ _
   ·dsimp only; rw [List.length_drop]; omega
 unfold Rl.doo
 split
 ·unfold Rl.setHard
  dsimp only
  split
  ·exact Nat.le_add_right _ _
  ·split <;> exact Nat.le_add_right _ _
 ·split
  ·unfold Rl.append
   dsimp only
   split
   ·exact Nat.le_add_right _ _
   ·dsimp only; rw [List.length_append]; exact Nat.le_refl _
  ·split
   ·unfold Rl.merge
    dsimp only
    split
    ·exact Nat.le_add_right _ _
    ·split
     ·split
      ·exact Nat.le_add_right _ _
      ·split
       ·exact Nat.le_add_right _ _
       ·exact hm1 _ _ _ _ (by rw [List.length_drop]; omega)
     ·exact hm1 _ _ _ _ (Nat.le_refl _)
   ·split
    ·exact hsv
    ·split
     ·unfold Rl.install
      dsimp only
      split
      ·exact Nat.le_add_right _ _
      ·split
       ·exact hsv
       ·dsimp only; simp
     ·exact Nat.le_add_right _ _
end Go.En
end
section
namespace Go.Proofs.YtneeeblghijmgaaGreat
open Go.En
attribute [local irreducible] Code.wp wpList Calls
def LgH (K : PH) (lb db : Nat) (L : Lg) (D : Dk) (h : PH) : Prop := ∃ m, h = uns m /\ Djs m /\ LgM K lb db L D m
theorem LgH.le {K K' : PH} (l : Le K K') {lb db : Nat} {L : Lg} {D : Dk} {h : PH} (x : LgH K lb db L D h) : LgH K' lb db L D h := let ⟨m, h1, h2, h3⟩ := x; ⟨m, h1, h2, h3.le l⟩
section
variable {w0 : World} {K h : PH} {hs : List PH}
theorem lgKeep {f : FuncId} {args : List Value} {lb db : Nat} {L : Lg} {D : Dk} {u : Value} (hL : LgH K lb db L D h) (c : ∀ m, LgM K lb db L D m -> Ct Tryz.prog w0 f args K (m ++ hs) (fun v K' hs' => K' = K /\ hs' = m ++ hs /\ v = u)) : Ct Tryz.prog w0 f args K (h :: hs) (fun v K' hs' => K' = K /\ hs' = h :: hs /\ v = u) := by
 obtain ⟨m, rfl, d, hm⟩ := hL
 refine Ct.bun2 d (c m hm) ?_
 rintro v K' hs' ⟨rfl, rfl, rfl⟩
 exact ⟨m, hs, rfl, fun _ => ⟨rfl, rfl, rfl⟩⟩
theorem lgRead {f : FuncId} {args : List Value} {lb db : Nat} {L : Lg} {D : Dk} {S : Value -> PH -> Prop} (hL : LgH K lb db L D h) (c : ∀ m, LgM K lb db L D m -> Ct Tryz.prog w0 f args K (m ++ hs) (fun v K' hs' => Le K K' /\ hs' = m ++ hs /\ S v K')) : Ct Tryz.prog w0 f args K (h :: hs) (fun v K' hs' => ∃ h', hs' = h' :: hs /\ h' = h /\ Le K K' /\ S v K') := by
 obtain ⟨m, rfl, d, hm⟩ := hL
 refine Ct.bun2 d (c m hm) ?_
 rintro v K' hs' ⟨le, rfl, hS⟩
 exact ⟨m, hs, rfl, fun _ => ⟨_, rfl, rfl, le, hS⟩⟩
theorem lgDo {f : FuncId} {args : List Value} {lb db : Nat} {L L' : Lg} {D D' : Dk} {u : Value} (hL : LgH K lb db L D h) (c : ∀ m, LgM K lb db L D m -> Ct Tryz.prog w0 f args K (m ++ hs) (fun v K' hs' => Le K K' /\ ∃ m', hs' = m' ++ hs /\ LgM K' lb db L' D' m' /\ v = u)) : Ct Tryz.prog w0 f args K (h :: hs) (fun v K' hs' => ∃ h', hs' = h' :: hs /\ Le K K' /\ LgH K' lb db L' D' h' /\ v = u) := by
 obtain ⟨m, rfl, d, hm⟩ := hL
 refine Ct.bun2 d (c m hm) ?_
 rintro v K' hs' ⟨le, m', rfl, hm', rfl⟩
 exact ⟨m', hs, rfl, fun d' => ⟨_, rfl, le, ⟨m', rfl, d', hm'⟩, rfl⟩⟩
variable (lb db : Nat) (L : Lg) (D : Dk) (c : Nat)
theorem hardH (hL : LgH K lb db L D h) : Ct Tryz.prog w0 36 [.pointer (some ⟨lb, 0, none⟩)] K (h :: hs) (fun v K' hs' => K' = K /\ hs' = h :: hs /\ v = .agg #[.int .u64 ((L.kt : Nat) : Int), .int .i64 L.kv]) :=
 lgKeep hL fun m hm => hardLC lb db L D hm
theorem termH (hb : LBd c L) (hc : c <= 1000000000) (hL : LgH K lb db L D h) (i : Nat) (hi : i < 18446744073709551616) : Ct Tryz.prog w0 13 [.pointer (some ⟨lb, 0, none⟩), .int .u64 ((i : Nat) : Int)] K (h :: hs) (fun v K' hs' => K' = K /\ hs' = h :: hs /\ v = okT (trm L.sn L.l i)) :=
 lgKeep hL fun m hm => termLC lb db L D c hb hc hm i hi
theorem entriesH (hb : LBd c L) (hc : c <= 1000000000) (hL : LgH K lb db L D h) (i : Nat) (hi : i < 18446744073709551616) (most : Int) (hmo : -9223372036854775808 <= most /\ most <= 9223372036854775807) : Ct Tryz.prog w0 17 [.pointer (some ⟨lb, 0, none⟩), .int .u64 ((i : Nat) : Int), .int .i64 most] K (h :: hs)
  (fun v K' hs' => ∃ h', hs' = h' :: hs /\ h' = h /\ Le K K' /\ ∃ ao cap, v = .slice ao (partsL L.sn L.l i most).length cap /\ SlS 4 (EntC K') K' ao (partsL L.sn L.l i most).length cap (partsL L.sn L.l i most)) :=
 lgRead hL fun m hm => entriesLC lb db L D c hb hc hm i hi most hmo
theorem syncH' (hb : LBd c L) (hc : c <= 1000000000) (oD : DOk c D) (hL : LgH K lb db L D h) : Ct Tryz.prog w0 35 [.pointer (some ⟨lb, 0, none⟩)] K (h :: hs)
  (fun v K' hs' => ∃ h', hs' = h' :: hs /\ Le K K' /\ LgH K' lb db (L.sync D).1 (L.sync D).2.1 h' /\ v = .int .i64 (L.sync D).2.2) :=
 lgDo hL fun m hm => (syncLC lb db L D c hb hc oD hm).mono fun v K' hs' ⟨e, g⟩ => by subst e; exact ⟨Le.refl _, g⟩
theorem setHardH (hb : LBd c L) (hc : c <= 1000000000) (oD : DOk c D) (hL : LgH K lb db L D h) (t : Nat) (v : Int) (ht : t <= mxU) (hv : -9223372036854775808 <= v /\ v <= 9223372036854775807) : Ct Tryz.prog w0 34 [.pointer (some ⟨lb, 0, none⟩), .agg #[.int .u64 ((t : Nat) : Int), .int .i64 v]] K (h :: hs)
  (fun u K' hs' => ∃ h', hs' = h' :: hs /\ Le K K' /\ LgH K' lb db (L.setHard D t v).1 (L.setHard D t v).2.1 h' /\ u = .int .i64 (L.setHard D t v).2.2) :=
 lgDo hL fun m hm => setHardLC lb db L D c hb hc oD hm t v ht hv
theorem appendH (hb : LBd c L) (oD : DOk c D) (hL : LgH K lb db L D h) (ao : Option Addr) (cap : Nat) (x : List Ent) (xs : SlS 4 (EntC K) K ao x.length cap x) (hx : ∀ e ∈ x, entB e) (hc : c + 12 * x.length <= 999999000) : Ct Tryz.prog w0 33 [.pointer (some ⟨lb, 0, none⟩), .slice ao x.length cap] K (h :: hs)
  (fun u K' hs' => ∃ h', hs' = h' :: hs /\ Le K K' /\ LgH K' lb db (L.append x D).1 (L.append x D).2.1 h' /\ u = .int .i64 (L.append x D).2.2) :=
 lgDo hL fun m hm => appendLC lb db L D c hb oD hm ao cap x xs hx hc
theorem mergeH (hb : LBd c L) (oD : DOk c D) (hL : LgH K lb db L D h) (i t : Nat) (hi : i <= mxU) (ht : t <= mxU) (ao : Option Addr) (cap : Nat) (x : List Ent) (xs : SlS 4 (EntC K) K ao x.length cap x) (hx : ∀ e ∈ x, entB e) (hc : c + 2 + 12 * x.length <= 999999000) :
  Ct Tryz.prog w0 12 [.pointer (some ⟨lb, 0, none⟩), .int .u64 ((i : Nat) : Int), .int .u64 ((t : Nat) : Int), .slice ao x.length cap] K (h :: hs)
  (fun u K' hs' => ∃ h', hs' = h' :: hs /\ Le K K' /\ LgH K' lb db (L.merge i t x D).1 (L.merge i t x D).2.1 h' /\ u = okM (L.merge i t x D).2.2) :=
 lgDo hL fun m hm => mergeLC lb db L D c hb oD hm i t hi ht ao cap x xs hx hc
theorem saveH (hb : LBd c L) (hc : c <= 499900000) (oD : DOk c D) (hL : LgH K lb db L D h) (s : Snp) (hsi : s.idx < 18446744073709551616) (hst : s.term <= mxU) (hvl : s.vot.length < 1099511627776) (hdl : s.data.length < 1099511627776)
  (aS : Option Addr) (cS : Nat) (aT : Option Addr) (cT : Nat) (xS : IsS K aS s.vot.length cS 1 (iv s.vot)) (xT : IsS K aT s.data.length cT 1 (bv s.data)) :
  Ct Tryz.prog w0 44 [.pointer (some ⟨lb, 0, none⟩), .agg (snV s aS cS aT cT)] K (h :: hs)
  (fun u K' hs' => ∃ h', hs' = h' :: hs /\ Le K K' /\ LgH K' lb db (L.save s D).1 (L.save s D).2.1 h' /\ u = .int .i64 (L.save s D).2.2) :=
 lgDo hL fun m hm => saveLC lb db L D c hb hc oD hm s hsi hst hvl hdl aS cS aT cT xS xT
theorem installH (hb : LBd c L) (hc : c <= 499900000) (oD : DOk c D) (hL : LgH K lb db L D h) (s : Snp) (hsi : s.idx < 18446744073709551616) (hst : s.term <= mxU) (hvl : s.vot.length < 1099511627776) (hdl : s.data.length < 1099511627776)
  (aS : Option Addr) (cS : Nat) (aT : Option Addr) (cT : Nat) (xS : IsS K aS s.vot.length cS 1 (iv s.vot)) (xT : IsS K aT s.data.length cT 1 (bv s.data)) :
  Ct Tryz.prog w0 45 [.pointer (some ⟨lb, 0, none⟩), .agg (snV s aS cS aT cT)] K (h :: hs)
  (fun u K' hs' => ∃ h', hs' = h' :: hs /\ Le K K' /\ LgH K' lb db (L.install s D).1 (L.install s D).2.1 h' /\ u = .int .i64 (L.install s D).2.2) :=
 lgDo hL fun m hm => installLC lb db L D c hb hc oD hm s hsi hst hvl hdl aS cS aT cT xS xT
end
theorem openH {w0 : World} {K dh : PH} {hs : List PH} (db : Nat) (D : Dk) (c : Nat) (oD : DOk c D) (hc : c <= 199000000) (hd : DskH K db D dh) (first : List Int) (hfl : first.length <= 1000000) (aF : Option Addr) (cF : Nat) (xF : IsS K aF first.length cF 1 (iv first)) :
  Ct Tryz.prog w0 27 [.pointer (some ⟨db, 0, none⟩), .agg #[.slice aF first.length cF]] K (dh :: hs)
   (fun v K' hs' => ∃ h', hs' = h' :: hs /\ Le K K' /\ (((lOpen D first).1 = none /\ v = .tuple #[.pointer none, .int .i64 (lOpen D first).2.2] /\ DskH K' db (lOpen D first).2.1 h') \/
    (∃ L lb, (lOpen D first).1 = some L /\ v = .tuple #[.pointer (some ⟨lb, 0, none⟩), .int .i64 (lOpen D first).2.2] /\ LgH K' lb db L (lOpen D first).2.1 h'))) := by
 refine Ct.fix2 (openLC db D c oD hc hd first hfl aF cF xF) ?_
 rintro w v K' hs' hS ⟨le, ⟨h1, rfl, dh', rfl, hD⟩ | ⟨L, lb, m, h1, rfl, rfl, hm⟩⟩
 ·exact ⟨K', _, ⟨dh', rfl, le, .inl ⟨h1, rfl, hD⟩⟩, hS⟩
 ·obtain ⟨d, hS'⟩ := Sat.join m hS
  exact ⟨K', _, ⟨_, rfl, le, .inr ⟨L, lb, h1, rfl, m, rfl, d, hm⟩⟩, hS'⟩
end Go.Proofs.YtneeeblghijmgaaGreat
end
section
namespace Go.Proofs.YtneeeblghijmgaaGreat
open Go.En
attribute [local irreducible] Code.wp wpList Calls
theorem firstW {w0 : World} {K : PH} {hs : List PH} : Ct Tryz.prog w0 28 [] K hs (fun v K' hs' => Le K K' /\ hs' = hs /\ ∃ ao cap, v = .agg #[.slice ao 3 cap] /\ IsS K' ao 3 cap 1 (iv [0, 1, 2])) := by
 refine enter Tryz.func28 (by kernel_rfl) rfl rfl rfl ?_
 refine sq (rg ?_)
 refine al hT 0 (.agg #[.slice none 0 0]) rfl (by kernel_rfl) fun b0 => ?_
 refine fin hT 0 rfl (th (sq (rg ?_)))
 refine lit hT 0 #[.int .i64 0, .int .i64 1, .int .i64 2] rfl (by decide) (by kernel_rfl) fun b1 => ?_
 refine bd hT 0 (.agg #[.slice (some ⟨b1, 0, none⟩) 3 3]) rfl (fun w => by kernel_rfl) ?_
 refine stS hT 0 1 rfl rfl (by kernel_rfl) rfl rfl ?_
 refine fin hT 0 rfl (th (rt (WQ.frz fun K2 l1 l2 => ?_)))
 exact retcA 0 1 rfl rfl rfl (by kernel_rfl) ⟨l1, rfl, some ⟨b1, 0, none⟩, 3, rfl, (Own.ofPt (n := 3) (size := 1) rfl (by decide)).isS.le l2⟩
theorem lowW {w0 : World} {K : PH} {hs : List PH} (o : ROp) (k : Nat) (ho : o.bd k) (hk : k <= 1099511627) (d : AdO) (xo : OpS K o d) : Ct Tryz.prog w0 10 [.agg (opV o d)] K hs (fun v K' hs' => K' = K /\ hs' = hs /\ v = .bool o.low) := by
 have hol := ho.len
 refine enter Tryz.func10 (by kernel_rfl) rfl rfl rfl ?_
 refine sq (rg ?_)
 refine bx hT 0 rfl fun b1 => ?_
 refine WL.hs (pt b1 (opV o d) 34 :: hs) rfl ?_
 refine fin hT 1 rfl (th (sq (sq (rg ?_))))
 refine ldp hT 1 0 rfl rfl rfl ?_
 refine fin hT 2 rfl (th (bk ?_))
 refine loop (σ := Nat) (fun i => [(1, .pointer (some ⟨b1, 0, none⟩)), (6, .slice d.aX o.x.length d.cX), (7, .int .i64 ((o.x.length : Nat) : Int)), (8, .int .i64 ((i : Nat) : Int))]) (fun _ => K) (fun _ => pt b1 (opV o d) 34 :: hs) (fun i => i <= o.x.length /\ ∀ e ∈ o.x.take i, e.idx < lgTop) (fun i => o.x.length - i) 0 ⟨Nat.zero_le _, by simp⟩ ⟨rfl, rfl, rfl, rfl, trivial⟩ rfl rfl ?_
 rintro i ⟨hi, he⟩
 (try dsimp only at *)
 refine sq (rg ?_)
 refine cmpS hT 0 rfl fun b9 h9 => ?_
 refine fin hT 0 rfl (th (sq (ifP h9 rfl (fun e2 => ?_) (fun e2 => ?_))))
 ·have hi1 : i < o.x.length := by omega
  obtain ⟨p, hp⟩ : ∃ p, o.x[i]? = some p := ⟨_, List.getElem?_eq_getElem hi1⟩
  obtain ⟨a, ap, cp, ha, xp, hcp⟩ := entR_cells xo.1 hp
  obtain ⟨vs, hvs⟩ := xo.1.isS
  refine sk (th (sq (bk (sq (rg ?_)))))
  refine ixs hT 0 i rfl rfl hvs hi1 (by decide) fun a10 h10 => ?_
  rw [ha] at h10
  cases h10
  refine lds hT 0 (p.v ap cp).toList rfl (by kernel_rfl) (.inl rfl) hcp ?_
  refine al hT 0 (.agg #[.int .u64 0, .int .u64 0, .int .i64 0, .slice none 0 0]) rfl (by kernel_rfl) fun b4 => ?_
  refine stS hT 0 0 rfl rfl (by kernel_rfl) rfl rfl ?_
  refine WL.hs (pt b4 (p.v ap cp) 46 :: pt b1 (opV o d) 34 :: hs) rfl ?_
  refine fin hT 0 rfl (th (sq (rg ?_)))
  refine ldp hT 1 0 rfl rfl rfl ?_
  refine cmpS hT 0 rfl fun b14 h14 => ?_
  refine fin hT 0 rfl (th (ifP h14 rfl (fun e4 => ?_) (fun e4 => ?_)))
  ·refine sq (rg ?_)
   refine fin hT 1 rfl (th (rt (rB (rT (rT (rB (rT (WQ.drop (WQ.drop ?_)))))))))
   have hl : o.low = false := by
    cases hlow : o.low with
    | false => rfl
    | true =>
     have := (ROp.low_ok hlow).1 p (List.mem_of_getElem? hp)
     unfold lgTop at this
     omega
   exact ret1 rfl rfl ⟨rfl, rfl, by rw [hl]⟩
  ·refine sk (bl (th (rg ?_)))
   refine ar hT 0 rfl (i64w (by omega)) ?_
   refine fin hT 1 rfl (WQ.drop ?_)
   refine again (x := i) (i + 1) ⟨rfl, rfl, rfl, rfl, trivial⟩ rfl rfl ⟨by omega, ?_⟩ (by (try dsimp only); omega)
   rw [take_succ_get hp]
   intro e hm
   rcases List.mem_append.1 hm with hm | hm
   ·exact he e hm
   ·simp only [List.mem_singleton] at hm
    subst hm
    unfold lgTop
    omega
 ·obtain rfl : i = o.x.length := by omega
  rw [List.take_of_length_le (Nat.le_refl _)] at he
  refine ex (xt (xt (xb (th (sq (rg ?_))))))
  refine ldp hT 1 0 rfl rfl rfl ?_
  refine cmpS hT 1 rfl fun b19 h19 => ?_
  refine' bja (q := o.sn.data.length <= 4096) hT 1 6 26 [19, 20] h19 rfl rfl rfl rfl rfl rfl rfl (fun _ => ?x6) (fun b26 h26 => ?_)
  case x6 =>
   refine ldp hT 2 0 rfl rfl rfl ?_
   refine cmpS hT 1 rfl fun b25 h25 => ?_
   exact fin hT 1 rfl (bjx (h25.trans (by omega)) rfl rfl rfl)
  refine fin hT 1 rfl (th (rt (WQ.drop ?_)))
  have hl : b26 = o.low := by
   rw [Bool.eq_iff_iff, h26]
   unfold ROp.low
   simp only [Bool.and_eq_true, List.all_eq_true, decide_eq_true_eq]
   exact ⟨fun ⟨h1, h2⟩ => ⟨he, by omega, h2⟩, fun ⟨_, h1, h2⟩ => ⟨by omega, h2⟩⟩
  exact ret1 rfl rfl ⟨rfl, rfl, by rw [hl]⟩
theorem doesW {w0 : World} {K h : PH} {hs : List PH} (lb db : Nat) (L : Lg) (D : Dk) (c k : Nat) (hb : LBd c L) (hc : c <= 499900000) (oD : DOk c D) (hL : LgH K lb db L D h) (o : ROp) (ho : o.bd k) (hk : k <= 1099511627) (hl : o.x.length <= 100) (d : AdO) (xo : OpS K o d) :
  Ct Tryz.prog w0 20 [.pointer (some ⟨lb, 0, none⟩), .agg (opV o d)] K (h :: hs)
   (fun v K' hs' => ∃ h', hs' = h' :: hs /\ Le K K' /\ LgH K' lb db (L.doo D o).1 (L.doo D o).2.1 h' /\ v = .agg (ansV (L.doo D o).2.2)) := by
 have hsi := ho.si
 have hvl := ho.vl
 have hdl := ho.dl
 unfold mxU at hsi
 refine enter Tryz.func20 (by kernel_rfl) rfl rfl rfl ?_
 refine sq (rg ?_)
 refine bx hT 0 rfl fun b3 => ?_
 refine al hT 0 (.agg #[.int .u64 0, .bool false, .int .i64 0]) rfl (by kernel_rfl) fun b4 => ?_
 refine fin hT 0 rfl (th (sq (rg ?_)))
 refine al hT 0 (.agg #[.int .u64 0, .bool false, .int .i64 0]) rfl (by kernel_rfl) fun b5 => ?_
 refine WL.hs (pt b5 #[.int .u64 0, .bool false, .int .i64 0] 59 :: pt b4 #[.int .u64 0, .bool false, .int .i64 0] 59 :: pt b3 (opV o d) 34 :: h :: hs) rfl ?_
 refine fin hT 0 rfl (th (sq (sq (rg ?_))))
 refine ldp hT 1 2 rfl rfl rfl ?_
 refine fin hT 0 rfl (th (bk (sq (rg ?_))))
 refine cmpS hT 0 rfl fun b9 h9 => ?_
 refine fin hT 1 rfl (th (ifP h9 rfl (fun e2 => ?_) (fun e2 => ?_)))
 ·have hd : L.doo D o = ((L.setHard D o.ht o.hv).1, (L.setHard D o.ht o.hv).2.1, ⟨0, false, (L.setHard D o.ht o.hv).2.2⟩) := by unfold Lg.doo; rw [if_pos e2]
  rw [hd]
  refine rg ?_
  refine lds hT 2 [.int .u64 ((o.ht : Nat) : Int), .int .i64 o.hv] rfl (by kernel_rfl) (.inr ⟨2, rfl⟩) (cells_sub _ rfl) ?_
  refine cl hT 0 rfl (Ct.at 3 rfl (setHardH lb db L D c hb (by omega) oD hL o.ht o.hv ho.ht ho.hv)) ?_
  rintro v13 K13 hs13 ⟨h', rfl, le, hL', rfl⟩
  refine stp hT 1 0 rfl rfl rfl rfl ?_
  refine fin hT 0 rfl (bl (th (sq (rg ?_))))
  refine ldS hT 0 0 rfl rfl (by kernel_rfl) ?_
  refine stS hT 0 1 rfl rfl (by kernel_rfl) rfl rfl ?_
  refine fin hT 0 rfl (th (rt ?_))
  exact retcA 1 3 rfl rfl rfl (by kernel_rfl) ⟨h', rfl, le, hL', rfl⟩
 ·refine sq (rg ?_)
  refine cmpS hT 0 rfl fun b16 h16 => ?_
  refine fin hT 1 rfl (th (ifP h16 rfl (fun e4 => ?_) (fun e4 => ?_)))
  ·have hd : L.doo D o = ((L.append o.x D).1, (L.append o.x D).2.1, ⟨0, false, (L.append o.x D).2.2⟩) := by unfold Lg.doo; rw [if_neg e2, if_pos e4]
   rw [hd]
   refine rg ?_
   refine ldp hT 2 2 rfl rfl rfl ?_
   refine cl hT 0 rfl (Ct.at 3 rfl (appendH lb db L D c hb oD hL d.aX d.cX o.x xo.1 ho.ents (by omega))) ?_
   rintro v20 K20 hs20 ⟨h', rfl, le, hL', rfl⟩
   refine stp hT 1 0 rfl rfl rfl rfl ?_
   refine fin hT 0 rfl (bl (th (sq (rg ?_))))
   refine ldS hT 0 0 rfl rfl (by kernel_rfl) ?_
   refine stS hT 0 1 rfl rfl (by kernel_rfl) rfl rfl ?_
   refine fin hT 0 rfl (th (rt ?_))
   exact retcA 1 3 rfl rfl rfl (by kernel_rfl) ⟨h', rfl, le, hL', rfl⟩
  ·refine sq (rg ?_)
   refine cmpS hT 0 rfl fun b23 h23 => ?_
   refine fin hT 1 rfl (th (ifP h23 rfl (fun e6 => ?_) (fun e6 => ?_)))
   ·have hd : L.doo D o = ((L.merge o.idx o.term o.x D).1, (L.merge o.idx o.term o.x D).2.1, ⟨(L.merge o.idx o.term o.x D).2.2.1, (L.merge o.idx o.term o.x D).2.2.2.1, (L.merge o.idx o.term o.x D).2.2.2.2⟩) := by unfold Lg.doo; rw [if_neg e2, if_neg e4, if_pos e6]
    rw [hd]
    refine rg ?_
    refine ldp hT 2 2 rfl rfl rfl ?_
    refine ldp hT 1 2 rfl rfl rfl ?_
    refine ldp hT 1 2 rfl rfl rfl ?_
    refine cl hT 0 rfl (Ct.at 3 rfl (mergeH lb db L D c hb oD hL o.idx o.term ho.idx ho.term d.aX d.cX o.x xo.1 ho.ents (by omega))) ?_
    rintro v32 K32 hs32 ⟨h', rfl, le, hL', rfl⟩
    refine stp hT 5 0 rfl rfl rfl rfl ?_
    refine stp hT 1 0 rfl rfl rfl rfl ?_
    refine stp hT 1 0 rfl rfl rfl rfl ?_
    refine fin hT 0 rfl (bl (th (sq (rg ?_))))
    refine ldS hT 0 0 rfl rfl (by kernel_rfl) ?_
    refine stS hT 0 1 rfl rfl (by kernel_rfl) rfl rfl ?_
    refine fin hT 0 rfl (th (rt ?_))
    exact retcA 1 3 rfl rfl rfl (by kernel_rfl) ⟨h', rfl, le, hL', rfl⟩
   ·refine sq (rg ?_)
    refine cmpS hT 0 rfl fun b40 h40 => ?_
    refine fin hT 1 rfl (th (ifP h40 rfl (fun e8 => ?_) (fun e8 => ?_)))
    ·have hd : L.doo D o = ((L.sync D).1, (L.sync D).2.1, ⟨0, false, (L.sync D).2.2⟩) := by unfold Lg.doo; rw [if_neg e2, if_neg e4, if_neg e6, if_pos e8]
     rw [hd]
     refine rg ?_
     refine cl hT 1 rfl (Ct.at 3 rfl (syncH' lb db L D c hb (by omega) oD hL)) ?_
     rintro v42 K42 hs42 ⟨h', rfl, le, hL', rfl⟩
     refine stp hT 1 0 rfl rfl rfl rfl ?_
     refine fin hT 0 rfl (bl (th (sq (rg ?_))))
     refine ldS hT 0 0 rfl rfl (by kernel_rfl) ?_
     refine stS hT 0 1 rfl rfl (by kernel_rfl) rfl rfl ?_
     refine fin hT 0 rfl (th (rt ?_))
     exact retcA 1 3 rfl rfl rfl (by kernel_rfl) ⟨h', rfl, le, hL', rfl⟩
    ·refine sq (rg ?_)
     refine cmpS hT 0 rfl fun b45 h45 => ?_
     refine fin hT 1 rfl (th (ifP h45 rfl (fun e10 => ?_) (fun e10 => ?_)))
     ·have hd : L.doo D o = ((L.save o.sn D).1, (L.save o.sn D).2.1, ⟨0, false, (L.save o.sn D).2.2⟩) := by unfold Lg.doo; rw [if_neg e2, if_neg e4, if_neg e6, if_neg e8, if_pos e10]
      rw [hd]
      refine rg ?_
      refine lds hT 2 (snV o.sn d.aV d.cV d.aD d.cD).toList rfl (by kernel_rfl) (.inr ⟨2, rfl⟩) (cells_sub _ rfl) ?_
      refine cl hT 0 rfl (Ct.at 3 rfl (saveH lb db L D c hb hc oD hL o.sn (by omega) ho.st (by omega) (by omega) d.aV d.cV d.aD d.cD xo.2.1 xo.2.2)) ?_
      rintro v49 K49 hs49 ⟨h', rfl, le, hL', rfl⟩
      refine stp hT 1 0 rfl rfl rfl rfl ?_
      refine fin hT 0 rfl (bl (th (sq (rg ?_))))
      refine ldS hT 0 0 rfl rfl (by kernel_rfl) ?_
      refine stS hT 0 1 rfl rfl (by kernel_rfl) rfl rfl ?_
      refine fin hT 0 rfl (th (rt ?_))
      exact retcA 1 3 rfl rfl rfl (by kernel_rfl) ⟨h', rfl, le, hL', rfl⟩
     ·refine sq (rg ?_)
      refine cmpS hT 0 rfl fun b52 h52 => ?_
      refine fin hT 1 rfl (th (ifP h52 rfl (fun e12 => ?_) (fun e12 => ?_)))
      ·have hd : L.doo D o = ((L.install o.sn D).1, (L.install o.sn D).2.1, ⟨0, false, (L.install o.sn D).2.2⟩) := by unfold Lg.doo; rw [if_neg e2, if_neg e4, if_neg e6, if_neg e8, if_neg e10, if_pos e12]
       rw [hd]
       refine rg ?_
       refine lds hT 2 (snV o.sn d.aV d.cV d.aD d.cD).toList rfl (by kernel_rfl) (.inr ⟨2, rfl⟩) (cells_sub _ rfl) ?_
       refine cl hT 0 rfl (Ct.at 3 rfl (installH lb db L D c hb hc oD hL o.sn (by omega) ho.st (by omega) (by omega) d.aV d.cV d.aD d.cD xo.2.1 xo.2.2)) ?_
       rintro v56 K56 hs56 ⟨h', rfl, le, hL', rfl⟩
       refine stp hT 1 0 rfl rfl rfl rfl ?_
       refine fin hT 0 rfl (bl (th (sq (rg ?_))))
       refine ldS hT 0 0 rfl rfl (by kernel_rfl) ?_
       refine stS hT 0 1 rfl rfl (by kernel_rfl) rfl rfl ?_
       refine fin hT 0 rfl (th (rt ?_))
       exact retcA 1 3 rfl rfl rfl (by kernel_rfl) ⟨h', rfl, le, hL', rfl⟩
      ·have hd : L.doo D o = (L, D, ⟨0, false, 0⟩) := by unfold Lg.doo; rw [if_neg e2, if_neg e4, if_neg e6, if_neg e8, if_neg e10, if_neg e12]
       rw [hd]
       refine sk (bl (th (sq (rg ?_))))
       refine ldS hT 0 0 rfl rfl (by kernel_rfl) ?_
       refine stS hT 0 1 rfl rfl (by kernel_rfl) rfl rfl ?_
       refine fin hT 0 rfl (th (rt ?_))
       exact retcA 1 3 rfl rfl rfl (by kernel_rfl) ⟨h, rfl, Le.refl _, hL, rfl⟩
end Go.Proofs.YtneeeblghijmgaaGreat
end
section
namespace Go.En
theorem pick_bd {s : Slt} {r : Nat × List UInt8} (hs : s.bd) (hr : r.1 < 18446744073709551616 /\ r.2.length <= 48) : (s.pick r).bd := by
 unfold Slt.pick
 split
 ·exact hr
 ·exact hs
theorem sltOpen_bd {c : Nat} {D : Dk} (o : D.Ok c) (area : Nat) : (sltOpen D area).bd :=
 pick_bd (pick_bd ⟨Nat.zero_lt_succ _, Nat.zero_le _⟩ (sltRd_bd o area 0)) (sltRd_bd o area 1)
theorem rdE_ok : ∀ (r : List (List UInt8)) (i : Nat) (l : List Ent), rdE i r = some l -> l.length = r.length /\ ∀ e ∈ l, entG e
 | [], i, l, h => by
  cases h
  exact ⟨rfl, by simp⟩
 | b :: r, i, l, h => by
  rw [rdE_cons] at h
  cases hg : getEnt b with
  | none => rw [hg] at h; cases h
  | some e =>
   rw [hg] at h
   dsimp only at h
   split at h
   ·cases hr : rdE (i + 1) r with
    | none => rw [hr] at h; cases h
    | some q =>
     rw [hr] at h
     cases h
     obtain ⟨g1, g2⟩ := rdE_ok r (i + 1) q hr
     have h3 := putEnt_get hg
     refine ⟨by simp [g1], fun y hy => ?_⟩
     rcases List.mem_cons.1 hy with rfl | hy
     ·exact ⟨putEnt_ok.1 (by rw [h3.1]; rfl), h3.2⟩
     ·exact g2 y hy
   ·cases h
theorem wOpen_old {c : Nat} {D : Dk} (o : DOk c D) {fr first : Nat} {W : Wl} {E : Dk} (h : wOpen D fr first = (some W, E, 0)) : W.old.length <= D.areas.length := by
 unfold wOpen at h
 split at h
 ·cases h
 ·split at h
  ·cases h
  ·rename_i h1
   split at h
   ·cases h
   ·rename_i h2
    split at h
    ·cases h
    ·rename_i h3
     split at h
     ·cases h
     ·simp only [Prod.mk.injEq, Option.some.injEq] at h
      obtain ⟨rfl, _⟩ := h
      have h3 : (wscan D fr (wnums (areasL D)) (wl0 fr first (areasL D)) []).2.2 = true := by
       cases hh : (wscan D fr (wnums (areasL D)) (wl0 fr first (areasL D)) []).2.2 with
       | false => exact absurd hh h3
       | true => rfl
      have h0 : SInv D (wl0 fr first (areasL D)).next [] (wl0 fr first (areasL D)) := ⟨rfl, rfl, rfl, by simp [wl0], by simp [wl0]; omega, by simp [wl0], by simp [wl0], by simp [wl0]⟩
      have hS := (SInv.scan o.ok _ _ _ _ h0 h3).old
      rw [List.nil_append] at hS
      have hnl := wnums_len (areasL D)
      rw [areasL_length] at hnl
      exact Nat.le_trans hS hnl
theorem rk_wset1 (g : List Nat) (n : Nat) (D : Dk) : Rk 0 D (wset1 D g n).1 := by
 unfold wset1
 split
 ·exact (Rk.of D).free _
 ·exact (Rk.of D).sync _
theorem rk_settle (g : List Nat) : ∀ (l : List Nat) (D : Dk), Rk 0 D (wsettle g l D).1
 | [], D => Rk.of D
 | n :: r, D => by
  unfold Go.En.wsettle
  split
  ·exact (rk_wset1 g n D).trans (rk_settle g r _)
  ·exact rk_wset1 g n D
theorem rk_wOpen (D : Dk) (fr first : Nat) : Rk 0 D (wOpen D fr first).2.1 := by
 unfold wOpen
 split
 ·exact Rk.of D
 ·split
  ·exact Rk.of D
  ·split
   ·exact Rk.of D
   ·split
    ·exact Rk.of D
    ·split
     ·exact rk_settle _ _ _
     ·exact rk_settle _ _ _
theorem rk_lgFree (pl : Nat) : ∀ (l : List Int) (D : Dk), Rk 0 D (lgFree pl l D).1
 | [], D => Rk.of D
 | a :: r, D => by
  rw [lgFree_cons]
  split
  ·split
   ·exact (Rk.of D).free _
   ·exact ((Rk.of D).free _).trans (rk_lgFree pl r _)
  ·exact rk_lgFree pl r D
theorem rdHead_SBd {D : Dk} {S : Slt} {v : List Int} (hv : v.length <= 7) {p : Snp × Nat × Nat} (h : rdHead D S v = some p) : SBd p.1 /\ p.2.1 <= lgTop /\ p.2.2 <= lgTop := by
 unfold rdHead at h
 split at h
 ·cases h; exact ⟨⟨Nat.zero_le _, Nat.zero_le _, hv, Nat.zero_le _⟩, Nat.zero_le _, Nat.zero_le _⟩
 ·split at h
  ·cases h
  ·split at h
   ·cases h
   ·cases h
    refine ⟨⟨rUint_le _ _, rUint_le _ _, (getConf_mem _).1, ?_⟩, rUint_le _ _, rUint_le _ _⟩
    have : (hd4 S.val).1 <= 2097152 := rUint_le _ _
    dsimp only
    rw [List.length_take]
    omega
theorem Rn.opened {c q : Nat} {D : Dk} (o : DOk c D) (hq : D.areas.length <= q) {first : List Int} {L : Lg} (h : (lOpen D first).1 = some L) : Rn (c + 2 * q) q L (lOpen D first).2.1 /\ (lOpen D first).2.2 = 0 := by
 unfold lOpen at h ⊢
 split at h
 ·cases h
 ·rename_i hv
  have hv : (putConf first).isSome = true := by cases hh : (putConf first).isSome with | true => rfl | false => exact absurd hh hv
  rw [if_neg (by rw [hv]; simp)]
  split at h
  ·cases h
  ·rename_i hd
   rw [if_neg hd]
   cases hkh : rdHard (sltOpen D 0) with
   | none => rw [hkh] at h; cases h
   | some kh =>
    rw [hkh] at h
    dsimp only at h ⊢
    cases hhd : rdHead D (sltOpen D 4) first with
    | none => rw [hhd] at h; cases h
    | some p =>
     rw [hhd] at h
     dsimp only at h ⊢
     unfold lOpen2 at h ⊢
     split at h
     ·cases h
     ·rename_i hf
      rw [if_neg hf]
      have oF : DOk (c + q) (lgFree p.2.1 (areasL D) D).1 := (DOk.lgFree p.2.1 (areasL D) D c o).up (by rw [areasL_length]; omega)
      have hFq : (lgFree p.2.1 (areasL D) D).1.areas.length <= q := by have := (rk_lgFree p.2.1 (areasL D) D).len oF.ok; omega
      generalize (lgFree p.2.1 (areasL D) D).1 = F at h oF hFq ⊢
      unfold lOpen3 at h ⊢
      have hco := wOpen_code (D := F) (fr := p.2.2) (first := p.1.idx + 1)
      have hdo := oF.opened p.2.2 (p.1.idx + 1)
      have hrk := (rk_wOpen F p.2.2 (p.1.idx + 1)).len hdo.ok
      cases hw : (wOpen F p.2.2 (p.1.idx + 1)).1 with
      | none => rw [hw] at h; cases h
      | some W =>
       rw [hw] at h
       dsimp only at h ⊢
       have he : wOpen F p.2.2 (p.1.idx + 1) = (some W, (wOpen F p.2.2 (p.1.idx + 1)).2.1, 0) := by
        rw [<- hw, <- hco.2 W hw]
       have hb := WBd.opened oF he
       have hold := wOpen_old oF he
       cases hre : rdEnts p.1 W with
       | none => rw [hre] at h; cases h
       | some l =>
        rw [hre] at h
        dsimp only at h ⊢
        cases h
        have hS := rdHead_SBd (putConf_len hv) hhd
        have hw70 := hb.1.recs
        have hrd : l.length <= 70000000000 + (c + q) /\ ∀ e ∈ l, entG e := by
         unfold rdEnts at hre
         split at hre
         ·cases hre
         ·obtain ⟨g1, g2⟩ := rdE_ok _ _ _ hre
          rw [List.length_drop] at g1
          exact ⟨by omega, g2⟩
        have hkb : kh.1 <= mxU /\ -1 <= kh.2 /\ kh.2 <= 6 := by
         unfold rdHard at hkh
         split at hkh
         ·cases hkh; exact ⟨Nat.zero_le _, by decide, by decide⟩
         ·split at hkh
          ·cases hkh
           have h1 := rUint_le mxU ((sltOpen D 0).val, 0)
           have h2 := rUint_le 7 (rUint mxU ((sltOpen D 0).val, 0)).2
           exact ⟨h1, by dsimp only; omega, by dsimp only; omega⟩
          ·cases hkh
        refine ⟨⟨⟨hb.1.up (by omega), sltOpen_bd o.ok 0, sltOpen_bd o.ok 4, hkb.1, hkb.2, hS.1.idx, hS.1.term, hS.1.vot, hS.1.data, by have := hS.2.1; dsimp only; omega, by have := hS.2.2; unfold lgTop at this; unfold wMany; dsimp only; omega, by dsimp only; omega, hrd.2⟩, hdo.up (by omega), by dsimp only; omega, by omega⟩, rfl⟩
def alE : Ent := ⟨1, 1, 0, []⟩
def alive1 (L : Lg) (D : Dk) : (Lg × Dk × Int) × (Lg × Dk × Int) × (Lg × Dk × Int) :=
 let a := L.append [alE] D
 let b := a.1.setHard a.2.1 1 2
 (a, b, b.1.sync b.2.1)
end Go.En
namespace Go.Proofs.YtneeeblghijmgaaGreat
open Go.En
def aliveC : Bool :=
 match lOpen (dk0 1048576) [0, 1, 2] with
 | (
   some L, D, e) => decide (e = 0) && (decide ((alive1 L D).1.2.2 = 0) && (decide ((alive1 L D).2.1.2.2 = 0) && (decide ((alive1 L D).2.2.2.2 = 0) &&
  match lOpen (alive1 L D).2.2.2.1 [0, 1, 2] with
  | (some M, _, f) => decide (f = 0) && (decide (trm M.sn M.l 1 = (1, true)) && (decide (M.kt = 1) && decide (M.kv = 2)))
  | (none, _, _) => false)))
 | (none, _, _) => false
theorem aliveC_true : aliveC = true := by decide +kernel
theorem alive_facts : ∃ L D, lOpen (dk0 1048576) [0, 1, 2] = (some L, D, 0) /\ (L.append [alE] D).2.2 = 0 /\ ((L.append [alE] D).1.setHard (L.append [alE] D).2.1 1 2).2.2 = 0 /\
  (((L.append [alE] D).1.setHard (L.append [alE] D).2.1 1 2).1.sync ((L.append [alE] D).1.setHard (L.append [alE] D).2.1 1 2).2.1).2.2 = 0 /\
  ∃ M E, lOpen (((L.append [alE] D).1.setHard (L.append [alE] D).2.1 1 2).1.sync ((L.append [alE] D).1.setHard (L.append [alE] D).2.1 1 2).2.1).2.1 [0, 1, 2] = (some M, E, 0) /\ trm M.sn M.l 1 = (1, true) /\ M.kt = 1 /\ M.kv = 2 := by
 have h := aliveC_true
 unfold aliveC at h
 split at h
 ·rename_i L D e heq
  unfold alive1 at h
  simp only [Bool.and_eq_true, decide_eq_true_eq] at h
  obtain ⟨rfl, h2, h3, h4, h5⟩ := h
  refine ⟨L, D, heq, h2, h3, h4, ?_⟩
  split at h5
  ·rename_i M E f heq2
   simp only [Bool.and_eq_true, decide_eq_true_eq] at h5
   obtain ⟨rfl, g2, g3, g4⟩ := h5
   exact ⟨M, E, heq2, g2, g3, g4⟩
  ·cases h5
 ·cases h
end Go.Proofs.YtneeeblghijmgaaGreat
end
section
namespace Go.En
section deqs
variable {P : Program} {T : Tab} {w0 : World} {ops : Array Oper} {Q : Exit -> Act -> World -> Prop} {plan plan' : List Nat} {z : Nat} {listed listed' : Array Bool} {n : Nat} {l l' : Sl} {K K0 : PH} {hs A : List PH}
def desAt (T : Tab) (ops : Array Oper) (n z k : Nat) (plan : List Nat) (L : Array Bool) (l : Sl) : Option (Nat × Oper × Bool × Nat × Array Value × Array Value × List Nat × Array Bool × Sl) :=
 match dopAt T ops n z k plan L l with
 | some (d, o, r, L', l') => match o.op with
  | .binOp .eql t x y _ => match ev l' x, ev l' y with
   | some (.agg xs), some (.agg ys) => some (d, o, true, t, xs, ys, r, L', l')
   | _, _ => none
  | .binOp .neq t x y _ => match ev l' x, ev l' y with
   | some (.agg xs), some (.agg ys) => some (d, o, false, t, xs, ys, r, L', l')
   | _, _ => none
  | _ => none
 | none => none
theorem deqs (hT : TabOK P T) (hsel : Region.noSelect ops = true) (k : Nat) {d t : Nat} {o : Oper} {same b : Bool} {xs ys : Array Value} (h0 : desAt T ops n z k plan listed l = some (d, o, same, t, xs, ys, plan', listed', l')) (hg0 : P.eqGuardType P.depth t = false)
  (hr : ∀ w, (Op.equalIn 10000 t (.agg xs) (.agg ys)).run P w = .ok b w) (hk : WA P w0 ops Q K0 A z plan' listed' n ((d, .bool (b == same)) :: l') K hs) : WA P w0 ops Q K0 A z plan listed n l K hs := by
 unfold desAt at h0
 split at h0
 ·rename_i d' o' r L' l2 hh
  split at h0
  ·rename_i t' x y ty hop
   split at h0
   ·rename_i xs' ys' hx hy
    simp only [Option.some.injEq, Prod.mk.injEq] at h0
    obtain ⟨rfl, rfl, rfl, rfl, rfl, rfl, rfl, rfl, rfl⟩ := h0
    refine dop hT hsel k hh (fun a w ha => ?_) hk
    simp only [execOp, hop, ha.ev hx, ha.ev hy]
    simp [run_eqGuard_agg, hg0, run_eql_struct, hr]
   ·simp at h0
  ·rename_i t' x y ty hop
   split at h0
   ·rename_i xs' ys' hx hy
    simp only [Option.some.injEq, Prod.mk.injEq] at h0
    obtain ⟨rfl, rfl, rfl, rfl, rfl, rfl, rfl, rfl, rfl⟩ := h0
    refine dop hT hsel k hh (fun a w ha => ?_) hk
    simp only [execOp, hop, ha.ev hx, ha.ev hy]
    simp [run_eqGuard_agg, hg0, run_neq_struct, hr]
   ·simp at h0
  ·simp at h0
 ·simp at h0
end deqs
end Go.En
namespace Go.Proofs.YtneeeblghijmgaaGreat
open Go.En
attribute [local irreducible] Code.wp wpList Calls
theorem dk0_DOk {r : Int} (h : 0 <= r /\ r <= 1073741824) : DOk 0 (dk0 r) := ⟨dk0_ok ⟨h.1, by omega⟩, by simp [dk0], by simp [dk0], by simp [dk0, totA]; omega⟩
theorem lg_disk {w0 w : World} {K h : PH} {hs : List PH} {lb db : Nat} {L : Lg} {D : Dk} (s : Sat w0 w K (h :: hs)) (hL : LgH K lb db L D h) : ∃ dh, DskH K db D dh /\ Sat w0 w K (dh :: hs) := by
 obtain ⟨m, rfl, d, hm⟩ := hL
 obtain ⟨wb, hb', eb, aV, cV, aD, cD, aL, cL, wh, hh, eh, gl, dh, rfl, hW, hH, hE, hG, hD, xV, xD⟩ := hm
 have s2 := s.split d
 exact ⟨dh, hD, s2.dropHead.dropHead.dropHead.dropHead.dropHead⟩
theorem WL.lgd {P : Program} {w0 : World} {ops : Array Oper} {Q : Exit -> Act -> World -> Prop} {rest : List Oper} {n : Nat} {l : Sl} {K h : PH} {hs : List PH} {lb db : Nat} {L : Lg} {D : Dk} (hL : LgH K lb db L D h)
  (hk : ∀ dh, DskH K db D dh -> WL P w0 ops Q rest n l K (dh :: hs)) : WL P w0 ops Q rest n l K (h :: hs) := fun a w ha hw => let ⟨dh, h1, h2⟩ := lg_disk hw hL; hk dh h1 a w ha h2
theorem eqHard (k : Nat) (v : Int) (w : World) : (Op.equalIn 10000 25 (.agg #[.int .u64 ((k : Nat) : Int), .int .i64 v]) (.agg #[.int .u64 ((k : Nat) : Int), .int .i64 v])).run Tryz.prog w = .ok true w := by
 have u3 := Tryz.underlying3
 have a3 := Tryz.isAgg3
 have z3 := Tryz.sizeOf3
 have u4 := Tryz.underlying23
 have a4 := Tryz.isAgg23
 have z4 := Tryz.sizeOf23
 have hS : Tryz.prog.underlying 25 = some (.struct (Tryz.prog.fieldsOf 25)) := by kernel_rfl
 rw [show (10000 : Nat) = 9999 + 1 from rfl, run_equalIn_agg w 9999 25 _ _ hS (by kernel_rfl)]
 simp only [Program.fieldsOf, Tryz.underlying25]
 go_simp
theorem eqAns (a : Ans) (w : World) : (Op.equalIn 10000 59 (.agg (ansV a)) (.agg (ansV a))).run Tryz.prog w = .ok true w := by
 have u3 := Tryz.underlying42
 have a3 := Tryz.isAgg42
 have z3 := Tryz.sizeOf42
 have u4 := Tryz.underlying23
 have a4 := Tryz.isAgg23
 have z4 := Tryz.sizeOf23
 have u5 := Tryz.underlying4
 have a5 := Tryz.isAgg4
 have z5 := Tryz.sizeOf4
 have hS : Tryz.prog.underlying 59 = some (.struct (Tryz.prog.fieldsOf 59)) := by kernel_rfl
 unfold ansV
 rw [show (10000 : Nat) = 9999 + 1 from rfl, run_equalIn_agg w 9999 59 _ _ hS (by kernel_rfl)]
 simp only [Program.fieldsOf, Tryz.underlying59]
 go_simp
theorem aliveW {w0 : World} {K : PH} {hs : List PH} : Ct Tryz.prog w0 11 [] K hs (fun v K' hs' => K' = K /\ hs' = hs /\ v = .bool true) := by
 obtain ⟨L, D, hlo, hap, hsh, hsy, M, E, hlo2, htr, hkt, hkv⟩ := alive_facts
 have r1 := (Rn.opened (dk0_DOk (r := 1048576) (by omega)) (q := 0) (by simp [dk0]) (first := [0, 1, 2]) (L := L) (by rw [hlo])).1
 rw [hlo] at r1
 have hbE : ∀ e ∈ [alE], entB e := by simp [alE, entB, mxU]
 have r2 := r1.append [alE] (fun e he => ⟨(hbE e he).1, (hbE e he).2.1⟩) (by simp)
 have r3 := r2.setHard 1 2 (by decide)
 have r4 := r3.sync
 have r5 := (Rn.opened r4.ok r4.ar (first := [0, 1, 2]) (L := M) (by rw [hlo2])).1
 rw [hlo2] at r5
 simp only [List.length_cons, List.length_nil] at r2 r3 r4 r5
 generalize hA : L.append [alE] D = A at hap hsh hsy hlo2 r2 r3 r4 r5
 generalize hB : A.1.setHard A.2.1 1 2 = B at hsh hsy hlo2 r3 r4 r5
 generalize hC : B.1.sync B.2.1 = C at hsy hlo2 r4 r5
 refine Ct.fix2 (R := fun v K' hs' => Le K K' /\ (∃ t, hs' = t ++ hs) /\ v = .bool true) ?_ (fun w v K' hs' hS ⟨le, ⟨t, ht⟩, hv⟩ => ⟨K, hs, ⟨rfl, rfl, hv⟩, by
  subst ht
  have := (hS.weak le).dropN t.length
  simpa using this⟩)
 refine enter Tryz.func11 (by kernel_rfl) rfl rfl rfl ?_
 refine sq (rg ?_)
 refine fin hT 1 rfl (th (sq (rg ?_)))
 refine cl hT 0 rfl (newH 1048576 (by omega)) ?_
 rintro v11 K11 hs11 ⟨rfl, db, dh, rfl, hD, rfl⟩
 refine fin hT 1 rfl (th (sq (sq (rg ?_))))
 refine fin hT 2 rfl (th (ifF rfl ?_))
 refine sk (th (sq (rg ?_)))
 refine cl hT 1 rfl firstW ?_
 rintro v16 K16 hs16 ⟨le1, rfl, ao, cap, rfl, x1⟩
 refine cl hT 0 rfl (openH db (dk0 1048576) 0 (dk0_DOk (by omega)) (by omega) (hD.le le1) [0, 1, 2] (by simp) ao cap x1) ?_
 rintro v17 K17 hs17 ⟨h', rfl, le2, hX⟩
 rw [hlo] at hX
 rcases hX with ⟨hn, _⟩ | ⟨L', lb, hL', rfl, hL⟩
 ·cases hn
 cases hL'
 refine fin hT 5 rfl (th (sq (sq (rg ?_))))
 refine cmpS hT 1 rfl fun b21 h21 => ?_
 refine' bjo (q := False) hT 1 3 25 [21, 22] h21 rfl rfl rfl rfl rfl rfl rfl (fun _ => ?x4) (fun b25 h25 => ?_)
 case x4 => exact fin hT 3 rfl (bjx (show false = true ↔ False by simp) rfl rfl rfl)
 refine fin hT 0 rfl (th (ifP h25 rfl (fun e6 => absurd e6 (by simp)) (fun _ => ?_)))
 refine sk (th (sq (rg ?_)))
 refine bd hT 1 (.agg (alE.v none 0)) rfl (fun w => by kernel_rfl) ?_
 refine lit hT 0 (alE.v none 0) rfl (by decide) (by kernel_rfl) fun b28 => ?_
 refine WL.frz fun K2 l1 l2 => ?_
 have xs : SlS 4 (EntC K2) K2 (some ⟨b28, 0, none⟩) [alE].length 1 [alE] := ⟨[(alE.v none 0).toList], rfl, by
  have := (Own.ofPt (b := b28) (c := alE.v none 0) (e := 46) (n := 1) (size := 4) rfl (by decide)).isS.le l2
  simpa using this, ⟨⟨none, 0, rfl, IsS.nil _ _ _ _⟩, trivial⟩, by simp [Ent.v]⟩
 refine cl hT 0 rfl (appendH lb db L D 0 (r1.lb) r1.ok (hL.le l1) (some ⟨b28, 0, none⟩) 1 [alE] xs hbE (by simp)) ?_
 rintro v29 K29 hs29 ⟨h2, rfl, le3, hL2, rfl⟩
 rw [hA] at hL2 ⊢
 rw [hap]
 refine fin hT 1 rfl (th (sq (rg ?_)))
 refine bd hT 1 (.agg #[.int .u64 1, .int .i64 2]) rfl (fun w => by kernel_rfl) ?_
 refine cl hT 0 rfl (setHardH lb db A.1 A.2.1 _ r2.lb (by omega) r2.ok hL2 1 2 (by decide) (by decide)) ?_
 rintro v32 K32 hs32 ⟨h3, rfl, le4, hL3, rfl⟩
 rw [hB] at hL3 ⊢
 rw [hsh]
 refine fin hT 1 rfl (th (sq (rg ?_)))
 refine cl hT 1 rfl (syncH' lb db B.1 B.2.1 _ r3.lb (by omega) r3.ok hL3) ?_
 rintro v34 K34 hs34 ⟨h4, rfl, le5, hL4, rfl⟩
 rw [hC] at hL4 ⊢
 rw [hsy]
 refine fin hT 1 rfl (th (sq (rg (WL.lgd hL4 fun dh2 hD2 => ?_))))
 refine cl hT 1 rfl firstW ?_
 rintro v37 K37 hs37 ⟨le6, rfl, ao2, cap2, rfl, x2⟩
 refine cl hT 0 rfl (openH db C.2.1 _ r4.ok (by omega) (hD2.le le6) [0, 1, 2] (by simp) ao2 cap2 x2) ?_
 rintro v38 K38 hs38 ⟨h5, rfl, le7, hX⟩
 rw [hlo2] at hX
 rcases hX with ⟨hn, _⟩ | ⟨L', lb2, hL', rfl, hL5⟩
 ·cases hn
 cases hL'
 refine fin hT 5 rfl (th (sq (sq (rg ?_))))
 refine cmpS hT 1 rfl fun b42 h42 => ?_
 refine' bjo (q := False) hT 1 3 46 [42, 43] h42 rfl rfl rfl rfl rfl rfl rfl (fun _ => ?x8) (fun b46 h46 => ?_)
 case x8 => exact fin hT 3 rfl (bjx (show false = true ↔ False by simp) rfl rfl rfl)
 refine fin hT 0 rfl (th (ifP h46 rfl (fun e10 => absurd e10 (by simp)) (fun _ => ?_)))
 refine sk (th (sq (rg ?_)))
 refine cl hT 1 rfl (termH lb2 db M E _ r5.lb (by omega) hL5 1 (by omega)) ?_
 rintro v49 K49 hs49 ⟨rfl, rfl, rfl⟩
 rw [htr]
 refine fin hT 5 rfl (th (sq (rg ?_)))
 refine cmpS hT 1 rfl fun b53 h53 => ?_
 refine' bja (q := True) hT 1 3 57 [53, 54] h53 rfl rfl rfl rfl rfl rfl rfl (fun _ => ?x12) (fun b57 h57 => ?_)
 case x12 =>
  refine cmpS hT 1 rfl fun b56 h56 => ?_
  exact fin hT 1 rfl (bjx (h56.trans (by simp)) rfl rfl rfl)
 refine' bja (q := True) hT 1 3 61 [57, 58] h57 rfl rfl rfl rfl rfl rfl rfl (fun _ => ?x14) (fun b61 h61 => ?_)
 case x14 =>
  refine cmpS hT 1 rfl fun b60 h60 => ?_
  exact fin hT 1 rfl (bjx (h60.trans (by simp)) rfl rfl rfl)
 refine' bja (q := True) hT 1 2 64 [61, 62] h61 rfl rfl rfl rfl rfl rfl rfl (fun _ => ?x16) (fun b64 h64 => ?_)
 case x16 => exact fin hT 2 rfl (bjx (show true = true ↔ True by simp) rfl rfl rfl)
 refine' bja (q := True) hT 1 3 68 [64, 65] h64 rfl rfl rfl rfl rfl rfl rfl (fun _ => ?x17) (fun b68 h68 => ?_)
 case x17 =>
  refine cmpS hT 1 rfl fun b67 h67 => ?_
  exact fin hT 1 rfl (bjx (h67.trans (by simp)) rfl rfl rfl)
 refine' bja (q := True) hT 1 5 74 [68, 69] h68 rfl rfl rfl rfl rfl rfl rfl (fun _ => ?x19) (fun b74 h74 => ?_)
 case x19 =>
  refine cl hT 1 rfl (hardH lb2 db M E hL5) ?_
  rintro v71 K71 hs71 ⟨rfl, rfl, rfl⟩
  rw [hkt, hkv]
  refine bd hT 0 (.agg #[.int .u64 1, .int .i64 2]) rfl (fun w => by kernel_rfl) ?_
  refine eqs hT 0 rfl (by kernel_rfl) (fun w => eqHard 1 2 w) ?_
  exact fin hT 1 rfl (bjx (show (true == true) = true ↔ True by simp) rfl rfl rfl)
 refine fin hT 1 rfl (th (rt ?_))
 have e74 : b74 = true := h74.2 (by simp)
 subst e74
 exact ret1 rfl rfl ⟨(le1.trans le2).trans ((l1.trans le3).trans ((le4.trans le5).trans (le6.trans le7))), ⟨[_], rfl⟩, rfl⟩
end Go.Proofs.YtneeeblghijmgaaGreat
end
section
namespace Go.En
def lastT (t : Nat) (a : List Ent) : Nat := ((a.getLast?).map Ent.term).getD t
theorem lastT_cons (t : Nat) (e : Ent) (a : List Ent) : lastT t (e :: a) = lastT e.term a := by
 unfold lastT
 cases a with
 | nil => rfl
 | cons b r => rw [List.getLast?_cons_cons]; cases h : (b :: r).getLast? with
  | none => simp at h
  | some x => rfl
theorem folR_app : ∀ (a b : List Ent) (i t : Nat), folR i t (a ++ b) = 0 ↔ folR i t a = 0 /\ folR (i + a.length) (lastT t a) b = 0
 | [], b, i, t => by simp [lastT, folR]
 | e :: a, b, i, t => by
  rw [List.cons_append, folR_cons, folR_cons]
  by_cases h : e.idx ≠ i + 1 \/ e.term < t
  ·rw [if_pos h, if_pos h]; simp
  ·rw [if_neg h, if_neg h, folR_app a b e.idx e.term, lastT_cons, List.length_cons, show e.idx + a.length = i + (a.length + 1) by omega]
theorem trm_lastT {s : Snp} {l : List Ent} {k : Nat} (h : k <= l.length) : trm s l (s.idx + k) = (lastT s.term (l.take k), true) := by
 unfold trm
 cases k with
 | zero => rw [if_pos (by omega)]; rfl
 | succ k =>
  rw [if_neg (by omega), if_neg (by omega)]
  have hk : k < l.length := by omega
  have h2 : l.take (k + 1) = l.take k ++ [l[k]] := by rw [List.take_add_one, List.getElem?_eq_getElem hk]; rfl
  unfold lastT
  rw [show s.idx + (k + 1) - s.idx - 1 = k by omega, h2, List.getElem?_eq_getElem hk, List.getLast?_append]
  rfl
theorem folR_take {i t : Nat} {l : List Ent} (h : folR i t l = 0) (k : Nat) : folR i t (l.take k) = 0 := by
 rw [<- List.take_append_drop k l] at h
 exact ((folR_app _ _ _ _).1 h).1
theorem folR_drop2 {i t : Nat} {l : List Ent} (h : folR i t l = 0) {k : Nat} (hk : k <= l.length) : folR (i + k) (lastT t (l.take k)) (l.drop k) = 0 := by
 rw [<- List.take_append_drop k l] at h
 have := ((folR_app _ _ _ _).1 h).2
 rwa [List.length_take, Nat.min_eq_left hk] at this
def Rl.wf (r : Rl) : Prop := folR r.sn.idx r.sn.term r.l = 0
theorem Rl.wf.idx {r : Rl} (h : r.wf) {j : Nat} {e : Ent} (he : r.l[j]? = some e) : e.idx = r.sn.idx + j + 1 := folR_idx r.l _ _ h j e he
theorem Rl.wf.setHard {r : Rl} (h : r.wf) (t : Nat) (v : Int) : (r.setHard t v).1.wf := by
 unfold Rl.setHard
 split
 ·exact h
 ·split
  ·exact h
  ·exact h
theorem Rl.wf.append {r : Rl} (h : r.wf) (x : List Ent) : (r.append x).1.wf := by
 unfold Rl.append
 split
 ·exact h
 ·rename_i hf
  have hf := fol_folR (Decidable.not_not.1 hf)
  show folR r.sn.idx r.sn.term (r.l ++ x) = 0
  rw [folR_app]
  rw [trm_lastT (Nat.le_refl _), List.take_length] at hf
  exact ⟨h, hf⟩
theorem Rl.wf.merge1 {r : Rl} (h : r.wf) {i t : Nat} (hi : r.sn.idx <= i) {x : List Ent} (hf : folR i t x = 0) (last : Nat) : (r.merge1 i t x last).1.wf := by
 unfold Rl.merge1
 split
 ·exact h
 ·rename_i hc
  have hc := not_or.1 hc
  have ht : trm r.sn r.l i = (t, true) := Prod.ext (Decidable.not_not.1 hc.2) (by simpa using hc.1)
  obtain ⟨⟨y, B⟩, hy⟩ : ∃ p, skp r.sn r.l x true = p := ⟨_, rfl⟩
  cases y with
  | nil => rw [rmerge2_nil hy]; exact h
  | cons e q =>
   rw [rmerge2_cons hy]
   obtain ⟨u, g1, g2, g3, _⟩ := skp_at r.sn r.l x i t true hf ht e q B hy
   have g5 := trm_true (s := r.sn) (l := r.l) (i := e.idx - 1) (by rw [g2])
   show folR r.sn.idx r.sn.term (r.l.take (e.idx - r.sn.idx - 1) ++ (e :: q)) = 0
   rw [folR_app]
   refine ⟨folR_take h _, ?_⟩
   have hl := trm_lastT (s := r.sn) (l := r.l) (k := e.idx - r.sn.idx - 1) (by omega)
   rw [show r.sn.idx + (e.idx - r.sn.idx - 1) = e.idx - 1 by omega, g2] at hl
   rw [List.length_take, Nat.min_eq_left (by omega), show r.sn.idx + (e.idx - r.sn.idx - 1) = e.idx - 1 by omega, <- (Prod.mk.inj hl).1]
   exact g3
theorem Rl.wf.merge {r : Rl} (h : r.wf) (i t : Nat) (x : List Ent) : (r.merge i t x).1.wf := by
 unfold Rl.merge
 split
 ·exact h
 ·rename_i hf
  have hf := fol_folR (Decidable.not_not.1 hf)
  split
  ·split
   ·exact h
   ·split
    ·exact h
    ·rename_i h2
     refine h.merge1 (Nat.le_refl _) ?_ _
     cases hd : x.drop (r.sn.idx - i) with
     | nil => rfl
     | cons e q =>
      have h3 := folR_drop x i t _ e q hf hd
      rw [hd] at h2
      simp at h2
      rw [folR_cons, if_neg (by omega)]
      exact h3.2
  ·exact h.merge1 (by omega) hf _
theorem Rl.wf.save {r : Rl} (h : r.wf) (s : Snp) : (r.save s).1.wf := by
 unfold Rl.save
 split
 ·exact h
 ·rename_i hf
  obtain ⟨_, _, hlt, _⟩ := rfits_ok (Decidable.not_not.1 hf)
  split
  ·exact h
  ·rename_i hh
   have hh : lgHas r.sn r.l s = true := by simpa using hh
   have hle := lgHas_true hh hlt
   show folR s.idx s.term (r.l.drop (s.idx - r.sn.idx)) = 0
   have := folR_drop2 h (k := s.idx - r.sn.idx) (by omega)
   have hl := trm_lastT (s := r.sn) (l := r.l) (k := s.idx - r.sn.idx) (by omega)
   rw [show r.sn.idx + (s.idx - r.sn.idx) = s.idx by omega] at this hl
   have ht : (trm r.sn r.l s.idx).1 = s.term := by
    unfold lgHas at hh
    simp only [Bool.and_eq_true, decide_eq_true_eq] at hh
    exact hh.2
   rw [hl] at ht
   rwa [show lastT r.sn.term (r.l.take (s.idx - r.sn.idx)) = s.term from ht] at this
theorem Rl.wf.install {r : Rl} (h : r.wf) (s : Snp) : (r.install s).1.wf := by
 unfold Rl.install
 split
 ·exact h
 ·split
  ·exact h.save s
  ·exact rfl
theorem Rl.wf.doo {r : Rl} (h : r.wf) (o : ROp) : (r.doo o).1.wf := by
 unfold Rl.doo
 split
 ·exact h.setHard _ _
 ·split
  ·exact h.append _
  ·split
   ·exact h.merge _ _ _
   ·split
    ·exact h.save _
    ·split
     ·exact h.install _
     ·exact h
end Go.En
end
section
namespace Go.En
section
variable {P : Program} {w0 : World} {fn : Func} {R : Value -> PH -> List PH -> Prop} {n : Nat} {l : Sl} {K : PH} {hs : List PH}
theorem rettct (i m : Nat) {t ty u p b ty' : Nat} {x y : Value} {c : Array Value} {fr : Nat × Nat} (hr : fn.results = #[.tmp u, .cell t ty, .tmp p]) (hv : look l t = some (.pointer (some ⟨b, 0, none⟩))) (hx : look l u = some x) (hy : look l p = some y) (hi : hs[i]? = some (pt b c ty' fr)) (hm : aggOK P ty c.size = true)
  (hk : R (.tuple #[x, .agg c, y]) K (hs.drop m)) : WQ w0 (bodyPost P fn (endR w0 R)) .ret n l K hs :=
 fun _ w ha hw => bodyPost_ret (v := .tuple #[x, .agg c, y]) (by
  have h2 := run_loadVarS (P := P) (w := w) (t := ty) (a := ⟨b, 0, none⟩) (cs := c.toList) (by simpa using hm) rfl (fun j v hv => hw.cell (.inr ⟨i, hi⟩) (cells_pt c.toList (fun j v h => by simpa using h) j v hv))
  have e : c.toList.toArray = c := by simp
  rw [e] at h2
  simp [results, hr, ha.slot t _ hv, ha.slot u x hx, ha.slot p y hy, asAddr, h2]) ha.defers ⟨_, _, _, rfl, hk, hw.dropN m⟩
end
structure BgI (k : Nat) (L : Lg) (D : Dk) : Prop where
 sim : Sim k (101 * k) L
 liv : Liv (16777216 - 1300 * k) D
 rn : Rn (32303 * k) (103 * k) L D
 len : L.l.length <= 100 * k
 wf : L.rl.wf
theorem BgI.doo {k n : Nat} {L : Lg} {D : Dk} (o : BgI k L D) (hk : k <= 301) (p : ROp) (hp : p.bd n) (hl : p.low = true) : BgI (k + 1) (L.doo D p).1 (L.doo D p).2.1 /\ (L.doo D p).2.2 = (L.rl.doo p).2 /\ (L.doo D p).1.rl = (L.rl.doo p).1 := by
 have hlen := o.len
 have h1 := o.sim.doo (n := 16777216 - 1300 * (k + 1)) p hp hl (o.liv.mono (by omega)) (by omega) (by omega) o.rn.lb.idx (by omega)
 have h2 := o.rn.doo p hp hl (by omega)
 have h3 := Rl.doo_len L.rl p
 have h4 := (ROp.low_ok hl).2.1
 refine ⟨⟨h1.2.2.1.up (by omega) (by omega), h1.2.1, h2.up (by omega) (by omega), ?_, by rw [h1.2.2.2]; exact o.wf.doo p⟩, h1.1, h1.2.2.2⟩
 have h5 : (L.doo D p).1.l = (L.rl.doo p).1.l := congrArg Rl.l h1.2.2.2
 have h6 : L.rl.l = L.l := rfl
 rw [h5]
 rw [h6] at h3
 omega
theorem BgI.rbd {k : Nat} {L : Lg} {D : Dk} (o : BgI k L D) : RBd (100 * k) L.rl := ⟨o.rn.lb.kt, o.rn.lb.idx, o.rn.lb.st, o.rn.lb.vot, o.rn.lb.data, o.len, o.rn.lb.ents⟩
def Bg (n : Nat) (L : Lg) (D : Dk) : Prop := ∃ k, k <= n /\ k <= 301 /\ BgI k L D
end Go.En
namespace Go.Proofs.YtneeeblghijmgaaGreat
open Go.En
attribute [local irreducible] Code.wp wpList Calls
def lg0 : Lg := ⟨⟨none, 1, [], [], 0, 0⟩, ⟨0, []⟩, ⟨0, []⟩, 0, -1, ⟨0, 0, [0, 1, 2], []⟩, 0, 0, [], 0⟩
theorem open0 : lOpen (dk0 16777216) [0, 1, 2] = (some lg0, dk0 16777216, 0) := by kernel_rfl
theorem bg0 : BgI 0 lg0 (dk0 16777216) := by
 have r := (Rn.opened (dk0_DOk (r := 16777216) (by omega)) (q := 0) (by simp [dk0]) (first := [0, 1, 2]) (L := lg0) (by rw [open0])).1
 rw [open0] at r
 exact ⟨⟨rfl, ⟨rfl, fun o h => by cases h⟩, Nat.le_refl _, Nat.le_refl _, Nat.le_refl _, Nat.le_refl _, Nat.le_refl _, rfl, rfl⟩, ⟨rfl, rfl, by simp [dk0]⟩, r, Nat.le_refl _, rfl⟩
def OpC (K : PH) (cs : List Value) (o : ROp) : Prop := ∃ d, cs = (opV o d).toList /\ OpS K o d
theorem OpC.le {K K' : PH} (l : Le K K') {cs : List Value} {o : ROp} (h : OpC K cs o) : OpC K' cs o := let ⟨d, h1, h2⟩ := h; ⟨d, h1, h2.le l⟩
theorem op_cells {K : PH} {ao : Option Addr} {cap : Nat} {ops : List ROp} (hG : SlS 10 (OpC K) K ao ops.length cap ops) {k : Nat} {o : ROp} (hk : ops[k]? = some o) :
  ∃ a d, ao = some a /\ OpS K o d /\ ∀ (j : Nat) v, (opV o d).toList[j]? = some v -> Cell K ((a.add (k * 10)).add j) v := by
 have hkl : k < ops.length := (List.getElem?_eq_some_iff.1 hk).1
 obtain ⟨a, rfl⟩ := hG.addr (by omega) (by decide)
 obtain ⟨c, ⟨d, rfl, x⟩, _, hc⟩ := hG.cells hk
 exact ⟨a, d, rfl, x, hc⟩
structure BgS where
 i : Nat
 K : PH
 h : PH
 L : Lg
 D : Dk
 d : AdL
abbrev rlA (r : Rl) (d : AdL) : Array Value := rlV r d.aV d.cV d.aD d.cD d.aL d.cL
theorem begunW {w0 : World} {K : PH} {hs : List PH} (ao : Option Addr) (cap : Nat) (ops : List ROp) (xs : SlS 10 (OpC K) K ao ops.length cap ops) (hb : ∀ o ∈ ops, o.bd 1048576) (hn : ops.length < 1099511627776) :
  Ct Tryz.prog w0 9 [.slice ao ops.length cap] K hs
   (fun v K' hs' => ∃ L D lb db h v1, hs' = h :: hs /\ Le K K' /\ LgH K' lb db L D h /\ Bg ops.length L D /\ RlS K' L.rl v1 /\ v = .tuple #[.pointer (some ⟨lb, 0, none⟩), v1, .bool true]) := by
 refine enter Tryz.func9 (by kernel_rfl) rfl rfl rfl ?_
 refine sq (rg ?_)
 refine al hT 1 (.agg #[.int .u64 0, .int .i64 0, .int .u64 0, .int .u64 0, .slice none 0 0, .slice none 0 0, .slice none 0 0]) rfl (by kernel_rfl) fun b3 => ?_
 refine fin hT 1 rfl (th (sq (rg ?_)))
 refine cl hT 0 rfl (newH 16777216 (by omega)) ?_
 rintro v13 K hs13 ⟨rfl, db, dh, rfl, hD, rfl⟩
 refine fin hT 1 rfl (th (sq (rg ?_)))
 refine cl hT 0 rfl firstW ?_
 rintro v14 K14 hs14 ⟨le1, rfl, ao1, cap1, rfl, x1⟩
 refine cl hT 0 rfl (newRC ao1 cap1 [0, 1, 2] x1) ?_
 rintro v15 K14 hs15 ⟨rfl, rfl, hR⟩
 obtain ⟨d0, rfl, hR⟩ := hR.ad
 refine al hT 0 (.agg #[.int .u64 0, .int .i64 0, .int .u64 0, .int .u64 0, .slice none 0 0, .slice none 0 0, .slice none 0 0]) rfl (by kernel_rfl) fun b6 => ?_
 refine stS hT 0 0 rfl rfl (by kernel_rfl) rfl rfl ?_
 refine WL.hs (pt b6 (rlA lg0.rl d0) 37 :: dh :: pt b3 z7 37 :: hs) rfl ?_
 refine fin hT 0 rfl (th (sq (sq (rg ?_))))
 refine fin hT 2 rfl (th (ifF rfl ?_))
 refine sk (th (sq (rg ?_)))
 refine cl hT 1 rfl firstW ?_
 rintro v21 K21 hs21 ⟨le2, rfl, ao2, cap2, rfl, x2⟩
 refine cl hT 0 rfl (Ct.at 1 rfl (openH db (dk0 16777216) 0 (dk0_DOk (by omega)) (by omega) (hD.le (le1.trans le2)) [0, 1, 2] (by simp) ao2 cap2 x2)) ?_
 rintro v22 K22 hs22 ⟨h, rfl, le3, hX⟩
 rw [open0] at hX
 rcases hX with ⟨hn', _⟩ | ⟨L', lb, hL', rfl, hL⟩
 ·cases hn'
 cases hL'
 refine fin hT 5 rfl (th (sq (sq (rg ?_))))
 refine cmpS hT 1 rfl fun b26 h26 => ?_
 refine' bjo (q := False) hT 1 3 30 [26, 27] h26 rfl rfl rfl rfl rfl rfl rfl (fun _ => ?x4) (fun b30 h30 => ?_)
 case x4 => exact fin hT 3 rfl (bjx (show false = true ↔ False by simp) rfl rfl rfl)
 refine fin hT 0 rfl (th (ifP h30 rfl (fun e6 => absurd e6 (by simp)) (fun _ => ?_)))
 refine sk (th (sq (sq (rg ?_))))
 refine fin hT 3 rfl (th (bk ?_))
 have leK : Le K K22 := (le1.trans le2).trans le3
 refine loop (σ := BgS) (fun s => [(3, .pointer (some ⟨b3, 0, none⟩)), (6, .pointer (some ⟨b6, 0, none⟩)), (7, .pointer (some ⟨lb, 0, none⟩)), (32, .slice ao ops.length cap), (33, .int .i64 ((ops.length : Nat) : Int)), (34, .int .i64 ((s.i : Nat) : Int))]) (fun s => s.K)
  (fun s => pt b6 (rlA s.L.rl s.d) 37 :: s.h :: pt b3 z7 37 :: hs)
  (fun s => s.i <= ops.length /\ Le K s.K /\ LgH s.K lb db s.L s.D s.h /\ BgI (min s.i 301) s.L s.D /\ RlS s.K s.L.rl (.agg (rlA s.L.rl s.d))) (fun s => ops.length - s.i) ⟨0, _, h, lg0, dk0 16777216, d0⟩
  ⟨Nat.zero_le _, leK, hL, bg0, hR.le (le2.trans le3)⟩ ⟨rfl, rfl, rfl, rfl, rfl, rfl, trivial⟩ rfl rfl ?_
 rintro ⟨i, K1, h1, L, D, d⟩ ⟨hi, le, hL, hB, hR⟩
 dsimp only at *
 refine sq (rg ?_)
 refine cmpS hT 0 rfl fun b35 h35 => ?_
 refine fin hT 0 rfl (th (sq (ifP h35 rfl (fun e8 => ?_) (fun e8 => ?_))))
 ·have hi1 : i < ops.length := by omega
  obtain ⟨o, ho⟩ : ∃ o, ops[i]? = some o := ⟨_, List.getElem?_eq_getElem hi1⟩
  have hbo := hb o (List.mem_of_getElem? ho)
  have xs1 : SlS 10 (OpC K1) K1 ao ops.length cap ops := xs.le le fun _ _ h => h.le le
  obtain ⟨a, dO, rfl, xo, hco⟩ := op_cells xs1 ho
  obtain ⟨vs, hvs⟩ := xs1.isS
  refine sk (th (sq (bk (sq (rg ?_)))))
  refine ixs hT 1 i rfl rfl hvs hi1 (by decide) fun a37 h37 => ?_
  cases h37
  refine lds hT 0 (opV o dO).toList rfl (by kernel_rfl) (.inl rfl) hco ?_
  refine al hT 0 (.agg #[.int .i64 0, .int .u64 0, .int .i64 0, .int .u64 0, .int .u64 0, .slice none 0 0, .int .u64 0, .int .u64 0, .slice none 0 0, .slice none 0 0]) rfl (by kernel_rfl) fun b10 => ?_
  refine stS hT 1 0 rfl rfl (by kernel_rfl) rfl rfl ?_
  refine WL.hs (pt b10 (opV o dO) 34 :: pt b6 (rlA L.rl d) 37 :: h1 :: pt b3 z7 37 :: hs) rfl ?_
  refine fin hT 0 rfl (th (sq (sq (rg ?_))))
  refine ldS hT 0 0 rfl rfl (by kernel_rfl) ?_
  refine cl hT 0 rfl (lowW o 1048576 hbo (by omega) dO xo) ?_
  rintro v40 K1 hs40 ⟨rfl, rfl, rfl⟩
  refine cbS hT 0 (¬ o.low = true) rfl (by cases o.low <;> simp) fun b41 h41 => ?_
  refine' bjo (q := o.kind = 6) hT 1 4 46 [41, 42] h41 rfl rfl rfl rfl rfl rfl rfl (fun _ => ?x9) (fun b46 h46 => ?_)
  case x9 =>
   refine ldp hT 1 0 rfl rfl rfl ?_
   refine cmpS hT 0 rfl fun b45 h45 => ?_
   exact fin hT 1 rfl (bjx h45 rfl rfl rfl)
  refine' bjo (q := 300 < i) hT 1 3 50 [46, 47] h46 rfl rfl rfl rfl rfl rfl rfl (fun _ => ?x11) (fun b50 h50 => ?_)
  case x11 =>
   refine cmpS hT 1 rfl fun b49 h49 => ?_
   exact fin hT 1 rfl (bjx (h49.trans (by omega)) rfl rfl rfl)
  refine fin hT 0 rfl (th (ifP h50 rfl (fun e13 => ?_) (fun e13 => ?_)))
  ·refine ex (xt (xb (th (rg ?_))))
   refine ar hT 0 rfl (i64w (by omega)) ?_
   refine fin hT 1 rfl (WQ.drop ?_)
   refine again (x := (⟨i, K1, h1, L, D, d⟩ : BgS)) (⟨i + 1, K1, h1, L, D, d⟩ : BgS) ⟨rfl, rfl, rfl, rfl, rfl, rfl, trivial⟩ rfl rfl ⟨by dsimp only; omega, le, hL, ?_, hR⟩ (by (try dsimp only); omega)
   dsimp only
   rcases Nat.lt_or_ge i 301 with hlt | hge
   ·rw [Nat.min_eq_left (by omega)] at hB ⊢
    have h2 := hB
    exact ⟨h2.sim.up (by omega) (by omega), h2.liv.mono (by omega), h2.rn.up (by omega) (by omega), by have := h2.len; omega, h2.wf⟩
   ·rw [Nat.min_eq_right (by omega)] at hB ⊢
    exact hB
  ·have e13' := not_or.1 e13
   have e14 := not_or.1 e13'.1
   have hlow : o.low = true := by simpa using e14.1
   have hi3 : i <= 300 := by omega
   rw [Nat.min_eq_left (by omega)] at hB
   obtain ⟨hB2, hans, hrl⟩ := hB.doo (by omega) o hbo hlow
   have hc := hB.rn
   have hol := (ROp.low_ok hlow).2.1
   refine sk (th (sq (rg ?_)))
   refine ldS hT 0 1 rfl rfl (by kernel_rfl) ?_
   refine ldS hT 0 0 rfl rfl (by kernel_rfl) ?_
   refine cl hT 0 rfl (doRC L.rl (100 * i) 1048576 hB.rbd _ hR o hbo (by omega) dO xo) ?_
   rintro v54 K54 hs54 ⟨le54, rfl, v1, rfl, hR1⟩
   rw [<- hans, <- hrl] at *
   obtain ⟨d1, rfl, hR1⟩ := hR1.ad
   refine al hT 3 (.agg #[.int .u64 0, .int .i64 0, .int .u64 0, .int .u64 0, .slice none 0 0, .slice none 0 0, .slice none 0 0]) rfl (by kernel_rfl) fun b11 => ?_
   refine al hT 0 (.agg #[.int .u64 0, .bool false, .int .i64 0]) rfl (by kernel_rfl) fun b12 => ?_
   refine stS hT 0 1 rfl rfl (by kernel_rfl) rfl rfl ?_
   refine stS hT 0 0 rfl rfl (by kernel_rfl) rfl rfl ?_
   refine WL.hs (pt b12 (ansV (L.doo D o).2.2) 59 :: pt b11 (rlA (L.doo D o).1.rl d1) 37 :: pt b10 (opV o dO) 34 :: pt b6 (rlA L.rl d) 37 :: h1 :: pt b3 z7 37 :: hs) rfl ?_
   refine fin hT 0 rfl (th (sq (rg ?_)))
   refine ldS hT 0 1 rfl rfl (by kernel_rfl) ?_
   refine stS hT 0 3 rfl rfl (by kernel_rfl) rfl rfl ?_
   refine WL.hs (pt b12 (ansV (L.doo D o).2.2) 59 :: pt b11 (rlA (L.doo D o).1.rl d1) 37 :: pt b10 (opV o dO) 34 :: pt b6 (rlA (L.doo D o).1.rl d1) 37 :: h1 :: pt b3 z7 37 :: hs) rfl ?_
   refine fin hT 0 rfl (th (sq (rga [pt b12 (ansV (L.doo D o).2.2) 59, pt b10 (opV o dO) 34] 5 [0, 2, 6, 5, 8] (by simp) (by kernel_rfl) (by kernel_rfl) ?_)))
   refine dldS hT (by kernel_rfl) 1 1 rfl (by kernel_rfl) rfl (by kernel_rfl) ?_
   refine dldS hT (by kernel_rfl) 0 0 rfl (by kernel_rfl) rfl (by kernel_rfl) ?_
   refine dact hT (by kernel_rfl) 0 rfl ?_
   refine cl hT 0 rfl (Ct.at 4 rfl (doesW lb db L D (32303 * i) 1048576 hc.lb (by omega) hc.ok (hL.le le54) o hbo (by omega) hol dO (xo.le le54))) ?_
   rintro v60 K60 hs60 ⟨h2, rfl, le60, hL2, rfl⟩
   refine dnexL [pt b12 (ansV (L.doo D o).2.2) 59, pt b10 (opV o dO) 34] (by simp) (by simp) le60 ?_
   refine deqs hT (by kernel_rfl) 0 rfl (by kernel_rfl) (fun w => eqAns _ w) ?_
   refine dend hT (by kernel_rfl) 0 rfl (th (ifF rfl ?_))
   refine sk (bl (th (rg ?_)))
   refine ar hT 0 rfl (i64w (by omega)) ?_
   refine fin hT 1 rfl (WQ.drop (WQ.drop (WQ.drop ?_)))
   refine again (x := (⟨i, K1, h1, L, D, d⟩ : BgS)) (⟨i + 1, K60, h2, (L.doo D o).1, (L.doo D o).2.1, d1⟩ : BgS) ⟨rfl, rfl, rfl, rfl, rfl, rfl, trivial⟩ rfl rfl ⟨by dsimp only; omega, le.trans (le54.trans le60), hL2, ?_, hR1.le le60⟩ (by (try dsimp only); omega)
   dsimp only
   rw [Nat.min_eq_left (by omega)]
   exact hB2
 ·refine ex (xt (xt (xb (th (sq (rga [pt b6 (rlA L.rl d) 37] 3 [0, 2, 4, 7, 8] (by simp) (by kernel_rfl) (by kernel_rfl) ?_))))))
  refine dldS hT (by kernel_rfl) 1 0 rfl (by kernel_rfl) rfl (by kernel_rfl) ?_
  refine dact hT (by kernel_rfl) 1 rfl ?_
  refine stS hT 0 2 rfl rfl (by kernel_rfl) rfl rfl ?_
  refine dnex [pt b6 (rlA L.rl d) 37] (by simp) (by simp) rfl ?_
  refine dend hT (by kernel_rfl) 1 rfl (th (rt (WQ.drop (WQ.fr 1 rfl ?_))))
  exact rettct 0 1 rfl rfl rfl rfl rfl (by kernel_rfl) ⟨L, D, lb, db, h1, _, rfl, le, hL, ⟨min i 301, by omega, Nat.min_le_right _ _, hB⟩, hR, rfl⟩
end Go.Proofs.YtneeeblghijmgaaGreat
end
section
namespace Go.Proofs.YtneeeblghijmgaaGreat
open Go.En Go.ChangeShapes Go.WideShapes Go.ChangeAt Go.RowKit Go.Deep
set_option maxRecDepth 100000
section opens
variable {H : Type} {enc : TypeId × Value -> H} {W : World}
abbrev HdT : Type := Int × Int × Unit
abbrev RHd := RP (RI .u64) (RP (RI .i64) R0)
def mHd : HdT -> Nat := mS (mP mU (mP mU mZ))
theorem hdOpens : Opens enc Tryz.prog W 25 2 RHd mHd := by
 refine structM Tryz.underlying25 (by kernel_rfl) ?_
 exact consM (off := 0) (sz1 := 1) (sz2 := 1) rfl (intM Tryz.underlying23 (by kernel_rfl)) (consM (off := 1) (sz1 := 1) (sz2 := 0) rfl (intM Tryz.underlying3 (by kernel_rfl)) nilM)
abbrev SnT : Type := Int × Int × (List Int × Unit) × List Int × Unit
abbrev RSn (W : World) := RP (RI .u64) (RP (RI .u64) (RP (RCf W) (RP (RSl W 1 (RI .u8)) R0)))
def mSn : SnT -> Nat := mS (mP mU (mP mU (mP mCf (mP (mL mU) mZ))))
theorem snOpens : Opens enc Tryz.prog W 32 4 (RSn W) mSn := by
 refine structM Tryz.underlying32 (by kernel_rfl) ?_
 exact consM (off := 0) (sz1 := 1) (sz2 := 3) rfl (intM Tryz.underlying23 (by kernel_rfl)) (consM (off := 1) (sz1 := 1) (sz2 := 2) rfl (intM Tryz.underlying23 (by kernel_rfl)) (consM (off := 2) (sz1 := 1) (sz2 := 1) rfl cfOpens
  (consM (off := 3) (sz1 := 1) (sz2 := 0) rfl (sliceM Tryz.underlying30 (by kernel_rfl) (intM Tryz.underlying5 (by kernel_rfl))) nilM)))
abbrev EnT : Type := Int × Int × Int × List Int × Unit
abbrev OpT : Type := Int × HdT × Int × Int × List EnT × SnT × Unit
abbrev ROpR (W : World) := RP (RI .i64) (RP RHd (RP (RI .u64) (RP (RI .u64) (RP (RSl W 4 (REn W)) (RP (RSn W) R0)))))
def mOp : OpT -> Nat := mS (mP mU (mP mHd (mP mU (mP mU (mP (mL mEn) (mP mSn mZ))))))
theorem opOpens : Opens enc Tryz.prog W 34 10 (ROpR W) mOp := by
 refine structM Tryz.underlying34 (by kernel_rfl) ?_
 exact consM (off := 0) (sz1 := 1) (sz2 := 9) rfl (intM Tryz.underlying3 (by kernel_rfl)) (consM (off := 1) (sz1 := 2) (sz2 := 7) rfl hdOpens (consM (off := 3) (sz1 := 1) (sz2 := 6) rfl (intM Tryz.underlying23 (by kernel_rfl)) (consM (off := 4) (sz1 := 1) (sz2 := 5) rfl (intM Tryz.underlying23 (by kernel_rfl))
  (consM (off := 5) (sz1 := 1) (sz2 := 4) rfl (sliceM Tryz.underlying26 (by kernel_rfl) enOpens) (consM (off := 6) (sz1 := 4) (sz2 := 0) rfl snOpens nilM)))))
def toOp (x : OpT) : ROp :=
 ⟨x.1, x.2.1.1.toNat, x.2.1.2.1, x.2.2.1.toNat, x.2.2.2.1.toNat, x.2.2.2.2.1.map toEnt, ⟨x.2.2.2.2.2.1.1.toNat, x.2.2.2.2.2.1.2.1.toNat, x.2.2.2.2.2.1.2.2.1.1, byI x.2.2.2.2.2.1.2.2.2.1⟩⟩
theorem al2_of_all2 {α : Type} {R : List Value -> α -> Prop} : ∀ {css : List (List Value)} {xs : List α}, All2 R css xs -> Al2 R css xs
 | [], [], _ => trivial
 | _ :: _, _ :: _, g => ⟨g.1, al2_of_all2 g.2⟩
 | [], _ :: _, g => g.elim
 | _ :: _, [], g => g.elim
theorem all2_size {α : Type} {n : Nat} {R : List Value -> α -> Prop} (h : ∀ c x, R c x -> c.length = n) : ∀ {css : List (List Value)} {xs : List α}, All2 R css xs -> ∀ d ∈ css, d.length = n
 | [], [], _ => by simp
 | c :: cs, x :: xs, g => by
  intro d hd
  rcases List.mem_cons.1 hd with rfl | hd
  ·exact h _ _ g.1
  ·exact all2_size h g.2 d hd
 | [], _ :: _, g => g.elim
 | _ :: _, [], g => g.elim
theorem entsS_sl {K : PH} {ao : Option Addr} {cap : Nat} {es : List Ent} (h : EntsS K ao cap es) : SlS 4 (EntC K) K ao es.length cap es := by
 obtain ⟨css, h1, h2⟩ := h
 exact ⟨css, rfl, h1, al2_of_all2 h2, all2_size (fun c x hc => by obtain ⟨_, _, rfl, _⟩ := hc; rfl) h2⟩
theorem op_of {cs : List Value} {x : OpT} (hR : ROpR W cs x) (hB : mOp x <= 1048576) : OpC (hp W) cs (toOp x) /\ (toOp x).bd 1048576 := by
 obtain ⟨k, ⟨ht, hv, u1⟩, i, t, es, ⟨si, st, ⟨vo, u2⟩, dd, u3⟩, u4⟩ := x
 obtain ⟨c1, r1, e1, h1, c2, r2, e2, h2, c3, r3, e3, h3, c4, r4, e4, h4, c5, r5, e5, h5, c6, r6, e6, h6, h7⟩ := hR
 obtain ⟨c21, r21, e21, h21, c22, r22, e22, h22, h23⟩ := h2
 obtain ⟨c61, r61, e61, h61, c62, r62, e62, h62, c63, r63, e63, h63, c64, r64, e64, h64, h65⟩ := h6
 obtain ⟨c71, r71, e71, h71, h72⟩ := h63
 obtain ⟨rfl, _⟩ := ri_i64 h1
 obtain ⟨rfl, b21⟩ := ri_u64 h21
 obtain ⟨rfl, b22⟩ := ri_i64 h22
 obtain rfl : r22 = [] := h23
 obtain ⟨rfl, b3⟩ := ri_u64 h3
 obtain ⟨rfl, b4⟩ := ri_u64 h4
 obtain ⟨ae, ce, rfl, xE, bE⟩ := rsl_ents h5
 obtain ⟨rfl, b61⟩ := ri_u64 h61
 obtain ⟨rfl, b62⟩ := ri_u64 h62
 obtain ⟨av, cv, rfl, xV, bV⟩ := rsl_ints h71
 obtain rfl : r71 = [] := h72
 obtain ⟨ad, cd, rfl, xD⟩ := rsl_bytes h64
 obtain rfl : r64 = [] := h65
 obtain rfl : r6 = [] := h7
 simp only [mOp, mSn, mHd, mCf, mS, mP, mL, mU, mZ, sumM_U, sumM_one] at hB
 have hge := sumM_ge mEn (fun _ => by simp only [mEn]; omega) es
 refine ⟨⟨⟨ae, ce, av, cv, ad, cd⟩, ?_, entsS_sl xE, xV, xD⟩, ?_⟩
 ·rw [e1, e2, e21, e22, e3, e4, e5, e6, e61, e62, e63, e71, e64]; rfl
 ·exact {
      ht := b21, hv := b22, idx := b3, term := b4,
      len := by show (es.map toEnt).length <= _; rw [List.length_map]; omega,
      ents := fun y hy => by
       obtain ⟨z, hz, rfl⟩ := List.mem_map.1 hy
       have h1 := sumM_mem mEn hz
       simp only [mEn, sumM_one] at h1
       refine ⟨(bE z hz).1, (bE z hz).2, ?_⟩
       show (byI _).length < _
       rw [byI_len]
       omega,
      si := b61, st := b62, vl := by show vo.length <= _; omega, vot := bV, dl := by show (byI dd).length <= _; rw [byI_len]; omega }
theorem all2_ops : ∀ {css : List (List Value)} {xs : List OpT}, All2 (ROpR W) css xs -> sumM mOp xs <= 1048576 -> All2 (OpC (hp W)) css (xs.map toOp) /\ ∀ o ∈ xs.map toOp, o.bd 1048576
 | [], [], _, _ => ⟨trivial, by simp⟩
 | c :: cs, x :: xs, ⟨h1, h2⟩, hB => by
  simp only [sumM] at hB
  obtain ⟨g1, g2⟩ := op_of h1 (by omega)
  obtain ⟨k1, k2⟩ := all2_ops h2 (by omega)
  refine ⟨⟨g1, k1⟩, fun y hy => ?_⟩
  rw [List.map_cons] at hy
  rcases List.mem_cons.1 hy with rfl | hy
  ·exact g2
  ·exact k2 y hy
 | [], _ :: _, g, _ => g.elim
 | _ :: _, [], g, _ => g.elim
theorem rsl_ops {cs : List Value} {xs : List OpT} (h : RSl W 10 (ROpR W) cs xs) (hB : sumM mOp xs <= 1048576) : ∃ ao cap, ∃ ops : List ROp, cs = [.slice ao ops.length cap] /\ ops.length = xs.length /\ SlS 10 (OpC (hp W)) (hp W) ao ops.length cap ops /\ ∀ o ∈ ops, o.bd 1048576 := by
 obtain ⟨ao, cap, css, rfl, x, h2⟩ := h
 obtain ⟨g1, g2⟩ := all2_ops h2 hB
 have e : xs.length = (xs.map toOp).length := by simp
 rw [e] at x ⊢
 exact ⟨ao, cap, xs.map toOp, rfl, rfl, ⟨css, rfl, x, al2_of_all2 g1, all2_size (fun c x hc => by obtain ⟨_, rfl, _⟩ := hc; rfl) g1⟩, g2⟩
theorem opsOpens : Opens enc Tryz.prog W 22 1 (RSl W 10 (ROpR W)) (mL mOp) := sliceM Tryz.underlying22 (by kernel_rfl) opOpens
theorem open_ops {base : Nat} {v : Value} {d : DataW H} {ps : List MemPlace} (hval : Value.okWide Tryz.prog W .any base 22 v) (h : DataW.Trod enc Tryz.prog W 0 (fun _ => true) true 22 v d ps) (hB : Rows.uptoBulk d <= 1048576) :
  ∃ ao cap, ∃ ops : List ROp, v = .slice ao ops.length cap /\ SlS 10 (OpC (hp W)) (hp W) ao ops.length cap ops /\ (∀ o ∈ ops, o.bd 1048576) /\ ops.length < 1099511627776 := by
 obtain ⟨a0, len, cap0, rfl⟩ := okWide_slice Tryz.underlying22 hval
 obtain ⟨xs, hR, hm⟩ := (opsOpens (enc := enc) (W := W)).arg h
 simp only [mL] at hm
 have hge := sumM_ge mOp (fun _ => by simp only [mOp, mS, mP, mU]; omega) xs
 obtain ⟨ao, cap, ops, e, hl, x, hb⟩ := rsl_ops hR (by omega)
 simp [Value.cells] at e
 obtain ⟨rfl, rfl, rfl⟩ := e
 exact ⟨a0, cap0, ops, rfl, x, hb, by omega⟩
end opens
end Go.Proofs.YtneeeblghijmgaaGreat
end
section
namespace Go.En
theorem Ct.lawT {P : Program} {w0 : World} {f : FuncId} {args : List Value} {K : PH} {hs : List PH} (c : Ct P w0 f args K hs (fun v K' _ => Le K K' /\ v = .bool true)) : Ct P w0 f args K hs (fun v K' _ => K' = K /\ v = .bool true) :=
 Ct.fix2 c (fun w v K' hs' hS ⟨le, hv⟩ => ⟨K, hs', ⟨rfl, hv⟩, hS.weak le⟩)
theorem parts_want (s : Snp) (l : List Ent) (hx : ∀ (j : Nat) e, l[j]? = some e -> e.idx = s.idx + j + 1) (frm : Nat) (most : Int) :
  partsL s l frm most = (l.filter fun e => decide (frm <= e.idx /\ s.idx < frm)).take most.toNat := by
 have h1 : ∀ (l : List Ent) (b : Nat), (∀ (j : Nat) e, l[j]? = some e -> e.idx = b + j + 1) -> s.idx < frm -> (l.filter fun e => decide (frm <= e.idx /\ s.idx < frm)) = l.drop (frm - b - 1) := by
  intro l
  induction l with
  | nil => intro b _ _; simp
  | cons a r ih =>
   intro b h hs
   have ha := h 0 a rfl
   have hr := ih (b + 1) (fun j e he => by have := h (j + 1) e (by simpa using he); omega) hs
   rcases Nat.lt_or_ge a.idx frm with hlt | hge
   ·rw [List.filter_cons, if_neg (by simp; omega), hr, show frm - b - 1 = (frm - (b + 1) - 1) + 1 by omega, List.drop_succ_cons]
   ·rw [List.filter_cons, if_pos (by simp; omega), hr, show frm - b - 1 = 0 by omega, show frm - (b + 1) - 1 = 0 by omega, List.drop_zero, List.drop_zero]
 unfold partsL lgAt
 by_cases hs : s.idx < frm
 ·by_cases hc : s.idx + l.length < frm
  ·rw [if_pos (.inr hc), h1 l s.idx hx hs, List.drop_of_length_le (by omega)]
   simp
  ·rw [if_neg (by omega), h1 l s.idx hx hs]
 ·rw [if_pos (.inl (by omega))]
  have : (l.filter fun e => decide (frm <= e.idx /\ s.idx < frm)) = [] := by
   rw [List.filter_eq_nil_iff]
   intro a _
   simp [hs]
  rw [this]
  simp
theorem filter_step {α : Type} (p : α -> Bool) (l : List α) (j M : Nat) (e : α) (h : l[j]? = some e) : ((l.take (j + 1)).filter p).take M = if p e = true /\ (((l.take j).filter p).take M).length < M then ((l.take j).filter p).take M ++ [e] else ((l.take j).filter p).take M := by
 have h2 : l.take (j + 1) = l.take j ++ [e] := by rw [List.take_add_one, h]; rfl
 rw [h2, List.filter_append]
 generalize (l.take j).filter p = F
 rw [List.length_take]
 by_cases hp : p e = true
 ·rw [List.filter_cons, if_pos hp, List.filter_nil]
  by_cases hl : F.length < M
  ·rw [if_pos ⟨hp, by omega⟩, List.take_of_length_le (by simp; omega), List.take_of_length_le (by omega)]
  ·rw [if_neg (by rintro ⟨_, h3⟩; omega), List.take_append_of_le_length (by omega)]
 ·rw [List.filter_cons, if_neg hp, List.filter_nil, if_neg (fun h3 => hp h3.1), List.append_nil]
end Go.En
namespace Go.Proofs.YtneeeblghijmgaaGreat
open Go.En
attribute [local irreducible] Code.wp wpList Calls
theorem lawParts {w0 : World} {K : PH} {hs : List PH} (ao : Option Addr) (cap : Nat) (ops : List ROp) (xs : SlS 10 (OpC K) K ao ops.length cap ops) (hb : ∀ o ∈ ops, o.bd 1048576) (hn : ops.length < 1099511627776) (frm : Nat) (hfr : frm <= mxU) (most : Int) (hmo : -9223372036854775808 <= most /\ most <= 9223372036854775807) :
  Ct Tryz.prog w0 4 [.slice ao ops.length cap, .int .u64 ((frm : Nat) : Int), .int .i64 most] K hs (fun v K' _ => K' = K /\ v = .bool true) := by
 refine Ct.lawT ?_
 have hfr2 := hfr
 unfold mxU at hfr2
 refine enter Tryz.func4 (by kernel_rfl) rfl rfl rfl ?_
 refine sq (rg ?_)
 refine fin hT 1 rfl (th (sq (rg ?_)))
 refine cl hT 1 rfl (begunW ao cap ops xs hb hn) ?_
 rintro v15 K15 hs15 ⟨L, D, lb, db, h, v1, rfl, le, hL, ⟨k, hk0, hk, hB⟩, hR, rfl⟩
 obtain ⟨d, rfl, hR⟩ := hR.ad
 have hlen := hB.len
 have hix := hB.rn.lb.idx
 unfold lgTop at hix
 refine al hT 4 (.agg #[.int .u64 0, .int .i64 0, .int .u64 0, .int .u64 0, .slice none 0 0, .slice none 0 0, .slice none 0 0]) rfl (by kernel_rfl) fun b8 => ?_
 refine stS hT 1 0 rfl rfl (by kernel_rfl) rfl rfl ?_
 refine WL.hs (pt b8 (rlA L.rl d) 37 :: h :: hs) rfl ?_
 refine fin hT 1 rfl (th (sq (sq (rg ?_))))
 refine fin hT 2 rfl (th (ifF rfl ?_))
 refine sk (th (sq (rg ?_)))
 refine fin hT 1 rfl (th (sq (sq (rg ?_))))
 refine ldp hT 1 0 rfl rfl rfl ?_
 refine fin hT 2 rfl (th (bk (WC.em ?_)))
 have xL : SlS 4 (EntC K15) K15 d.aL L.l.length d.cL L.l := by
  obtain ⟨aV, cV, aD, cD, aL, cL, e, _, _, x⟩ := hR
  simp only [rlV, Value.agg.injEq, Array.mk.injEq, List.cons.injEq, Value.slice.injEq] at e
  obtain ⟨_, _, _, _, _, _, ⟨rfl, _, rfl⟩, _⟩ := e
  exact x
 have hp : ∀ e : Ent, decide (frm <= e.idx /\ L.sn.idx < frm) = true ↔ (frm <= e.idx /\ L.sn.idx < frm) := fun e => decide_eq_true_iff
 generalize hpd : (fun e : Ent => decide (frm <= e.idx /\ L.sn.idx < frm)) = p
 have hp : ∀ e : Ent, p e = true ↔ (frm <= e.idx /\ L.sn.idx < frm) := fun e => by rw [<- hpd]; exact hp e
 have hW : ∀ j, ((L.l.take j).filter p).take most.toNat = ((L.l.take j).filter p).take most.toNat := fun _ => rfl
 have hWl : ∀ j, (((L.l.take j).filter p).take most.toNat).length <= 30100 := fun j => by
  have h1 := List.length_filter_le p (L.l.take j)
  have h2 : (L.l.take j).length <= L.l.length := by rw [List.length_take]; omega
  rw [List.length_take]
  omega
 refine loop (σ := Nat × (Option Addr × Nat × PH)) (fun s => [(1, .int .u64 ((frm : Nat) : Int)), (2, .int .i64 most), (7, .pointer (some ⟨lb, 0, none⟩)), (8, .pointer (some ⟨b8, 0, none⟩)), (10, .slice s.2.1 (((L.l.take s.1).filter p).take most.toNat).length s.2.2.1), (22, .slice d.aL L.l.length d.cL), (23, .int .i64 ((L.l.length : Nat) : Int)), (24, .int .i64 ((s.1 : Nat) : Int))]) (fun _ => K15)
  (fun s => s.2.2.2 :: pt b8 (rlA L.rl d) 37 :: h :: hs)
  (fun s => s.1 <= L.l.length /\ SlZ 4 46 (EntC K15) s.2.2.2 s.2.1 (((L.l.take s.1).filter p).take most.toNat).length s.2.2.1 (((L.l.take s.1).filter p).take most.toNat)) (fun s => L.l.length - s.1)
  (0, (none, 0, em)) ⟨Nat.zero_le _, by simpa using SlZ.nil _ _⟩ ⟨rfl, rfl, rfl, rfl, by simp; rfl, rfl, rfl, rfl, trivial⟩ rfl rfl ?_
 rintro ⟨j, ⟨aw, cw, g⟩⟩ ⟨hj, oG⟩
 dsimp only at *
 refine sq (rg ?_)
 refine cmpS hT 0 rfl fun b25 h25 => ?_
 refine fin hT 0 rfl (th (sq (ifP h25 rfl (fun e3 => ?_) (fun e3 => ?_))))
 ·have hjl : j < L.l.length := by omega
  obtain ⟨e, he⟩ : ∃ e, L.l[j]? = some e := ⟨_, List.getElem?_eq_getElem hjl⟩
  obtain ⟨a, ae, ce, ha, xe, hce⟩ := entR_cells xL he
  obtain ⟨vs, hvs⟩ := xL.isS
  have hst := filter_step p L.l j most.toNat e he
  refine sk (th (sq (bk (sq (rg ?_)))))
  refine ixs hT 0 j rfl rfl hvs hjl (by decide) fun a26 h26 => ?_
  rw [ha] at h26
  cases h26
  refine lds hT 0 (e.v ae ce).toList rfl (by kernel_rfl) (.inl rfl) hce ?_
  refine al hT 0 (.agg #[.int .u64 0, .int .u64 0, .int .i64 0, .slice none 0 0]) rfl (by kernel_rfl) fun b12 => ?_
  refine stS hT 0 0 rfl rfl (by kernel_rfl) rfl rfl ?_
  refine WL.hs (pt b12 (e.v ae ce) 46 :: g :: pt b8 (rlA L.rl d) 37 :: h :: hs) rfl ?_
  refine fin hT 0 rfl (th (sq (rg ?_)))
  refine ldp hT 1 0 rfl rfl rfl ?_
  refine cmpS hT 1 rfl fun b31 h31 => ?_
  refine' bja (q := (((((L.l.take j).filter p).take most.toNat).length : Nat) : Int) < most) hT 1 5 37 [31, 32] h31 rfl rfl rfl rfl rfl rfl rfl (fun _ => ?x5) (fun b37 h37 => ?_)
  case x5 =>
   refine cmpS hT 3 rfl fun b36 h36 => ?_
   exact fin hT 1 rfl (bjx h36 rfl rfl rfl)
  refine' bja (q := L.sn.idx < frm) hT 1 6 44 [37, 38] h37 rfl rfl rfl rfl rfl rfl rfl (fun _ => ?x7) (fun b44 h44 => ?_)
  case x7 =>
   refine ldp hT 3 2 rfl rfl rfl ?_
   refine cmpS hT 0 rfl fun b43 h43 => ?_
   exact fin hT 1 rfl (bjx (h43.trans (by show ((L.sn.idx : Nat) : Int) < _ ↔ _; omega)) rfl rfl rfl)
  refine fin hT 0 rfl (th (ifP h44 rfl (fun e9 => ?_) (fun e9 => ?_)))
  ·have hgo : p e = true /\ (((L.l.take j).filter p).take most.toNat).length < most.toNat := ⟨(hp e).2 ⟨by omega, e9.2⟩, by omega⟩
   rw [if_pos hgo] at hst
   refine rg ?_
   refine ldS hT 1 0 rfl rfl (by kernel_rfl) ?_
   refine lit hT 0 (e.v ae ce) rfl (by decide) (by kernel_rfl) fun b47 => ?_
   have hwl := hWl j
   refine appSq hT 0 2 (e.v ae ce).toList e rfl rfl rfl oG ⟨ae, ce, rfl, xe⟩ rfl (by simp [Ent.v, Value.oneCell']) rfl (by decide) (by show (_ + 1) * 48 <= _; omega) (by simp only [maxLen]; omega) fun ao48 c48 g48 o48 => ?_
   refine fin hT 1 rfl (bl (th (rg (WL.drop (WL.drop ?_)))))
   refine ar hT 0 rfl (i64w (by omega)) ?_
   refine fin hT 1 rfl ?_
   refine again (x := (j, (aw, cw, g))) (j + 1, (ao48, c48, g48)) ⟨rfl, rfl, rfl, rfl, by dsimp only; rw [hst, List.length_append]; rfl, rfl, rfl, rfl, trivial⟩ rfl rfl ⟨by dsimp only; omega, by dsimp only; rw [hst, List.length_append]; exact o48⟩ (by dsimp only; omega)
  ·have hno : ¬ (p e = true /\ (((L.l.take j).filter p).take most.toNat).length < most.toNat) := by
    rintro ⟨h1, h2⟩
    have := (hp e).1 h1
    exact e9 ⟨⟨by omega, by omega⟩, this.2⟩
   rw [if_neg hno] at hst
   refine sk (bl (th (rg (WL.drop ?_))))
   refine ar hT 0 rfl (i64w (by omega)) ?_
   refine fin hT 1 rfl ?_
   exact again (x := (j, (aw, cw, g))) (j + 1, (aw, cw, g)) ⟨rfl, rfl, rfl, rfl, by dsimp only; rw [hst]; rfl, rfl, rfl, rfl, trivial⟩ rfl rfl ⟨by dsimp only; omega, by dsimp only; rw [hst]; exact oG⟩ (by dsimp only; omega)
 ·obtain rfl : j = L.l.length := by omega
  rw [List.take_length] at oG ⊢
  have hpw := parts_want L.sn L.l (fun j e he => hB.wf.idx he) frm most
  rw [hpd] at hpw
  rw [<- hpw] at oG ⊢
  refine ex (xt (xt (xb (th (sq (rg (WL.frz fun K2 l1 l2 => ?_)))))))
  refine cl hT 0 rfl aliveW ?_
  rintro v50 K2 hs50 ⟨rfl, rfl, rfl⟩
  refine' bja (q := True) hT 1 7 58 [50, 51] (show true = true ↔ True by simp) rfl rfl rfl rfl rfl rfl rfl (fun _ => ?x10) (fun b58 h58 => ?_)
  case x10 =>
   refine cl hT 3 rfl (Ct.at 1 rfl (entriesH lb db L D _ hB.rn.lb (by omega) (hL.le l1) frm (by omega) most hmo)) ?_
   rintro v55 K55 hs55 ⟨h', rfl, hh, le2, ao1, c1, rfl, x1⟩
   subst hh
   have hpl : (partsL L.sn L.l frm most).length <= 30100 := by rw [hpw]; have := hWl L.l.length; rw [List.take_length] at this; exact this
   refine cl hT 1 rfl (sameEntriesRC ao1 aw c1 cw _ _ x1 ((oG.slS.le l2 fun _ _ h => h.le l1).le le2 fun _ _ h => h.le le2) (by omega) (by omega)) ?_
   rintro v57 K57 hs57 ⟨rfl, rfl, b57, rfl, h57⟩
   exact WL.weak le2 (fin hT 1 rfl (bjx (h57.trans (by simp)) rfl rfl rfl))
  refine fin hT 1 rfl (th (rt ?_))
  have e58 : b58 = true := h58.2 (by simp)
  subst e58
  exact ret1 rfl rfl ⟨le.trans l1, rfl⟩
end Go.Proofs.YtneeeblghijmgaaGreat
end
