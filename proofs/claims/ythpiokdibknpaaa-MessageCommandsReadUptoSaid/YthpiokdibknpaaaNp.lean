/-
  The reference: what a kind names; two messages compared; entries that follow; what is right.
  The reference: entries that follow; what is right.
  The reference: entries that follow.
  The reference: what is right.
-/
import Derived.Test.YthpiokdibknpaaaNl
namespace Go.Proofs.Ythpiokdibknpaaa
open Go.En
set_option linter.unusedVariables false
set_option linter.unusedSimpArgs false
attribute [local irreducible] Code.wp wpList Calls

def q0 : MA := ⟨none, 0, none, 0, none, 0⟩
def baseM (m : Msg) : Msg := { Msg.zero with kind := m.kind, frm := m.frm, to := m.to, term := m.term }
def named (m : Msg) : Msg :=
  if m.kind = 1 then { baseM m with idx := m.idx, lt := m.lt } else if m.kind = 2 then { baseM m with good := m.good }
  else if m.kind = 3 then { baseM m with idx := m.idx, lt := m.lt, com := m.com, rnd := m.rnd, ents := m.ents }
  else if m.kind = 4 then { baseM m with good := m.good, idx := m.idx, rnd := m.rnd }
  else if m.kind = 5 then { baseM m with idx := m.idx, lt := m.lt, off := m.off, whole := m.whole, vot := m.vot, data := m.data }
  else if m.kind = 6 then { baseM m with idx := m.idx, off := m.off } else baseM m
def namedP (m : Msg) (p : MA) : MA := if m.kind = 3 then { q0 with ae := p.ae, ce := p.ce } else if m.kind = 5 then { q0 with av := p.av, cv := p.cv, ad := p.ad, cd := p.cd } else q0
theorem namedS {K : PH} {m : Msg} {p : MA} (h : MsgS K m p) : MsgS K (named m) (namedP m p) := by
  unfold named namedP
  by_cases e3 : m.kind = 3
  · rw [if_neg (by omega), if_neg (by omega), if_pos e3, if_pos e3]
    exact ⟨h.1, IsS.nil _ _ _ _, IsS.nil _ _ _ _⟩
  · rw [if_neg e3, if_neg e3]
    by_cases e5 : m.kind = 5
    · rw [if_neg (by omega), if_neg (by omega), if_neg (by omega), if_pos e5, if_pos e5]
      exact ⟨EntsS.nil _ _ _, h.2.1, h.2.2⟩
    · rw [if_neg e5, if_neg e5]
      have : ∀ m' : Msg, m'.ents = [] → m'.vot = [] → m'.data = [] → MsgS K m' q0 := fun m' h1 h2 h3 => ⟨by rw [h1]; exact EntsS.nil _ _ _, by rw [h2]; exact IsS.nil _ _ _ _, by rw [h3]; exact IsS.nil _ _ _ _⟩
      repeat' split
      all_goals exact this _ rfl rfl rfl
theorem fieldsOf_ne {k : Int} : fieldsOf k ≠ [] ↔ k = 1 ∨ k = 2 ∨ k = 3 ∨ k = 4 ∨ k = 5 ∨ k = 6 := by
  unfold fieldsOf
  by_cases h1 : k = 1
  · simp [h1]
  · by_cases h2 : k = 2
    · simp [h2]
    · by_cases h3 : k = 3
      · simp [h3]
      · by_cases h4 : k = 4
        · simp [h4]
        · by_cases h5 : k = 5
          · simp [h5]
          · by_cases h6 : k = 6
            · simp [h6]
            · simp [h1, h2, h3, h4, h5, h6]
theorem same_fin {m1 m2 : Msg} {P1 : Prop} (e1 : ¬ (((((¬ m1.kind = m2.kind ∨ ¬ m1.frm = m2.frm) ∨ ¬ m1.to = m2.to) ∨ ¬ ((m1.term : Nat) : Int) = (m2.term : Nat)) ∨ ¬ ((m1.idx : Nat) : Int) = (m2.idx : Nat)) ∨ ¬ ((m1.lt : Nat) : Int) = (m2.lt : Nat)))
    (e2 : ¬ (((((¬ ((m1.com : Nat) : Int) = (m2.com : Nat) ∨ ¬ ((m1.rnd : Nat) : Int) = (m2.rnd : Nat)) ∨ m1.good ≠ m2.good) ∨ ¬ m1.off = m2.off) ∨ ¬ m1.whole = m2.whole) ∨ m1.data ≠ m2.data)) (e3 : ¬ (¬ m1.vot = m2.vot ∨ P1)) (h : m1.ents = m2.ents) : m1 = m2 := by
  simp only [not_or, ne_eq, Decidable.not_not, Int.ofNat_inj] at e1 e2
  have e3 := Decidable.not_not.1 (fun h => e3 (.inl h))
  obtain ⟨k, f, t, te, i, l, c, r, g, e, o, w, v, d⟩ := m1
  obtain ⟨k', f', t', te', i', l', c', r', g', e', o', w', v', d'⟩ := m2
  simp_all
theorem namedRef {w0 : World} {K : PH} {hs : List PH} (m : Msg) (p : MA) : Ct Try.prog w0 61 [.agg (mv m p)] K hs
    (fun v K' hs' => K' = K ∧ hs' = hs ∧ ∃ t : Bool, v = .tuple #[.agg (mv (named m) (namedP m p)), .bool t] ∧ (t = true ↔ fieldsOf m.kind ≠ [])) := by
  refine enter Try.func61 (by kernel_rfl) rfl rfl rfl ?_
  refine sq (rg (?_))
  refine bx hT 0 rfl fun b1 => ?_   -- ref.go:142 t1
  refine al hT 0 (.agg #[.int .i64 0, .int .i64 0, .int .i64 0, .int .u64 0, .int .u64 0, .int .u64 0, .int .u64 0, .int .u64 0, .bool false, .slice none 0 0, .int .i64 0, .int .i64 0, .slice none 0 0, .slice none 0 0]) rfl (by kernel_rfl) fun b2 => ?_   -- ref.go:142 t2
  refine fin hT 1 rfl (th (sq (rg (?_))))
  refine ldp hT 1 1 rfl rfl rfl ?_   -- ref.go:143 t6 *t5
  refine ldp hT 1 1 rfl rfl rfl ?_   -- ref.go:143 t8 *t7
  refine ldp hT 1 1 rfl rfl rfl ?_   -- ref.go:143 t10 *t9
  refine ldp hT 1 1 rfl rfl rfl ?_   -- ref.go:143 t12 *t11
  refine bd hT 0 (.agg (mv (baseM m) q0)) rfl (fun w => by kernel_rfl) ?_   -- ref.go:143 t13
  refine al hT 0 (.agg #[.int .i64 0, .int .i64 0, .int .i64 0, .int .u64 0, .int .u64 0, .int .u64 0, .int .u64 0, .int .u64 0, .bool false, .slice none 0 0, .int .i64 0, .int .i64 0, .slice none 0 0, .slice none 0 0]) rfl (by kernel_rfl) fun b4 => ?_   -- ref.go:143 t4
  refine stS hT 0 0 rfl rfl (by kernel_rfl) rfl rfl ?_   -- ref.go:143 tNone t4 := t13
  refine WL.hs (pt b4 (mv (baseM m) q0) 51 :: pt b2 (mv Msg.zero q0) 51 :: pt b1 (mv m p) 51 :: hs) rfl ?_
  refine fin hT 0 rfl (th (sq (sq (rg (?_)))))
  refine ldp hT 1 2 rfl rfl rfl ?_   -- ref.go:144 t15 *t14
  refine fin hT 0 rfl (th (bk (sq (rg (?_)))))
  refine cmpS hT 0 rfl fun b18 h18 => ?_   -- ref.go:145 t18 t15 = 1
  refine fin hT 1 rfl (th (ifP h18 rfl (fun e2 => ?_) (fun e2 => ?_)))
  · refine sq (rg (?_))
    refine ldp hT 1 2 rfl rfl rfl ?_   -- ref.go:146 t20 *t19
    refine stp hT 1 0 rfl rfl rfl rfl ?_   -- ref.go:146 tNone t21 := t20
    refine WL.hs (pt b4 (mv { baseM m with idx := m.idx } q0) 51 :: pt b2 (mv Msg.zero q0) 51 :: pt b1 (mv m p) 51 :: hs) rfl ?_
    refine fin hT 0 rfl (th (rg (?_)))
    refine ldp hT 1 2 rfl rfl rfl ?_   -- ref.go:147 t23 *t22
    refine stp hT 1 0 rfl rfl rfl rfl ?_   -- ref.go:147 tNone t24 := t23
    refine WL.hs (pt b4 (mv { baseM m with idx := m.idx, lt := m.lt } q0) 51 :: pt b2 (mv Msg.zero q0) 51 :: pt b1 (mv m p) 51 :: hs) rfl ?_
    refine fin hT 0 rfl (bl (th (sq (rg (?_)))))
    refine ldS hT 0 0 rfl rfl (by kernel_rfl) ?_   -- ref.go:173 t86 t4
    refine stS hT 0 1 rfl rfl (by kernel_rfl) rfl rfl ?_   -- ref.go:173 tNone t2 := t86
    refine fin hT 1 rfl (th (rt (?_)))
    exact retcP 1 3 rfl rfl rfl rfl (by kernel_rfl) ⟨rfl, rfl, true, by rw [named, namedP, if_pos e2, if_neg (by omega), if_neg (by omega)], by rw [fieldsOf_ne]; exact ⟨fun _ => by omega, fun _ => rfl⟩⟩
  · refine sq (rg (?_))
    refine cmpS hT 0 rfl fun b26 h26 => ?_   -- ref.go:148 t26 t15 = 2
    refine fin hT 1 rfl (th (ifP h26 rfl (fun e4 => ?_) (fun e4 => ?_)))
    · refine rg (?_)
      refine ldp hT 1 2 rfl rfl rfl ?_   -- ref.go:149 t28 *t27
      refine stp hT 1 0 rfl rfl rfl rfl ?_   -- ref.go:149 tNone t29 := t28
      refine WL.hs (pt b4 (mv { baseM m with good := m.good } q0) 51 :: pt b2 (mv Msg.zero q0) 51 :: pt b1 (mv m p) 51 :: hs) rfl ?_
      refine fin hT 0 rfl (bl (th (sq (rg (?_)))))
      refine ldS hT 0 0 rfl rfl (by kernel_rfl) ?_   -- ref.go:173 t86 t4
      refine stS hT 0 1 rfl rfl (by kernel_rfl) rfl rfl ?_   -- ref.go:173 tNone t2 := t86
      refine fin hT 1 rfl (th (rt (?_)))
      exact retcP 1 3 rfl rfl rfl rfl (by kernel_rfl) ⟨rfl, rfl, true, by rw [named, namedP, if_neg e2, if_pos e4, if_neg (by omega), if_neg (by omega)], by rw [fieldsOf_ne]; exact ⟨fun _ => by omega, fun _ => rfl⟩⟩
    · refine sq (rg (?_))
      refine cmpS hT 0 rfl fun b31 h31 => ?_   -- ref.go:150 t31 t15 = 3
      refine fin hT 1 rfl (th (ifP h31 rfl (fun e6 => ?_) (fun e6 => ?_)))
      · refine sq (rg (?_))
        refine ldp hT 1 2 rfl rfl rfl ?_   -- ref.go:151 t33 *t32
        refine stp hT 1 0 rfl rfl rfl rfl ?_   -- ref.go:151 tNone t34 := t33
        refine WL.hs (pt b4 (mv { baseM m with idx := m.idx } q0) 51 :: pt b2 (mv Msg.zero q0) 51 :: pt b1 (mv m p) 51 :: hs) rfl ?_
        refine fin hT 0 rfl (th (sq (rg (?_))))
        refine ldp hT 1 2 rfl rfl rfl ?_   -- ref.go:152 t36 *t35
        refine stp hT 1 0 rfl rfl rfl rfl ?_   -- ref.go:152 tNone t37 := t36
        refine WL.hs (pt b4 (mv { baseM m with idx := m.idx, lt := m.lt } q0) 51 :: pt b2 (mv Msg.zero q0) 51 :: pt b1 (mv m p) 51 :: hs) rfl ?_
        refine fin hT 0 rfl (th (sq (rg (?_))))
        refine ldp hT 1 2 rfl rfl rfl ?_   -- ref.go:153 t39 *t38
        refine stp hT 1 0 rfl rfl rfl rfl ?_   -- ref.go:153 tNone t40 := t39
        refine WL.hs (pt b4 (mv { baseM m with idx := m.idx, lt := m.lt, com := m.com } q0) 51 :: pt b2 (mv Msg.zero q0) 51 :: pt b1 (mv m p) 51 :: hs) rfl ?_
        refine fin hT 0 rfl (th (sq (rg (?_))))
        refine ldp hT 1 2 rfl rfl rfl ?_   -- ref.go:154 t42 *t41
        refine stp hT 1 0 rfl rfl rfl rfl ?_   -- ref.go:154 tNone t43 := t42
        refine WL.hs (pt b4 (mv { baseM m with idx := m.idx, lt := m.lt, com := m.com, rnd := m.rnd } q0) 51 :: pt b2 (mv Msg.zero q0) 51 :: pt b1 (mv m p) 51 :: hs) rfl ?_
        refine fin hT 0 rfl (th (rg (?_)))
        refine ldp hT 1 2 rfl rfl rfl ?_   -- ref.go:155 t45 *t44
        refine stp hT 1 0 rfl rfl rfl rfl ?_   -- ref.go:155 tNone t46 := t45
        refine WL.hs (pt b4 (mv { baseM m with idx := m.idx, lt := m.lt, com := m.com, rnd := m.rnd, ents := m.ents } { q0 with ae := p.ae, ce := p.ce }) 51 :: pt b2 (mv Msg.zero q0) 51 :: pt b1 (mv m p) 51 :: hs) rfl ?_
        refine fin hT 0 rfl (bl (th (sq (rg (?_)))))
        refine ldS hT 0 0 rfl rfl (by kernel_rfl) ?_   -- ref.go:173 t86 t4
        refine stS hT 0 1 rfl rfl (by kernel_rfl) rfl rfl ?_   -- ref.go:173 tNone t2 := t86
        refine fin hT 1 rfl (th (rt (?_)))
        exact retcP 1 3 rfl rfl rfl rfl (by kernel_rfl) ⟨rfl, rfl, true, by rw [named, namedP, if_neg e2, if_neg e4, if_pos e6, if_pos e6], by rw [fieldsOf_ne]; exact ⟨fun _ => by omega, fun _ => rfl⟩⟩
      · refine sq (rg (?_))
        refine cmpS hT 0 rfl fun b48 h48 => ?_   -- ref.go:156 t48 t15 = 4
        refine fin hT 1 rfl (th (ifP h48 rfl (fun e8 => ?_) (fun e8 => ?_)))
        · refine sq (rg (?_))
          refine ldp hT 1 2 rfl rfl rfl ?_   -- ref.go:157 t50 *t49
          refine stp hT 1 0 rfl rfl rfl rfl ?_   -- ref.go:157 tNone t51 := t50
          refine WL.hs (pt b4 (mv { baseM m with good := m.good } q0) 51 :: pt b2 (mv Msg.zero q0) 51 :: pt b1 (mv m p) 51 :: hs) rfl ?_
          refine fin hT 0 rfl (th (sq (rg (?_))))
          refine ldp hT 1 2 rfl rfl rfl ?_   -- ref.go:158 t53 *t52
          refine stp hT 1 0 rfl rfl rfl rfl ?_   -- ref.go:158 tNone t54 := t53
          refine WL.hs (pt b4 (mv { baseM m with good := m.good, idx := m.idx } q0) 51 :: pt b2 (mv Msg.zero q0) 51 :: pt b1 (mv m p) 51 :: hs) rfl ?_
          refine fin hT 0 rfl (th (rg (?_)))
          refine ldp hT 1 2 rfl rfl rfl ?_   -- ref.go:159 t56 *t55
          refine stp hT 1 0 rfl rfl rfl rfl ?_   -- ref.go:159 tNone t57 := t56
          refine WL.hs (pt b4 (mv { baseM m with good := m.good, idx := m.idx, rnd := m.rnd } q0) 51 :: pt b2 (mv Msg.zero q0) 51 :: pt b1 (mv m p) 51 :: hs) rfl ?_
          refine fin hT 0 rfl (bl (th (sq (rg (?_)))))
          refine ldS hT 0 0 rfl rfl (by kernel_rfl) ?_   -- ref.go:173 t86 t4
          refine stS hT 0 1 rfl rfl (by kernel_rfl) rfl rfl ?_   -- ref.go:173 tNone t2 := t86
          refine fin hT 1 rfl (th (rt (?_)))
          exact retcP 1 3 rfl rfl rfl rfl (by kernel_rfl) ⟨rfl, rfl, true, by rw [named, namedP, if_neg e2, if_neg e4, if_neg e6, if_pos e8, if_neg (by omega), if_neg (by omega)], by rw [fieldsOf_ne]; exact ⟨fun _ => by omega, fun _ => rfl⟩⟩
        · refine sq (rg (?_))
          refine cmpS hT 0 rfl fun b59 h59 => ?_   -- ref.go:160 t59 t15 = 5
          refine fin hT 1 rfl (th (ifP h59 rfl (fun e10 => ?_) (fun e10 => ?_)))
          · refine sq (rg (?_))
            refine ldp hT 1 2 rfl rfl rfl ?_   -- ref.go:161 t61 *t60
            refine stp hT 1 0 rfl rfl rfl rfl ?_   -- ref.go:161 tNone t62 := t61
            refine WL.hs (pt b4 (mv { baseM m with idx := m.idx } q0) 51 :: pt b2 (mv Msg.zero q0) 51 :: pt b1 (mv m p) 51 :: hs) rfl ?_
            refine fin hT 0 rfl (th (sq (rg (?_))))
            refine ldp hT 1 2 rfl rfl rfl ?_   -- ref.go:162 t64 *t63
            refine stp hT 1 0 rfl rfl rfl rfl ?_   -- ref.go:162 tNone t65 := t64
            refine WL.hs (pt b4 (mv { baseM m with idx := m.idx, lt := m.lt } q0) 51 :: pt b2 (mv Msg.zero q0) 51 :: pt b1 (mv m p) 51 :: hs) rfl ?_
            refine fin hT 0 rfl (th (sq (rg (?_))))
            refine ldp hT 1 2 rfl rfl rfl ?_   -- ref.go:163 t67 *t66
            refine stp hT 1 0 rfl rfl rfl rfl ?_   -- ref.go:163 tNone t68 := t67
            refine WL.hs (pt b4 (mv { baseM m with idx := m.idx, lt := m.lt, off := m.off } q0) 51 :: pt b2 (mv Msg.zero q0) 51 :: pt b1 (mv m p) 51 :: hs) rfl ?_
            refine fin hT 0 rfl (th (sq (rg (?_))))
            refine ldp hT 1 2 rfl rfl rfl ?_   -- ref.go:164 t70 *t69
            refine stp hT 1 0 rfl rfl rfl rfl ?_   -- ref.go:164 tNone t71 := t70
            refine WL.hs (pt b4 (mv { baseM m with idx := m.idx, lt := m.lt, off := m.off, whole := m.whole } q0) 51 :: pt b2 (mv Msg.zero q0) 51 :: pt b1 (mv m p) 51 :: hs) rfl ?_
            refine fin hT 0 rfl (th (sq (rg (?_))))
            refine ldp hT 1 2 rfl rfl rfl ?_   -- ref.go:165 t73 *t72
            refine stp hT 1 0 rfl rfl rfl rfl ?_   -- ref.go:165 tNone t74 := t73
            refine WL.hs (pt b4 (mv { baseM m with idx := m.idx, lt := m.lt, off := m.off, whole := m.whole, vot := m.vot } { q0 with av := p.av, cv := p.cv }) 51 :: pt b2 (mv Msg.zero q0) 51 :: pt b1 (mv m p) 51 :: hs) rfl ?_
            refine fin hT 0 rfl (th (rg (?_)))
            refine ldp hT 1 2 rfl rfl rfl ?_   -- ref.go:166 t76 *t75
            refine stp hT 1 0 rfl rfl rfl rfl ?_   -- ref.go:166 tNone t77 := t76
            refine WL.hs (pt b4 (mv { baseM m with idx := m.idx, lt := m.lt, off := m.off, whole := m.whole, vot := m.vot, data := m.data } { q0 with av := p.av, cv := p.cv, ad := p.ad, cd := p.cd }) 51 :: pt b2 (mv Msg.zero q0) 51 :: pt b1 (mv m p) 51 :: hs) rfl ?_
            refine fin hT 0 rfl (bl (th (sq (rg (?_)))))
            refine ldS hT 0 0 rfl rfl (by kernel_rfl) ?_   -- ref.go:173 t86 t4
            refine stS hT 0 1 rfl rfl (by kernel_rfl) rfl rfl ?_   -- ref.go:173 tNone t2 := t86
            refine fin hT 1 rfl (th (rt (?_)))
            exact retcP 1 3 rfl rfl rfl rfl (by kernel_rfl) ⟨rfl, rfl, true, by rw [named, namedP, if_neg e2, if_neg e4, if_neg e6, if_neg e8, if_pos e10, if_neg e6, if_pos e10], by rw [fieldsOf_ne]; exact ⟨fun _ => by omega, fun _ => rfl⟩⟩
          · refine sq (rg (?_))
            refine cmpS hT 0 rfl fun b79 h79 => ?_   -- ref.go:167 t79 t15 = 6
            refine fin hT 1 rfl (th (ifP h79 rfl (fun e12 => ?_) (fun e12 => ?_)))
            · refine sq (rg (?_))
              refine ldp hT 1 2 rfl rfl rfl ?_   -- ref.go:168 t81 *t80
              refine stp hT 1 0 rfl rfl rfl rfl ?_   -- ref.go:168 tNone t82 := t81
              refine WL.hs (pt b4 (mv { baseM m with idx := m.idx } q0) 51 :: pt b2 (mv Msg.zero q0) 51 :: pt b1 (mv m p) 51 :: hs) rfl ?_
              refine fin hT 0 rfl (th (rg (?_)))
              refine ldp hT 1 2 rfl rfl rfl ?_   -- ref.go:169 t84 *t83
              refine stp hT 1 0 rfl rfl rfl rfl ?_   -- ref.go:169 tNone t85 := t84
              refine WL.hs (pt b4 (mv { baseM m with idx := m.idx, off := m.off } q0) 51 :: pt b2 (mv Msg.zero q0) 51 :: pt b1 (mv m p) 51 :: hs) rfl ?_
              refine fin hT 0 rfl (bl (th (sq (rg (?_)))))
              refine ldS hT 0 0 rfl rfl (by kernel_rfl) ?_   -- ref.go:173 t86 t4
              refine stS hT 0 1 rfl rfl (by kernel_rfl) rfl rfl ?_   -- ref.go:173 tNone t2 := t86
              refine fin hT 1 rfl (th (rt (?_)))
              exact retcP 1 3 rfl rfl rfl rfl (by kernel_rfl) ⟨rfl, rfl, true, by rw [named, namedP, if_neg e2, if_neg e4, if_neg e6, if_neg e8, if_neg e10, if_pos e12, if_neg (by omega), if_neg (by omega)], by rw [fieldsOf_ne]; exact ⟨fun _ => by omega, fun _ => rfl⟩⟩
            · refine sq (rg (?_))
              refine ldS hT 0 0 rfl rfl (by kernel_rfl) ?_   -- ref.go:171 t16 t4
              refine stS hT 0 1 rfl rfl (by kernel_rfl) rfl rfl ?_   -- ref.go:171 tNone t2 := t16
              refine fin hT 1 rfl (th (rt (rB (rT (?_)))))
              exact retcP 1 3 rfl rfl rfl rfl (by kernel_rfl) ⟨rfl, rfl, false, by rw [named, namedP, if_neg e2, if_neg e4, if_neg e6, if_neg e8, if_neg e10, if_neg e12, if_neg e6, if_neg e10], by rw [fieldsOf_ne]; exact ⟨fun h => (by cases h), fun h => (by omega)⟩⟩
theorem sameRef {w0 : World} {K : PH} {hs : List PH} (m1 m2 : Msg) (p1 p2 : MA) (h1 : MsgS K m1 p1) (h2 : MsgS K m2 p2) (hl1 : m1.ents.length < 1099511627776) (hl2 : m1.vot.length < 1099511627776) :
    Ct Try.prog w0 33 [.agg (mv m1 p1), .agg (mv m2 p2)] K hs (fun v K' hs' => K' = K ∧ hs' = hs ∧ ∃ t : Bool, v = .bool t ∧ (t = true ↔ m1 = m2)) := by
  obtain ⟨ae1', ce1', av1, cv1, ad1, cd1⟩ := p1
  obtain ⟨ae2', ce2', av2, cv2, ad2, cd2⟩ := p2
  refine enter Try.func33 (by kernel_rfl) rfl rfl rfl ?_
  refine sq (rg (?_))
  refine bx hT 0 rfl fun b2 => ?_   -- ref.go:195 t2
  refine bx hT 0 rfl fun b3 => ?_   -- ref.go:195 t3
  refine fin hT 1 rfl (th (sq (sq (rg (?_)))))
  refine ldp hT 1 1 rfl rfl rfl ?_   -- ref.go:196 t7 *t6
  refine ldp hT 1 0 rfl rfl rfl ?_   -- ref.go:196 t9 *t8
  refine cmpS hT 0 rfl fun b10 h10 => ?_   -- ref.go:196 t10 t7 ≠ t9
  refine' bjo hT 1 6 17 [10, 11] h10 rfl rfl rfl rfl rfl rfl rfl (fun _ => ?x2) (fun b17 h17 => ?_)   -- ref.go:196 t17
  case x2 =>
    refine ldp hT 1 1 rfl rfl rfl ?_   -- ref.go:196 t13 *t12
    refine ldp hT 1 0 rfl rfl rfl ?_   -- ref.go:196 t15 *t14
    refine cmpS hT 0 rfl fun b16 h16 => ?_   -- ref.go:196 t16 t13 ≠ t15
    exact fin hT 1 rfl (bjx h16 rfl rfl rfl)
  refine' bjo hT 1 6 24 [17, 18] h17 rfl rfl rfl rfl rfl rfl rfl (fun _ => ?x4) (fun b24 h24 => ?_)   -- ref.go:196 t24
  case x4 =>
    refine ldp hT 1 1 rfl rfl rfl ?_   -- ref.go:196 t20 *t19
    refine ldp hT 1 0 rfl rfl rfl ?_   -- ref.go:196 t22 *t21
    refine cmpS hT 0 rfl fun b23 h23 => ?_   -- ref.go:196 t23 t20 ≠ t22
    exact fin hT 1 rfl (bjx h23 rfl rfl rfl)
  refine' bjo hT 1 6 31 [24, 25] h24 rfl rfl rfl rfl rfl rfl rfl (fun _ => ?x6) (fun b31 h31 => ?_)   -- ref.go:196 t31
  case x6 =>
    refine ldp hT 1 1 rfl rfl rfl ?_   -- ref.go:196 t27 *t26
    refine ldp hT 1 0 rfl rfl rfl ?_   -- ref.go:196 t29 *t28
    refine cmpS hT 0 rfl fun b30 h30 => ?_   -- ref.go:196 t30 t27 ≠ t29
    exact fin hT 1 rfl (bjx h30 rfl rfl rfl)
  refine' bjo hT 1 6 38 [31, 32] h31 rfl rfl rfl rfl rfl rfl rfl (fun _ => ?x8) (fun b38 h38 => ?_)   -- ref.go:196 t38
  case x8 =>
    refine ldp hT 1 1 rfl rfl rfl ?_   -- ref.go:196 t34 *t33
    refine ldp hT 1 0 rfl rfl rfl ?_   -- ref.go:196 t36 *t35
    refine cmpS hT 0 rfl fun b37 h37 => ?_   -- ref.go:196 t37 t34 ≠ t36
    exact fin hT 1 rfl (bjx h37 rfl rfl rfl)
  refine' bjo hT 1 6 45 [38, 39] h38 rfl rfl rfl rfl rfl rfl rfl (fun _ => ?x10) (fun b45 h45 => ?_)   -- ref.go:196 t45
  case x10 =>
    refine ldp hT 1 1 rfl rfl rfl ?_   -- ref.go:196 t41 *t40
    refine ldp hT 1 0 rfl rfl rfl ?_   -- ref.go:196 t43 *t42
    refine cmpS hT 0 rfl fun b44 h44 => ?_   -- ref.go:196 t44 t41 ≠ t43
    exact fin hT 1 rfl (bjx h44 rfl rfl rfl)
  refine fin hT 0 rfl (th (ifP h45 rfl (fun e12 => ?_) (fun e12 => ?_)))
  · refine sq (rg (?_))
    refine fin hT 1 rfl (th (rt (rT (?_))))
    refine WQ.drop (WQ.drop ?_)
    exact ret1 rfl rfl ⟨rfl, rfl, false, rfl, fun h => (by cases h), fun h => by subst h; simp at e12⟩
  · refine sk (th (sq (sq (rg (?_)))))
    refine ldp hT 1 1 rfl rfl rfl ?_   -- ref.go:199 t47 *t46
    refine ldp hT 1 0 rfl rfl rfl ?_   -- ref.go:199 t49 *t48
    refine cmpS hT 0 rfl fun b50 h50 => ?_   -- ref.go:199 t50 t47 ≠ t49
    refine' bjo hT 1 6 57 [50, 51] h50 rfl rfl rfl rfl rfl rfl rfl (fun _ => ?x14) (fun b57 h57 => ?_)   -- ref.go:199 t57
    case x14 =>
      refine ldp hT 1 1 rfl rfl rfl ?_   -- ref.go:199 t53 *t52
      refine ldp hT 1 0 rfl rfl rfl ?_   -- ref.go:199 t55 *t54
      refine cmpS hT 0 rfl fun b56 h56 => ?_   -- ref.go:199 t56 t53 ≠ t55
      exact fin hT 1 rfl (bjx h56 rfl rfl rfl)
    refine' bjo hT 1 6 64 [57, 58] h57 rfl rfl rfl rfl rfl rfl rfl (fun _ => ?x16) (fun b64 h64 => ?_)   -- ref.go:199 t64
    case x16 =>
      refine ldp hT 1 1 rfl rfl rfl ?_   -- ref.go:199 t60 *t59
      refine ldp hT 1 0 rfl rfl rfl ?_   -- ref.go:199 t62 *t61
      refine cbS hT 0 (m1.good ≠ m2.good) rfl (by simp) fun b63 h63 => ?_   -- ref.go:199 t63 t60 ≠ t62
      exact fin hT 1 rfl (bjx h63 rfl rfl rfl)
    refine' bjo hT 1 6 71 [64, 65] h64 rfl rfl rfl rfl rfl rfl rfl (fun _ => ?x18) (fun b71 h71 => ?_)   -- ref.go:199 t71
    case x18 =>
      refine ldp hT 1 1 rfl rfl rfl ?_   -- ref.go:199 t67 *t66
      refine ldp hT 1 0 rfl rfl rfl ?_   -- ref.go:199 t69 *t68
      refine cmpS hT 0 rfl fun b70 h70 => ?_   -- ref.go:199 t70 t67 ≠ t69
      exact fin hT 1 rfl (bjx h70 rfl rfl rfl)
    refine' bjo hT 1 6 78 [71, 72] h71 rfl rfl rfl rfl rfl rfl rfl (fun _ => ?x20) (fun b78 h78 => ?_)   -- ref.go:199 t78
    case x20 =>
      refine ldp hT 1 1 rfl rfl rfl ?_   -- ref.go:199 t74 *t73
      refine ldp hT 1 0 rfl rfl rfl ?_   -- ref.go:199 t76 *t75
      refine cmpS hT 0 rfl fun b77 h77 => ?_   -- ref.go:199 t77 t74 ≠ t76
      exact fin hT 1 rfl (bjx h77 rfl rfl rfl)
    refine' bjo hT 1 8 87 [78, 79] h78 rfl rfl rfl rfl rfl rfl rfl (fun _ => ?x22) (fun b87 h87 => ?_)   -- ref.go:199 t87
    case x22 =>
      refine ldp hT 1 1 rfl rfl rfl ?_   -- ref.go:199 t81 *t80
      refine cvs hT 0 _ rfl (In.cons (In.cons (.inl rfl))) h1.2.2 (by kernel_rfl) ?_   -- ref.go:199 t82 t81
      refine ldp hT 1 0 rfl rfl rfl ?_   -- ref.go:199 t84 *t83
      refine cvs hT 0 _ rfl (In.cons (In.cons (.inl rfl))) h2.2.2 (by kernel_rfl) ?_   -- ref.go:199 t85 t84
      refine snS hT 0 rfl fun b86 h86 => ?_   -- ref.go:199 t86 t82 ≠ t85
      exact fin hT 1 rfl (bjx h86 rfl rfl rfl)
    refine fin hT 0 rfl (th (ifP h87 rfl (fun e24 => ?_) (fun e24 => ?_)))
    · refine sq (rg (?_))
      refine fin hT 1 rfl (th (rt (rT (?_))))
      refine WQ.drop (WQ.drop ?_)
      exact ret1 rfl rfl ⟨rfl, rfl, false, rfl, fun h => (by cases h), fun h => by subst h; simp at e24⟩
    · refine sk (th (sq (sq (rg (?_)))))
      refine ldp hT 1 1 rfl rfl rfl ?_   -- ref.go:202 t89 *t88
      refine ldp hT 1 0 rfl rfl rfl ?_   -- ref.go:202 t91 *t90
      refine cl hT 0 rfl (sameVoters av1 av2 cv1 cv2 m1.vot m2.vot (.inl rfl) (.inl rfl) h1.2.1 h2.2.1 hl2) ?_   -- ref.go:202 t92
      rintro v92 K92 hs92 ⟨rfl, rfl, b92, rfl, h92⟩
      refine cbS hT 0 _ rfl (bnot h92) fun b93 h93 => ?_   -- not
      refine' bjo hT 1 8 102 [93, 94] h93 rfl rfl rfl rfl rfl rfl rfl (fun _ => ?x25) (fun b102 h102 => ?_)   -- ref.go:202 t102
      case x25 =>
        refine ldp hT 1 1 rfl rfl rfl ?_   -- ref.go:202 t96 *t95
        refine ldp hT 2 0 rfl rfl rfl ?_   -- ref.go:202 t99 *t98
        refine cmpS hT 1 rfl fun b101 h101 => ?_   -- ref.go:202 t101 t97 ≠ t100
        exact fin hT 1 rfl (bjx h101 rfl rfl rfl)
      refine fin hT 0 rfl (th (ifP h102 rfl (fun e27 => ?_) (fun e27 => ?_)))
      · refine sq (rg (?_))
        refine fin hT 1 rfl (th (rt (rT (?_))))
        refine WQ.drop (WQ.drop ?_)
        exact ret1 rfl rfl ⟨rfl, rfl, false, rfl, fun h => (by cases h), fun h => by subst h; simp at e27⟩
      · have hll : m1.ents.length = m2.ents.length := by have := fun h => e27 (.inr h); omega
        obtain ⟨⟨css1, xE1, hE1⟩, _⟩ := h1
        obtain ⟨⟨css2, xE2, hE2⟩, _⟩ := h2
        refine sk (th (sq (sq (rg (?_)))))
        refine fin hT 1 rfl (th (bk (?_)))
        refine loop (σ := Nat) (fun i => [(2, Ptr b2), (3, Ptr b3), (5, .int .i64 (i : Nat))]) (fun _ => K92) (fun i => pt b3 (mv m2 ⟨ae2', ce2', av2, cv2, ad2, cd2⟩) 51 :: pt b2 (mv m1 ⟨ae1', ce1', av1, cv1, ad1, cd1⟩) 51 :: hs) (fun i => i ≤ m1.ents.length ∧ m1.ents.take i = m2.ents.take i) (fun i => m1.ents.length - i) 0 ⟨Nat.zero_le _, rfl⟩ ⟨rfl, rfl, rfl, trivial⟩ rfl rfl ?_
        rintro i ⟨hi, he⟩
        refine sq (sq (rg (?_)))
        refine ldp hT 2 1 rfl rfl rfl ?_   -- ref.go:205 t105 *t104
        refine cmpS hT 1 rfl fun b107 h107 => ?_   -- ref.go:205 t107 t103 < t106
        refine fin hT 0 rfl (th (ifP h107 rfl (fun e29 => ?_) (fun e29 => ?_)))
        · have hi1 : i < m1.ents.length := by omega
          have hi2 : i < m2.ents.length := by omega
          obtain ⟨ae1, ce1, xd1, hcell1⟩ := EntsS.get (e0 := Ent.zero) hE1 hi1
          obtain ⟨ae2, ce2, xd2, hcell2⟩ := EntsS.get (e0 := Ent.zero) hE2 hi2
          have ht1 := getD_take_succ m1.ents i hi1 Ent.zero
          have ht2 := getD_take_succ m2.ents i hi2 Ent.zero
          have hq : m1.ents = m2.ents → m1.ents.getD i Ent.zero = m2.ents.getD i Ent.zero := fun h => by rw [h]
          generalize m1.ents.getD i Ent.zero = x1 at xd1 hcell1 ht1 hq
          generalize m2.ents.getD i Ent.zero = x2 at xd2 hcell2 ht2 hq
          obtain ⟨a1, rfl⟩ := xE1.addr hi1 (by decide)
          obtain ⟨a2, rfl⟩ := xE2.addr hi2 (by decide)
          refine sk (th (sq (bk (sq (rga [pt b3 (mv m2 ⟨some a2, ce2', av2, cv2, ad2, cd2⟩) 51, pt b2 (mv m1 ⟨some a1, ce1', av1, cv1, ad1, cd1⟩) 51] 12 [0, 2, 4, 6, 8, 10, 12, 14, 16, 18, 21, 22] (by simp) (by kernel_rfl) (by kernel_rfl) ?_)))))
          refine dldp hT (by kernel_rfl) 1 1 rfl rfl rfl ?_   -- ref.go:206 t111 *t110
          refine dixs hT (by kernel_rfl) 1 i rfl rfl hi1 ?_   -- ref.go:206 t113 t111[t112]
          refine dlds hT (by kernel_rfl) 0 [.int .u64 (x1.idx : Nat), .int .u64 (x1.term : Nat), .int .i64 x1.kind, .slice ae1 x1.data.length ce1] rfl (by kernel_rfl) (by kernel_rfl) (.inl rfl) (fun j v hv => ?_) ?_
          · obtain ⟨a', q1, q2⟩ := xE1.2.2 (i * 4 + j) v (hcell1 j v hv)
            cases q1
            rw [Deep.add_add]
            exact q2
          refine dldp hT (by kernel_rfl) 1 0 rfl rfl rfl ?_   -- ref.go:206 t116 *t115
          refine dixs hT (by kernel_rfl) 1 i rfl rfl hi2 ?_   -- ref.go:206 t118 t116[t117]
          refine dlds hT (by kernel_rfl) 0 [.int .u64 (x2.idx : Nat), .int .u64 (x2.term : Nat), .int .i64 x2.kind, .slice ae2 x2.data.length ce2] rfl (by kernel_rfl) (by kernel_rfl) (.inl rfl) (fun j v hv => ?_) ?_
          · obtain ⟨a', q1, q2⟩ := xE2.2.2 (i * 4 + j) v (hcell2 j v hv)
            cases q1
            rw [Deep.add_add]
            exact q2
          refine dact hT (by kernel_rfl) 0 rfl ?_
          refine cl hT 0 rfl (sameEntry x1 x2 ae1 ae2 ce1 ce2 (.inl rfl) (.inl rfl) xd1 xd2) ?_   -- ref.go:206 t120
          rintro v120 K120 hs120 ⟨rfl, rfl, b120, rfl, h120⟩
          refine dnex [pt b3 (mv m2 ⟨some a2, ce2', av2, cv2, ad2, cd2⟩) 51, pt b2 (mv m1 ⟨some a1, ce1', av1, cv1, ad1, cd1⟩) 51] (by simp) (by simp) rfl ?_
          refine dend hT (by kernel_rfl) 1 rfl (th (ifB rfl (fun h30 => ?_) (fun h30 => ?_)))
          · refine sq (rg (?_))
            refine fin hT 1 rfl (th (rt (rB (rT (rT (rB (rT (?_))))))))
            refine WQ.drop (WQ.drop ?_)
            exact ret1 rfl rfl ⟨rfl, rfl, false, rfl, fun h => (by cases h), fun h => by have := h120.2 (hq (by rw [h])); rw [this] at h30; cases h30⟩
          · have hxx : x1 = x2 := h120.1 (by simpa using h30)
            refine sk (bl (th (rg (?_))))
            refine ar hT 1 rfl (i64w (by omega)) ?_   -- ref.go:205 t109 t108 add 1
            refine fin hT 1 rfl (?_)
            exact again (x := i) (i + 1) ⟨rfl, rfl, rfl, trivial⟩ rfl rfl ⟨by omega, by rw [ht1, ht2, he, hxx]⟩ (by (try dsimp only); omega)
        · obtain rfl : i = m1.ents.length := by omega
          refine ex (xt (xt (xb (th (sq (rg (?_)))))))
          refine fin hT 1 rfl (th (rt (?_)))
          refine WQ.drop (WQ.drop ?_)
          exact ret1 rfl rfl ⟨rfl, rfl, true, rfl, fun _ => same_fin e12 e24 e27 (by rw [List.take_of_length_le (Nat.le_refl _), hll, List.take_of_length_le (Nat.le_refl _)] at he; exact he), fun _ => rfl⟩
end Go.Proofs.Ythpiokdibknpaaa
namespace Go.Proofs.Ythpiokdibknpaaa
open Go.En
set_option linter.unusedVariables false
set_option linter.unusedSimpArgs false
attribute [local irreducible] Code.wp wpList Calls

def rightP (m : Msg) : Prop :=
  (fieldsOf m.kind ≠ [] ∧ m = named m ∧ 0 ≤ m.frm ∧ m.frm ≤ 6 ∧ 0 ≤ m.to ∧ m.to ≤ 6 ∧ m.frm ≠ m.to ∧ m.term ≠ 0) ∧
  (m.kind = 5 → (putConf m.vot).isSome = true ∧ m.data.length ≤ 256 ∧ 0 ≤ m.whole ∧ m.whole ≤ 2097152 ∧ m.off ≤ IntKind.i64.wrap (m.whole - m.data.length)) ∧
  0 ≤ m.off ∧ m.off ≤ 2097152 ∧ entsOK m.idx 0 m.ents ∧ m.ents.length ≤ 8
theorem bare_named (m : Msg) : m = named m ↔ bareP (clrAll (fieldsOf m.kind) m) ∨ m = baseM m ∧ fieldsOf m.kind = [] := by
  obtain ⟨k, f, t, te, i, l, c, r, g, e, o, w, v, d⟩ := m
  by_cases h1 : k = 1
  · subst h1; simp [named, fieldsOf, clrAll, Fld.clr, bareP, baseM, Msg.zero]; intros; constructor <;> (intro h; simp_all)
  · by_cases h2 : k = 2
    · subst h2; simp [named, fieldsOf, clrAll, Fld.clr, bareP, baseM, Msg.zero]; intros; constructor <;> (intro h; simp_all)
    · by_cases h3 : k = 3
      · subst h3; simp [named, fieldsOf, clrAll, Fld.clr, bareP, baseM, Msg.zero]
      · by_cases h4 : k = 4
        · subst h4; simp [named, fieldsOf, clrAll, Fld.clr, bareP, baseM, Msg.zero]; intros; constructor <;> (intro h; simp_all)
        · by_cases h5 : k = 5
          · subst h5; simp [named, fieldsOf, clrAll, Fld.clr, bareP, baseM, Msg.zero]
          · by_cases h6 : k = 6
            · subst h6; simp [named, fieldsOf, clrAll, Fld.clr, bareP, baseM, Msg.zero]; intros; constructor <;> (intro h; simp_all)
            · simp [named, fieldsOf, clrAll, bareP, baseM, Msg.zero, h1, h2, h3, h4, h5, h6]; intros; simp_all
theorem right_ok (m : Msg) : rightP m ↔ m.ok := by
  unfold rightP Msg.ok Msg.pre placedP
  by_cases hk : fieldsOf m.kind = []
  · exact ⟨fun h => absurd hk h.1.1, fun h => absurd hk h.1.1⟩
  · rw [bare_named]
    have hor : (bareP (clrAll (fieldsOf m.kind) m) ∨ m = baseM m ∧ fieldsOf m.kind = []) ↔ bareP (clrAll (fieldsOf m.kind) m) := ⟨fun h => h.elim id (fun h => absurd h.2 hk), .inl⟩
    rw [hor]
    have hk' := fieldsOf_ne.1 hk
    obtain ⟨k, f, t, te, i, l, c, r, g, e, o, w, v, d⟩ := m
    dsimp only at hk hk' ⊢
    have hs : ∀ P : Prop, (P ↔ True) → True := fun _ _ => trivial
    have e0 : ∀ a : Nat, entsOK a 0 [] ↔ True := fun a => ⟨fun _ => trivial, fun _ => trivial⟩
    rcases hk' with rfl | rfl | rfl | rfl | rfl | rfl
    · simp only [fieldsOf, clrAll, Fld.clr, bareP, Fld.pok, if_true, List.forall_mem_cons, List.not_mem_nil, false_implies, implies_true, and_true, true_and]
      constructor
      · rintro ⟨⟨a1, a2, a3, a4, a5, a6, a7, a8⟩, _⟩; exact ⟨⟨a1, ⟨a3, by omega⟩, ⟨a5, by omega⟩, a7, a8⟩, a2⟩
      · rintro ⟨⟨a1, ⟨a3, a4⟩, ⟨a5, a6⟩, a7, a8⟩, b1, b2, b3, b4, b5, rfl, b7⟩; exact ⟨⟨a1, ⟨b1, b2, b3, b4, b5, rfl, b7⟩, a3, by omega, a5, by omega, a7, a8⟩, fun h => absurd h (by decide), by omega, by omega, trivial, Nat.zero_le _⟩
    · simp only [fieldsOf, clrAll, Fld.clr, bareP, Fld.pok, show ¬ (2 : Int) = 1 from by decide, if_true, if_false, List.forall_mem_cons, List.not_mem_nil, false_implies, implies_true, and_true, true_and]
      constructor
      · rintro ⟨⟨a1, a2, a3, a4, a5, a6, a7, a8⟩, _⟩; exact ⟨⟨a1, ⟨a3, by omega⟩, ⟨a5, by omega⟩, a7, a8⟩, a2⟩
      · rintro ⟨⟨a1, ⟨a3, a4⟩, ⟨a5, a6⟩, a7, a8⟩, b1, b2, b3, b4, b5, b6, rfl, b8⟩; exact ⟨⟨a1, ⟨b1, b2, b3, b4, b5, b6, rfl, b8⟩, a3, by omega, a5, by omega, a7, a8⟩, fun h => absurd h (by decide), by omega, by omega, trivial, Nat.zero_le _⟩
    · simp only [fieldsOf, clrAll, Fld.clr, bareP, Fld.pok, show ¬ (3 : Int) = 1 from by decide, show ¬ (3 : Int) = 2 from by decide, if_true, if_false, List.forall_mem_cons, List.not_mem_nil, false_implies, implies_true, and_true, true_and]
      constructor
      · rintro ⟨⟨a1, a2, a3, a4, a5, a6, a7, a8⟩, _, c1, c2, c3, c4⟩; exact ⟨⟨a1, ⟨a3, by omega⟩, ⟨a5, by omega⟩, a7, a8⟩, ⟨c3, c4⟩, a2⟩
      · rintro ⟨⟨a1, ⟨a3, a4⟩, ⟨a5, a6⟩, a7, a8⟩, ⟨c3, c4⟩, b1, b2, b3⟩; exact ⟨⟨a1, ⟨b1, b2, b3⟩, a3, by omega, a5, by omega, a7, a8⟩, fun h => absurd h (by decide), by omega, by omega, c3, c4⟩
    · simp only [fieldsOf, clrAll, Fld.clr, bareP, Fld.pok, show ¬ (4 : Int) = 1 from by decide, show ¬ (4 : Int) = 2 from by decide, show ¬ (4 : Int) = 3 from by decide, if_true, if_false, List.forall_mem_cons, List.not_mem_nil, false_implies, implies_true, and_true, true_and]
      constructor
      · rintro ⟨⟨a1, a2, a3, a4, a5, a6, a7, a8⟩, _⟩; exact ⟨⟨a1, ⟨a3, by omega⟩, ⟨a5, by omega⟩, a7, a8⟩, a2⟩
      · rintro ⟨⟨a1, ⟨a3, a4⟩, ⟨a5, a6⟩, a7, a8⟩, b1, b2, b3, b4, rfl, b6⟩; exact ⟨⟨a1, ⟨b1, b2, b3, b4, rfl, b6⟩, a3, by omega, a5, by omega, a7, a8⟩, fun h => absurd h (by decide), by omega, by omega, trivial, Nat.zero_le _⟩
    · simp only [fieldsOf, clrAll, Fld.clr, bareP, Fld.pok, show ¬ (5 : Int) = 1 from by decide, show ¬ (5 : Int) = 2 from by decide, show ¬ (5 : Int) = 3 from by decide, show ¬ (5 : Int) = 4 from by decide, if_true, if_false, List.forall_mem_cons, List.not_mem_nil, false_implies, implies_true, and_true, true_and, forall_const]
      constructor
      · rintro ⟨⟨a1, a2, a3, a4, a5, a6, a7, a8⟩, ⟨d1, d2, d3, d4, d5⟩, c1, c2, c3, c4⟩; exact ⟨⟨a1, ⟨a3, by omega⟩, ⟨a5, by omega⟩, a7, a8⟩, ⟨⟨c1, c2⟩, ⟨d3, d4⟩, d1, d2, d5⟩, a2⟩
      · rintro ⟨⟨a1, ⟨a3, a4⟩, ⟨a5, a6⟩, a7, a8⟩, ⟨⟨c1, c2⟩, ⟨d3, d4⟩, d1, d2, d5⟩, b1, b2, b3, rfl⟩; exact ⟨⟨a1, ⟨b1, b2, b3, rfl⟩, a3, by omega, a5, by omega, a7, a8⟩, ⟨d1, d2, d3, d4, d5⟩, c1, c2, trivial, Nat.zero_le _⟩
    · simp only [fieldsOf, clrAll, Fld.clr, bareP, Fld.pok, show ¬ (6 : Int) = 1 from by decide, show ¬ (6 : Int) = 2 from by decide, show ¬ (6 : Int) = 3 from by decide, show ¬ (6 : Int) = 4 from by decide, show ¬ (6 : Int) = 5 from by decide, if_true, if_false, List.forall_mem_cons, List.not_mem_nil, false_implies, implies_true, and_true, true_and]
      constructor
      · rintro ⟨⟨a1, a2, a3, a4, a5, a6, a7, a8⟩, c1, c2, c3, c4⟩; exact ⟨⟨a1, ⟨a3, by omega⟩, ⟨a5, by omega⟩, a7, a8⟩, ⟨c1, c2⟩, a2⟩
      · rintro ⟨⟨a1, ⟨a3, a4⟩, ⟨a5, a6⟩, a7, a8⟩, ⟨c1, c2⟩, b1, b2, b3, b4, b5, rfl, b7⟩; exact ⟨⟨a1, ⟨b1, b2, b3, b4, b5, rfl, b7⟩, a3, by omega, a5, by omega, a7, a8⟩, c1, c2, trivial, Nat.zero_le _⟩
end Go.Proofs.Ythpiokdibknpaaa
namespace Go.Proofs.Ythpiokdibknpaaa
open Go.En
set_option linter.unusedVariables false
set_option linter.unusedSimpArgs false
attribute [local irreducible] Code.wp wpList Calls

theorem fol_no {e : Ent} {a i : Nat} (h : e.ok ∧ e.idx = (a + i + 1) % 18446744073709551616 ∧ a ≤ e.idx) (hi : a + i ≤ mxU) :
    ¬ ((¬ ec (putEnt e) = 0 ∨ ((a + i : Nat) : Int) = 18446744073709551615) ∨ ¬ ((e.idx : Nat) : Int) = ((a + i : Nat) : Int) + 1) := by
  have hmx : mxU = 18446744073709551615 := rfl
  obtain ⟨h1, h2, h3⟩ := h
  have hp := h1.1
  rintro ((g | g) | g)
  · exact g (by rw [putEnt, if_pos h1]; rfl)
  · rw [show a + i + 1 = 18446744073709551616 from by omega] at h2; exact hp (by omega)
  · by_cases e9 : a + i + 1 = 18446744073709551616
    · rw [e9] at h2; exact hp (by omega)
    · rw [Nat.mod_eq_of_lt (by omega)] at h2; omega
theorem fol_yes {e : Ent} {a i : Nat} (h : ¬ ((¬ ec (putEnt e) = 0 ∨ ((a + i : Nat) : Int) = 18446744073709551615) ∨ ¬ ((e.idx : Nat) : Int) = ((a + i : Nat) : Int) + 1)) (hi : a + i ≤ mxU) :
    e.ok ∧ e.idx = (a + i + 1) % 18446744073709551616 ∧ a ≤ e.idx ∧ a + i ≠ mxU := by
  have hmx : mxU = 18446744073709551615 := rfl
  have g1 : e.ok := Decidable.not_not.1 fun hn => h (.inl (.inl (by rw [putEnt, if_neg hn]; decide)))
  have g2 : a + i ≠ mxU := fun hn => h (.inl (.inr (by omega)))
  have g3 : ((e.idx : Nat) : Int) = ((a + i : Nat) : Int) + 1 := Decidable.not_not.1 fun hn => h (.inr hn)
  exact ⟨g1, by rw [Nat.mod_eq_of_lt (by omega)]; omega, by omega, g2⟩
theorem followRef {w0 : World} {K : PH} {hs : List PH} (m : Msg) (p : MA) (hS : MsgS K m p) (hbd : m.bd) :
    Ct Try.prog w0 62 [.agg (mv m p)] K hs (fun v K' hs' => K' = K ∧ hs' = hs ∧ ∃ t : Bool, v = .bool t ∧ (t = true ↔ entsOK m.idx 0 m.ents ∧ m.ents.length ≤ 8)) := by
  have hmx : mxU = 18446744073709551615 := rfl
  have hidx := hbd.idx
  have hel := hbd.entsL
  obtain ⟨⟨css, xE, hE⟩, _⟩ := hS
  refine enter Try.func62 (by kernel_rfl) rfl rfl rfl ?_
  refine sq (rg (?_))
  refine bx hT 0 rfl fun b1 => ?_   -- ref.go:214 t1
  refine fin hT 1 rfl (th (sq (rg (?_))))
  refine ldp hT 1 0 rfl rfl rfl ?_   -- ref.go:215 t8 *t7
  refine fin hT 1 rfl (th (sq (sq (rg (?_)))))
  refine fin hT 1 rfl (th (bk (?_)))
  refine loop (σ := Nat) (fun i => [(1, Ptr b1), (3, .int .u64 ((m.idx + i : Nat) : Int)), (4, .int .i64 (i : Nat))]) (fun _ => K) (fun i => pt b1 (mv m p) 51 :: hs) (fun i => i ≤ m.ents.length ∧ entsOK m.idx 0 (m.ents.take i) ∧ m.idx + i ≤ mxU) (fun i => m.ents.length - i) 0 ⟨Nat.zero_le _, trivial, hidx⟩ ⟨rfl, rfl, rfl, trivial⟩ rfl rfl ?_
  rintro i ⟨hi, hok, hmi⟩
  refine sq (sq (rg (?_)))
  refine ldp hT 2 0 rfl rfl rfl ?_   -- ref.go:216 t11 *t10
  refine cmpS hT 1 rfl fun b13 h13 => ?_   -- ref.go:216 t13 t9 < t12
  refine fin hT 0 rfl (th (ifP h13 rfl (fun e2 => ?_) (fun e2 => ?_)))
  · have hin : i < m.ents.length := by omega
    obtain ⟨ae, ce, xd, hcell⟩ := EntsS.get (e0 := Ent.zero) hE hin
    have hge : m.ents.getD i Ent.zero ∈ m.ents := by simp [List.getD, hin]
    have hbe := hbd.ents _ hge
    have hat := fun h => entsOK_at (a := m.idx) hin Ent.zero h
    have hsu := fun h1 h2 h3 => entsOK_take_succ (a := m.idx) hin Ent.zero hok h1 h2 h3
    generalize m.ents.getD i Ent.zero = e at xd hcell hge hbe hat hsu
    refine sk (th (sq (bk (sq (rg (?_))))))
    refine ldp hT 1 0 rfl rfl rfl ?_   -- ref.go:217 t18 *t17
    refine ixs hT 1 i rfl rfl xE hin (by decide) fun a20 ha20 => ?_
    refine lds hT 0 [.int .u64 (e.idx : Nat), .int .u64 (e.term : Nat), .int .i64 e.kind, .slice ae e.data.length ce] rfl (by kernel_rfl) (.inl rfl) (fun j v hv => ?_) ?_
    · obtain ⟨a', q1, q2⟩ := xE.2.2 (i * 4 + j) v (hcell j v hv)
      rw [ha20] at q1
      cases q1
      rw [Deep.add_add]
      exact q2
    refine cl hT 0 rfl (putEntRef e ae ce hbe.1 hbe.2.1 (.inl rfl) xd (by omega)) ?_   -- ref.go:217 t22
    rintro v22 K22 hs22 ⟨rfl, g, aog, cg, rfl, rfl, og⟩
    refine WL.drop ?_
    refine fin hT 5 rfl (th (sq (sq (rg (?_)))))
    refine cmpS hT 1 rfl fun b26 h26 => ?_   -- ref.go:218 t26 t25 ≠ 0
    refine' bjo hT 1 3 30 [26, 27] h26 rfl rfl rfl rfl rfl rfl rfl (fun _ => ?x4) (fun b30 h30 => ?_)   -- ref.go:218 t30
    case x4 =>
      refine cmpS hT 1 rfl fun b29 h29 => ?_   -- ref.go:218 t29 t28 = 18446744073709551615
      exact fin hT 1 rfl (bjx h29 rfl rfl rfl)
    refine' bjo hT 1 10 41 [30, 31] h30 rfl rfl rfl rfl rfl rfl rfl (fun hn => ?x6) (fun b41 h41 => ?_)
    case x6 =>
      refine ldp hT 1 0 rfl rfl rfl ?_   -- ref.go:218 t33 *t32
      have hlt : m.idx + i ≠ mxU := fun h => hn (.inr (by rw [h, hmx]; rfl))
      refine ixs hT 1 i rfl rfl xE hin (by decide) fun a35 ha35 => ?_
      refine ld hT 1 (v := .int .u64 (e.idx : Nat)) rfl (.inl rfl) ?_ ?_
      · obtain ⟨a', q1, q2⟩ := xE.2.2 (i * 4 + 0) (.int .u64 (e.idx : Nat)) (hcell 0 _ rfl)
        rw [ha35] at q1
        cases q1
        first | exact q2 | (rw [Deep.add_add]; exact q2)
      refine ar hT 1 rfl (u64w (by omega)) ?_   -- ref.go:218 t39 t38 add 1
      refine cmpS hT 0 rfl fun b40 h40 => ?_   -- ref.go:218 t40 t37 ≠ t39
      exact fin hT 1 rfl (bjx h40 rfl rfl rfl)
    refine fin hT 0 rfl (th (ifP h41 rfl (fun e8 => ?_) (fun e8 => ?_)))
    · refine sq (rg (?_))
      refine fin hT 1 rfl (th (rt (rT (rB (rT (rT (rB (rT (?_)))))))))
      refine WQ.drop ?_
      exact ret1 rfl rfl ⟨rfl, rfl, false, rfl, fun h => (by cases h), fun h => by have h1 := hat h.1; exact absurd e8 (fol_no h1 hmi)⟩
    · refine sk (th (rg (?_)))
      obtain ⟨c1, c2, c3, c4⟩ := fol_yes e8 hmi
      refine ar hT 1 rfl (u64w (by omega)) ?_   -- ref.go:221 t43 t42 add 1
      refine fin hT 1 rfl (bl (th (rg (?_))))
      refine ar hT 1 rfl (i64w (by omega)) ?_   -- ref.go:216 t15 t14 add 1
      refine fin hT 1 rfl (?_)
      exact again (x := i) (i + 1) ⟨rfl, rfl, rfl, trivial⟩ rfl rfl ⟨by omega, hsu c1 c2 c3, by omega⟩ (by (try dsimp only); omega)
  · obtain rfl : i = m.ents.length := by omega
    refine ex (xt (xt (xb (th (sq (rg (?_)))))))
    refine ldp hT 1 0 rfl rfl rfl ?_   -- ref.go:223 t45 *t44
    refine cmpS hT 1 rfl fun b47 h47 => ?_   -- ref.go:223 t47 t46 ≤ 8
    refine fin hT 1 rfl (th (rt (?_)))
    refine WQ.drop ?_
    exact ret1 rfl rfl ⟨rfl, rfl, b47, rfl, by rw [h47]; rw [List.take_of_length_le (Nat.le_refl _)] at hok; exact ⟨fun h => ⟨hok, by omega⟩, fun h => by omega⟩⟩
end Go.Proofs.Ythpiokdibknpaaa
namespace Go.Proofs.Ythpiokdibknpaaa
open Go.En
set_option linter.unusedVariables false
set_option linter.unusedSimpArgs false
attribute [local irreducible] Code.wp wpList Calls

theorem rg1 {P Q : Prop} {f t : Int} {te : Nat} : ¬ (((((((¬ P ∨ ¬ Q) ∨ f < 0) ∨ 6 < f) ∨ t < 0) ∨ 6 < t) ∨ f = t) ∨ ((te : Nat) : Int) = 0) ↔
    (P ∧ Q ∧ 0 ≤ f ∧ f ≤ 6 ∧ 0 ≤ t ∧ t ≤ 6 ∧ f ≠ t ∧ te ≠ 0) := by
  constructor
  · intro h
    simp only [not_or, Decidable.not_not] at h
    obtain ⟨⟨⟨⟨⟨⟨⟨h1, h2⟩, h3⟩, h4⟩, h5⟩, h6⟩, h7⟩, h8⟩ := h
    exact ⟨Classical.not_not.1 h1, Classical.not_not.1 h2, by omega, by omega, by omega, by omega, h7, by omega⟩
  · rintro ⟨h1, h2, h3, h4, h5, h6, h7, h8⟩ (((((((g | g) | g) | g) | g) | g) | g) | g)
    · exact g h1
    · exact g h2
    all_goals omega
theorem rg2 {o : Option (List UInt8)} {n : Nat} {w x y : Int} : ¬ ((((¬ ec o = 0 ∨ 256 < ((n : Nat) : Int)) ∨ w < 0) ∨ 2097152 < w) ∨ x < y) ↔
    (o.isSome = true ∧ n ≤ 256 ∧ 0 ≤ w ∧ w ≤ 2097152 ∧ y ≤ x) := by
  rw [← ec_zero]
  omega
theorem rightRef {w0 : World} {K : PH} {hs : List PH} (m : Msg) (p : MA) (hS : MsgS K m p) (hbd : m.bd) :
    Ct Try.prog w0 34 [.agg (mv m p)] K hs (fun v K' hs' => K' = K ∧ hs' = hs ∧ ∃ t : Bool, v = .bool t ∧ (t = true ↔ m.ok)) := by
  have hmx : mxU = 18446744073709551615 := rfl
  have hel := hbd.entsL
  have hvl := hbd.votL
  have hdl := hbd.dataL
  rw [← right_ok]
  refine enter Try.func34 (by kernel_rfl) rfl rfl rfl ?_
  refine sq (rg (?_))
  refine bx hT 0 rfl fun b1 => ?_   -- ref.go:227 t1
  refine fin hT 1 rfl (th (sq (rg (?_))))
  refine ldS hT 0 0 rfl rfl (by kernel_rfl) ?_   -- ref.go:228 t8 t1
  refine cl hT 0 rfl (namedRef m p) ?_   -- ref.go:228 t9
  rintro v9 K9 hs9 ⟨rfl, rfl, b9, rfl, h9⟩
  refine al hT 3 (.agg #[.int .i64 0, .int .i64 0, .int .i64 0, .int .u64 0, .int .u64 0, .int .u64 0, .int .u64 0, .int .u64 0, .bool false, .slice none 0 0, .int .i64 0, .int .i64 0, .slice none 0 0, .slice none 0 0]) rfl (by kernel_rfl) fun b3 => ?_   -- ref.go:228 t3
  refine stS hT 0 0 rfl rfl (by kernel_rfl) rfl rfl ?_   -- ref.go:228 tNone t3 := t10
  refine fin hT 1 rfl (th (sq (sq (rg (?_)))))
  refine cbS hT 1 _ rfl (bnot h9) fun b13 h13 => ?_   -- not
  refine' bjo hT 1 5 19 [13, 14] h13 rfl rfl rfl rfl rfl rfl rfl (fun _ => ?x1) (fun b19 h19 => ?_)   -- ref.go:229 t19
  case x1 =>
    refine ldS hT 0 1 rfl rfl (by kernel_rfl) ?_   -- ref.go:229 t15 t1
    refine ldS hT 0 0 rfl rfl (by kernel_rfl) ?_   -- ref.go:229 t16 t3
    refine cl hT 0 rfl (sameRef m (named m) p (namedP m p) hS (namedS hS) (by omega) (by omega)) ?_   -- ref.go:229 t17
    rintro v17 K17 hs17 ⟨rfl, rfl, b17, rfl, h17⟩
    refine cbS hT 0 _ rfl (bnot h17) fun b18 h18 => ?_   -- not
    exact fin hT 1 rfl (bjx h18 rfl rfl rfl)
  refine' bjo hT 1 4 24 [19, 20] h19 rfl rfl rfl rfl rfl rfl rfl (fun _ => ?x2) (fun b24 h24 => ?_)   -- ref.go:229 t24
  case x2 =>
    refine ldp hT 1 1 rfl rfl rfl ?_   -- ref.go:229 t22 *t21
    refine cmpS hT 0 rfl fun b23 h23 => ?_   -- ref.go:229 t23 t22 < 0
    exact fin hT 1 rfl (bjx h23 rfl rfl rfl)
  refine' bjo hT 1 4 29 [24, 25] h24 rfl rfl rfl rfl rfl rfl rfl (fun _ => ?x4) (fun b29 h29 => ?_)   -- ref.go:229 t29
  case x4 =>
    refine ldp hT 1 1 rfl rfl rfl ?_   -- ref.go:229 t27 *t26
    refine cmpS hT 0 rfl fun b28 h28 => ?_   -- ref.go:229 t28 t27 > 6
    exact fin hT 1 rfl (bjx h28 rfl rfl rfl)
  refine' bjo hT 1 4 34 [29, 30] h29 rfl rfl rfl rfl rfl rfl rfl (fun _ => ?x6) (fun b34 h34 => ?_)   -- ref.go:229 t34
  case x6 =>
    refine ldp hT 1 1 rfl rfl rfl ?_   -- ref.go:229 t32 *t31
    refine cmpS hT 0 rfl fun b33 h33 => ?_   -- ref.go:229 t33 t32 < 0
    exact fin hT 1 rfl (bjx h33 rfl rfl rfl)
  refine' bjo hT 1 4 39 [34, 35] h34 rfl rfl rfl rfl rfl rfl rfl (fun _ => ?x8) (fun b39 h39 => ?_)   -- ref.go:229 t39
  case x8 =>
    refine ldp hT 1 1 rfl rfl rfl ?_   -- ref.go:229 t37 *t36
    refine cmpS hT 0 rfl fun b38 h38 => ?_   -- ref.go:229 t38 t37 > 6
    exact fin hT 1 rfl (bjx h38 rfl rfl rfl)
  refine' bjo hT 1 6 46 [39, 40] h39 rfl rfl rfl rfl rfl rfl rfl (fun _ => ?x10) (fun b46 h46 => ?_)   -- ref.go:229 t46
  case x10 =>
    refine ldp hT 1 1 rfl rfl rfl ?_   -- ref.go:229 t42 *t41
    refine ldp hT 1 1 rfl rfl rfl ?_   -- ref.go:229 t44 *t43
    refine cmpS hT 0 rfl fun b45 h45 => ?_   -- ref.go:229 t45 t42 = t44
    exact fin hT 1 rfl (bjx h45 rfl rfl rfl)
  refine' bjo hT 1 4 51 [46, 47] h46 rfl rfl rfl rfl rfl rfl rfl (fun _ => ?x12) (fun b51 h51 => ?_)   -- ref.go:229 t51
  case x12 =>
    refine ldp hT 1 1 rfl rfl rfl ?_   -- ref.go:229 t49 *t48
    refine cmpS hT 0 rfl fun b50 h50 => ?_   -- ref.go:229 t50 t49 = 0
    exact fin hT 1 rfl (bjx h50 rfl rfl rfl)
  refine fin hT 0 rfl (th (ifP h51 rfl (fun e14 => ?_) (fun e14 => ?_)))
  · refine sq (rg (?_))
    refine fin hT 1 rfl (th (rt (rT (?_))))
    refine WQ.drop (WQ.drop ?_)
    exact ret1 rfl rfl ⟨rfl, rfl, false, rfl, fun h => (by cases h), fun h => absurd e14 (rg1.2 h.1)⟩
  · refine sk (th (sq (sq (rg (?_)))))
    refine ldp hT 1 1 rfl rfl rfl ?_   -- ref.go:232 t53 *t52
    refine cmpS hT 0 rfl fun b54 h54 => ?_   -- ref.go:232 t54 t53 = 5
    refine fin hT 0 rfl (th (ifP h54 rfl (fun e16 => ?_) (fun e16 => ?_)))
    · refine sq (rg (?_))
      refine ldp hT 1 1 rfl rfl rfl ?_   -- ref.go:233 t57 *t56
      refine bd hT 0 (.agg #[.slice p.av m.vot.length p.cv]) rfl (fun w => by kernel_rfl) ?_   -- ref.go:233 t58
      refine cl hT 0 rfl (putConfRef p.av p.cv m.vot (.inl rfl) hS.2.1 (by omega) hbd.vot) ?_   -- ref.go:233 t59
      rintro v59 K59 hs59 ⟨rfl, g, aog, cg, rfl, rfl, og⟩
      refine fin hT 5 rfl (th (sq (WC.drop (rg (?_)))))
      refine cmpS hT 1 rfl fun b63 h63 => ?_   -- ref.go:234 t63 t62 ≠ 0
      refine' bjo hT 1 5 69 [63, 64] h63 rfl rfl rfl rfl rfl rfl rfl (fun _ => ?x18) (fun b69 h69 => ?_)   -- ref.go:234 t69
      case x18 =>
        refine ldp hT 1 1 rfl rfl rfl ?_   -- ref.go:234 t66 *t65
        refine cmpS hT 1 rfl fun b68 h68 => ?_   -- ref.go:234 t68 t67 > 256
        exact fin hT 1 rfl (bjx h68 rfl rfl rfl)
      refine' bjo hT 1 4 74 [69, 70] h69 rfl rfl rfl rfl rfl rfl rfl (fun _ => ?x20) (fun b74 h74 => ?_)   -- ref.go:234 t74
      case x20 =>
        refine ldp hT 1 1 rfl rfl rfl ?_   -- ref.go:234 t72 *t71
        refine cmpS hT 0 rfl fun b73 h73 => ?_   -- ref.go:234 t73 t72 < 0
        exact fin hT 1 rfl (bjx h73 rfl rfl rfl)
      refine' bjo hT 1 4 79 [74, 75] h74 rfl rfl rfl rfl rfl rfl rfl (fun _ => ?x22) (fun b79 h79 => ?_)   -- ref.go:234 t79
      case x22 =>
        refine ldp hT 1 1 rfl rfl rfl ?_   -- ref.go:234 t77 *t76
        refine cmpS hT 0 rfl fun b78 h78 => ?_   -- ref.go:234 t78 t77 > 2097152
        exact fin hT 1 rfl (bjx h78 rfl rfl rfl)
      refine' bjo hT 1 10 90 [79, 80] h79 rfl rfl rfl rfl rfl rfl rfl (fun _ => ?x24) (fun b90 h90 => ?_)   -- ref.go:234 t90
      case x24 =>
        refine ldp hT 1 1 rfl rfl rfl ?_   -- ref.go:234 t82 *t81
        refine ldp hT 1 1 rfl rfl rfl ?_   -- ref.go:234 t84 *t83
        refine ldp hT 1 1 rfl rfl rfl ?_   -- ref.go:234 t86 *t85
        refine ar hT 1 rfl rfl ?_
        refine cmpS hT 0 rfl fun b89 h89 => ?_   -- ref.go:234 t89 t82 > t88
        exact fin hT 1 rfl (bjx h89 rfl rfl rfl)
      refine fin hT 0 rfl (th (ifP h90 rfl (fun e26 => ?_) (fun e26 => ?_)))
      · refine sq (rg (?_))
        refine fin hT 1 rfl (th (rt (rT (?_))))
        refine WQ.drop (WQ.drop ?_)
        exact ret1 rfl rfl ⟨rfl, rfl, false, rfl, fun h => (by cases h), fun h => absurd e26 (rg2.2 (h.2.1 (by omega)))⟩
      · refine sk (th (sq (rg (?_))))
        refine ldp hT 1 1 rfl rfl rfl ?_   -- ref.go:238 t92 *t91
        refine cmpS hT 0 rfl fun b93 h93 => ?_   -- ref.go:238 t93 t92 ≥ 0
        refine' bja hT 1 4 98 [93, 94] h93 rfl rfl rfl rfl rfl rfl rfl (fun _ => ?x28) (fun b98 h98 => ?_)   -- ref.go:238 t98
        case x28 =>
          refine ldp hT 1 1 rfl rfl rfl ?_   -- ref.go:238 t96 *t95
          refine cmpS hT 0 rfl fun b97 h97 => ?_   -- ref.go:238 t97 t96 ≤ 2097152
          exact fin hT 1 rfl (bjx h97 rfl rfl rfl)
        refine' bja hT 1 3 102 [98, 99] h98 rfl rfl rfl rfl rfl rfl rfl (fun _ => ?x30) (fun b102 h102 => ?_)   -- ref.go:238 t102
        case x30 =>
          refine ldS hT 0 1 rfl rfl (by kernel_rfl) ?_   -- ref.go:238 t100 t1
          refine cl hT 0 rfl (followRef m p hS hbd) ?_   -- ref.go:238 t101
          rintro v101 K101 hs101 ⟨rfl, rfl, b101, rfl, h101⟩
          exact fin hT 1 rfl (bjx h101 rfl rfl rfl)
        refine fin hT 1 rfl (th (rt (?_)))
        refine WQ.drop (WQ.drop ?_)
        exact ret1 rfl rfl ⟨rfl, rfl, b102, rfl, by rw [h102]; exact ⟨fun h => ⟨rg1.1 e14, fun _ => rg2.1 e26, h.1.1, h.1.2, h.2⟩, fun h => ⟨⟨h.2.2.1, h.2.2.2.1⟩, h.2.2.2.2⟩⟩⟩
    · refine sk (th (sq (rg (?_))))
      refine ldp hT 1 1 rfl rfl rfl ?_   -- ref.go:238 t92 *t91
      refine cmpS hT 0 rfl fun b93 h93 => ?_   -- ref.go:238 t93 t92 ≥ 0
      refine' bja hT 1 4 98 [93, 94] h93 rfl rfl rfl rfl rfl rfl rfl (fun _ => ?x32) (fun b98 h98 => ?_)   -- ref.go:238 t98
      case x32 =>
        refine ldp hT 1 1 rfl rfl rfl ?_   -- ref.go:238 t96 *t95
        refine cmpS hT 0 rfl fun b97 h97 => ?_   -- ref.go:238 t97 t96 ≤ 2097152
        exact fin hT 1 rfl (bjx h97 rfl rfl rfl)
      refine' bja hT 1 3 102 [98, 99] h98 rfl rfl rfl rfl rfl rfl rfl (fun _ => ?x34) (fun b102 h102 => ?_)   -- ref.go:238 t102
      case x34 =>
        refine ldS hT 0 1 rfl rfl (by kernel_rfl) ?_   -- ref.go:238 t100 t1
        refine cl hT 0 rfl (followRef m p hS hbd) ?_   -- ref.go:238 t101
        rintro v101 K101 hs101 ⟨rfl, rfl, b101, rfl, h101⟩
        exact fin hT 1 rfl (bjx h101 rfl rfl rfl)
      refine fin hT 1 rfl (th (rt (?_)))
      refine WQ.drop (WQ.drop ?_)
      exact ret1 rfl rfl ⟨rfl, rfl, b102, rfl, by rw [h102]; exact ⟨fun h => ⟨rg1.1 e14, fun h5 => absurd h5 (by omega), h.1.1, h.1.2, h.2⟩, fun h => ⟨⟨h.2.2.1, h.2.2.2.1⟩, h.2.2.2.2⟩⟩⟩
end Go.Proofs.Ythpiokdibknpaaa
