/-
  What a reader's methods come to.
-/
import Derived.Test.YthpiokdibknpaaaCr
namespace Go.Proofs.Ythpiokdibknpaaa
open Go.En
set_option linter.unusedVariables false
attribute [local irreducible] Code.wp wpList Calls

/-- a reader of bytes that lie in 'hb': what is left of them, how it has failed -/
def IsRd (rb : Nat) (hb : PH) (s : Rd) (h : PH) : Prop := ∃ ao cap, h = pt rb #[.slice ao s.1.length cap, .int .i64 s.2] 104 ∧ IsS hb ao s.1.length cap 1 (bv s.1)

section
variable {w0 : World} {K hb h : PH} {R : List PH} {rb : Nat}

theorem endC (s : Rd) (r : IsRd rb hb s h) : Ct Try.prog w0 44 [.pointer (some ⟨rb, 0, none⟩)] K (h :: R) (fun v K' hs' => K' = K ∧ hs' = h :: R ∧ v = .int .i64 (rEnd s)) := by
  obtain ⟨ao, cap, rfl, x⟩ := r
  obtain ⟨b, e⟩ := s
  refine enter Try.func44 (by kernel_rfl) rfl rfl rfl ?_
  refine sq (rg (?_))
  refine fin hT 1 rfl (th (sq (sq (rg (?_)))))
  refine ldp hT 3 0 rfl rfl rfl ?_   -- codec.go:111 t6 *t5
  refine cmp hT 0 rfl (fun h1 => ?_) (fun h1 => ?_)   -- codec.go:111 t7 t6 = 0
  · refine ldp hT 4 0 rfl rfl rfl ?_   -- codec.go:111 t12 *t11
    refine cmp hT 1 rfl (fun h2 => ?_) (fun h2 => ?_)   -- codec.go:111 t14 t13 > 0
    · refine fin hT 1 rfl (th (ifT rfl (sq (rg (?_)))))
      refine fin hT 1 rfl (th (rt (rT (?_))))
      exact ret1 rfl rfl ⟨rfl, rfl, by rw [rEnd, if_pos ⟨h1, by dsimp only at h2; omega⟩]⟩
    · refine fin hT 1 rfl (th (ifF rfl (sk (th (sq (rg (?_)))))))
      refine ldp hT 3 0 rfl rfl rfl ?_   -- codec.go:114 t19 *t18
      refine fin hT 1 rfl (th (rt (?_)))
      exact ret1 rfl rfl ⟨rfl, rfl, by rw [rEnd, if_neg (by dsimp only at h2; omega)]; rfl⟩
  · refine fin hT 8 rfl (th (ifF rfl (sk (th (sq (rg (?_)))))))
    refine ldp hT 3 0 rfl rfl rfl ?_   -- codec.go:114 t19 *t18
    refine fin hT 1 rfl (th (rt (?_)))
    exact ret1 rfl rfl ⟨rfl, rfl, by rw [rEnd, if_neg (fun h => h1 h.1)]; rfl⟩
theorem failC (s : Rd) (e : Int) (r : IsRd rb hb s h) : Ct Try.prog w0 43 [.pointer (some ⟨rb, 0, none⟩), .int .i64 e] K (h :: R)
    (fun v K' hs' => ∃ h', hs' = h' :: R ∧ K' = K ∧ v = .tuple #[] ∧ IsRd rb hb (s.1, if s.2 = 0 then e else s.2) h') := by
  obtain ⟨ao, cap, rfl, x⟩ := r
  obtain ⟨b, e0⟩ := s
  refine enter Try.func43 (by kernel_rfl) rfl rfl rfl ?_
  refine sq (rg (?_))
  refine ldp hT 3 0 rfl rfl rfl ?_   -- codec.go:33 t7 *t6
  refine cmp hT 0 rfl (fun h1 => ?_) (fun h1 => ?_)   -- codec.go:33 t8 t7 = 0
  · refine fin hT 0 rfl (th (ifT rfl (rg (?_))))
    refine stp hT 4 0 rfl rfl rfl rfl ?_   -- codec.go:34 tNone t12 := t10
    refine fin hT 0 rfl (?_)
    exact end0 rfl ⟨_, rfl, rfl, rfl, ao, cap, by rw [if_pos h1]; rfl, x⟩
  · refine fin hT 0 rfl (th (ifF rfl (sk (?_))))
    exact end0 rfl ⟨_, rfl, rfl, rfl, ao, cap, by rw [if_neg h1], x⟩
theorem byteC (hm : In K R hb) (s : Rd) (r : IsRd rb hb s h) : Ct Try.prog w0 40 [.pointer (some ⟨rb, 0, none⟩)] K (h :: R)
    (fun v K' hs' => ∃ h', hs' = h' :: R ∧ K' = K ∧ v = .int .u8 ((rByte s).1 : Nat) ∧ IsRd rb hb (rByte s).2 h') := by
  obtain ⟨ao, cap, rfl, x⟩ := r
  obtain ⟨b, e⟩ := s
  refine enter Try.func40 (by kernel_rfl) rfl rfl rfl ?_
  refine sq (rg (?_))
  refine fin hT 1 rfl (th (sq (bk (sq (bk (sq (bk (sq (sq (sq (rg (?_))))))))))))
  refine ldp hT 3 0 rfl rfl rfl ?_   -- codec.go:41 t8 *t7
  refine cmp hT 0 rfl (fun h1 => ?_) (fun h1 => ?_)   -- codec.go:41 t9 t8 = 0
  · dsimp only at h1
    refine ldp hT 4 0 rfl rfl rfl ?_   -- codec.go:41 t14 *t13
    refine cmp hT 1 rfl (fun h2 => ?_) (fun h2 => ?_)   -- codec.go:41 t16 t15 = 0
    · dsimp only at h2
      have hb0 : b = [] := List.eq_nil_of_length_eq_zero (by omega)
      subst hb0
      refine fin hT 2 rfl (th (ifT rfl (ex (xt (xt (xb (th (rg (?_)))))))))
      refine stp hT 3 0 rfl rfl rfl rfl ?_   -- codec.go:42 tNone t26 := 20
      refine fin hT 0 rfl (bl (th (sq (sq (rg (?_))))))
      refine fin hT 1 rfl (th (rt (rT (rB (rT (?_))))))
      exact ret1 rfl rfl ⟨_, rfl, rfl, by simp [rByte, h1], ao, cap, by simp [rByte, h1], by simpa [rByte, h1] using x⟩
    · cases b with
      | nil => exact absurd rfl h2
      | cons c r =>
        have hv : (rByte (c :: r, e)) = (c.toNat, (r, 0)) := by simp [rByte, h1]
        refine fin hT 2 rfl (th (ifF rfl (sk (th (sq (rg (?_)))))))
        refine ldp hT 3 0 rfl rfl rfl ?_   -- codec.go:44 t22 *t21
        refine cmp hT 0 rfl (fun h3 => absurd h1 h3) (fun h3 => ?_)   -- codec.go:44 t23 t22 ≠ 0
        refine fin hT 1 rfl (th (ifF rfl (sk (th (ex (xn rfl (xt (xn rfl (xt (xb (th (sq (rg (?_))))))))))))))
        refine ldp hT 3 0 rfl rfl rfl ?_   -- codec.go:47 t30 *t29
        refine ix1 hT 0 0 rfl rfl rfl x (by rfl) fun a31 hc31 => ?_   -- codec.go:47 t31 t30[0]
        refine ld hT 0 rfl (In.cons hm) hc31 ?_
        refine fin hT 1 rfl (th (sq (rg (?_))))
        refine ldp hT 4 0 rfl rfl rfl ?_   -- codec.go:48 t37 *t36
        refine sl hT 0 1 r.length rfl x rfl (by simp; omega) (by simp; omega) (ys := bv r) (by simp only [bv, List.map_cons, Nat.mul_one, List.drop_succ_cons, List.drop_zero]; rw [List.take_of_length_le (by simp)]) fun ao38 c38 x38 => ?_   -- codec.go:48 t38
        refine stp hT 2 0 rfl rfl rfl rfl ?_   -- codec.go:48 tNone t40 := t38
        refine fin hT 0 rfl (th (sq (rg (?_))))
        refine fin hT 2 rfl (th (rt (?_)))
        rw [hv]
        exact ret1 rfl rfl ⟨_, rfl, rfl, rfl, ao38, c38, by rw [h1]; rfl, x38⟩
  · dsimp only at h1
    have hv : (rByte (b, e)) = (0, (b, e)) := by simp [rByte, h1]
    refine fin hT 9 rfl (th (ifF rfl (sk (th (sq (rg (?_)))))))
    refine ldp hT 3 0 rfl rfl rfl ?_   -- codec.go:44 t22 *t21
    refine cmp hT 0 rfl (fun h4 => ?_) (fun h4 => absurd h1 h4)   -- codec.go:44 t23 t22 ≠ 0
    refine fin hT 1 rfl (th (ifT rfl (ex (xt (xn rfl (xt (xb (th (sq (sq (rg (?_))))))))))))
    refine fin hT 1 rfl (th (rt (rT (rB (rT (?_))))))
    rw [hv]
    exact ret1 rfl rfl ⟨_, rfl, rfl, rfl, ao, cap, rfl, x⟩
theorem uintC (hm : In K R hb) (most : Nat) (s : Rd) (hl : s.1.length < 1099511627776) (r : IsRd rb hb s h) : Ct Try.prog w0 41 [.pointer (some ⟨rb, 0, none⟩), .int .u64 (most : Nat)] K (h :: R)
    (fun v K' hs' => ∃ h', hs' = h' :: R ∧ K' = K ∧ v = .int .u64 ((rUint most s).1 : Nat) ∧ IsRd rb hb (rUint most s).2 h') := by
  obtain ⟨ao, cap, rfl, x⟩ := r
  obtain ⟨b, e⟩ := s
  refine enter Try.func41 (by kernel_rfl) rfl rfl rfl ?_
  refine sq (rg (?_))
  refine fin hT 1 rfl (th (sq (sq (rg (?_)))))
  refine ldp hT 3 0 rfl rfl rfl ?_   -- codec.go:73 t11 *t10
  refine cmp hT 0 rfl (fun h1 => ?_) (fun h1 => ?_)   -- codec.go:73 t12 t11 ≠ 0
  · dsimp only at h1
    have hv : rUint most (b, e) = (0, (b, e)) := by simp [rUint, h1]
    refine fin hT 0 rfl (th (ifT rfl (sq (rg (?_)))))
    refine fin hT 1 rfl (th (rt (rT (?_))))
    rw [hv]
    exact ret1 rfl rfl ⟨_, rfl, rfl, rfl, ao, cap, rfl, x⟩
  · dsimp only at h1 hl x
    have he : e = 0 := by omega
    subst he
    refine fin hT 0 rfl (th (ifF rfl (sk (th (sq (rg (?_)))))))
    refine ldp hT 3 0 rfl rfl rfl ?_   -- codec.go:76 t17 *t16
    refine cl hT 0 rfl (numberC ao cap b (In.cons hm) x hl) ?_   -- codec.go:76 t18
    rintro v18 K18 hs18 ⟨rfl, rfl, rfl⟩
    have hbd := number_bd b 0 0 (by omega) (by omega)
    have hun : rUint most (b, 0) = if (number 0 0 b).2.2 = 0 then (if most < (number 0 0 b).1 then (0, (b, 22)) else ((number 0 0 b).1, (b.drop (number 0 0 b).2.1, 0))) else (0, (b, (number 0 0 b).2.2)) := by simp [rUint]
    generalize number 0 0 b = N at *
    obtain ⟨nn, kk, ee⟩ := N
    dsimp only at hun hbd ⊢
    refine fin hT 7 rfl (th (sq (sq (rg (?_)))))
    refine cmp hT 1 rfl (fun h2 => ?_) (fun h2 => ?_)   -- codec.go:77 t23 t22 = 0
    · subst h2
      rw [if_pos rfl] at hun
      refine cmp hT 3 rfl (fun h3 => ?_) (fun h3 => ?_)   -- codec.go:77 t27 t25 > t26
      · rw [if_pos (by omega)] at hun
        refine fin hT 1 rfl (th (ifT rfl (rg (?_))))
        refine fin hT 1 rfl (th (sq (sq (rg (?_)))))
        refine cmp hT 1 rfl (fun h4 => ?_) (fun h4 => absurd (by decide) h4)   -- codec.go:80 t30 t29 ≠ 0
        refine fin hT 0 rfl (th (ifT rfl (sq (rg (?_)))))
        refine stp hT 4 0 rfl rfl rfl rfl ?_   -- codec.go:81 tNone t34 := t32
        refine fin hT 0 rfl (th (sq (rg (?_))))
        refine fin hT 1 rfl (th (rt (rT (?_))))
        rw [hun]
        exact ret1 rfl rfl ⟨_, rfl, rfl, rfl, ao, cap, rfl, x⟩
      · rw [if_neg (by omega)] at hun
        refine fin hT 1 rfl (th (ifF rfl (sk (th (sq (sq (rg (?_))))))))
        refine cmp hT 1 rfl (fun h5 => absurd rfl h5) (fun h5 => ?_)   -- codec.go:80 t30 t29 ≠ 0
        refine fin hT 0 rfl (th (ifF rfl (sk (th (sq (rg (?_)))))))
        refine ldp hT 4 0 rfl rfl rfl ?_   -- codec.go:84 t39 *t38
        refine sl hT 1 kk (b.length - kk) rfl x rfl (by simp; omega) (by omega) (ys := bv (b.drop kk)) (by simp only [bv, Nat.mul_one, ← List.map_drop, ← List.map_take]; rw [List.take_of_length_le (by simp)]) fun ao41 c41 x41 => ?_   -- codec.go:84 t41
        refine stp hT 2 0 rfl rfl rfl rfl ?_   -- codec.go:84 tNone t43 := t41
        refine fin hT 0 rfl (th (sq (rg (?_))))
        refine fin hT 2 rfl (th (rt (?_)))
        rw [hun]
        have e1 : b.length - kk = (b.drop kk).length := by simp
        rw [e1] at x41
        exact ret1 rfl rfl ⟨_, rfl, rfl, rfl, ao41, c41, by rw [e1]; rfl, x41⟩
    · rw [if_neg h2] at hun
      refine fin hT 5 rfl (th (ifF rfl (sk (th (sq (sq (rg (?_))))))))
      refine cmp hT 1 rfl (fun h6 => ?_) (fun h6 => absurd h2 h6)   -- codec.go:80 t30 t29 ≠ 0
      refine fin hT 0 rfl (th (ifT rfl (sq (rg (?_)))))
      refine stp hT 4 0 rfl rfl rfl rfl ?_   -- codec.go:81 tNone t34 := t32
      refine fin hT 0 rfl (th (sq (rg (?_))))
      refine fin hT 1 rfl (th (rt (rT (?_))))
      rw [hun]
      exact ret1 rfl rfl ⟨_, rfl, rfl, rfl, ao, cap, rfl, x⟩
theorem bytesC (hm : In K R hb) (most : Int) (hmost : most ≤ 9223372036854775807) (s : Rd) (hl : s.1.length < 1099511627776) (r : IsRd rb hb s h) : Ct Try.prog w0 42 [.pointer (some ⟨rb, 0, none⟩), .int .i64 most] K (h :: R)
    (fun v K' hs' => ∃ h' new, hs' = new ++ h' :: R ∧ K' = K ∧ ∃ hx ao' c', new = [hx] ∧ v = .slice ao' (rBytes most s).1.length c' ∧ Own hx ao' (rBytes most s).1.length c' 5 1 (bv (rBytes most s).1) ∧ IsRd rb hb (rBytes most s).2 h') := by
  obtain ⟨ao, cap, rfl, x⟩ := r
  obtain ⟨b, e⟩ := s
  dsimp only at hl x ⊢
  refine enter Try.func42 (by kernel_rfl) rfl rfl rfl ?_
  refine sq (rg (?_))
  refine fin hT 1 rfl (th (sq (rg (?_))))
  refine ldp hT 3 0 rfl rfl rfl ?_   -- codec.go:90 t11 *t10
  refine fin hT 1 rfl (th (sq (rg (?_))))
  refine ar hT 3 rfl (v' := .int .u64 (most.toNat : Nat)) (by split <;> rw [u64w (by omega)] <;> congr 1 <;> omega) ?_   -- codec.go:91 t15 convert t14
  refine cl hT 0 rfl (uintC hm most.toNat (b, e) hl ⟨ao, cap, rfl, x⟩) ?_   -- codec.go:91 t16
  rintro v16 K16 hs16 ⟨h', rfl, rfl, rfl, ao', cap', rfl, x'⟩
  have hres : rBytes most (b, e) = (let x := rUint most.toNat (b, e); if x.2.2 = 0 then (if x.2.1.length < x.1 then ([], (b, 20)) else (x.2.1.take x.1, (x.2.1.drop x.1, 0))) else ([], x.2)) := rfl
  obtain ⟨hn, hb'⟩ := rUint_bd most.toNat b e
  generalize rUint most.toNat (b, e) = U at *
  obtain ⟨nn, b', e'⟩ := U
  dsimp only at hres x' hb' hn ⊢
  refine fin hT 1 rfl (th (sq (sq (rg (?_)))))
  refine ldp hT 3 0 rfl rfl rfl ?_   -- codec.go:92 t20 *t19
  refine cmp hT 0 rfl (fun h1 => ?_) (fun h1 => ?_)   -- codec.go:92 t21 t20 = 0
  · subst h1
    rw [if_pos rfl] at hres
    refine ldp hT 5 0 rfl rfl rfl ?_   -- codec.go:92 t27 *t26
    refine ar hT 1 rfl (u64w (by omega)) ?_   -- codec.go:92 t29 convert t28
    refine cmp hT 0 rfl (fun h2 => ?_) (fun h2 => ?_)   -- codec.go:92 t30 t23 > t29
    · rw [if_pos (by omega)] at hres
      refine fin hT 1 rfl (th (ifT rfl (rg (?_))))
      refine stp hT 5 0 rfl rfl rfl rfl ?_   -- codec.go:93 tNone t36 := t34
      refine stp hT 2 0 rfl rfl rfl rfl ?_   -- codec.go:93 tNone t38 := 20
      refine fin hT 0 rfl (th (sq (sq (rg (?_)))))
      refine ldp hT 3 0 rfl rfl rfl ?_   -- codec.go:95 t42 *t41
      refine cmp hT 0 rfl (fun h3 => ?_) (fun h3 => absurd (by decide) h3)   -- codec.go:95 t43 t42 ≠ 0
      refine fin hT 0 rfl (th (ifT rfl (sq (rg (?_)))))
      refine fin hT 1 rfl (th (rt (rT (WQ.em ?_))))
      rw [hres]
      exact ret1 rfl rfl ⟨_, [em], rfl, rfl, em, none, 0, rfl, rfl, Own.nil _ _, ao, cap, rfl, x⟩
    · rw [if_neg (by omega)] at hres
      refine fin hT 1 rfl (th (ifF rfl (sk (th (sq (sq (rg (?_))))))))
      refine ldp hT 3 0 rfl rfl rfl ?_   -- codec.go:95 t42 *t41
      refine cmp hT 0 rfl (fun h4 => absurd rfl h4) (fun h4 => ?_)   -- codec.go:95 t43 t42 ≠ 0
      refine fin hT 0 rfl (th (ifF rfl (sk (th (sq (rg (?_)))))))
      refine ldp hT 3 0 rfl rfl rfl ?_   -- codec.go:98 t47 *t46
      have hle : nn ≤ b'.length := by omega
      have e1 : (b'.take nn).length = nn := by simp; omega
      have e2 : (b'.drop nn).length = b'.length - nn := by simp
      refine sl hT 1 0 nn rfl x' rfl (by simp) (by omega) (ys := bv (b'.take nn)) (by simp [bv, ← List.map_take]) fun ao49 c49 x49 => ?_   -- codec.go:98 t49
      have hcl := fun K hs hm => cloneB (w0 := w0) (K := K) (hb := hb) (hs := hs) ao49 c49 (b'.take nn) hm (isS_of x49 e1.symm rfl) (by simp; omega)
      rw [e1] at hcl
      refine cl hT 0 rfl (hcl _ _ (In.cons hm)) ?_   -- codec.go:98 t50
      rintro v50 K50 hs50 ⟨rfl, hx, aox, cx, rfl, rfl, ox⟩
      refine fin hT 1 rfl (th (sq (rg (?_))))
      refine ldp hT 4 1 rfl rfl rfl ?_   -- codec.go:99 t55 *t54
      refine sl hT 1 nn (b'.drop nn).length rfl x' rfl (by rw [e2]; simp; omega) (by omega) (ys := bv (b'.drop nn)) (by simp only [bv, Nat.mul_one, ← List.map_drop, ← List.map_take]; rw [List.take_of_length_le (Nat.le_refl _)]) fun ao57 c57 x57 => ?_   -- codec.go:99 t57
      refine stp hT 2 1 rfl rfl rfl rfl ?_   -- codec.go:99 tNone t59 := t57
      refine fin hT 0 rfl (th (sq (rg (?_))))
      refine fin hT 2 rfl (th (rt (?_)))
      rw [hres]
      exact ret1 rfl rfl ⟨_, [hx], rfl, rfl, hx, aox, cx, rfl, by rw [e1], by rw [e1]; exact ox, ao57, c57, rfl, x57⟩
  · rw [if_neg h1] at hres
    refine fin hT 10 rfl (th (ifF rfl (sk (th (sq (sq (rg (?_))))))))
    refine ldp hT 3 0 rfl rfl rfl ?_   -- codec.go:95 t42 *t41
    refine cmp hT 0 rfl (fun h5 => ?_) (fun h5 => absurd h1 h5)   -- codec.go:95 t43 t42 ≠ 0
    refine fin hT 0 rfl (th (ifT rfl (sq (rg (?_)))))
    refine fin hT 1 rfl (th (rt (rT (WQ.em ?_))))
    rw [hres]
    exact ret1 rfl rfl ⟨_, [em], rfl, rfl, em, none, 0, rfl, rfl, Own.nil _ _, ao', cap', rfl, x'⟩
end
/-- a new reader: a block, a copy of the bytes -/
theorem readC {w0 : World} {K hb : PH} {hs : List PH} (ao : Option Addr) (cap : Nat) (b : List UInt8) (hm : In K hs hb) (x : IsS hb ao b.length cap 1 (bv b)) (hl : b.length < 1099511627776) :
    Ct Try.prog w0 39 [.slice ao b.length cap] K hs
      (fun v K' hs' => K' = K ∧ ∃ rb h' hb', hs' = h' :: hb' :: hs ∧ v = .pointer (some ⟨rb, 0, none⟩) ∧ IsRd rb hb' (b, 0) h') := by
  refine enter Try.func39 (by kernel_rfl) rfl rfl rfl ?_
  refine sq (rg (?_))
  refine fin hT 1 rfl (th (sq (rg (?_))))
  refine cl hT 1 rfl (cloneB ao cap b hm x hl) ?_   -- codec.go:29 t4
  rintro v4 K4 hs4 ⟨rfl, hx, aox, cx, rfl, rfl, ox⟩
  refine bd hT 0 (.agg #[.slice aox b.length cx, .int .i64 0]) rfl (fun w => by kernel_rfl) ?_
  refine bx hT 0 rfl fun b6 => ?_   -- codec.go:29 t6
  refine fin hT 1 rfl (th (rt (?_)))
  exact ret1 rfl rfl ⟨rfl, b6, _, hx, rfl, rfl, aox, cx, rfl, ox.isS⟩
end Go.Proofs.Ythpiokdibknpaaa
