/-
  Laws of the codec: what was written is read; what is unsealed.
-/
import Derived.Test.YthgllplhhanpkaaCg
import Derived.Test.YthgllplhhanpkaaCb
namespace Go.Proofs.Ythgllplhhanpkaa
open Go.En
set_option linter.unusedVariables false
attribute [local irreducible] Code.wp wpList Calls

theorem lawBack {w0 : World} {K : PH} {hs : List PH} (n : Nat) (hn : n < 18446744073709551616) {hb2 : PH} (ao0 : Option Addr) (cap0 : Nat) (y : List UInt8) (hm0 : In K hs hb2) (x0 : IsS hb2 ao0 y.length cap0 1 (bv y)) (hl0 : y.length < 549755813888) (m : Nat) (hm' : m < 18446744073709551616) :
    Ct Try.prog w0 8 [.int .u64 (n : Nat), .slice ao0 y.length cap0, .int .u64 (m : Nat)] K hs (fun v K' hs' => K' = K ∧ v = .bool true) := by
  refine enter Try.func8 (by kernel_rfl) rfl rfl rfl ?_
  refine sq (rg (?_))
  refine fin hT 1 rfl (th (sq (rg (?_))))
  have hu1 := uint_le10 hn
  have hpl := putBytes_length y
  have hu2 := uint_le10 (n := y.length) (by omega)
  have hu3 := uint_le10 hm'
  refine WL.em ?_
  refine cl hT 1 rfl (putUint none 0 [] n (Own.nil _ _) hn (by simp)) ?_   -- law.go:73 t13
  rintro v13 K13 hs13 ⟨h13, rfl, rfl, ao13, c13, rfl, o13⟩
  rw [List.nil_append] at o13 ⊢
  refine cl hT 1 rfl (putBytesC ao13 c13 (uint n) ao0 cap0 y o13 hm0 x0 (by omega) hl0) ?_   -- law.go:73 t15
  rintro v15 K15 hs15 ⟨h15, rfl, rfl, ao15, c15, rfl, o15⟩
  refine cl hT 1 rfl (putUint ao15 c15 (uint n ++ putBytes y) m o15 hm' (by rw [List.length_append]; omega)) ?_   -- law.go:73 t17
  rintro v17 K17 hs17 ⟨h17, rfl, rfl, ao17, c17, rfl, o17⟩
  have e0 : uint n ++ putBytes y ++ uint m = uint n ++ (putBytes y ++ (uint m ++ [])) := by simp
  have hlen : (uint n ++ putBytes y ++ uint m).length < 1099511627776 := by rw [List.length_append, List.length_append]; omega
  rw [e0] at o17 hlen ⊢
  refine fin hT 1 rfl (th (sq (rg (?_))))
  refine cl hT 1 rfl (readC ao17 c17 _ (.inr ⟨0, rfl⟩) o17.isS hlen) ?_   -- law.go:74 t19
  rintro v19 K19 hs19 ⟨rfl, rb, h', hb', rfl, rfl, rd⟩
  refine fin hT 1 rfl (th (sq (sq (rg (?_)))))
  refine cb hT 1 rfl (fun h1 => by simp at h1) (fun h1 => ?_)   -- law.go:75 t21 t20 = c
  refine fin hT 0 rfl (th (ifF rfl (sk (th (sq (rg (?_)))))))
  refine cl hT 1 rfl (uintC (.inr ⟨0, rfl⟩) 18446744073709551615 (_, 0) hlen rd) ?_   -- law.go:78 t23
  rintro v23 K23 hs23 ⟨h23, rfl, rfl, rfl, rd2⟩
  rw [rUint_uint _ hn (by omega)] at rd2 ⊢
  refine fin hT 1 rfl (th (sq (rg (?_))))
  refine cl hT 3 rfl (bytesC (.inr ⟨0, rfl⟩) y.length (by omega) (_, 0) (by simp only [List.length_append] at hlen ⊢; omega) rd2) ?_   -- law.go:79 t27
  rintro v27 K27 hs27 ⟨h27, new, rfl, rfl, hx, aox, cx, rfl, rfl, ox, rd3⟩
  rw [rBytes_put _ (by omega) (by omega)] at ox rd3 ⊢
  refine WL.perm (List.Perm.swap _ _ _) ?_
  refine fin hT 1 rfl (th (sq (rg (?_))))
  refine cl hT 2 rfl (uintC (.inr ⟨1, rfl⟩) m (_, 0) (by simp only [List.length_append] at hlen ⊢; omega) rd3) ?_   -- law.go:80 t30
  rintro v30 K30 hs30 ⟨h30, rfl, rfl, rfl, rd4⟩
  rw [rUint_uint _ hm' (by omega)] at rd4 ⊢
  refine fin hT 1 rfl (th (sq (rg (?_))))
  refine cl hT 0 rfl aliveC ?_   -- law.go:81 t31
  rintro v31 K31 hs31 ⟨rfl, rfl, rfl⟩
  refine cmp hT 3 rfl (fun h2 => ?_) (fun h2 => absurd (by rfl) h2)   -- law.go:81 t35 t33 = t34
  refine cvs hT 3 y rfl (.inr ⟨1, rfl⟩) ox.isS (by kernel_rfl) ?_   -- law.go:81 t39 t38
  refine cvs hT 1 y rfl (In.cons (In.cons (In.cons (In.cons hm0)))) x0 (by kernel_rfl) ?_   -- law.go:81 t41 t40
  refine ar hT 0 rfl (v' := .bool true) (by rw [str_eq]; simp) ?_   -- law.go:81 t42 t39 = t41
  refine cmp hT 4 rfl (fun h4 => ?_) (fun h4 => absurd (by rfl) h4)   -- law.go:81 t47 t45 = t46
  refine cl hT 3 rfl (endC ([], 0) rd4) ?_   -- law.go:81 t51
  rintro v51 K51 hs51 ⟨rfl, rfl, rfl⟩
  refine cmp hT 0 rfl (fun h5 => ?_) (fun h5 => absurd (by rfl) h5)   -- law.go:81 t52 t51 = 0
  refine fin hT 2 rfl (th (rt (?_)))
  exact ret1 rfl rfl ⟨rfl, rfl⟩
theorem lawUnseals {w0 : World} {K hb : PH} {hs : List PH} (ao : Option Addr) (cap : Nat) (b : List UInt8) (hm : In K hs hb) (x : IsS hb ao b.length cap 1 (bv b)) (hl : b.length < 1099511627776) :
    Ct Try.prog w0 9 [.slice ao b.length cap] K hs (fun v K' hs' => K' = K ∧ v = .bool true) := by
  refine enter Try.func9 (by kernel_rfl) rfl rfl rfl ?_
  refine sq (rg (?_))
  refine fin hT 1 rfl (th (sq (rg (?_))))
  refine cl hT 1 rfl (unsealC ao cap b hm x hl) ?_   -- law.go:109 t11
  rintro v11 K11 hs11 ⟨rfl, h11, rfl, ao11, c11, rfl, o11⟩
  refine fin hT 7 rfl (th (sq (rg (?_))))
  refine cl hT 1 rfl (unsealRef ao cap b (In.cons hm) x hl) ?_   -- law.go:110 t17
  rintro v17 K17 hs17 ⟨rfl, h17, rfl, ao17, c17, rfl, o17⟩
  refine fin hT 7 rfl (th (sq (rg (?_))))
  refine cl hT 0 rfl aliveC ?_   -- law.go:111 t21
  rintro v21 K21 hs21 ⟨rfl, rfl, rfl⟩
  refine cmp hT 3 rfl (fun h1 => ?_) (fun h1 => absurd rfl h1)   -- law.go:111 t25 t23 = t24
  refine cmp hT 4 rfl (fun h2 => ?_) (fun h2 => absurd rfl h2)   -- law.go:111 t30 t28 = t29
  refine cvs hT 3 (unsealed b).1 rfl (.inr ⟨1, rfl⟩) o11.isS (by kernel_rfl) ?_   -- law.go:111 t34 t33
  refine cvs hT 1 (unsealed b).1 rfl (.inr ⟨0, rfl⟩) o17.isS (by kernel_rfl) ?_   -- law.go:111 t36 t35
  refine ar hT 0 rfl (v' := .bool true) (by rw [str_eq]; simp) ?_   -- law.go:111 t37 t34 = t36
  refine fin hT 2 rfl (th (rt (?_)))
  exact ret1 rfl rfl ⟨rfl, rfl⟩
theorem lawAgain {w0 : World} {K hb : PH} {hs : List PH} (ao : Option Addr) (cap : Nat) (b : List UInt8) (hm : In K [] hb) (x : IsS hb ao b.length cap 1 (bv b)) (hl : b.length < 1099511627776) :
    Ct Try.prog w0 7 [.slice ao b.length cap] K hs (fun v K' hs' => K' = K ∧ v = .bool true) := by
  obtain rfl : hb = K := hm.elim id (fun ⟨i, hi⟩ => by simp at hi)
  refine enter Try.func7 (by kernel_rfl) rfl rfl rfl ?_
  refine sq (rg (?_))
  refine fin hT 1 rfl (th (sq (rg (?_))))
  refine cl hT 1 rfl (readC ao cap b (.inl rfl) x hl) ?_   -- law.go:86 t6
  rintro v6 K6 hs6 ⟨rfl, rb, h', hb', rfl, rfl, rd⟩
  refine fin hT 1 rfl (th (sq (sq (rg (?_)))))
  refine cb hT 1 rfl (fun h1 => by simp at h1) (fun h1 => ?_)   -- law.go:87 t8 t7 = c
  refine fin hT 0 rfl (th (ifF rfl (sk (th (sq (rg (?_)))))))
  refine cl hT 1 rfl (uintC (.inr ⟨0, rfl⟩) 18446744073709551615 (b, 0) hl rd) ?_   -- law.go:90 t10
  rintro v10 K10 hs10 ⟨h10, rfl, rfl, rfl, rd2⟩
  have hok := rUint_ok (m := 18446744073709551615) (b := b)
  have herr := rUint_err (m := 18446744073709551615) (b := b)
  generalize rUint 18446744073709551615 (b, 0) = U at *
  obtain ⟨n, rest, e⟩ := U
  dsimp only at hok herr ⊢
  refine fin hT 1 rfl (th (sq (sq (rg (?_)))))
  refine cl hT 1 rfl (errC (rest, e) rd2) ?_   -- law.go:91 t12
  rintro v12 K12 hs12 ⟨rfl, rfl, rfl⟩
  refine cmp hT 0 rfl (fun h2 => ?_) (fun h2 => ?_)   -- law.go:91 t13 t12 ≠ 0
  · obtain ⟨rfl, rfl⟩ := herr h2
    refine fin hT 0 rfl (th (ifT rfl (sq (rg (?_)))))
    refine cl hT 0 rfl aliveC ?_   -- law.go:92 t14
    rintro v14 K14 hs14 ⟨rfl, rfl, rfl⟩
    refine cmp hT 2 rfl (fun h3 => ?_) (fun h3 => absurd (by rfl) h3)   -- law.go:92 t17 t16 = 0
    refine cl hT 3 rfl (leftC (rest, e) rd2) ?_   -- law.go:92 t21
    rintro v21 K21 hs21 ⟨rfl, rfl, rfl⟩
    refine cmp hT 2 rfl (fun h4 => ?_) (fun h4 => absurd (by rfl) h4)   -- law.go:92 t24 t21 = t23
    refine fin hT 2 rfl (th (rt (rT (?_))))
    exact ret1 rfl rfl ⟨rfl, rfl⟩
  · obtain rfl : e = 0 := Decidable.not_not.1 h2
    obtain ⟨hbe, hnm⟩ := hok rfl
    have hu := uint_le10 (n := n) (by omega)
    have hlb : b.length = (uint n).length + rest.length := by conv => lhs; rw [hbe, List.length_append]
    refine fin hT 0 rfl (th (ifF rfl (sk (th (sq (rga [] 16 [1, 2, 4, 10, 12, 14, 16, 7, 8, 19, 20, 22, 24, 26, 28, 30] (by simp) (by kernel_rfl) (by kernel_rfl) ?_))))))
    refine dact hT (by kernel_rfl) 0 rfl ?_
    refine cl hT 0 rfl aliveC ?_   -- law.go:94 t26
    rintro v26 K26 hs26 ⟨rfl, rfl, rfl⟩
    refine dnex [] (by simp) (by simp) rfl ?_
    refine dact hT (by kernel_rfl) 6 rfl (WL.em ?_)
    refine cl hT 0 rfl (putUint none 0 [] n (Own.nil _ _) (by omega) (by simp)) ?_   -- law.go:94 t29
    rintro v29 K29 hs29 ⟨h29, rfl, rfl, ao29, c29, rfl, o29⟩
    rw [List.nil_append] at o29 ⊢
    refine dnex [h29] (by simp) (by simp) rfl ?_
    refine dcvs hT (by kernel_rfl) 0 (uint n) rfl (.inr ⟨0, rfl⟩) o29.isS (by kernel_rfl) ?_   -- law.go:94 t30 t29
    refine dact hT (by kernel_rfl) 0 rfl (WL.perm (List.Perm.swap _ _ _) ?_)
    refine cl hT 0 rfl (leftC (rest, 0) rd2) ?_   -- law.go:94 t35
    rintro v35 K35 hs35 ⟨rfl, rfl, rfl⟩
    refine dnex [h29] (by simp) (by simp) rfl ?_
    refine dar hT (by kernel_rfl) 0 rfl (v' := .int .i64 (((uint n).length : Nat) : Int)) (by dsimp only; rw [i64w (by omega)]; congr 1; omega) ?_
    refine dsl hT (by kernel_rfl) 0 0 (uint n).length rfl rfl x rfl (by simp) (by omega) (ys := bv (uint n)) (by rw [Nat.zero_mul, List.drop_zero, Nat.mul_one, hbe, bv_append, List.take_left' (bv_length _)]) fun ao37 c37 x37 => ?_   -- law.go:94 t37 [['Operand.tmp', 31], 'none', ['some', ['Operand.tmp', 36]], 'none']
    refine dcvs hT (by kernel_rfl) 0 (uint n) rfl (.inl rfl) x37 (by kernel_rfl) ?_   -- law.go:94 t38 t37
    refine dar hT (by kernel_rfl) 0 rfl (v' := .bool true) (by rw [str_eq]; simp) ?_   -- law.go:94 t39 t30 = t38
    refine dend hT (by kernel_rfl) 2 rfl (th (rt (?_)))
    exact ret1 rfl rfl ⟨rfl, rfl⟩
theorem lawOpens {w0 : World} {K hb : PH} {hs : List PH} (ao : Option Addr) (cap : Nat) (b : List UInt8) (hm : In K hs hb) (x : IsS hb ao b.length cap 1 (bv b)) (hl : b.length < 1099511627776) {hb2 : PH} (ao0 : Option Addr) (cap0 : Nat) (y : List UInt8) (hm0 : In K hs hb2) (x0 : IsS hb2 ao0 y.length cap0 1 (bv y)) (hl0 : y.length < 549755813888) :
    Ct Try.prog w0 10 [.slice ao b.length cap, .slice ao0 y.length cap0] K hs (fun v K' hs' => K' = K ∧ v = .bool true) := by
  refine enter Try.func10 (by kernel_rfl) rfl rfl rfl ?_
  refine sq (rg (?_))
  refine fin hT 1 rfl (th (sq (rg (?_))))
  refine cl hT 1 rfl (sealC ao cap b hm x hl) ?_   -- law.go:116 t12
  rintro v12 K12 hs12 ⟨rfl, h12, rfl, ⟨hb12, rfl⟩ | ⟨hb12, ao12, c12, rfl, o12⟩⟩
  · refine fin hT 5 rfl (th (sq (sq (rg (?_)))))
    refine cmp hT 1 rfl (fun h1 => ?_) (fun h1 => absurd (by decide) h1)
    refine fin hT 0 rfl (th (ifT rfl (sq (rg (?_)))))
    refine cl hT 0 rfl aliveC ?_   -- law.go:118 t17
    rintro v17 K17 hs17 ⟨rfl, rfl, rfl⟩
    refine cmp hT 3 rfl (fun h2 => ?_) (fun h2 => absurd (by omega) h2)
    refine fin hT 2 rfl (th (rt (rT (?_))))
    exact ret1 rfl rfl ⟨rfl, rfl⟩
  · refine fin hT 5 rfl (th (sq (sq (rg (?_)))))
    refine cmp hT 1 rfl (fun h1 => absurd rfl h1) (fun h1 => ?_)
    refine fin hT 0 rfl (th (ifF rfl (sk (th (sq (rg (?_)))))))
    have hls := sealed_length b
    have hu := uint_le10 (n := b.length) (by omega)
    refine lit hT 0 #[] rfl (by decide) (by kernel_rfl) fun b24 => ?_   -- law.go:120 t24
    refine app hT 1 0 rfl rfl (Own.ofPt (c := #[]) (n := 0) (size := 1) (by simp) (by simp [maxLen])) (.inr ⟨1, rfl⟩) o12.isS rfl (by decide) (bv_one _) (by dsimp only; omega) (by simp only [maxLen]; omega) fun ao26 c26 g26 o26 => ?_   -- law.go:120 t26
    refine app hT 1 0 rfl rfl o26 (In.cons (In.cons hm0)) x0 rfl (by decide) (bv_one _) (by dsimp only; omega) (by simp only [maxLen]; omega) fun ao28 c28 g28 o28 => ?_   -- law.go:120 t28
    have e1 : 0 + (sealed b).length + y.length = (sealed b ++ y).length := by rw [List.length_append]; omega
    have e2 : (#[] : Array Value).toList ++ bv (sealed b) ++ bv y = bv (sealed b ++ y) := by rw [bv_append]; rfl
    rw [e1, e2] at o28
    rw [e1]
    refine cl hT 0 rfl (unsealC ao28 c28 (sealed b ++ y) (.inr ⟨0, rfl⟩) o28.isS (by omega)) ?_   -- law.go:120 t29
    rintro v29 K29 hs29 ⟨rfl, h29, rfl, ao29, c29, rfl, o29⟩
    rw [unsealed_sealed y hb12] at o29 ⊢
    refine fin hT 7 rfl (th (sq (rg (?_))))
    refine cl hT 0 rfl aliveC ?_   -- law.go:121 t33
    rintro v33 K33 hs33 ⟨rfl, rfl, rfl⟩
    refine cmp hT 2 rfl (fun h3 => ?_) (fun h3 => absurd rfl h3)   -- law.go:121 t36 t35 = 0
    refine cmp hT 5 rfl (fun h4 => ?_) (fun h4 => absurd rfl h4)   -- law.go:121 t42 t39 = t41
    refine cvs hT 3 b rfl (.inr ⟨0, rfl⟩) o29.isS (by kernel_rfl) ?_   -- law.go:121 t46 t45
    refine cvs hT 1 b rfl (In.cons (In.cons (In.cons hm))) x (by kernel_rfl) ?_   -- law.go:121 t48 t47
    refine ar hT 0 rfl (v' := .bool true) (by rw [str_eq]; simp) ?_   -- law.go:121 t49 t46 = t48
    refine fin hT 2 rfl (th (rt (?_)))
    exact ret1 rfl rfl ⟨rfl, rfl⟩
end Go.Proofs.Ythgllplhhanpkaa
