/-
  What a reader's functions come to.
-/
import Derived.Test.YthpiokdibknpaaaCw
namespace Go.Proofs.Ythpiokdibknpaaa
open Go.En
set_option linter.unusedVariables false
attribute [local irreducible] Code.wp wpList Calls

theorem cloneB {w0 : World} {K hb : PH} {hs : List PH} (ao : Option Addr) (cap : Nat) (b : List UInt8) (hm : In K hs hb) (x : IsS hb ao b.length cap 1 (bv b)) (hl : b.length < 1099511627776) :
    Ct Try.prog w0 64 [.slice ao b.length cap] K hs
      (fun v K' hs' => K' = K ∧ ∃ h' ao' c', hs' = h' :: hs ∧ v = .slice ao' b.length c' ∧ Own h' ao' b.length c' 5 1 (bv b)) := by
  refine enter Try.func64 (by kernel_rfl) rfl rfl rfl ?_
  refine sq (rg (?_))
  refine fin hT 1 rfl (th (sq (sq (rg (?_)))))
  refine cb hT 1 rfl (fun h1 => ?_) (fun h1 => ?_)   -- slices.go:357 t4 t3 = c
  · have hao : ao = none := by simpa using h1
    subst hao
    have hb0 : b = [] := by
      cases b with
      | nil => rfl
      | cons c r => obtain ⟨a, ha, _⟩ := x.2.2 0 _ (by simp [bv]; rfl); cases ha
    subst hb0
    refine fin hT 0 rfl (th (ifT rfl (sq (rg (?_)))))
    refine fin hT 1 rfl (th (rt (rT (WQ.em ?_))))
    exact ret1 rfl rfl ⟨rfl, em, none, 0, rfl, rfl, Own.nil _ _⟩
  · refine fin hT 0 rfl (th (ifF rfl (sk (th (sq (rg (?_)))))))
    refine lit hT 0 #[] rfl (by decide) (by kernel_rfl) fun b5 => ?_   -- slices.go:362 t5
    refine app hT 1 0 rfl rfl (Own.ofPt (c := #[]) (n := 0) (by simp) (by simp [maxLen])) (In.cons hm) x rfl (by decide) (bv_one _) (by simp; omega) (by simp [maxLen]; omega) fun ao7 c7 g7 o7 => ?_   -- slices.go:362 t7
    refine fin hT 1 rfl (th (rt (?_)))
    have e : 0 + b.length = b.length := Nat.zero_add _
    rw [e] at o7
    exact ret1 rfl (by rw [e]; rfl) ⟨rfl, g7, ao7, c7, rfl, rfl, o7⟩

theorem numberC {w0 : World} {K hb : PH} {hs : List PH} (ao : Option Addr) (cap : Nat) (b : List UInt8) (hm : In K hs hb) (x : IsS hb ao b.length cap 1 (bv b)) (hl : b.length < 1099511627776) :
    Ct Try.prog w0 65 [.slice ao b.length cap] K hs
      (fun v K' hs' => K' = K ∧ hs' = hs ∧ v = .tuple #[.int .u64 ((number 0 0 b).1 : Nat), .int .i64 ((number 0 0 b).2.1 : Nat), .int .i64 (number 0 0 b).2.2]) := by
  refine enter Try.func65 (by kernel_rfl) rfl rfl rfl ?_
  refine sq (rg (?_))
  refine fin hT 3 rfl (th (sq (rg (?_))))
  refine fin hT 1 rfl (th (sq (sq (rg (?_)))))
  refine fin hT 3 rfl (th (bk (?_)))
  refine loop (σ := Nat × Nat) (fun s => [(5, .int .u64 (s.2 : Nat)), (8, .slice ao b.length cap), (9, .int .i64 (b.length : Nat)), (10, .int .i64 (s.1 : Nat))]) (fun _ => K) (fun _ => hs)
    (fun s => s.1 ≤ b.length ∧ s.1 ≤ 9 ∧ s.2 < 128 ^ s.1 ∧ number s.1 s.2 (b.drop s.1) = number 0 0 b) (fun s => b.length - s.1) (0, 0) ⟨Nat.zero_le _, by omega, by simp, rfl⟩ ⟨rfl, rfl, rfl, rfl, trivial⟩ rfl rfl ?_
  rintro ⟨i, acc⟩ ⟨hi, hi9, hacc, hnum⟩
  dsimp only at hi hi9 hacc hnum ⊢
  refine sq (rg (?_))
  refine cmp hT 0 rfl (fun h1 => ?_) (fun h1 => ?_)   -- codec.go:55 t11 t10 < t9
  · have hlt : i < b.length := by omega
    have hd : b.drop i = b[i] :: b.drop (i + 1) := List.drop_eq_getElem_cons hlt
    rw [hd] at hnum
    have hc := b[i].toNat_lt
    generalize hcc : b[i] = c at *
    have hm128 : c.toNat % 128 < 128 := Nat.mod_lt _ (by decide)
    rw [number_cons] at hnum
    refine fin hT 0 rfl (th (sq (ifT rfl (sk (th (sq (bk (sq (rg (?_))))))))))
    refine ix1 hT 1 i rfl rfl rfl x (by rw [bv_get hlt, hcc]) fun a13 hc13 => ?_   -- codec.go:55 t13 t8[t10]
    refine ld hT 0 rfl hm hc13 ?_
    refine fin hT 2 rfl (th (sq (sq (rg (?_)))))
    refine cmp hT 1 rfl (fun h2 => ?_) (fun h2 => ?_)   -- codec.go:56 t16 t15 = 9
    · refine cmp hT 2 rfl (fun h3 => ?_) (fun h3 => ?_)   -- codec.go:56 t19 t18 > 1
      · rw [if_pos ⟨by omega, by omega⟩] at hnum
        refine fin hT 1 rfl (th (ifT rfl (sq (rg (?_)))))
        refine fin hT 3 rfl (th (rt (rT (rB (rT (rT (rB (rT (?_)))))))))
        exact ret3 rfl rfl rfl rfl ⟨rfl, rfl, by rw [← hnum]; rfl⟩
      · rw [if_neg (by omega), if_neg (by omega)] at hnum
        have hb1 := mul_pow_lt hi9 hacc hm128 (by omega)
        refine fin hT 1 rfl (th (ifF rfl (sk (th (sq (rg (?_)))))))
        refine ar hT 2 rfl (u8and127 _) ?_   -- codec.go:59 t23 t22 and 127
        refine ar hT 0 rfl (u64w (by omega)) ?_   -- codec.go:59 t24 convert t23
        refine ar hT 1 rfl (i64w (by omega)) ?_   -- codec.go:59 t26 7 mul t25
        refine shf hT 0 rfl (by omega) (.inl ⟨rfl, u64shl7 _ _ hi9 (by omega)⟩) ?_   -- codec.go:59 t27 t24 shl t26
        refine ar hT 0 rfl (u64or _ _ _ hacc hb1.1) ?_   -- codec.go:59 t28 t21 or t27
        refine fin hT 1 rfl (th (sq (sq (rg (?_)))))
        refine cmp hT 1 rfl (fun h4 => absurd h4 (by omega)) (fun h4 => ?_)   -- codec.go:60 t30 t29 ≥ 128
        refine fin hT 0 rfl (th (ifF rfl (sk (th (sq (sq (rg (?_))))))))
        refine cmp hT 1 rfl (fun h5 => ?_) (fun h5 => ?_)   -- codec.go:63 t32 t31 = 0
        · refine cmp hT 2 rfl (fun h6 => ?_) (fun h6 => absurd h6 (by omega))   -- codec.go:63 t35 t34 > 0
          rw [if_pos ⟨by omega, by omega⟩] at hnum
          refine fin hT 1 rfl (th (ifT rfl (sq (rg (?_)))))
          refine fin hT 3 rfl (th (rt (rT (rB (rT (rT (rB (rT (?_)))))))))
          exact ret3 rfl rfl rfl rfl ⟨rfl, rfl, by rw [← hnum]; rfl⟩
        · rw [if_neg (by omega)] at hnum
          refine fin hT 4 rfl (th (ifF rfl (sk (th (sq (rg (?_)))))))
          refine ar hT 2 rfl (i64w (by omega)) ?_   -- codec.go:66 t39 t38 add 1
          refine fin hT 3 rfl (th (rt (rB (rT (rT (rB (rT (?_))))))))
          exact ret3 rfl rfl rfl rfl ⟨rfl, rfl, by rw [← hnum]; rfl⟩
    · rw [if_neg (by omega)] at hnum
      have hb1 := mul_pow_lt hi9 hacc hm128 (by omega)
      refine fin hT 4 rfl (th (ifF rfl (sk (th (sq (rg (?_)))))))
      refine ar hT 2 rfl (u8and127 _) ?_   -- codec.go:59 t23 t22 and 127
      refine ar hT 0 rfl (u64w (by omega)) ?_   -- codec.go:59 t24 convert t23
      refine ar hT 1 rfl (i64w (by omega)) ?_   -- codec.go:59 t26 7 mul t25
      refine shf hT 0 rfl (by omega) (.inl ⟨rfl, u64shl7 _ _ hi9 (by omega)⟩) ?_   -- codec.go:59 t27 t24 shl t26
      refine ar hT 0 rfl (u64or _ _ _ hacc hb1.1) ?_   -- codec.go:59 t28 t21 or t27
      refine fin hT 1 rfl (th (sq (sq (rg (?_)))))
      refine cmp hT 1 rfl (fun h7 => ?_) (fun h7 => ?_)   -- codec.go:60 t30 t29 ≥ 128
      · rw [if_pos (by omega)] at hnum
        refine fin hT 0 rfl (th (ifT rfl (ex (xt (xb (th (rg (?_))))))))
        refine ar hT 0 rfl (i64w (by omega)) ?_   -- codec.go:55 t40 t10 add 1
        refine fin hT 1 rfl (?_)
        exact again (x := (i, acc)) (i + 1, acc + c.toNat % 128 * 128 ^ i) ⟨rfl, rfl, rfl, rfl, trivial⟩ rfl rfl ⟨by dsimp only; omega, by dsimp only; omega, hb1.2 (by omega), hnum⟩ (by dsimp only; omega)
      · rw [if_neg (by omega)] at hnum
        refine fin hT 0 rfl (th (ifF rfl (sk (th (sq (sq (rg (?_))))))))
        refine cmp hT 1 rfl (fun h8 => ?_) (fun h8 => ?_)   -- codec.go:63 t32 t31 = 0
        · refine cmp hT 2 rfl (fun h9 => ?_) (fun h9 => ?_)   -- codec.go:63 t35 t34 > 0
          · rw [if_pos ⟨by omega, by omega⟩] at hnum
            refine fin hT 1 rfl (th (ifT rfl (sq (rg (?_)))))
            refine fin hT 3 rfl (th (rt (rT (rB (rT (rT (rB (rT (?_)))))))))
            exact ret3 rfl rfl rfl rfl ⟨rfl, rfl, by rw [← hnum]; rfl⟩
          · rw [if_neg (by omega)] at hnum
            refine fin hT 1 rfl (th (ifF rfl (sk (th (sq (rg (?_)))))))
            refine ar hT 2 rfl (i64w (by omega)) ?_   -- codec.go:66 t39 t38 add 1
            refine fin hT 3 rfl (th (rt (rB (rT (rT (rB (rT (?_))))))))
            exact ret3 rfl rfl rfl rfl ⟨rfl, rfl, by rw [← hnum]; rfl⟩
        · rw [if_neg (by omega)] at hnum
          refine fin hT 4 rfl (th (ifF rfl (sk (th (sq (rg (?_)))))))
          refine ar hT 2 rfl (i64w (by omega)) ?_   -- codec.go:66 t39 t38 add 1
          refine fin hT 3 rfl (th (rt (rB (rT (rT (rB (rT (?_))))))))
          exact ret3 rfl rfl rfl rfl ⟨rfl, rfl, by rw [← hnum]; rfl⟩
  · obtain rfl : i = b.length := by omega
    refine fin hT 0 rfl (th (sq (ifF rfl (ex (xt (xt (xb (th (sq (rg (?_)))))))))))
    refine fin hT 3 rfl (th (rt (?_)))
    exact ret3 rfl rfl rfl rfl ⟨rfl, rfl, by rw [← hnum, List.drop_length]; rfl⟩
end Go.Proofs.Ythpiokdibknpaaa
