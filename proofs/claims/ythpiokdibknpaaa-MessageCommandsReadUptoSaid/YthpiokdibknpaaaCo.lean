/-
  The reference's reader.
-/
import Derived.Test.YthpiokdibknpaaaCp
import Derived.Test.YthpiokdibknpaaaDx
namespace Go.Proofs.Ythpiokdibknpaaa
open Go.En
set_option linter.unusedVariables false
attribute [local irreducible] Code.wp wpList Calls

theorem u64mulN (a b : Nat) (h : a * b < 18446744073709551616) : Value.int .u64 (IntKind.u64.wrap (((a : Nat) : Int) * ((b : Nat) : Int))) = .int .u64 ((a * b : Nat) : Int) := by
  rw [← Int.natCast_mul]; exact u64w (by omega)
theorem u64addN (a b : Nat) (h : a + b < 18446744073709551616) : Value.int .u64 (IntKind.u64.wrap (((a : Nat) : Int) + ((b : Nat) : Int))) = .int .u64 ((a + b : Nat) : Int) := by
  rw [← Int.natCast_add]; exact u64w (by omega)
theorem u64mul128 (i : Nat) (h : i < 9) : Value.int .u64 (IntKind.u64.wrap (((128 ^ i : Nat) : Int) * 128)) = .int .u64 ((128 ^ (i + 1) : Nat) : Int) := by
  have h1 : 128 ^ (i + 1) ≤ 128 ^ 9 := Nat.pow_le_pow_right (by decide) (by omega)
  rw [pow9] at h1
  have h2 := u64mulN (128 ^ i) 128 (by rw [← Nat.pow_succ]; omega)
  rw [Nat.pow_succ]
  exact h2
theorem numberRef {w0 : World} {K hb : PH} {hs : List PH} (ao : Option Addr) (cap : Nat) (b : List UInt8) (hm : In K hs hb) (x : IsS hb ao b.length cap 1 (bv b)) (hl : b.length < 1099511627776) :
    Ct Try.prog w0 66 [.slice ao b.length cap] K hs
      (fun v K' hs' => K' = K ∧ hs' = hs ∧ v = .tuple #[.int .u64 ((number 0 0 b).1 : Nat), .int .i64 ((number 0 0 b).2.1 : Nat), .int .i64 (number 0 0 b).2.2]) := by
  refine enter Try.func66 (by kernel_rfl) rfl rfl rfl ?_
  refine sq (rg (?_))
  refine fin hT 3 rfl (th (sq (rg (?_))))
  refine fin hT 1 rfl (th (sq (rg (?_))))
  refine fin hT 1 rfl (th (sq (sq (rg (?_)))))
  refine fin hT 1 rfl (th (bk (?_)))
  refine loop (σ := Nat × Nat) (fun s => [(0, .slice ao b.length cap), (5, .int .u64 (s.2 : Nat)), (6, .int .u64 ((128 ^ s.1 : Nat) : Int)), (7, .int .i64 (s.1 : Nat))]) (fun _ => K) (fun _ => hs) (fun s => s.1 ≤ b.length ∧ s.1 ≤ 9 ∧ s.2 < 128 ^ s.1 ∧ number s.1 s.2 (b.drop s.1) = number 0 0 b) (fun s => b.length - s.1) (0, 0) ⟨Nat.zero_le _, by omega, by simp, rfl⟩ ⟨rfl, rfl, rfl, rfl, trivial⟩ rfl rfl ?_
  rintro ⟨i, acc⟩ ⟨hi, hi9, hacc, hnum⟩
  dsimp only at hi hi9 hacc hnum ⊢
  refine sq (sq (rg (?_)))
  refine cmp hT 3 rfl (fun h1 => ?_) (fun h1 => ?_)   -- ref.go:25 t11 t8 < t10
  · have hlt : i < b.length := by omega
    have hd : b.drop i = b[i] :: b.drop (i + 1) := List.drop_eq_getElem_cons hlt
    rw [hd] at hnum
    have hc := b[i].toNat_lt
    generalize hcc : b[i] = c at *
    have hm128 : c.toNat % 128 < 128 := Nat.mod_lt _ (by decide)
    rw [number_cons] at hnum
    refine fin hT 0 rfl (th (ifT rfl (sk (th (sq (bk (sq (sq (rg (?_))))))))))
    refine cmp hT 1 rfl (fun h2 => ?_) (fun h2 => ?_)   -- ref.go:26 t15 t14 = 9
    · refine ix1 hT 3 i rfl rfl rfl x (by rw [bv_get hlt, hcc]) fun a19 hc19 => ?_   -- ref.go:26 t19 t17[t18]
      refine ld hT 0 rfl hm hc19 ?_
      refine cmp hT 0 rfl (fun h3 => ?_) (fun h3 => ?_)   -- ref.go:26 t21 t20 > 1
      · rw [if_pos ⟨by omega, by omega⟩] at hnum
        refine fin hT 1 rfl (th (ifT rfl (sq (rg (?_)))))
        refine fin hT 3 rfl (th (rt (rT (rB (rT (rT (rB (rT (?_)))))))))
        exact ret3 rfl rfl rfl rfl ⟨rfl, rfl, by rw [← hnum]; rfl⟩
      · rw [if_neg (by omega), if_neg (by omega)] at hnum
        have hb1 := mul_pow_lt hi9 hacc hm128 (by omega)
        refine fin hT 1 rfl (th (ifF rfl (sk (th (sq (rg (?_)))))))
        refine ix1 hT 3 i rfl rfl rfl x (by rw [bv_get hlt, hcc]) fun a26 hc26 => ?_   -- ref.go:29 t26 t24[t25]
        refine ld hT 0 rfl hm hc26 ?_
        refine ar hT 0 rfl (u_rem .u8 _ 128) ?_   -- ref.go:29 t28 t27 rem 128
        refine ar hT 0 rfl (u64w (by omega)) ?_   -- ref.go:29 t29 convert t28
        refine ar hT 1 rfl (u64mulN _ _ (by omega)) ?_
        refine ar hT 0 rfl (u64addN _ _ hb1.1) ?_
        refine fin hT 1 rfl (th (sq (rg (?_))))
        refine ar hT 1 rfl rfl ?_
        refine fin hT 1 rfl (th (sq (rg (?_))))
        refine ix1 hT 2 i rfl rfl rfl x (by rw [bv_get hlt, hcc]) fun a37 hc37 => ?_   -- ref.go:31 t37 t35[t36]
        refine ld hT 0 rfl hm hc37 ?_
        refine cmp hT 0 rfl (fun h4 => ?_) (fun h4 => absurd h4 (by omega))
        · refine fin hT 0 rfl (th (ifT rfl (sq (sq (rg (?_))))))
          refine ix1 hT 2 i rfl rfl rfl x (by rw [bv_get hlt, hcc]) fun a42 hc42 => ?_   -- ref.go:32 t42 t40[t41]
          refine ld hT 0 rfl hm hc42 ?_
          refine cmp hT 0 rfl (fun h5 => ?_) (fun h5 => ?_)   -- ref.go:32 t44 t43 = 0
          · refine cmp hT 2 rfl (fun h6 => ?_) (fun h6 => absurd h6 (by omega))
            · rw [if_pos ⟨by omega, by omega⟩] at hnum
              refine fin hT 1 rfl (th (ifT rfl (sq (rg (?_)))))
              refine fin hT 3 rfl (th (rt (rT (rB (rT (rT (rB (rT (?_)))))))))
              exact ret3 rfl rfl rfl rfl ⟨rfl, rfl, by rw [← hnum]; rfl⟩
          · rw [if_neg (by omega)] at hnum
            refine fin hT 4 rfl (th (ifF rfl (sk (th (sq (rg (?_)))))))
            refine ar hT 2 rfl (i64w (by omega)) ?_
            refine fin hT 3 rfl (th (rt (rB (rT (rT (rB (rT (?_))))))))
            exact ret3 rfl rfl rfl rfl ⟨rfl, rfl, by rw [← hnum]; rfl⟩
    · rw [if_neg (by omega)] at hnum
      have hb1 := mul_pow_lt hi9 hacc hm128 (by omega)
      refine fin hT 7 rfl (th (ifF rfl (sk (th (sq (rg (?_)))))))
      refine ix1 hT 3 i rfl rfl rfl x (by rw [bv_get hlt, hcc]) fun a26 hc26 => ?_   -- ref.go:29 t26 t24[t25]
      refine ld hT 0 rfl hm hc26 ?_
      refine ar hT 0 rfl (u_rem .u8 _ 128) ?_   -- ref.go:29 t28 t27 rem 128
      refine ar hT 0 rfl (u64w (by omega)) ?_   -- ref.go:29 t29 convert t28
      refine ar hT 1 rfl (u64mulN _ _ (by omega)) ?_
      refine ar hT 0 rfl (u64addN _ _ hb1.1) ?_
      refine fin hT 1 rfl (th (sq (rg (?_))))
      refine ar hT 1 rfl (u64mul128 i (by omega)) ?_
      refine fin hT 1 rfl (th (sq (rg (?_))))
      refine ix1 hT 2 i rfl rfl rfl x (by rw [bv_get hlt, hcc]) fun a37 hc37 => ?_   -- ref.go:31 t37 t35[t36]
      refine ld hT 0 rfl hm hc37 ?_
      refine cmp hT 0 rfl (fun h7 => ?_) (fun h7 => ?_)   -- ref.go:31 t39 t38 < 128
      · rw [if_neg (by omega)] at hnum
        refine fin hT 0 rfl (th (ifT rfl (sq (sq (rg (?_))))))
        refine ix1 hT 2 i rfl rfl rfl x (by rw [bv_get hlt, hcc]) fun a42 hc42 => ?_   -- ref.go:32 t42 t40[t41]
        refine ld hT 0 rfl hm hc42 ?_
        refine cmp hT 0 rfl (fun h8 => ?_) (fun h8 => ?_)   -- ref.go:32 t44 t43 = 0
        · refine cmp hT 2 rfl (fun h9 => ?_) (fun h9 => ?_)   -- ref.go:32 t47 t46 > 0
          · rw [if_pos ⟨by omega, by omega⟩] at hnum
            refine fin hT 1 rfl (th (ifT rfl (sq (rg (?_)))))
            refine fin hT 3 rfl (th (rt (rT (rB (rT (rT (rB (rT (?_)))))))))
            exact ret3 rfl rfl rfl rfl ⟨rfl, rfl, by rw [← hnum]; rfl⟩
          · rw [if_neg (by omega)] at hnum
            refine fin hT 1 rfl (th (ifF rfl (sk (th (sq (rg (?_)))))))
            refine ar hT 2 rfl (i64w (by omega)) ?_   -- ref.go:35 t51 t50 add 1
            refine fin hT 3 rfl (th (rt (rB (rT (rT (rB (rT (?_))))))))
            exact ret3 rfl rfl rfl rfl ⟨rfl, rfl, by rw [← hnum]; rfl⟩
        · rw [if_neg (by omega)] at hnum
          refine fin hT 4 rfl (th (ifF rfl (sk (th (sq (rg (?_)))))))
          refine ar hT 2 rfl (i64w (by omega)) ?_   -- ref.go:35 t51 t50 add 1
          refine fin hT 3 rfl (th (rt (rB (rT (rT (rB (rT (?_))))))))
          exact ret3 rfl rfl rfl rfl ⟨rfl, rfl, by rw [← hnum]; rfl⟩
      · rw [if_pos (by omega)] at hnum
        refine fin hT 0 rfl (th (ifF rfl (sk (bl (th (rg (?_)))))))
        refine ar hT 1 rfl (i64w (by omega)) ?_   -- ref.go:25 t13 t12 add 1
        refine fin hT 1 rfl (?_)
        exact again (x := (i, acc)) (i + 1, acc + c.toNat % 128 * 128 ^ i) ⟨rfl, rfl, rfl, rfl, trivial⟩ rfl rfl ⟨by dsimp only; omega, by dsimp only; omega, hb1.2 (by omega), hnum⟩ (by dsimp only; omega)
  · obtain rfl : i = b.length := by omega
    refine fin hT 0 rfl (th (ifF rfl (ex (xt (xt (xb (th (sq (rg (?_))))))))))
    refine fin hT 3 rfl (th (rt (?_)))
    exact ret3 rfl rfl rfl rfl ⟨rfl, rfl, by rw [← hnum, List.drop_length]; rfl⟩
/-- the reference's reader, as a value -/
def rv (ao : Option Addr) (len cap : Nat) (p : Nat) (e : Int) : Value := .agg #[.slice ao len cap, .int .i64 (p : Nat), .int .i64 e]
theorem endRef {w0 : World} {K : PH} {hs : List PH} (ao : Option Addr) (cap : Nat) (b : List UInt8) (p : Nat) (e : Int) (hp : p ≤ b.length) :
    Ct Try.prog w0 48 [rv ao b.length cap p e] K hs (fun v K' hs' => K' = K ∧ hs' = hs ∧ v = .int .i64 (rEnd (b.drop p, e))) := by
  refine enter Try.func48 (by kernel_rfl) rfl rfl rfl ?_
  refine sq (rg (?_))
  refine bx hT 0 rfl fun b1 => ?_   -- ref.go:94 t1
  refine fin hT 1 rfl (th (sq (sq (rg (?_)))))
  refine ldp hT 1 0 rfl rfl rfl ?_   -- ref.go:95 t4 *t3
  refine cmp hT 0 rfl (fun h1 => ?_) (fun h1 => ?_)   -- ref.go:95 t5 t4 = 0
  · refine ldp hT 2 0 rfl rfl rfl ?_   -- ref.go:95 t8 *t7
    refine ldp hT 1 0 rfl rfl rfl ?_   -- ref.go:95 t10 *t9
    refine cmp hT 1 rfl (fun h2 => ?_) (fun h2 => ?_)   -- ref.go:95 t12 t8 < t11
    · refine fin hT 1 rfl (th (ifT rfl (sq (rg (?_)))))
      refine fin hT 1 rfl (th (rt (rT (WQ.drop ?_))))
      have hun : rEnd (b.drop p, e) = 23 := if_pos ⟨h1, by simp; omega⟩
      rw [hun]
      exact ret1 rfl rfl ⟨rfl, rfl, rfl⟩
    · refine fin hT 1 rfl (th (ifF rfl (sk (th (sq (rg (?_)))))))
      refine ldp hT 1 0 rfl rfl rfl ?_   -- ref.go:98 t15 *t14
      refine fin hT 1 rfl (th (rt (WQ.drop ?_)))
      have hun : rEnd (b.drop p, e) = e := if_neg (by simp; omega)
      rw [hun]
      exact ret1 rfl rfl ⟨rfl, rfl, rfl⟩
  · refine fin hT 8 rfl (th (ifF rfl (sk (th (sq (rg (?_)))))))
    refine ldp hT 1 0 rfl rfl rfl ?_   -- ref.go:98 t15 *t14
    refine fin hT 1 rfl (th (rt (WQ.drop ?_)))
    have hun : rEnd (b.drop p, e) = e := if_neg (fun h => h1 h.1)
    rw [hun]
    exact ret1 rfl rfl ⟨rfl, rfl, rfl⟩
theorem byteRef {w0 : World} {K hb : PH} {hs : List PH} (ao : Option Addr) (cap : Nat) (b : List UInt8) (hm : In K hs hb) (x : IsS hb ao b.length cap 1 (bv b)) (hl : b.length < 1099511627776) (p : Nat) (e : Int) (hp : p ≤ b.length) :
    Ct Try.prog w0 45 [rv ao b.length cap p e] K hs
      (fun v K' hs' => K' = K ∧ hs' = hs ∧ ∃ p', p' ≤ b.length ∧ v = .tuple #[rv ao b.length cap p' (rByte (b.drop p, e)).2.2, .int .u8 ((rByte (b.drop p, e)).1 : Nat)] ∧ (rByte (b.drop p, e)).2.1 = b.drop p') := by
  refine enter Try.func45 (by kernel_rfl) rfl rfl rfl ?_
  refine sq (rg (?_))
  refine bx hT 0 rfl fun b1 => ?_   -- ref.go:49 t1
  refine al hT 0 (.agg #[.slice none 0 0, .int .i64 0, .int .i64 0]) rfl (by kernel_rfl) fun b2 => ?_   -- ref.go:49 t2
  refine fin hT 1 rfl (th (sq (sq (rg (?_)))))
  refine ldp hT 1 1 rfl rfl rfl ?_   -- ref.go:50 t6 *t5
  refine cmp hT 0 rfl (fun h1 => ?_) (fun h1 => ?_)   -- ref.go:50 t7 t6 = 0
  · refine ldp hT 2 1 rfl rfl rfl ?_   -- ref.go:50 t10 *t9
    refine ldp hT 1 1 rfl rfl rfl ?_   -- ref.go:50 t12 *t11
    refine cmp hT 1 rfl (fun h2 => ?_) (fun h2 => ?_)   -- ref.go:50 t14 t10 ≥ t13
    · refine fin hT 1 rfl (th (ifT rfl (rg (?_))))
      refine stp hT 1 1 rfl rfl rfl rfl ?_   -- ref.go:51 tNone t16 := 20
      refine fin hT 0 rfl (th (sq (sq (rg (?_)))))
      refine ldp hT 1 1 rfl rfl rfl ?_   -- ref.go:53 t18 *t17
      refine cmp hT 0 rfl (fun h3 => ?_) (fun h3 => absurd (by decide) h3)
      · refine fin hT 0 rfl (th (ifT rfl (sq (rg (?_)))))
        refine ldS hT 0 1 rfl rfl (by kernel_rfl) ?_   -- ref.go:54 t20 t1
        refine stS hT 0 0 rfl rfl (by kernel_rfl) rfl rfl ?_   -- ref.go:54 tNone t2 := t20
        refine fin hT 1 rfl (th (rt (rT (?_))))
        have hd : b.drop p = [] := List.drop_eq_nil_of_le (by omega)
        have hun : rByte (b.drop p, e) = (0, ([], 20)) := by rw [hd, h1]; rfl
        rw [hun]
        exact retcP 0 2 rfl rfl rfl rfl (by kernel_rfl) ⟨rfl, rfl, p, hp, rfl, hd.symm⟩
    · refine fin hT 1 rfl (th (ifF rfl (sk (th (sq (sq (rg (?_))))))))
      refine ldp hT 1 1 rfl rfl rfl ?_   -- ref.go:53 t18 *t17
      refine cmp hT 0 rfl (fun h4 => absurd h1 h4) (fun h4 => ?_)
      · refine fin hT 0 rfl (th (ifF rfl (sk (th (sq (rg (?_)))))))
        refine ldp hT 1 1 rfl rfl rfl ?_   -- ref.go:56 t22 *t21
        refine ldp hT 1 1 rfl rfl rfl ?_   -- ref.go:56 t24 *t23
        have hlt : p < b.length := by omega
        refine ix1 hT 0 p rfl rfl rfl x (bv_get hlt) fun a25 hc25 => ?_   -- ref.go:56 t25 t22[t24]
        refine ld hT 0 rfl (In.cons (In.cons hm)) hc25 ?_
        refine fin hT 1 rfl (th (sq (rg (?_))))
        refine ldp hT 1 1 rfl rfl rfl ?_   -- ref.go:57 t28 *t27
        refine ar hT 0 rfl (i64w (by omega)) ?_   -- ref.go:57 t29 t28 add 1
        refine stp hT 1 1 rfl rfl rfl rfl ?_   -- ref.go:57 tNone t30 := t29
        refine fin hT 0 rfl (th (sq (rg (?_))))
        refine ldS hT 0 1 rfl rfl (by kernel_rfl) ?_   -- ref.go:58 t31 t1
        refine stS hT 1 0 rfl rfl (by kernel_rfl) rfl rfl ?_   -- ref.go:58 tNone t2 := t31
        refine fin hT 1 rfl (th (rt (?_)))
        have hun : rByte (b.drop p, e) = (b[p].toNat, (b.drop (p + 1), 0)) := by rw [List.drop_eq_getElem_cons hlt, h1]; rfl
        rw [hun]
        subst h1
        exact retcP 0 2 rfl rfl rfl rfl (by kernel_rfl) ⟨rfl, rfl, p + 1, hlt, rfl, rfl⟩
  · refine fin hT 8 rfl (th (ifF rfl (sk (th (sq (sq (rg (?_))))))))
    refine ldp hT 1 1 rfl rfl rfl ?_   -- ref.go:53 t18 *t17
    refine cmp hT 0 rfl (fun h5 => ?_) (fun h5 => absurd h1 h5)
    · refine fin hT 0 rfl (th (ifT rfl (sq (rg (?_)))))
      refine ldS hT 0 1 rfl rfl (by kernel_rfl) ?_   -- ref.go:54 t20 t1
      refine stS hT 0 0 rfl rfl (by kernel_rfl) rfl rfl ?_   -- ref.go:54 tNone t2 := t20
      refine fin hT 1 rfl (th (rt (rT (?_))))
      have hun : rByte (b.drop p, e) = (0, (b.drop p, e)) := if_neg h1
      rw [hun]
      exact retcP 0 2 rfl rfl rfl rfl (by kernel_rfl) ⟨rfl, rfl, p, hp, rfl, rfl⟩
theorem getUintRef {w0 : World} {K hb : PH} {hs : List PH} (ao : Option Addr) (cap : Nat) (b : List UInt8) (hm : In K hs hb) (x : IsS hb ao b.length cap 1 (bv b)) (hl : b.length < 1099511627776) (p : Nat) (e : Int) (hp : p ≤ b.length) (most : Nat) :
    Ct Try.prog w0 46 [rv ao b.length cap p e, .int .u64 (most : Nat)] K hs
      (fun v K' hs' => K' = K ∧ hs' = hs ∧ ∃ p', p' ≤ b.length ∧ v = .tuple #[rv ao b.length cap p' (rUint most (b.drop p, e)).2.2, .int .u64 ((rUint most (b.drop p, e)).1 : Nat)] ∧ (rUint most (b.drop p, e)).2.1 = b.drop p') := by
  refine enter Try.func46 (by kernel_rfl) rfl rfl rfl ?_
  refine sq (rg (?_))
  refine bx hT 0 rfl fun b2 => ?_   -- ref.go:62 t2
  refine al hT 0 (.agg #[.slice none 0 0, .int .i64 0, .int .i64 0]) rfl (by kernel_rfl) fun b4 => ?_   -- ref.go:62 t4
  refine fin hT 1 rfl (th (sq (sq (rg (?_)))))
  refine ldp hT 1 1 rfl rfl rfl ?_   -- ref.go:63 t10 *t9
  refine cmp hT 0 rfl (fun h1 => ?_) (fun h1 => ?_)   -- ref.go:63 t11 t10 ≠ 0
  · refine fin hT 0 rfl (th (ifT rfl (sq (rg (?_)))))
    refine ldS hT 0 1 rfl rfl (by kernel_rfl) ?_   -- ref.go:64 t12 t2
    refine stS hT 0 0 rfl rfl (by kernel_rfl) rfl rfl ?_   -- ref.go:64 tNone t4 := t12
    refine fin hT 1 rfl (th (rt (rT (?_))))
    have hun : rUint most (b.drop p, e) = (0, (b.drop p, e)) := if_neg h1
    rw [hun]
    exact retcP 0 2 rfl rfl rfl rfl (by kernel_rfl) ⟨rfl, rfl, p, hp, rfl, rfl⟩
  · refine fin hT 0 rfl (th (ifF rfl (sk (th (sq (rg (?_)))))))
    obtain rfl : e = 0 := Decidable.not_not.1 h1
    refine ldp hT 1 1 rfl rfl rfl ?_   -- ref.go:66 t15 *t14
    refine ldp hT 1 1 rfl rfl rfl ?_   -- ref.go:66 t17 *t16
    refine sl hT 0 p (b.length - p) rfl x rfl (by simp; omega) (by omega) (ys := bv (b.drop p)) (by simp only [bv, Nat.mul_one, ← List.map_drop, ← List.map_take]; rw [List.take_of_length_le (by simp)]) fun ao18 c18 x18 => ?_   -- ref.go:66 t18 [['Operand.tmp', 15], ['some', ['Operand.tmp', 17]], 'none', 'none']
    have e1 : b.length - p = (b.drop p).length := by simp
    rw [e1] at x18 ⊢
    refine cl hT 0 rfl (numberRef ao18 c18 (b.drop p) (In.cons (In.cons hm)) x18 (by omega)) ?_   -- ref.go:66 t19
    rintro v19 K19 hs19 ⟨rfl, rfl, rfl⟩
    have hun : rUint most (b.drop p, 0) = (let x := number 0 0 (b.drop p); if x.2.2 = 0 then (if most < x.1 then (0, (b.drop p, 22)) else (x.1, ((b.drop p).drop x.2.1, 0))) else (0, (b.drop p, x.2.2))) := rfl
    obtain ⟨hbd1, hbd2, _⟩ := number_bd (b.drop p) 0 0 (by omega) (by simp)
    generalize number 0 0 (b.drop p) = N at *
    obtain ⟨nn, kk, ee⟩ := N
    dsimp only at hun hbd1 hbd2 ⊢
    refine fin hT 7 rfl (th (sq (sq (rg (?_)))))
    refine cmp hT 1 rfl (fun h2 => ?_) (fun h2 => ?_)   -- ref.go:67 t24 t23 = 0
    · subst h2
      rw [if_pos rfl] at hun
      refine cmp hT 3 rfl (fun h3 => ?_) (fun h3 => ?_)   -- ref.go:67 t28 t26 > t27
      · rw [if_pos (by omega)] at hun
        refine fin hT 1 rfl (th (ifT rfl (rg (?_))))
        refine fin hT 1 rfl (th (sq (sq (rg (?_)))))
        refine cmp hT 1 rfl (fun h4 => ?_) (fun h4 => absurd (by decide) h4)
        · refine fin hT 0 rfl (th (ifT rfl (sq (rg (?_)))))
          refine stp hT 2 1 rfl rfl rfl rfl ?_   -- ref.go:71 tNone t33 := t32
          refine fin hT 0 rfl (th (sq (rg (?_))))
          refine ldS hT 0 1 rfl rfl (by kernel_rfl) ?_   -- ref.go:72 t34 t2
          refine stS hT 0 0 rfl rfl (by kernel_rfl) rfl rfl ?_   -- ref.go:72 tNone t4 := t34
          refine fin hT 1 rfl (th (rt (rT (?_))))
          rw [hun]
          exact retcP 0 2 rfl rfl rfl rfl (by kernel_rfl) ⟨rfl, rfl, p, hp, rfl, rfl⟩
      · rw [if_neg (by omega)] at hun
        refine fin hT 1 rfl (th (ifF rfl (sk (th (sq (sq (rg (?_))))))))
        refine cmp hT 1 rfl (fun h5 => absurd rfl h5) (fun h5 => ?_)
        · refine fin hT 0 rfl (th (ifF rfl (sk (th (sq (rg (?_)))))))
          refine ldp hT 1 1 rfl rfl rfl ?_   -- ref.go:74 t36 *t35
          refine ar hT 1 rfl (v' := .int .i64 ((p + kk : Nat) : Int)) (by rw [i64w (by omega)]; rfl) ?_
          refine stp hT 1 1 rfl rfl rfl rfl ?_   -- ref.go:74 tNone t39 := t38
          refine fin hT 0 rfl (th (sq (rg (?_))))
          refine ldS hT 0 1 rfl rfl (by kernel_rfl) ?_   -- ref.go:75 t40 t2
          refine stS hT 1 0 rfl rfl (by kernel_rfl) rfl rfl ?_   -- ref.go:75 tNone t4 := t40
          refine fin hT 1 rfl (th (rt (?_)))
          rw [hun]
          have hkk : p + kk ≤ b.length := by omega
          exact retcP 0 2 rfl rfl rfl rfl (by kernel_rfl) ⟨rfl, rfl, p + kk, hkk, rfl, by rw [List.drop_drop]⟩
    · rw [if_neg h2] at hun
      refine fin hT 5 rfl (th (ifF rfl (sk (th (sq (sq (rg (?_))))))))
      refine cmp hT 1 rfl (fun h6 => ?_) (fun h6 => absurd h2 h6)
      · refine fin hT 0 rfl (th (ifT rfl (sq (rg (?_)))))
        refine stp hT 2 1 rfl rfl rfl rfl ?_   -- ref.go:71 tNone t33 := t32
        refine fin hT 0 rfl (th (sq (rg (?_))))
        refine ldS hT 0 1 rfl rfl (by kernel_rfl) ?_   -- ref.go:72 t34 t2
        refine stS hT 0 0 rfl rfl (by kernel_rfl) rfl rfl ?_   -- ref.go:72 tNone t4 := t34
        refine fin hT 1 rfl (th (rt (rT (?_))))
        rw [hun]
        exact retcP 0 2 rfl rfl rfl rfl (by kernel_rfl) ⟨rfl, rfl, p, hp, rfl, rfl⟩
end Go.Proofs.Ythpiokdibknpaaa
