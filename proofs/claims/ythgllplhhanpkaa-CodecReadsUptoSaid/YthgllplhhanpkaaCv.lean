/-
  The law of numbers.
-/
import Derived.Test.YthgllplhhanpkaaCu
namespace Go.Proofs.Ythgllplhhanpkaa
open Go.En
set_option linter.unusedVariables false
attribute [local irreducible] Code.wp wpList Calls

theorem lawUints {w0 : World} {K hb : PH} {hs : List PH} (ao : Option Addr) (cap : Nat) (b : List UInt8) (n : Nat) (hn : n < 18446744073709551616) (hm : In K hs hb) (x : IsS hb ao b.length cap 1 (bv b)) (hl : b.length < 1099511627776) :
    Ct Try.prog w0 3 [.slice ao b.length cap, .int .u64 (n : Nat)] K hs (fun v K' hs' => K' = K ∧ v = .bool true) := by
  refine enter Try.func3 (by kernel_rfl) rfl rfl rfl ?_
  have hu := uint_le10 hn
  refine sq (rg (?_))
  refine fin hT 1 rfl (th (sq (rg (?_))))
  refine lit hT 0 #[] rfl (by decide) (by kernel_rfl) fun b6 => ?_   -- law.go:29 t6
  refine app hT 1 0 rfl rfl (Own.ofPt (c := #[]) (n := 0) (size := 1) (by simp) (by simp [maxLen])) (In.cons hm) x rfl (by decide) (bv_one _) (by dsimp only; omega) (by simp only [maxLen]; omega) fun ao8 c8 g8 o8 => ?_   -- law.go:29 t8
  refine cl hT 1 rfl (uintRef n hn) ?_   -- law.go:29 t10
  rintro v10 K10 hs10 ⟨h', rfl, rfl, ao', c', rfl, o'⟩
  refine app hT 0 1 rfl rfl o8 (.inr ⟨0, rfl⟩) o'.isS rfl (by decide) (bv_one _) (by dsimp only; omega) (by simp only [maxLen]; omega) fun ao11 c11 g11 o11 => ?_   -- law.go:29 t11
  have e1 : ([] : List Value) ++ bv b ++ bv (uint n) = bv (b ++ uint n) := by rw [List.nil_append, ← bv_append]
  have e1' : (#[] : Array Value).toList ++ bv b ++ bv (uint n) = bv (b ++ uint n) := e1
  rw [e1'] at o11
  refine fin hT 1 rfl (th (sq (rga [g11] 13 [1, 2, 6, 10, 16, 18, 5, 9, 13, 14, 20, 22, 24] (by simp) (by kernel_rfl) (by kernel_rfl) ?_)))
  refine dact hT (by kernel_rfl) 0 rfl ?_
  refine cl hT 0 rfl aliveC ?_   -- law.go:30 t12
  rintro v12 K12 hs12 ⟨rfl, rfl, rfl⟩
  refine dnex [g11] (by simp) (by simp) rfl ?_
  refine dcvs hT (by kernel_rfl) 4 (b ++ uint n) rfl (.inr ⟨0, rfl⟩) o11.isS (by kernel_rfl) ?_   -- law.go:30 t21 t20
  refine dact hT (by kernel_rfl) 0 rfl ?_
  refine lit hT 0 #[] rfl (by decide) (by kernel_rfl) fun b14 => ?_   -- law.go:30 t14
  refine dnex [g11] (by simp) (by simp) rfl ?_
  refine dact hT (by kernel_rfl) 0 rfl ?_
  refine app hT 0 0 rfl rfl (Own.ofPt (c := #[]) (n := 0) (size := 1) (by simp) (by simp [maxLen])) (In.cons (In.cons (In.cons hm))) x rfl (by decide) (bv_one _) (by dsimp only; omega) (by simp only [maxLen]; omega) fun ao16 c16 g16 o16 => ?_   -- law.go:30 t16
  refine dnex [g11] (by simp) (by simp) rfl ?_
  refine dact hT (by kernel_rfl) 0 rfl ?_
  have e2 : 0 + b.length = b.length := by omega
  rw [e2] at o16 ⊢
  refine cl hT 0 rfl (putUint ao16 c16 b n o16 hn hl) ?_   -- law.go:30 t18
  rintro v18 K18 hs18 ⟨h2, rfl, rfl, ao2, c2, rfl, o2⟩
  refine dnex [h2, g11] (by simp) (by simp) rfl ?_
  refine dcvs hT (by kernel_rfl) 0 (b ++ uint n) rfl (.inr ⟨0, rfl⟩) o2.isS (by kernel_rfl) ?_   -- law.go:30 t19 t18
  refine dar hT (by kernel_rfl) 0 rfl (v' := .bool true) (by rw [str_eq]; simp) ?_   -- law.go:30 t22 t19 = t21
  refine dend hT (by kernel_rfl) 2 rfl (th (rt (?_)))
  exact ret1 rfl rfl ⟨rfl, rfl⟩
end Go.Proofs.Ythgllplhhanpkaa
