/-
  The law of cuts: what is cut off is too short.
-/
import Derived.Test.YthgllplhhanpkaaCl
namespace Go.En
set_option linter.unusedVariables false
theorem number_cut : ∀ (k m i acc n : Nat), m < 128 ^ k → i ≤ 9 → acc + m * 128 ^ i < 18446744073709551616 → n < (uint m).length → number i acc ((uint m).take n) = (0, 0, 20)
  | 0, m, i, acc, n, hk, hi, hb, hn => by
    have : m = 0 := by simpa using hk
    subst this
    rw [uint_lt (by omega)] at hn ⊢
    obtain rfl : n = 0 := by simpa using hn
    rfl
  | k + 1, m, i, acc, n, hk, hi, hb, hn => by
    have h9 : i = 9 → m ≤ 1 := fun h => by subst h; have := pow9; rw [this] at hb; omega
    by_cases hm : m < 128
    · rw [uint_lt hm] at hn ⊢
      obtain rfl : n = 0 := by simpa using hn
      rfl
    · rw [uint_ge hm] at hn ⊢
      have e : (UInt8.ofNat (m % 128 + 128)).toNat = m % 128 + 128 := UInt8.toNat_ofNat_of_lt' (Nat.lt_of_lt_of_le (m := 256) (by omega) (by decide))
      cases n with
      | zero => rfl
      | succ n =>
        rw [List.take_succ_cons, number_cons, e]
        have hi9 : i < 9 := by
          rcases Nat.lt_or_ge i 9 with h | h
          · exact h
          · have := h9 (by omega); omega
        rw [if_neg (by omega), if_pos (by omega), show (m % 128 + 128) % 128 = m % 128 from by omega]
        have hdiv : m = m % 128 + 128 * (m / 128) := by omega
        have hsum : acc + m % 128 * 128 ^ i + m / 128 * 128 ^ (i + 1) = acc + m * 128 ^ i := by
          conv => rhs; rw [hdiv, Nat.add_mul]
          rw [Nat.pow_succ]
          have : m / 128 * (128 ^ i * 128) = 128 * (m / 128) * 128 ^ i := by rw [Nat.mul_comm (128 ^ i), ← Nat.mul_assoc, Nat.mul_comm (m / 128)]
          omega
        exact number_cut k (m / 128) (i + 1) (acc + m % 128 * 128 ^ i) n (by rw [Nat.div_lt_iff_lt_mul (by omega)]; rw [Nat.pow_succ] at hk; omega) (by omega) (by rw [hsum]; exact hb) (by rw [List.length_cons] at hn; omega)
theorem rUint_cut {m n k : Nat} (hn : n < 18446744073709551616) (hk : k < (uint n).length) : rUint m ((uint n).take k, 0) = (0, ((uint n).take k, 20)) := by
  have h := number_cut 10 n 0 0 k (by rw [show (128 : Nat) ^ 10 = 1180591620717411303424 from by decide]; omega) (by omega) (by omega) hk
  unfold rUint
  simp only [if_true, h]
  rw [if_neg (by decide)]
theorem unsealed_cut {b : List UInt8} {n : Nat} (hb : b.length ≤ 2097152) (hn : n < (sealed b).length) : (unsealed ((sealed b).take n)).2.2 = 20 := by
  have hs : sealed b = uint b.length ++ (b ++ le4 (crc b).toNat) := by simp [sealed, putBytes]
  have hl := sealed_length b
  unfold unsealed rBytes
  by_cases h : n < (uint b.length).length
  · rw [hs, List.take_append_of_le_length (by omega)]
    dsimp only
    rw [rUint_cut (by omega) h]
    dsimp only
    rw [if_neg (by decide)]
    rfl
  · obtain ⟨k, rfl⟩ : ∃ k, n = (uint b.length).length + k := ⟨n - (uint b.length).length, by omega⟩
    rw [hs, List.take_length_add_append]
    dsimp only
    rw [rUint_uint _ (by omega) (by omega)]
    dsimp only
    rw [if_pos rfl]
    have hk : ((b ++ le4 (crc b).toNat).take k).length = k := by
      rw [List.length_take, List.length_append, show (le4 (crc b).toNat).length = 4 from rfl]; omega
    rw [hk]
    by_cases h2 : k < b.length
    · rw [if_pos h2]; rfl
    · rw [if_neg h2]
      unfold unsealedOf
      rw [if_neg (by simp), if_pos (by dsimp only; rw [List.length_drop, hk]; omega)]
end Go.En
namespace Go.Proofs.Ythgllplhhanpkaa
open Go.En
attribute [local irreducible] Code.wp wpList Calls
theorem lawCuts {w0 : World} {K hb : PH} {hs : List PH} (ao : Option Addr) (cap : Nat) (b : List UInt8) (hm : In K hs hb) (x : IsS hb ao b.length cap 1 (bv b)) (hl : b.length < 1099511627776) (n : Int) (hn : -9223372036854775808 ≤ n ∧ n ≤ 9223372036854775807) :
    Ct Try.prog w0 11 [.slice ao b.length cap, .int .i64 n] K hs (fun v K' hs' => K' = K ∧ v = .bool true) := by
  refine enter Try.func11 (by kernel_rfl) rfl rfl rfl ?_
  refine sq (rg (?_))
  refine fin hT 1 rfl (th (sq (rg (?_))))
  refine cl hT 1 rfl (sealC ao cap b hm x hl) ?_   -- law.go:126 t12
  rintro v12 K12 hs12 ⟨rfl, h12, rfl, ⟨hb12, rfl⟩ | ⟨hb12, ao12, c12, rfl, o12⟩⟩
  · refine fin hT 5 rfl (th (sq (sq (rg (?_)))))
    refine cmp hT 1 rfl (fun h1 => ?_) (fun h1 => absurd (by decide) h1)
    refine fin hT 10 rfl (th (ifT rfl (sq (rg (?_)))))
    refine cl hT 0 rfl aliveC ?_   -- law.go:128 t27
    rintro v27 K27 hs27 ⟨rfl, rfl, rfl⟩
    refine fin hT 1 rfl (th (rt (rT (?_))))
    exact ret1 rfl rfl ⟨rfl, rfl⟩
  · refine fin hT 5 rfl (th (sq (sq (rg (?_)))))
    refine cmp hT 1 rfl (fun h1 => absurd rfl h1) (fun h1 => ?_)
    refine cmp hT 2 rfl (fun h2 => ?_) (fun h2 => ?_)
    · refine fin hT 7 rfl (th (ifT rfl (sq (rg (?_)))))
      refine cl hT 0 rfl aliveC ?_   -- law.go:128 t27
      rintro v27 K27 hs27 ⟨rfl, rfl, rfl⟩
      refine fin hT 1 rfl (th (rt (rT (?_))))
      exact ret1 rfl rfl ⟨rfl, rfl⟩
    · refine cmp hT 5 rfl (fun h3 => ?_) (fun h3 => ?_)   -- law.go:127 t25 t22 ≥ t24
      · refine fin hT 1 rfl (th (ifT rfl (sq (rg (?_)))))
        refine cl hT 0 rfl aliveC ?_   -- law.go:128 t27
        rintro v27 K27 hs27 ⟨rfl, rfl, rfl⟩
        refine fin hT 1 rfl (th (rt (rT (?_))))
        exact ret1 rfl rfl ⟨rfl, rfl⟩
      · refine fin hT 1 rfl (th (ifF rfl (sk (th (sq (rg (?_)))))))
        have hls := sealed_length b
        have hu := uint_le10 (n := b.length) (by omega)
        obtain ⟨m, rfl⟩ := Int.eq_ofNat_of_zero_le (by omega : 0 ≤ n)
        have hm1 : m < (sealed b).length := by omega
        refine sl hT 2 0 m rfl o12.isS rfl (by simp) (by omega) (ys := bv ((sealed b).take m)) (by simp [bv, List.map_take]) fun ao31 c31 x31 => ?_   -- law.go:130 t31 [['Operand.tmp', 29], 'none', ['some', ['Operand.tmp', 30]], 'none']
        have hun := unsealed_cut hb12 hm1
        have e1 : m = ((sealed b).take m).length := by simp; omega
        generalize (sealed b).take m = q at *
        rw [e1] at x31 ⊢
        refine cl hT 0 rfl (unsealC ao31 c31 q (.inr ⟨0, rfl⟩) x31 (by omega)) ?_   -- law.go:130 t32
        rintro v32 K32 hs32 ⟨rfl, h32, rfl, ao32, c32, rfl, o32⟩
        refine fin hT 7 rfl (th (sq (rg (?_))))
        refine cl hT 0 rfl aliveC ?_   -- law.go:131 t36
        rintro v36 K36 hs36 ⟨rfl, rfl, rfl⟩
        refine cmp hT 2 rfl (fun h4 => ?_) (fun h4 => absurd hun h4)   -- law.go:131 t39 t38 = 20
        refine fin hT 2 rfl (th (rt (?_)))
        exact ret1 rfl rfl ⟨rfl, rfl⟩
end Go.Proofs.Ythgllplhhanpkaa
