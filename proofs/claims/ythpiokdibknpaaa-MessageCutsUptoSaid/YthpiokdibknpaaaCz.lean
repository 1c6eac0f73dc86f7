/-
  Plain law of cuts: what is cut off is too short.
-/
import Derived.Test.YthpiokdibknpaaaCp
namespace Go.En
set_option linter.unusedVariables false
theorem number_cut : ∀ (k m i acc n : Nat), m < 128 ^ k → i ≤ 9 → acc + m * 128 ^ i < 18446744073709551616 → n < (uint m).length → number i acc ((uint m).take n) = (0, 0, 20)
  | 0, m, i, acc, n, hk, hi, hb, hn => by
    have : m = 0 := by simpa using hk
    subst this
    rw [uint_lt (by omega)] at hn ⊢
    obtain rfl : n = 0 := by simpa using hn
    rfl
  | k + 1, m, i, acc, n, hk, hi, hb, hn => by
    have h9 : i = 9 → m ≤ 1 := fun h => by subst h; have := pow9; rw [this] at hb; omega
    by_cases hm : m < 128
    · rw [uint_lt hm] at hn ⊢
      obtain rfl : n = 0 := by simpa using hn
      rfl
    · rw [uint_ge hm] at hn ⊢
      have e : (UInt8.ofNat (m % 128 + 128)).toNat = m % 128 + 128 := UInt8.toNat_ofNat_of_lt' (Nat.lt_of_lt_of_le (m := 256) (by omega) (by decide))
      cases n with
      | zero => rfl
      | succ n =>
        rw [List.take_succ_cons, number_cons, e]
        have hi9 : i < 9 := by
          rcases Nat.lt_or_ge i 9 with h | h
          · exact h
          · have := h9 (by omega); omega
        rw [if_neg (by omega), if_pos (by omega), show (m % 128 + 128) % 128 = m % 128 from by omega]
        have hdiv : m = m % 128 + 128 * (m / 128) := by omega
        have hsum : acc + m % 128 * 128 ^ i + m / 128 * 128 ^ (i + 1) = acc + m * 128 ^ i := by
          conv => rhs; rw [hdiv, Nat.add_mul]
          rw [Nat.pow_succ]
          have : m / 128 * (128 ^ i * 128) = 128 * (m / 128) * 128 ^ i := by rw [Nat.mul_comm (128 ^ i), ← Nat.mul_assoc, Nat.mul_comm (m / 128)]
          omega
        exact number_cut k (m / 128) (i + 1) (acc + m % 128 * 128 ^ i) n (by rw [Nat.div_lt_iff_lt_mul (by omega)]; rw [Nat.pow_succ] at hk; omega) (by omega) (by rw [hsum]; exact hb) (by rw [List.length_cons] at hn; omega)
theorem rUint_cut {m n k : Nat} (hn : n < 18446744073709551616) (hk : k < (uint n).length) : rUint m ((uint n).take k, 0) = (0, ((uint n).take k, 20)) := by
  have h := number_cut 10 n 0 0 k (by rw [show (128 : Nat) ^ 10 = 1180591620717411303424 from by decide]; omega) (by omega) (by omega) hk
  unfold rUint
  simp only [if_true, h]
  rw [if_neg (by decide)]
theorem unsealed_cut {b : List UInt8} {n : Nat} (hb : b.length ≤ 2097152) (hn : n < (sealed b).length) : (unsealed ((sealed b).take n)).2.2 = 20 := by
  have hs : sealed b = uint b.length ++ (b ++ le4 (crc b).toNat) := by simp [sealed, putBytes]
  have hl := sealed_length b
  unfold unsealed rBytes
  by_cases h : n < (uint b.length).length
  · rw [hs, List.take_append_of_le_length (by omega)]
    dsimp only
    rw [rUint_cut (by omega) h]
    dsimp only
    rw [if_neg (by decide)]
    rfl
  · obtain ⟨k, rfl⟩ : ∃ k, n = (uint b.length).length + k := ⟨n - (uint b.length).length, by omega⟩
    rw [hs, List.take_length_add_append]
    dsimp only
    rw [rUint_uint _ (by omega) (by omega)]
    dsimp only
    rw [if_pos rfl]
    have hk : ((b ++ le4 (crc b).toNat).take k).length = k := by
      rw [List.length_take, List.length_append, show (le4 (crc b).toNat).length = 4 from rfl]; omega
    rw [hk]
    by_cases h2 : k < b.length
    · rw [if_pos h2]; rfl
    · rw [if_neg h2]
      unfold unsealedOf
      rw [if_neg (by simp), if_pos (by dsimp only; rw [List.length_drop, hk]; omega)]
end Go.En
