/-
  Plain laws: what is read of what was written. No program in sight.
-/
import Derived.Test.YthpiokdibknpaaaCs
namespace Go.En
set_option linter.unusedVariables false

/-- what was read as a number is written as the bytes that were read -/
theorem number_back : ∀ (b : List UInt8) (i acc : Nat), i ≤ 9 → (number i acc b).2.2 = 0 → ∃ (m : Nat) (r : List UInt8), b = uint m ++ r ∧ (number i acc b).1 = acc + m * 128 ^ i ∧ (number i acc b).2.1 = i + (uint m).length ∧ (0 < i → 0 < m)
  | [], i, acc, hi, h => by simp [number] at h
  | c :: r, i, acc, hi, h => by
    have hc := c.toNat_lt
    rw [number_cons] at h ⊢
    by_cases h1 : i = 9 ∧ 1 < c.toNat
    · rw [if_pos h1] at h; simp at h
    · rw [if_neg h1] at h ⊢
      by_cases h2 : 128 ≤ c.toNat
      · rw [if_pos h2] at h ⊢
        obtain ⟨m, r', hb, hn, hk, hp⟩ := number_back r (i + 1) (acc + c.toNat % 128 * 128 ^ i) (by omega) h
        have hm := hp (by omega)
        refine ⟨c.toNat % 128 + 128 * m, r', ?_, ?_, ?_, fun _ => by omega⟩
        · rw [uint_ge (by omega), show (c.toNat % 128 + 128 * m) / 128 = m from by omega, show (c.toNat % 128 + 128 * m) % 128 + 128 = c.toNat from by omega, hb]
          simp
        · rw [hn, Nat.pow_succ, Nat.add_mul]
          have : m * (128 ^ i * 128) = 128 * m * 128 ^ i := by rw [Nat.mul_comm (128 ^ i), ← Nat.mul_assoc, Nat.mul_comm m]
          omega
        · rw [hk, uint_ge (n := c.toNat % 128 + 128 * m) (by omega), show (c.toNat % 128 + 128 * m) / 128 = m from by omega, List.length_cons]
          omega
      · rw [if_neg h2] at h ⊢
        by_cases h3 : c.toNat = 0 ∧ 0 < i
        · rw [if_pos h3] at h; simp at h
        · rw [if_neg h3] at h ⊢
          refine ⟨c.toNat, r, ?_, ?_, ?_, fun _ => by omega⟩
          · rw [uint_lt (by omega)]; simp
          · rw [Nat.mod_eq_of_lt (by omega)]
          · rw [uint_lt (by omega)]; simp
theorem rUint_ok {m : Nat} {b : List UInt8} (h : (rUint m (b, 0)).2.2 = 0) : b = uint (rUint m (b, 0)).1 ++ (rUint m (b, 0)).2.1 ∧ (rUint m (b, 0)).1 ≤ m := by
  unfold rUint at h ⊢
  simp only [if_true] at h ⊢
  by_cases h1 : (number 0 0 b).2.2 = 0
  · rw [if_pos h1] at h ⊢
    by_cases h2 : m < (number 0 0 b).1
    · rw [if_pos h2] at h; simp at h
    · rw [if_neg h2]
      obtain ⟨k, r, hb, hn, hk, _⟩ := number_back b 0 0 (by omega) h1
      simp only [Nat.pow_zero, Nat.mul_one, Nat.zero_add] at hn hk
      refine ⟨?_, by dsimp only; omega⟩
      dsimp only
      rw [hn, hk]
      conv => lhs; rw [hb]
      rw [hb, List.drop_left]
  · rw [if_neg h1] at h; exact absurd h h1
theorem rUint_err {m : Nat} {b : List UInt8} (h : (rUint m (b, 0)).2.2 ≠ 0) : (rUint m (b, 0)).1 = 0 ∧ (rUint m (b, 0)).2.1 = b := by
  unfold rUint at h ⊢
  simp only [if_true] at h ⊢
  by_cases h1 : (number 0 0 b).2.2 = 0
  · rw [if_pos h1] at h ⊢
    by_cases h2 : m < (number 0 0 b).1
    · rw [if_pos h2]; exact ⟨rfl, rfl⟩
    · rw [if_neg h2] at h; simp at h
  · rw [if_neg h1]; exact ⟨rfl, rfl⟩
/-- what was written as a number is read as it was -/
theorem number_uint : ∀ (k m i acc : Nat) (r : List UInt8), m < 128 ^ k → i ≤ 9 → (0 < i → 0 < m) → acc + m * 128 ^ i < 18446744073709551616 → number i acc (uint m ++ r) = (acc + m * 128 ^ i, i + (uint m).length, 0)
  | 0, m, i, acc, r, hk, hi, hp, hb => by
    have : m = 0 := by simpa using hk
    subst this
    rw [uint_lt (by omega)]
    have : ¬ 0 < i := fun h => by have := hp h; omega
    obtain rfl : i = 0 := by omega
    simp [number_cons]
  | k + 1, m, i, acc, r, hk, hi, hp, hb => by
    have h9 : i = 9 → m ≤ 1 := fun h => by subst h; have := pow9; rw [this] at hb; omega
    by_cases hm : m < 128
    · rw [uint_lt hm]
      have e : (UInt8.ofNat m).toNat = m := UInt8.toNat_ofNat_of_lt' (Nat.lt_of_lt_of_le (m := 256) (by omega) (by decide))
      simp only [List.singleton_append, number_cons, e, List.length_singleton]
      rw [if_neg (by omega), if_neg (by omega), if_neg (by omega), Nat.mod_eq_of_lt hm]
    · rw [uint_ge hm]
      have e : (UInt8.ofNat (m % 128 + 128)).toNat = m % 128 + 128 := UInt8.toNat_ofNat_of_lt' (Nat.lt_of_lt_of_le (m := 256) (by omega) (by decide))
      simp only [List.cons_append, number_cons, e, List.length_cons]
      have hi9 : i < 9 := by
        rcases Nat.lt_or_ge i 9 with h | h
        · exact h
        · have := h9 (by omega); omega
      rw [if_neg (by omega), if_pos (by omega), show (m % 128 + 128) % 128 = m % 128 from by omega]
      have hdiv : m = m % 128 + 128 * (m / 128) := by omega
      have hsum : acc + m % 128 * 128 ^ i + m / 128 * 128 ^ (i + 1) = acc + m * 128 ^ i := by
        conv => rhs; rw [hdiv, Nat.add_mul]
        rw [Nat.pow_succ]
        have : m / 128 * (128 ^ i * 128) = 128 * (m / 128) * 128 ^ i := by rw [Nat.mul_comm (128 ^ i), ← Nat.mul_assoc, Nat.mul_comm (m / 128)]
        omega
      rw [number_uint k (m / 128) (i + 1) (acc + m % 128 * 128 ^ i) r (by rw [Nat.div_lt_iff_lt_mul (by omega)]; rw [Nat.pow_succ] at hk; omega) (by omega) (fun _ => by omega) (by rw [hsum]; exact hb), hsum]
      simp only [Prod.mk.injEq, true_and, and_true]
      omega
theorem rUint_uint {m n : Nat} (r : List UInt8) (hn : n < 18446744073709551616) (hm : n ≤ m) : rUint m (uint n ++ r, 0) = (n, (r, 0)) := by
  have h := number_uint 10 n 0 0 r (by rw [show (128 : Nat) ^ 10 = 1180591620717411303424 from by decide]; omega) (by omega) (fun h => by omega) (by omega)
  simp only [Nat.pow_zero, Nat.mul_one, Nat.zero_add] at h
  unfold rUint
  simp only [if_true, h]
  rw [if_neg (by omega), List.drop_left]
theorem rBytes_put {most : Int} {x : List UInt8} (r : List UInt8) (hx : x.length < 18446744073709551616) (hm : (x.length : Int) ≤ most) : rBytes most (putBytes x ++ r, 0) = (x, (r, 0)) := by
  have h := rUint_uint (m := most.toNat) (n := x.length) (x ++ r) hx (by omega)
  unfold rBytes putBytes
  rw [List.append_assoc]
  simp only [h, if_true]
  rw [if_neg (by simp), List.take_left, List.drop_left]
/-! what is unsealed -/
def un4 : List UInt8 → Nat
  | [] => 0
  | c :: r => c.toNat + 256 * un4 r
def unsealedOf (b : List UInt8) (y : List UInt8 × Rd) : List UInt8 × Nat × Int :=
  if y.2.2 ≠ 0 then ([], 0, y.2.2) else if y.2.1.length < 4 then ([], 0, 20) else if un4 (y.2.1.take 4) = (crc y.1).toNat then (y.1, b.length - y.2.1.length + 4, 0) else ([], 0, 24)
def unsealed (b : List UInt8) : List UInt8 × Nat × Int := unsealedOf b (rBytes 2097152 (b, 0))
theorem rBytes_bd (m : Int) (b : List UInt8) (e : Int) : (rBytes m (b, e)).1.length ≤ b.length ∧ (rBytes m (b, e)).2.1.length ≤ b.length := by
  have h := (rUint_bd m.toNat b e).2
  unfold rBytes
  dsimp only
  split
  · split
    · exact ⟨Nat.zero_le _, Nat.le_refl _⟩
    · refine ⟨?_, ?_⟩ <;> simp <;> omega
  · exact ⟨Nat.zero_le _, h⟩
theorem un4_append : ∀ (l : List UInt8) (c : UInt8), un4 (l ++ [c]) = un4 l + c.toNat * 256 ^ l.length
  | [], c => by simp [un4]
  | a :: l, c => by
    rw [List.cons_append, un4, un4_append l c, un4, List.length_cons, Nat.pow_succ]
    have : 256 * (c.toNat * 256 ^ l.length) = c.toNat * (256 ^ l.length * 256) := by rw [Nat.mul_left_comm, Nat.mul_comm 256]
    omega
theorem un4_take (q : List UInt8) (k : Nat) (h : k < q.length) : un4 (q.take (k + 1)) = un4 (q.take k) + q[k].toNat * 256 ^ k ∧ (q.take k).length = k := by
  have hl : (q.take k).length = k := by simp; omega
  refine ⟨?_, hl⟩
  rw [take_succ_get q k h, un4_append, hl]
theorem un4_lt : ∀ (l : List UInt8) (k : Nat), l.length ≤ k → un4 l < 256 ^ k
  | [], k, _ => by simp only [un4]; exact Nat.pow_pos (by decide)
  | c :: l, 0, h => by simp at h
  | c :: l, k + 1, h => by
    have := un4_lt l k (by simpa using h)
    have hc := c.toNat_lt
    rw [un4, Nat.pow_succ]
    omega
theorem pow256 (k : Nat) (hk : k < 4) : 256 ^ k = 1 ∨ 256 ^ k = 256 ∨ 256 ^ k = 65536 ∨ 256 ^ k = 16777216 := by
  obtain rfl | rfl | rfl | rfl : k = 0 ∨ k = 1 ∨ k = 2 ∨ k = 3 := by omega
  all_goals simp
theorem mul256_lt (c k : Nat) (hk : k < 4) (hc : c < 256) : c * 256 ^ k ≤ 4278190080 := by
  rcases pow256 k hk with h | h | h | h <;> rw [h] <;> omega
theorem un4_le4 (s : Nat) (hs : s < 4294967296) : un4 (le4 s) = s := by
  have e : ∀ x : Nat, (UInt8.ofNat x).toNat = x % 256 := fun x => by simp
  simp only [le4, un4, e]
  omega
theorem sealed_length (b : List UInt8) : (sealed b).length = (uint b.length).length + b.length + 4 := by
  simp [sealed, putBytes, le4]
  omega
theorem unsealed_sealed {b : List UInt8} (more : List UInt8) (hb : b.length ≤ 2097152) : unsealed (sealed b ++ more) = (b, (sealed b).length, 0) := by
  have h1 : sealed b ++ more = putBytes b ++ (le4 (crc b).toNat ++ more) := by simp [sealed]
  have hl : (le4 (crc b).toNat).length = 4 := rfl
  have h2 := sealed_length b
  unfold unsealed
  rw [h1, rBytes_put _ (by omega) (by omega)]
  unfold unsealedOf
  rw [if_neg (by simp), if_neg (by simp only [List.length_append]; omega), if_pos (by dsimp only; rw [List.take_left' hl, un4_le4 _ (crc b).isLt])]
  simp only [List.length_append, putBytes_length, Prod.mk.injEq, true_and, and_true]
  omega
theorem u32shl8 (c k : Nat) (hk : k < 4) (hc : c < 256) : Value.int .u32 (IntKind.u32.wrap (((c : Nat) : Int) * 2 ^ (min ((8 : Int) * (k : Nat)).toNat IntKind.u32.bits))) = .int .u32 ((c * 256 ^ k : Nat) : Int) := by
  have e : min ((8 : Int) * (k : Nat)).toNat IntKind.u32.bits = 8 * k := by
    have : IntKind.u32.bits = 32 := rfl
    omega
  have e2 : ((c : Nat) : Int) * 2 ^ (8 * k) = ((c * 256 ^ k : Nat) : Int) := by
    have : (256 : Nat) ^ k = 2 ^ (8 * k) := by rw [Nat.pow_mul]
    rw [this]
    push_cast
    rfl
  have := mul256_lt c k hk hc
  rw [e, e2, u32w (by omega)]
theorem u32or8 (x c k : Nat) (hk : k < 4) (hx : x < 256 ^ k) (hc : c < 256) :
    Value.int .u32 (IntKind.u32.wrap (BitVec.ofInt 32 ((x : Nat) : Int) ||| BitVec.ofInt 32 ((c * 256 ^ k : Nat) : Int)).toNat) = .int .u32 ((x + c * 256 ^ k : Nat) : Int) := by
  have hp : (256 : Nat) ^ k = 2 ^ (8 * k) := by rw [Nat.pow_mul]
  have h1 := mul256_lt c k hk hc
  have h2 : 256 ^ k ≤ 16777216 := by rcases pow256 k hk with h | h | h | h <;> rw [h] <;> decide
  have h3 : x + c * 256 ^ k < 4294967296 := by omega
  have e : (BitVec.ofInt 32 ((x : Nat) : Int) ||| BitVec.ofInt 32 ((c * 256 ^ k : Nat) : Int)).toNat = x + c * 256 ^ k := by
    rw [BitVec.toNat_or, BitVec.ofInt_natCast, BitVec.ofInt_natCast, BitVec.toNat_ofNat, BitVec.toNat_ofNat, Nat.mod_eq_of_lt (by omega), Nat.mod_eq_of_lt (by omega), Nat.or_comm, Nat.mul_comm c, hp,
      ← Nat.two_pow_add_eq_or_of_lt (by rw [← hp]; exact hx)]
    omega
  rw [e, u32m, Nat.mod_eq_of_lt h3]
end Go.En
