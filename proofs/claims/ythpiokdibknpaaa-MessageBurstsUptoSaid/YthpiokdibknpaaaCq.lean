/-
  Plain law of bursts: bits that are turned within 32 neighbours change the sum. No program in sight.
-/
import Derived.Test.YthpiokdibknpaaaCp
namespace Go.En
set_option linter.unusedVariables false

/-- one bit, on numbers of any size -/
def gB (x : Nat) : Nat := if x % 2 = 1 then (x >>> 1) ^^^ 2197175160 else x >>> 1
def gBs : Nat → Nat → Nat
  | 0, x => x
  | k + 1, x => gBs k (gB x)
theorem xor4 (a b c d : Nat) : (a ^^^ b) ^^^ (c ^^^ d) = (a ^^^ c) ^^^ (b ^^^ d) := by
  rw [Nat.xor_assoc, Nat.xor_assoc, ← Nat.xor_assoc b c d, Nat.xor_comm b c, Nat.xor_assoc c b d]
theorem gB_xor (x y : Nat) : gB (x ^^^ y) = gB x ^^^ gB y := by
  unfold gB
  have h1 : (x ^^^ y) >>> 1 = x >>> 1 ^^^ y >>> 1 := Nat.shiftRight_xor_distrib
  have h2 : (x ^^^ y) % 2 = (x % 2 + y % 2) % 2 := by
    have e := Nat.xor_mod_two_pow (a := x) (b := y) (n := 1)
    rw [Nat.pow_one] at e
    rw [e]
    rcases Nat.mod_two_eq_zero_or_one x with hx | hx <;> rcases Nat.mod_two_eq_zero_or_one y with hy | hy <;> rw [hx, hy] <;> decide
  rw [h1]
  rcases Nat.mod_two_eq_zero_or_one x with hx | hx <;> rcases Nat.mod_two_eq_zero_or_one y with hy | hy <;> rw [h2, hx, hy]
  · simp
  · simp [Nat.xor_assoc]
  · simp only [Nat.reduceAdd, Nat.reduceMod, if_true]
    rw [if_neg (by decide), Nat.xor_assoc, Nat.xor_comm (y >>> 1), ← Nat.xor_assoc]
  · simp only [Nat.reduceAdd, Nat.reduceMod, if_true]
    rw [if_neg (by decide), xor4, Nat.xor_self, Nat.xor_zero]
theorem gBs_xor : ∀ (k x y : Nat), gBs k (x ^^^ y) = gBs k x ^^^ gBs k y
  | 0, x, y => rfl
  | k + 1, x, y => by rw [gBs, gB_xor, gBs_xor k]; rfl
theorem gBs_add : ∀ (j k x : Nat), gBs (j + k) x = gBs k (gBs j x)
  | 0, k, x => by rw [Nat.zero_add]; rfl
  | j + 1, k, x => by rw [show j + 1 + k = (j + k) + 1 from by omega, gBs, gBs_add j k]; rfl
theorem gBs_shift : ∀ (k y : Nat), gBs k (y <<< k) = y
  | 0, y => rfl
  | k + 1, y => by
    have h : y <<< (k + 1) = 2 * (y <<< k) := Nat.shiftLeft_succ y k
    have e : gB (y <<< (k + 1)) = y <<< k := by
      unfold gB
      rw [if_neg (by omega), h, Nat.shiftRight_eq_div_pow]
      omega
    rw [gBs, e, gBs_shift k]
theorem gB_ne {x : Nat} (h : x < 4294967296) (h0 : x ≠ 0) : gB x ≠ 0 ∧ gB x < 4294967296 := by
  unfold gB
  have hs : x >>> 1 = x / 2 := by rw [Nat.shiftRight_eq_div_pow]
  rw [hs]
  split
  · constructor
    · intro hz
      have : x / 2 = 2197175160 := by
        have := congrArg (· ^^^ 2197175160) hz
        simp only [Nat.xor_assoc, Nat.xor_self, Nat.xor_zero, Nat.zero_xor] at this
        exact this
      omega
    · exact Nat.xor_lt_two_pow (n := 32) (by omega) (by decide)
  · omega
theorem gBs_ne : ∀ (k : Nat) {x : Nat}, x < 4294967296 → x ≠ 0 → gBs k x ≠ 0
  | 0, x, h, h0 => h0
  | k + 1, x, h, h0 => gBs_ne k (gB_ne h h0).2 (gB_ne h h0).1
theorem crcBit_nat (s : BitVec 32) : (crcBit s).toNat = gB s.toNat := by
  have e1 : (s &&& 1#32).toNat = s.toNat % 2 := by
    rw [BitVec.toNat_and, show (1#32).toNat = 1 from rfl, Nat.and_one_is_mod]
  unfold gB
  rcases Nat.mod_two_eq_zero_or_one s.toNat with h | h
  · rw [if_neg (by omega)]
    have e : s &&& 1#32 = 0#32 := BitVec.eq_of_toNat_eq (by rw [e1, h]; rfl)
    unfold crcBit
    rw [e, show (0x82f63b78#32 &&& -0#32) = 0#32 from by decide, BitVec.xor_zero, BitVec.toNat_ushiftRight]
  · rw [if_pos h]
    have e : s &&& 1#32 = 1#32 := BitVec.eq_of_toNat_eq (by rw [e1, h]; rfl)
    unfold crcBit
    rw [e, show (0x82f63b78#32 &&& -1#32) = 0x82f63b78#32 from by decide, BitVec.toNat_xor, BitVec.toNat_ushiftRight]
    rfl
theorem crcBits_nat : ∀ (k : Nat) (s : BitVec 32), (crcBits k s).toNat = gBs k s.toNat
  | 0, s => rfl
  | k + 1, s => by rw [crcBits, crcBits_nat k, crcBit_nat]; rfl
/-- bytes as one number -/
def ux : List UInt8 → Nat
  | [] => 0
  | c :: r => c.toNat ^^^ (ux r <<< 8)
theorem crcRaw_nat : ∀ (l : List UInt8) (s : BitVec 32), (crcRaw s l).toNat = gBs (8 * l.length) (s.toNat ^^^ ux l)
  | [], s => by simp [crcRaw, ux, gBs]
  | c :: r, s => by
    have hc : (BitVec.ofNat 32 c.toNat).toNat = c.toNat := by
      have := c.toNat_lt
      rw [BitVec.toNat_ofNat, Nat.mod_eq_of_lt (by omega)]
    have e : crcRaw s (c :: r) = crcRaw (crcByte s c) r := rfl
    rw [e, crcRaw_nat r, List.length_cons, show 8 * (r.length + 1) = 8 + 8 * r.length from by omega, gBs_add, ux, ← Nat.xor_assoc, gBs_xor 8, gBs_shift]
    unfold crcByte
    rw [crcBits_nat, BitVec.toNat_xor, hc]
theorem shl_add (x y k : Nat) (h : x < 2 ^ k) : x ^^^ (y <<< k) = x + y * 2 ^ k := by
  rw [Nat.shiftLeft_eq]
  refine Nat.eq_of_testBit_eq fun j => ?_
  rw [Nat.add_comm, Nat.mul_comm, Nat.testBit_two_pow_mul_add _ h, Nat.testBit_xor, Nat.mul_comm, Nat.testBit_mul_two_pow]
  by_cases hj : j < k
  · simp [hj, Nat.not_le.2 hj]
  · have : x.testBit j = false := Nat.testBit_lt_two_pow (Nat.lt_of_lt_of_le h (Nat.pow_le_pow_right (by decide) (by omega)))
    simp [hj, this, Nat.le_of_not_lt hj]
theorem ux_un4 : ∀ (l : List UInt8), ux l = un4 l
  | [] => rfl
  | c :: r => by
    have := c.toNat_lt
    rw [ux, un4, shl_add _ _ _ (by omega), ux_un4 r]
    omega
/-- what is sealed has the same rest, whatever it is -/
theorem residue (p t : List UInt8) (ht : t.length = 4) (h : un4 t = (crc p).toNat) : gBs (8 * (p ++ t).length) (4294967295 ^^^ ux (p ++ t)) = gBs 32 4294967295 := by
  have h1 := crcRaw_nat (p ++ t) 4294967295#32
  rw [show (4294967295#32).toNat = 4294967295 from rfl] at h1
  rw [← h1]
  have h2 : crcRaw 4294967295#32 (p ++ t) = crcRaw (crcRaw 4294967295#32 p) t := by simp [crcRaw]
  rw [h2, crcRaw_nat, ht, ux_un4, h]
  unfold crc
  rw [← BitVec.toNat_xor]
  have : ∀ x : BitVec 32, x ^^^ ~~~x = BitVec.allOnes 32 := fun x => by
    rw [← BitVec.allOnes_xor, BitVec.xor_comm (BitVec.allOnes 32) x, ← BitVec.xor_assoc, BitVec.xor_self, BitVec.zero_xor]
  rw [this]
  rfl
theorem burst {p t p' t' : List UInt8} {w a : Nat} (ht : t.length = 4) (ht' : t'.length = 4) (hl : p'.length = p.length) (h : un4 t = (crc p).toNat) (hw : w < 4294967296) (h0 : w ≠ 0) (ha : a ≤ 8 * (p ++ t).length)
    (hx : ux (p' ++ t') = ux (p ++ t) ^^^ (w <<< a)) : un4 t' ≠ (crc p').toNat := by
  intro h'
  have h1 := residue p t ht h
  have h2 := residue p' t' ht' h'
  have hll : (p' ++ t').length = (p ++ t).length := by simp [ht, ht', hl]
  rw [hx, hll, ← Nat.xor_assoc, gBs_xor, h1] at h2
  have h3 : gBs (8 * (p ++ t).length) (w <<< a) = 0 := by
    have := congrArg (gBs 32 4294967295 ^^^ ·) h2
    simp only [← Nat.xor_assoc, Nat.xor_self, Nat.zero_xor] at this
    exact this
  obtain ⟨k, hk⟩ : ∃ k, 8 * (p ++ t).length = a + k := ⟨_, (Nat.add_sub_cancel' ha).symm⟩
  rw [hk, gBs_add, gBs_shift] at h3
  exact gBs_ne k hw h0 h3
/-- one bit turned -/
theorem ux_set : ∀ (M : List UInt8) (j r : Nat) (h : j < M.length) (v : UInt8), v.toNat = M[j].toNat ^^^ (1 <<< r) → ux (M.set j v) = ux M ^^^ (1 <<< (8 * j + r))
  | c :: R, 0, r, h, v, hv => by
    simp only [List.getElem_cons_zero] at hv
    rw [List.set_cons_zero, ux, ux, hv, Nat.mul_zero, Nat.zero_add, Nat.xor_assoc, Nat.xor_comm (1 <<< r), ← Nat.xor_assoc]
  | c :: R, j + 1, r, h, v, hv => by
    simp only [List.getElem_cons_succ] at hv
    rw [List.set_cons_succ, ux, ux, ux_set R j r (by simpa using h) v hv, Nat.shiftLeft_xor_distrib, Nat.xor_assoc, ← Nat.shiftLeft_add]
    congr 3
    omega
end Go.En
