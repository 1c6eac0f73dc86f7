/-
  Plain words: bytes, numbers written seven bits at a time. No program in sight.
-/
import Derived.Test.YtlnhbilpkcfdlaaDoorEd
set_option linter.unusedSimpArgs false
set_option linter.unusedVariables false
namespace Go.En
set_option linter.unusedVariables false

def bv (l : List UInt8) : List Value := l.map fun b => Value.int .u8 b.toNat
theorem bv_length (l : List UInt8) : (bv l).length = l.length := by simp [bv]
theorem bv_append (l r : List UInt8) : bv (l ++ r) = bv l ++ bv r := by simp [bv]
theorem bv_one (l : List UInt8) : ∀ u ∈ bv l, u.oneCell' = true := by
  intro u hu
  obtain ⟨b, _, rfl⟩ := List.mem_map.1 hu
  rfl
theorem bv_get {l : List UInt8} {j : Nat} (h : j < l.length) : (bv l)[j]? = some (.int .u8 (l[j].toNat : Nat)) := by
  simp [bv, h]

def uint (n : Nat) : List UInt8 := if n < 128 then [UInt8.ofNat n] else UInt8.ofNat (n % 128 + 128) :: uint (n / 128)
  termination_by n
  decreasing_by omega
theorem uint_lt {n : Nat} (h : n < 128) : uint n = [UInt8.ofNat n] := by rw [uint, if_pos h]
theorem uint_ge {n : Nat} (h : ¬ n < 128) : uint n = UInt8.ofNat (n % 128 + 128) :: uint (n / 128) := by rw [uint, if_neg h]
theorem uint_length_le : ∀ (k n : Nat), n < 128 ^ k → 0 < k → (uint n).length ≤ k
  | 0, n, h, h0 => by omega
  | k + 1, n, h, _ => by
    by_cases hn : n < 128
    · rw [uint_lt hn]; simp
    · rw [uint_ge hn]
      have h2 : n / 128 < 128 ^ k := by rw [Nat.div_lt_iff_lt_mul (by omega)]; rw [Nat.pow_succ] at h; omega
      have hk : 0 < k := by
        cases k with
        | zero => simp at h; omega
        | succ k => omega
      have := uint_length_le k (n / 128) h2 hk
      simp; omega
theorem uint_le10 {n : Nat} (h : n < 18446744073709551616) : (uint n).length ≤ 10 := by
  refine uint_length_le 10 n ?_ (by omega)
  have : (128 : Nat) ^ 10 = 1180591620717411303424 := by decide
  rw [this]
  omega
theorem byteV {n : Nat} (h : n < 256) : Value.int .u8 ((n : Nat) : Int) = .int .u8 ((UInt8.ofNat n).toNat : Nat) := by
  rw [UInt8.toNat_ofNat_of_lt' (by simpa using h)]
theorem isS_of {h : PH} {ao : Option Addr} {n n' cap size : Nat} {xs ys : List Value} (x : IsS h ao n cap size xs) (h1 : n = n') (h2 : xs = ys) : IsS h ao n' cap size ys := by subst h1; subst h2; exact x
theorem isS_byte (b m : Nat) (h : m < 256) : IsS (pt b #[.int .u8 ((m : Nat) : Int)] 5) (some ⟨b, 0, none⟩) 1 1 1 (bv [UInt8.ofNat m]) := by
  refine isS_of (Own.ofPt (e := 5) (n := 1) (size := 1) (by simp) (by simp [maxLen])).isS rfl ?_
  simp [bv, byteV h]
theorem bv_or128 : ∀ m : BitVec 8, (m ||| 128#8) = BitVec.ofNat 8 (m.toNat % 128 + 128) := by decide
theorem u8or128 (m : Nat) : Value.int .u8 (IntKind.u8.wrap (BitVec.ofInt 8 ((m % 256 : Nat) : Int) ||| BitVec.ofInt 8 128).toNat) = .int .u8 ((m % 128 + 128 : Nat) : Int) := by
  have h := bv_or128 (BitVec.ofInt 8 ((m % 256 : Nat) : Int))
  have h2 : (BitVec.ofInt 8 ((m % 256 : Nat) : Int)).toNat = m % 256 := by simp; omega
  have h3 : BitVec.ofInt 8 128 = 128#8 := by decide
  rw [h3, h, h2, u8m]
  simp
  omega
theorem u64shr7 (m : Nat) : Value.int .u64 ((m : Int).fdiv (2 ^ (min (7 : Int).toNat IntKind.u64.bits))) = .int .u64 ((m / 128 : Nat) : Int) := by
  have : min (7 : Int).toNat IntKind.u64.bits = 7 := by decide
  rw [this]
  congr 1
  rw [Int.fdiv_eq_ediv_of_nonneg _ (by decide)]
  norm_cast

/-! the checksum -/
def crcBit (s : BitVec 32) : BitVec 32 := (s >>> 1) ^^^ (0x82f63b78#32 &&& -(s &&& 1#32))
def crcBits : Nat → BitVec 32 → BitVec 32
  | 0, s => s
  | k + 1, s => crcBits k (crcBit s)
theorem crcBits_succ : ∀ (k : Nat) (s : BitVec 32), crcBits (k + 1) s = crcBit (crcBits k s)
  | 0, s => rfl
  | k + 1, s => by rw [crcBits, crcBits_succ k (crcBit s)]; rfl
def crcByte (s : BitVec 32) (c : UInt8) : BitVec 32 := crcBits 8 (s ^^^ BitVec.ofNat 32 c.toNat)
def crcRaw (s : BitVec 32) (l : List UInt8) : BitVec 32 := l.foldl crcByte s
def crc (l : List UInt8) : BitVec 32 := ~~~ crcRaw 4294967295#32 l
theorem crcRaw_snoc (s : BitVec 32) (l : List UInt8) (c : UInt8) : crcRaw s (l ++ [c]) = crcByte (crcRaw s l) c := by simp [crcRaw]
theorem ofI (x : BitVec 32) : BitVec.ofInt 32 ((x.toNat : Nat) : Int) = x := by
  rw [BitVec.ofInt_natCast]; simp
theorem u32v (x : BitVec 32) : Value.int .u32 (IntKind.u32.wrap ((x.toNat : Nat) : Int)) = .int .u32 ((x.toNat : Nat) : Int) := u32w ⟨by omega, by have := x.isLt; omega⟩
theorem u32xor (x y : BitVec 32) : Value.int .u32 (IntKind.u32.wrap (BitVec.ofInt 32 ((x.toNat : Nat) : Int) ^^^ BitVec.ofInt 32 ((y.toNat : Nat) : Int)).toNat) = .int .u32 (((x ^^^ y).toNat : Nat) : Int) := by
  rw [ofI, ofI]; exact u32v _
theorem u32and (x y : BitVec 32) : Value.int .u32 (IntKind.u32.wrap (BitVec.ofInt 32 ((x.toNat : Nat) : Int) &&& BitVec.ofInt 32 ((y.toNat : Nat) : Int)).toNat) = .int .u32 (((x &&& y).toNat : Nat) : Int) := by
  rw [ofI, ofI]; exact u32v _
theorem u32shr1 (x : BitVec 32) : Value.int .u32 (((x.toNat : Nat) : Int).fdiv (2 ^ (min (1 : Int).toNat IntKind.u32.bits))) = .int .u32 (((x >>> 1).toNat : Nat) : Int) := by
  have : min (1 : Int).toNat IntKind.u32.bits = 1 := by decide
  rw [this, Int.fdiv_eq_ediv_of_nonneg _ (by decide), BitVec.toNat_ushiftRight, Nat.shiftRight_eq_div_pow]
  congr 1
theorem u32neg (x : BitVec 32) : Value.int .u32 (IntKind.u32.wrap (0 - ((x.toNat : Nat) : Int))) = .int .u32 (((-x).toNat : Nat) : Int) := by
  congr 1
  have := x.isLt
  rw [BitVec.toNat_neg]
  simp [IntKind.wrap, IntKind.bits, IntKind.signed]
  omega
theorem u32not (x : BitVec 32) : Value.int .u32 (IntKind.u32.wrap (BitVec.ofInt 32 (if IntKind.u32.signed then -1 else IntKind.u32.max) ^^^ BitVec.ofInt 32 ((x.toNat : Nat) : Int)).toNat) = .int .u32 (((~~~x).toNat : Nat) : Int) := by
  have e : BitVec.ofInt 32 (if IntKind.u32.signed then -1 else IntKind.u32.max) = BitVec.allOnes 32 := by decide
  rw [e, ofI, BitVec.allOnes_xor]
  exact u32v _
theorem u32and1 (x : BitVec 32) : Value.int .u32 (IntKind.u32.wrap (BitVec.ofInt 32 ((x.toNat : Nat) : Int) &&& BitVec.ofInt 32 1).toNat) = .int .u32 (((x &&& 1#32).toNat : Nat) : Int) := by
  rw [ofI, show BitVec.ofInt 32 1 = 1#32 from by decide]; exact u32v _
theorem u32andP (x : BitVec 32) : Value.int .u32 (IntKind.u32.wrap (BitVec.ofInt 32 2197175160 &&& BitVec.ofInt 32 ((x.toNat : Nat) : Int)).toNat) = .int .u32 (((0x82f63b78#32 &&& x).toNat : Nat) : Int) := by
  rw [ofI, show BitVec.ofInt 32 2197175160 = 0x82f63b78#32 from by decide]; exact u32v _
theorem u32ofByte (c : UInt8) : Value.int .u32 (IntKind.u32.wrap ((c.toNat : Nat) : Int)) = .int .u32 (((BitVec.ofNat 32 c.toNat).toNat : Nat) : Int) := by
  have := c.toNat_lt
  rw [u32w (by omega)]
  simp
theorem take_succ_get {α : Type} (l : List α) (j : Nat) (h : j < l.length) : l.take (j + 1) = l.take j ++ [l[j]] := by
  rw [List.take_add_one, List.getElem?_eq_getElem h]; rfl
/-! what is sealed -/
def putBytes (x : List UInt8) : List UInt8 := uint x.length ++ x
def le4 (s : Nat) : List UInt8 := [UInt8.ofNat s, UInt8.ofNat (s / 256), UInt8.ofNat (s / 65536), UInt8.ofNat (s / 16777216)]
def sealed (b : List UInt8) : List UInt8 := putBytes b ++ le4 (crc b).toNat
/-! reading -/
/-- the number with which bytes begin, how many bytes it has, or what is amiss -/
def number (i acc : Nat) : List UInt8 → Nat × Nat × Int
  | [] => (0, 0, 20)
  | c :: r => if i = 9 ∧ 1 < c.toNat then (0, 0, 21)
    else if 128 ≤ c.toNat then number (i + 1) (acc + c.toNat % 128 * 128 ^ i) r
    else if c.toNat = 0 ∧ 0 < i then (0, 0, 21)
    else (acc + c.toNat % 128 * 128 ^ i, i + 1, 0)
theorem bv_and127 : ∀ m : BitVec 8, (m &&& 127#8) = BitVec.ofNat 8 (m.toNat % 128) := by decide
theorem u8and127 (c : UInt8) : Value.int .u8 (IntKind.u8.wrap (BitVec.ofInt 8 ((c.toNat : Nat) : Int) &&& BitVec.ofInt 8 127).toNat) = .int .u8 ((c.toNat % 128 : Nat) : Int) := by
  have h := bv_and127 (BitVec.ofInt 8 ((c.toNat : Nat) : Int))
  have hlt := c.toNat_lt
  have h2 : (BitVec.ofInt 8 ((c.toNat : Nat) : Int)).toNat = c.toNat := by simp
  rw [show BitVec.ofInt 8 127 = 127#8 from by decide, h, h2, u8m]
  simp
  omega
theorem u64shl7 (m i : Nat) (hi : i ≤ 9) (h : m * 128 ^ i < 18446744073709551616) : Value.int .u64 (IntKind.u64.wrap (((m : Nat) : Int) * 2 ^ (min ((7 : Int) * (i : Nat)).toNat IntKind.u64.bits))) = .int .u64 ((m * 128 ^ i : Nat) : Int) := by
  have e : min ((7 : Int) * (i : Nat)).toNat IntKind.u64.bits = 7 * i := by
    have : IntKind.u64.bits = 64 := rfl
    omega
  have e2 : ((m : Nat) : Int) * 2 ^ (7 * i) = ((m * 128 ^ i : Nat) : Int) := by
    have : (128 : Nat) ^ i = 2 ^ (7 * i) := by rw [Nat.pow_mul]
    rw [this]
    push_cast
    rfl
  rw [e, e2, u64m, Nat.mod_eq_of_lt h]
theorem u64or (x y i : Nat) (hx : x < 128 ^ i) (h : x + y * 128 ^ i < 18446744073709551616) :
    Value.int .u64 (IntKind.u64.wrap (BitVec.ofInt 64 ((x : Nat) : Int) ||| BitVec.ofInt 64 ((y * 128 ^ i : Nat) : Int)).toNat) = .int .u64 ((x + y * 128 ^ i : Nat) : Int) := by
  have hp : (128 : Nat) ^ i = 2 ^ (7 * i) := by rw [Nat.pow_mul]
  have e : (BitVec.ofInt 64 ((x : Nat) : Int) ||| BitVec.ofInt 64 ((y * 128 ^ i : Nat) : Int)).toNat = x + y * 128 ^ i := by
    rw [BitVec.toNat_or, BitVec.ofInt_natCast, BitVec.ofInt_natCast, BitVec.toNat_ofNat, BitVec.toNat_ofNat, Nat.mod_eq_of_lt (by omega), Nat.mod_eq_of_lt (by omega), Nat.or_comm, Nat.mul_comm y, hp,
      ← Nat.two_pow_add_eq_or_of_lt (by rw [← hp]; exact hx)]
    omega
  rw [e, u64m, Nat.mod_eq_of_lt h]
abbrev Rd := List UInt8 × Int
def rByte : Rd → Nat × Rd
  | (b, e) => if e = 0 then (match b with | [] => (0, ([], 20)) | c :: r => (c.toNat, (r, 0))) else (0, (b, e))
def rUint (most : Nat) : Rd → Nat × Rd
  | (b, e) => if e = 0 then (let x := number 0 0 b; if x.2.2 = 0 then (if most < x.1 then (0, (b, 22)) else (x.1, (b.drop x.2.1, 0))) else (0, (b, x.2.2))) else (0, (b, e))
def rBytes (most : Int) : Rd → List UInt8 × Rd
  | (b, e) => let x := rUint most.toNat (b, e)
    if x.2.2 = 0 then (if x.2.1.length < x.1 then ([], (b, 20)) else (x.2.1.take x.1, (x.2.1.drop x.1, 0))) else ([], x.2)
def rEnd : Rd → Int
  | (b, e) => if e = 0 ∧ 0 < b.length then 23 else e

theorem number_cons (i acc : Nat) (c : UInt8) (r : List UInt8) : number i acc (c :: r) = if i = 9 ∧ 1 < c.toNat then (0, 0, 21)
    else if 128 ≤ c.toNat then number (i + 1) (acc + c.toNat % 128 * 128 ^ i) r
    else if c.toNat = 0 ∧ 0 < i then (0, 0, 21)
    else (acc + c.toNat % 128 * 128 ^ i, i + 1, 0) := rfl
theorem pow9 : (128 : Nat) ^ 9 = 9223372036854775808 := by decide
theorem mul_pow_lt {x m i : Nat} (hi : i ≤ 9) (hx : x < 128 ^ i) (hm : m < 128) (h9 : i = 9 → m ≤ 1) : x + m * 128 ^ i < 18446744073709551616 ∧ (i < 9 → x + m * 128 ^ i < 128 ^ (i + 1)) := by
  have h1 : (m + 1) * 128 ^ i ≤ 128 * 128 ^ i := Nat.mul_le_mul_right _ (by omega)
  rw [Nat.add_mul] at h1
  have h2 : (128 : Nat) ^ (i + 1) = 128 * 128 ^ i := by rw [Nat.pow_succ, Nat.mul_comm]
  by_cases h : i = 9
  · have h3 := h9 h
    subst h
    rw [pow9] at *
    exact ⟨by omega, by omega⟩
  · have h3 : (128 : Nat) ^ (i + 1) ≤ 128 ^ 9 := Nat.pow_le_pow_right (by omega) (by omega)
    rw [pow9] at h3
    exact ⟨by omega, by omega⟩
theorem number_bd : ∀ (b : List UInt8) (i acc : Nat), i ≤ 9 → acc < 128 ^ i → (number i acc b).1 < 18446744073709551616 ∧ (number i acc b).2.1 ≤ i + b.length ∧ ((number i acc b).2.2 = 0 → 0 < (number i acc b).2.1)
  | [], i, acc, hi, ha => by simp [number]
  | c :: r, i, acc, hi, ha => by
    unfold number
    split
    · simp
    · rename_i h9
      have h1 := mul_pow_lt (m := c.toNat % 128) hi ha (by omega) (by omega)
      split
      · rename_i h2
        have hlt : i < 9 := by omega
        have h3 := number_bd r (i + 1) (acc + c.toNat % 128 * 128 ^ i) (by omega) (h1.2 hlt)
        simp only [List.length_cons]
        exact ⟨h3.1, by omega, h3.2.2⟩
      · split
        · simp
        · simp only [List.length_cons]
          exact ⟨h1.1, by omega, fun _ => by omega⟩
theorem rUint_bd (m : Nat) (b : List UInt8) (e : Int) : (rUint m (b, e)).1 < 18446744073709551616 ∧ (rUint m (b, e)).2.1.length ≤ b.length := by
  have h1 := number_bd b 0 0 (by omega) (by omega)
  simp only [rUint]
  by_cases h : e = 0
  · rw [if_pos h]
    by_cases h2 : (number 0 0 b).2.2 = 0
    · rw [if_pos h2]
      by_cases h3 : m < (number 0 0 b).1
      · rw [if_pos h3]; exact ⟨by simp, Nat.le_refl _⟩
      · rw [if_neg h3]; exact ⟨h1.1, by simp⟩
    · rw [if_neg h2]; exact ⟨by simp, Nat.le_refl _⟩
  · rw [if_neg h]; exact ⟨by simp, Nat.le_refl _⟩
theorem u32shrN (s k : Nat) (hk : k ≤ 32) : Value.int .u32 (((s : Nat) : Int).fdiv (2 ^ (min ((k : Nat) : Int).toNat IntKind.u32.bits))) = .int .u32 ((s / 2 ^ k : Nat) : Int) := by
  have : min ((k : Nat) : Int).toNat IntKind.u32.bits = k := by
    have : IntKind.u32.bits = 32 := rfl
    omega
  rw [this, Int.fdiv_eq_ediv_of_nonneg _ (Int.le_of_lt (Int.pow_pos (by decide)))]
  congr 1
theorem le4_cells (s : Nat) : [Value.int .u8 ((s % 256 : Nat) : Int), .int .u8 ((s / 2 ^ 8 % 256 : Nat) : Int), .int .u8 ((s / 2 ^ 16 % 256 : Nat) : Int), .int .u8 ((s / 2 ^ 24 % 256 : Nat) : Int)] = bv (le4 s) := by
  simp [bv, le4]
theorem putBytes_length (x : List UInt8) : (putBytes x).length = (uint x.length).length + x.length := by simp [putBytes]
end Go.En
