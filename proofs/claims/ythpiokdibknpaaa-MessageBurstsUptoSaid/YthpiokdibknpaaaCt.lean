/-
  The law of bursts: bits that are turned are found.
-/
import Derived.Test.YthpiokdibknpaaaCq
import Derived.Test.YthpiokdibknpaaaCg
import Derived.Test.YthpiokdibknpaaaEd
namespace Go.Proofs.Ythpiokdibknpaaa
open Go.En
set_option linter.unusedVariables false
attribute [local irreducible] Code.wp wpList Calls

theorem u32and1N (q : Nat) : Value.int .u32 (IntKind.u32.wrap (BitVec.ofInt 32 ((q : Nat) : Int) &&& BitVec.ofInt 32 1).toNat) = .int .u32 ((q % 2 : Nat) : Int) := by
  have e : (BitVec.ofInt 32 ((q : Nat) : Int) &&& BitVec.ofInt 32 1).toNat = q % 2 := by
    rw [show BitVec.ofInt 32 1 = 1#32 from by decide, BitVec.toNat_and, show (1#32).toNat = 1 from rfl, Nat.and_one_is_mod, BitVec.ofInt_natCast, BitVec.toNat_ofNat]
    omega
  rw [e, u32w (by omega)]
theorem i64quoN (n m : Nat) (h : n < 9223372036854775808) : Value.int .i64 (IntKind.i64.wrap (((n : Nat) : Int).tdiv ((m : Nat) : Int))) = .int .i64 ((n / m : Nat) : Int) := by
  rw [← Int.ofNat_tdiv]
  have := Nat.div_le_self n m
  generalize n / m = q at *
  exact i64w (by omega)
theorem pow8 (r : Nat) (h : r < 8) : 2 ^ r ≤ 128 := by
  have := Nat.pow_le_pow_right (n := 2) (by decide) (show r ≤ 7 by omega)
  omega
theorem u8shl1 (r : Nat) (h : r < 8) : Value.int .u8 (IntKind.u8.wrap ((1 : Int) * 2 ^ (min ((r : Nat) : Int).toNat IntKind.u8.bits))) = .int .u8 ((1 <<< r : Nat) : Int) := by
  have e : min ((r : Nat) : Int).toNat IntKind.u8.bits = r := by
    have : IntKind.u8.bits = 8 := rfl
    omega
  have h1 := pow8 r h
  have e2 : (1 : Int) * 2 ^ r = ((2 ^ r : Nat) : Int) := by push_cast; omega
  rw [e, e2, Nat.one_shiftLeft]
  generalize 2 ^ r = P at *
  exact u8w (by omega)
theorem u32shl1 (r : Nat) (h : r < 32) : Value.int .u32 (IntKind.u32.wrap ((1 : Int) * 2 ^ (min ((r : Nat) : Int).toNat IntKind.u32.bits))) = .int .u32 ((2 ^ r : Nat) : Int) := by
  have e : min ((r : Nat) : Int).toNat IntKind.u32.bits = r := by
    have : IntKind.u32.bits = 32 := rfl
    omega
  have h1 := Nat.pow_le_pow_right (n := 2) (by decide) (show r ≤ 31 by omega)
  have e2 : (1 : Int) * 2 ^ r = ((2 ^ r : Nat) : Int) := by push_cast; omega
  rw [e, e2]
  generalize 2 ^ r = P at *
  exact u32w (by omega)
theorem u8xorN (c d : Nat) (hc : c < 256) (hd : d < 256) : Value.int .u8 (IntKind.u8.wrap (BitVec.ofInt 8 ((c : Nat) : Int) ^^^ BitVec.ofInt 8 ((d : Nat) : Int)).toNat) = .int .u8 ((c ^^^ d : Nat) : Int) := by
  have e : (BitVec.ofInt 8 ((c : Nat) : Int) ^^^ BitVec.ofInt 8 ((d : Nat) : Int)).toNat = c ^^^ d := by
    rw [BitVec.toNat_xor, BitVec.ofInt_natCast, BitVec.ofInt_natCast, BitVec.toNat_ofNat, BitVec.toNat_ofNat, Nat.mod_eq_of_lt (by omega), Nat.mod_eq_of_lt (by omega)]
  have h := Nat.xor_lt_two_pow (n := 8) hc hd
  rw [e, u8w (by omega)]
/-- a bit struck out -/
def strike (w k : Nat) : Nat := (BitVec.ofNat 32 w &&& ~~~BitVec.ofNat 32 (2 ^ k)).toNat
theorem u32strike (w k : Nat) : Value.int .u32 (IntKind.u32.wrap (BitVec.ofInt 32 ((w : Nat) : Int) &&& ~~~BitVec.ofInt 32 ((2 ^ k : Nat) : Int)).toNat) = .int .u32 ((strike w k : Nat) : Int) := by
  rw [BitVec.ofInt_natCast, BitVec.ofInt_natCast]
  exact u32v _
theorem strike_lt (w k : Nat) : strike w k < 4294967296 := BitVec.isLt _
theorem strike_mod (w k : Nat) (hw : w < 4294967296) (hk : k < 32) : strike w k % 2 ^ (k + 1) = w % 2 ^ k := by
  refine Nat.eq_of_testBit_eq fun j => ?_
  rw [Nat.testBit_mod_two_pow, Nat.testBit_mod_two_pow]
  unfold strike
  rw [BitVec.testBit_toNat, BitVec.getLsbD_and, BitVec.getLsbD_not, BitVec.getLsbD_ofNat, BitVec.getLsbD_ofNat, Nat.testBit_two_pow]
  by_cases h1 : j < k
  · have h2 : ¬ k = j := by omega
    have h3 : j < 32 := by omega
    have h4 : j < k + 1 := by omega
    simp [h1, h2, h3, h4]
  · by_cases h2 : k = j
    · subst h2; simp [hk]
    · have h4 : ¬ j < k + 1 := by omega
      simp [h1, h4]
theorem mod_succ1 (w k : Nat) (h : w / 2 ^ k % 2 = 1) : w % 2 ^ (k + 1) = w % 2 ^ k ^^^ (1 <<< k) := by
  rw [Nat.mod_pow_succ, h, shl_add _ _ _ (Nat.mod_lt _ (Nat.two_pow_pos k))]
  omega
theorem mod_succ0 (w k : Nat) (h : ¬ w / 2 ^ k % 2 = 1) : w % 2 ^ (k + 1) = w % 2 ^ k := by
  rw [Nat.mod_pow_succ, show w / 2 ^ k % 2 = 0 from by omega]
  omega
theorem turn1 (x w k a : Nat) (h : w / 2 ^ k % 2 = 1) : x ^^^ (w % 2 ^ k) <<< a ^^^ (1 <<< (a + k)) = x ^^^ (w % 2 ^ (k + 1)) <<< a := by
  rw [mod_succ1 w k h, Nat.shiftLeft_xor_distrib, ← Nat.shiftLeft_add, Nat.add_comm k a, Nat.xor_assoc]
theorem unsealed_burst {u M : List UInt8} {L : Nat} (hu : u = uint L) (hM : M.length = L + 4) (hL : L ≤ 2097152) (h : un4 (M.drop L) ≠ (crc (M.take L)).toNat) : (unsealed (u ++ M)).2.2 = 24 := by
  subst hu
  have hl : (M.take L).length = L := by simp; omega
  have hd : (M.drop L).length = 4 := by simp; omega
  have e : uint L ++ M = putBytes (M.take L) ++ M.drop L := by
    unfold putBytes; rw [hl, List.append_assoc, List.take_append_drop]
  unfold unsealed
  rw [e, rBytes_put _ (by omega) (by omega)]
  unfold unsealedOf
  rw [if_neg (by simp), if_neg (by dsimp only; omega), if_neg (by dsimp only; rw [List.take_of_length_le (by omega)]; exact h)]
theorem sealed_split (b : List UInt8) : sealed b = uint b.length ++ (b ++ le4 (crc b).toNat) := by simp [sealed, putBytes]
theorem bv_set (u M : List UInt8) (j : Nat) (v : UInt8) : (bv (u ++ M)).set (u.length + j) (.int .u8 (v.toNat : Nat)) = bv (u ++ M.set j v) := by
  simp only [bv, List.map_append]
  rw [List.set_append_right _ _ (by simp), List.map_set]
  simp
theorem cur_get {cur : Array Value} {off n i : Nat} {xs : List Value} {v : Value} (ht : (cur.toList.drop off).take n = xs) (h : xs[i]? = some v) : cur[off + i]? = some v := by
  subst ht
  rw [List.getElem?_take] at h
  split at h
  · rw [List.getElem?_drop] at h
    simpa using h
  · cases h
end Go.Proofs.Ythpiokdibknpaaa
