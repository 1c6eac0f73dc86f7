/-
  The reference's sum and seal.
-/
import Derived.Test.YthpiokdibknpaaaDu
namespace Go.Proofs.Ythpiokdibknpaaa
open Go.En
set_option linter.unusedVariables false
attribute [local irreducible] Code.wp wpList Calls

theorem and1_toNat (s : BitVec 32) : (s &&& 1#32).toNat = s.toNat % 2 := by
  rw [BitVec.toNat_and, show (1#32).toNat = 1 from rfl, Nat.and_one_is_mod]
theorem crcBit_odd {s : BitVec 32} (h : s.toNat % 2 = 1) : crcBit s = (s >>> 1) ^^^ 0x82f63b78#32 := by
  have e : s &&& 1#32 = 1#32 := BitVec.eq_of_toNat_eq (by rw [and1_toNat, h]; rfl)
  unfold crcBit
  rw [e]
  congr 1
theorem crcBit_even {s : BitVec 32} (h : s.toNat % 2 = 0) : crcBit s = s >>> 1 := by
  have e : s &&& 1#32 = 0#32 := BitVec.eq_of_toNat_eq (by rw [and1_toNat, h]; rfl)
  unfold crcBit
  rw [e, show (0x82f63b78#32 &&& -0#32) = 0#32 from by decide, BitVec.xor_zero]
theorem u32quo2 (x : BitVec 32) : Value.int .u32 (IntKind.u32.wrap (((x.toNat : Nat) : Int).tdiv 2)) = .int .u32 (((x >>> 1).toNat : Nat) : Int) := by
  have := x.isLt
  rw [show ((x.toNat : Nat) : Int).tdiv 2 = ((x.toNat / 2 : Nat) : Int) from by rw [show (2 : Int) = ((2 : Nat) : Int) from rfl, ← Int.ofNat_tdiv], u32w (by omega), BitVec.toNat_ushiftRight, Nat.shiftRight_eq_div_pow]
theorem u32xorP (x : BitVec 32) : Value.int .u32 (IntKind.u32.wrap (BitVec.ofInt 32 ((x.toNat : Nat) : Int) ^^^ BitVec.ofInt 32 2197175160).toNat) = .int .u32 (((x ^^^ 0x82f63b78#32).toNat : Nat) : Int) := by
  rw [ofI, show BitVec.ofInt 32 2197175160 = 0x82f63b78#32 from by decide]; exact u32v _
theorem u32subAll (x : BitVec 32) : Value.int .u32 (IntKind.u32.wrap (4294967295 - ((x.toNat : Nat) : Int))) = .int .u32 (((~~~x).toNat : Nat) : Int) := by
  have := x.isLt
  rw [u32w (by omega), BitVec.toNat_not]
  congr 1
  omega
theorem le4_take (s k : Nat) (hk : k < 4) : (le4 s).take (k + 1) = (le4 s).take k ++ [UInt8.ofNat (s / 256 ^ k % 256)] := by
  obtain rfl | rfl | rfl | rfl : k = 0 ∨ k = 1 ∨ k = 2 ∨ k = 3 := by omega
  all_goals simp [le4]
  all_goals exact UInt8.toNat_inj.1 (by simp)
theorem u32quo256 (s k : Nat) (hs : s < 2 ^ 32) : Value.int .u32 (IntKind.u32.wrap (((s / 256 ^ k : Nat) : Int).tdiv 256)) = .int .u32 ((s / 256 ^ (k + 1) : Nat) : Int) := by
  have h1 := Nat.div_le_self s (256 ^ k)
  rw [Nat.pow_succ, ← Nat.div_div_eq_div_mul]
  generalize s / 256 ^ k = q at *
  rw [show ((q : Nat) : Int).tdiv 256 = ((q / 256 : Nat) : Int) from by rw [show (256 : Int) = ((256 : Nat) : Int) from rfl, ← Int.ofNat_tdiv], u32w (by omega)]
theorem sumRef {w0 : World} {K hb : PH} {hs : List PH} (ao : Option Addr) (cap : Nat) (b : List UInt8) (hm : In K hs hb) (x : IsS hb ao b.length cap 1 (bv b)) (hl : b.length < 1099511627776) :
    Ct Try.prog w0 80 [.slice ao b.length cap] K hs (fun v K' hs' => K' = K ∧ hs' = hs ∧ v = .int .u32 ((crc b).toNat : Nat)) := by
  refine enter Try.func80 (by kernel_rfl) rfl rfl rfl ?_
  refine sq (rg (?_))
  refine fin hT 1 rfl (th (sq (rg (?_))))
  refine fin hT 1 rfl (th (sq (sq (rg (?_)))))
  refine fin hT 1 rfl (th (bk (?_)))
  refine loop (σ := Nat) (fun j => [(0, .slice ao b.length cap), (4, .int .i64 (j : Nat)), (3, .int .u32 ((crcRaw 4294967295#32 (b.take j)).toNat : Nat))]) (fun _ => K) (fun _ => hs) (fun j => j ≤ b.length) (fun j => b.length - j) 0 (Nat.zero_le _) ⟨rfl, rfl, rfl, trivial⟩ rfl rfl ?_
  intro j hj
  refine sq (sq (rg (?_)))
  refine cmp hT 3 rfl (fun h1 => ?_) (fun h1 => ?_)   -- ref.go:104 t10 t7 < t9
  · refine fin hT 0 rfl (th (ifT rfl (sk (th (sq (bk (sq (rg (?_)))))))))
    have hlt : j < b.length := by omega
    refine ix1 hT 3 j rfl rfl rfl x (bv_get hlt) fun a16 hc16 => ?_   -- ref.go:105 t16 t14[t15]
    refine ld hT 0 rfl hm hc16 ?_
    refine ar hT 0 rfl (u32ofByte _) ?_
    refine ar hT 0 rfl (u32xor _ _) ?_   -- ref.go:105 t19 t13 xor t18
    refine fin hT 1 rfl (th (sq (rg (?_))))
    refine fin hT 1 rfl (th (bk (?_)))
    refine loop (σ := Nat) (fun i => [(5, .int .i64 (i : Nat)), (3, .int .u32 ((crcBits i (crcRaw 4294967295#32 (b.take j) ^^^ BitVec.ofNat 32 b[j].toNat)).toNat : Nat)), (0, .slice ao b.length cap), (4, .int .i64 (j : Nat))]) (fun _ => K) (fun _ => hs) (fun i => i ≤ 8) (fun i => 8 - i) 0 (Nat.zero_le _) ⟨rfl, rfl, rfl, rfl, trivial⟩ rfl rfl ?_
    intro i hi
    refine sq (sq (rg (?_)))
    refine cmp hT 1 rfl (fun h2 => ?_) (fun h2 => ?_)   -- ref.go:106 t21 t20 < 8
    · refine fin hT 0 rfl (th (ifT rfl (sk (th (sq (bk (sq (rg (?_)))))))))
      refine ar hT 1 rfl (u_rem .u32 _ 2) ?_   -- ref.go:107 t25 t24 rem 2
      refine cmp hT 0 rfl (fun h3 => ?_) (fun h3 => ?_)   -- ref.go:107 t26 t25 = 1
      · refine fin hT 1 rfl (th (sq (rg (?_))))
        refine ar hT 1 rfl (u32quo2 _) ?_   -- ref.go:108 t28 t27 quo 2
        refine fin hT 1 rfl (th (sq (rg (?_))))
        refine fin hT 1 rfl (th (ifT rfl (rg (?_))))
        refine ar hT 1 rfl (u32xorP _) ?_   -- ref.go:110 t31 t30 xor 2197175160
        refine fin hT 1 rfl (bl (th (rg (?_))))
        refine ar hT 1 rfl (i64w (by omega)) ?_   -- ref.go:106 t23 t22 add 1
        refine fin hT 1 rfl (?_)
        exact again (x := i) (i + 1) ⟨rfl, by rw [crcBits_succ, crcBit_odd (by omega)]; rfl, rfl, rfl, trivial⟩ rfl rfl (by omega) (by omega)
      · refine fin hT 1 rfl (th (sq (rg (?_))))
        refine ar hT 1 rfl (u32quo2 _) ?_   -- ref.go:108 t28 t27 quo 2
        refine fin hT 1 rfl (th (sq (rg (?_))))
        refine fin hT 1 rfl (th (ifF rfl (sk (bl (th (rg (?_)))))))
        refine ar hT 1 rfl (i64w (by omega)) ?_   -- ref.go:106 t23 t22 add 1
        refine fin hT 1 rfl (?_)
        exact again (x := i) (i + 1) ⟨rfl, by rw [crcBits_succ, crcBit_even (by omega)]; rfl, rfl, rfl, trivial⟩ rfl rfl (by omega) (by omega)
    · obtain rfl : i = 8 := by omega
      refine fin hT 0 rfl (th (ifF rfl (ex (xt (xt (xb (bl (th (rg (?_))))))))))
      refine ar hT 1 rfl (i64w (by omega)) ?_   -- ref.go:104 t12 t11 add 1
      refine fin hT 1 rfl (?_)
      exact again (x := j) (j + 1) ⟨rfl, rfl, by rw [take_succ_get b j hlt, crcRaw_snoc]; rfl, trivial⟩ rfl rfl (by omega) (by omega)
  · obtain rfl : j = b.length := by omega
    refine fin hT 0 rfl (th (ifF rfl (ex (xt (xt (xb (th (sq (rg (?_))))))))))
    refine ar hT 1 rfl (u32subAll _) ?_
    refine fin hT 1 rfl (th (rt (?_)))
    exact ret1 rfl rfl ⟨rfl, rfl, by rw [List.take_length]; rfl⟩
theorem sealRef {w0 : World} {K hb : PH} {hs : List PH} (ao : Option Addr) (cap : Nat) (b : List UInt8) (hm : In K hs hb) (x : IsS hb ao b.length cap 1 (bv b)) (hl : b.length < 1099511627776) :
    Ct Try.prog w0 55 [.slice ao b.length cap] K hs
      (fun v K' hs' => K' = K ∧ ∃ h', hs' = h' :: hs ∧ (2097152 < b.length ∧ v = .tuple #[.slice none 0 0, .int .i64 22] ∨
        b.length ≤ 2097152 ∧ ∃ ao' c', v = .tuple #[.slice ao' (sealed b).length c', .int .i64 0] ∧ Own h' ao' (sealed b).length c' 5 1 (bv (sealed b)))) := by
  refine enter Try.func55 (by kernel_rfl) rfl rfl rfl ?_
  refine sq (rg (?_))
  refine fin hT 2 rfl (th (sq (sq (rg (?_)))))
  refine cmp hT 2 rfl (fun h1 => ?_) (fun h1 => ?_)   -- ref.go:119 t9 t8 > 2097152
  · refine fin hT 0 rfl (th (ifT rfl (sq (rg (?_)))))
    refine fin hT 2 rfl (th (rt (rT (WQ.em ?_))))
    exact ret2 rfl rfl rfl ⟨rfl, En.em, rfl, .inl ⟨by omega, rfl⟩⟩
  · refine fin hT 0 rfl (th (ifF rfl (sk (th (sq (rg (?_)))))))
    refine cl hT 1 rfl (sumRef ao cap b hm x hl) ?_   -- ref.go:122 t11
    rintro v11 K11 hs11 ⟨rfl, rfl, rfl⟩
    refine fin hT 1 rfl (th (sq (rg (?_))))
    refine cl hT 1 rfl (putRef ao cap b hm x hl) ?_   -- ref.go:123 t13
    rintro v13 K13 hs13 ⟨h13, rfl, rfl, ao13, c13, rfl, o13⟩
    have hpl := putBytes_length b
    have hu := uint_le10 (n := b.length) (by omega)
    have hs32 := (crc b).isLt
    have hse : sealed b = putBytes b ++ le4 (crc b).toNat := rfl
    generalize (crc b).toNat = s at *
    refine fin hT 1 rfl (th (sq (sq (rg (?_)))))
    refine fin hT 1 rfl (th (bk (?_)))
    refine loop (σ := Nat × Option Addr × Nat × PH) (fun x => [(5, .slice x.2.1 (putBytes b ++ (le4 s).take x.1).length x.2.2.1), (4, .int .u32 ((s / 256 ^ x.1 : Nat) : Int)), (6, .int .i64 (x.1 : Nat))]) (fun _ => K13) (fun x => x.2.2.2 :: hs11) (fun x => x.1 ≤ 4 ∧ Own x.2.2.2 x.2.1 (putBytes b ++ (le4 s).take x.1).length x.2.2.1 5 1 (bv (putBytes b ++ (le4 s).take x.1))) (fun x => 4 - x.1)
      (0, ao13, c13, h13) ⟨Nat.zero_le _, by simpa using o13⟩ ⟨by simp; rfl, by simp; rfl, rfl, trivial⟩ rfl rfl ?_
    rintro ⟨k, ao1, c1, h1'⟩ ⟨hk, o1⟩
    dsimp only at hk o1 ⊢
    refine sq (sq (rg (?_)))
    refine cmp hT 1 rfl (fun h2 => ?_) (fun h2 => ?_)   -- ref.go:124 t15 t14 < 4
    · refine fin hT 0 rfl (th (ifT rfl (sk (th (sq (bk (sq (rg (?_)))))))))
      have hk4 : k < 4 := by omega
      have e4 := le4_take s k hk4
      refine ar hT 2 rfl (u_rem .u32 _ 256) ?_   -- ref.go:125 t20 t19 rem 256
      refine ar hT 0 rfl (u8w (by omega)) ?_   -- ref.go:125 t21 convert t20
      refine lit hT 0 #[.int .u8 ((s / 256 ^ k % 256 : Nat) : Int)] rfl (by decide) (by kernel_rfl) fun b22 => ?_   -- ref.go:125 t22
      refine app hT 0 1 rfl rfl o1 (.inr ⟨0, rfl⟩) (isS_byte b22 (s / 256 ^ k % 256) (by omega)) rfl (by decide) (bv_one _) (by simp; omega) (by simp [maxLen]; omega) fun ao23 c23 g23 o23 => ?_   -- ref.go:125 t23
      refine WL.drop ?_
      rw [← bv_append, List.append_assoc, ← e4] at o23
      have e5 : (putBytes b ++ (le4 s).take k).length + 1 = (putBytes b ++ (le4 s).take (k + 1)).length := by rw [e4]; simp; omega
      rw [e5] at o23
      refine fin hT 1 rfl (th (rg (?_)))
      refine ar hT 1 rfl (u32quo256 s k hs32) ?_   -- ref.go:126 t25 t24 quo 256
      refine fin hT 1 rfl (bl (th (rg (?_))))
      refine ar hT 1 rfl (i64w (by omega)) ?_   -- ref.go:124 t17 t16 add 1
      refine fin hT 1 rfl (?_)
      exact again (x := (k, ao1, c1, h1')) (k + 1, ao23, c23, g23) ⟨by rw [← e5]; rfl, rfl, rfl, trivial⟩ rfl rfl ⟨hk4, o23⟩ (by dsimp only; omega)
    · obtain rfl : k = 4 := by omega
      refine fin hT 0 rfl (th (ifF rfl (ex (xt (xt (xb (th (sq (rg (?_))))))))))
      refine fin hT 3 rfl (th (rt (?_)))
      have e6 : putBytes b ++ (le4 s).take 4 = sealed b := by rw [hse]; rfl
      rw [e6] at o1
      exact ret2 rfl rfl rfl ⟨rfl, h1', rfl, .inr ⟨by omega, ao1, c1, by rw [e6], o1⟩⟩
end Go.Proofs.Ythpiokdibknpaaa
