/-
  What the functions of layer 2 come to.
-/
import Derived.Test.YthpiokdibknpaaaTab
import Derived.Test.YthpiokdibknpaaaCs
namespace Go.Proofs.Ythpiokdibknpaaa
open Go.En
set_option linter.unusedVariables false
attribute [local irreducible] Code.wp wpList Calls

theorem putUint {w0 : World} {K h : PH} {R : List PH} (ao : Option Addr) (c1 : Nat) (bs : List UInt8) (n : Nat) (o : Own h ao bs.length c1 5 1 (bv bs)) (hn : n < 18446744073709551616) (hb : bs.length < 1099511627776) :
    Ct Try.prog w0 36 [.slice ao bs.length c1, .int .u64 (n : Nat)] K (h :: R)
      (fun v K' hs' => ∃ h', hs' = h' :: R ∧ K' = K ∧ ∃ ao' c', v = .slice ao' (bs ++ uint n).length c' ∧ Own h' ao' (bs ++ uint n).length c' 5 1 (bv (bs ++ uint n))) := by
  refine enter Try.func36 (by kernel_rfl) rfl rfl rfl ?_
  refine sq (rg ?_)
  refine fin hT 1 rfl (th ?_)
  refine sq (bk ?_)
  refine loop (σ := List UInt8 × Nat × Option Addr × Nat × PH) (fun x => [(0, .slice x.2.2.1 x.1.length x.2.2.2.1), (1, .int .u64 (x.2.1 : Nat)), (4, .slice none 0 0)]) (fun _ => K) (fun x => x.2.2.2.2 :: R)
    (fun x => Own x.2.2.2.2 x.2.2.1 x.1.length x.2.2.2.1 5 1 (bv x.1) ∧ x.1 ++ uint x.2.1 = bs ++ uint n ∧ x.2.1 < 18446744073709551616) (fun x => x.2.1) (bs, n, ao, c1, h) ⟨o, rfl, hn⟩ ⟨rfl, rfl, rfl, trivial⟩ rfl rfl ?_
  rintro ⟨bs', m, ao', c', h'⟩ ⟨o', heq, hm⟩
  dsimp only at o' heq hm ⊢
  have hbs : bs'.length ≤ bs.length + 10 := by
    have h1 := congrArg List.length heq
    have h2 := uint_le10 hn
    simp at h1
    omega
  refine sq (sq (rg ?_))
  refine cmp hT 1 rfl (fun h1 => ?_) (fun h1 => ?_)
  · refine fin hT 0 rfl (th (ifT rfl (sk (th (bk (sq (rg ?_)))))))
    refine ar hT 2 rfl (u8m m) ?_
    refine ar hT 0 rfl (v' := .int .u8 ((m % 128 + 128 : Nat) : Int)) (u8or128 m) ?_
    refine lit hT 0 #[.int .u8 ((m % 128 + 128 : Nat) : Int)] rfl (by decide) (by kernel_rfl) fun b => ?_
    refine app hT 0 1 rfl rfl o' (.inr ⟨0, rfl⟩) (isS_byte b (m % 128 + 128) (by omega)) rfl (by decide) (bv_one _) (by simp; omega) (by simp [maxLen]; omega) fun ao2 c2 h2 o2 => ?_
    refine fin hT 1 rfl (th (rg ?_))
    refine ar hT 1 rfl (v' := .int .u64 ((m / 128 : Nat) : Int)) (u64shr7 m) ?_
    refine fin hT 1 rfl (bl ?_)
    refine WQ.drop ?_
    rw [← bv_append] at o2
    have e1 : (bs' ++ [UInt8.ofNat (m % 128 + 128)]).length = bs'.length + 1 := by simp
    rw [← e1] at o2
    have e2 := uint_ge (n := m) (by omega)
    exact again (x := (bs', m, ao', c', h')) (bs' ++ [UInt8.ofNat (m % 128 + 128)], m / 128, ao2, c2, h2) ⟨by rw [← e1]; rfl, rfl, rfl, trivial⟩ rfl rfl
      ⟨o2, by simp only [List.append_assoc, List.singleton_append]; rw [← e2]; exact heq, by dsimp only; omega⟩ (by dsimp only; omega)
  · refine fin hT 0 rfl (th (ifF rfl (ex (xt (xt (xb (th (sq (rg ?_)))))) )))
    have hlt : m < 128 := by omega
    refine ar hT 2 rfl (u8m m) ?_
    refine lit hT 0 #[.int .u8 ((m % 256 : Nat) : Int)] rfl (by decide) (by kernel_rfl) fun b => ?_
    refine app hT 0 1 rfl rfl o' (.inr ⟨0, rfl⟩) (isS_byte b (m % 256) (by omega)) rfl (by decide) (bv_one _) (by simp; omega) (by simp [maxLen]; omega) fun ao2 c2 h2 o2 => ?_
    refine fin hT 1 rfl (th (WC.drop (rt ?_)))
    rw [← bv_append] at o2
    have e1 : m % 256 = m := by omega
    have e2 : bs' ++ [UInt8.ofNat (m % 256)] = bs ++ uint n := by rw [e1, ← heq, uint_lt hlt]
    have e3 : bs'.length + 1 = (bs ++ uint n).length := by rw [← e2]; simp
    rw [e2, e3] at o2
    exact ret1 rfl (by rw [← e3]; rfl) ⟨h2, rfl, rfl, ao2, c2, rfl, o2⟩

theorem sumC {w0 : World} {K hb : PH} {hs : List PH} (ao : Option Addr) (cap : Nat) (b : List UInt8) (hm : In K hs hb) (x : IsS hb ao b.length cap 1 (bv b)) (hl : b.length < 1099511627776) :
    Ct Try.prog w0 79 [.slice ao b.length cap] K hs (fun v K' hs' => K' = K ∧ hs' = hs ∧ v = .int .u32 ((crc b).toNat : Nat)) := by
  refine enter Try.func79 (by kernel_rfl) rfl rfl rfl ?_
  refine sq (rg (?_))
  refine fin hT 1 rfl (th (sq (rg (?_))))
  refine fin hT 1 rfl (th (sq (sq (rg (?_)))))
  refine fin hT 3 rfl (th (bk (?_)))
  refine loop (σ := Nat) (fun j => [(6, .slice ao b.length cap), (7, .int .i64 (b.length : Nat)), (8, .int .i64 (j : Nat)), (3, .int .u32 ((crcRaw 4294967295#32 (b.take j)).toNat : Nat))]) (fun _ => K) (fun _ => hs) (fun j => j ≤ b.length) (fun j => b.length - j)
    0 (Nat.zero_le _) ⟨rfl, rfl, rfl, rfl, trivial⟩ rfl rfl ?_
  intro j hj
  refine sq (rg (?_))
  refine cmp hT 0 rfl (fun h1 => ?_) (fun h1 => ?_)   -- codec.go:120 t9 t8 < t7
  · have hlt : j < b.length := by omega
    refine fin hT 0 rfl (th (sq (ifT rfl (sk (th (sq (bk (sq (rg (?_))))))))))
    refine ix1 hT 0 j rfl rfl rfl x (bv_get hlt) fun a10 hc10 => ?_   -- codec.go:120 t10 t6[t8]
    refine ld hT 0 rfl hm hc10 ?_
    refine fin hT 1 rfl (th (sq (rg (?_))))
    refine ar hT 2 rfl (u32ofByte _) ?_   -- codec.go:121 t14 convert t13
    refine ar hT 0 rfl (u32xor _ _) ?_   -- codec.go:121 t15 t12 xor t14
    refine fin hT 1 rfl (th (sq (rg (?_))))
    refine fin hT 1 rfl (th (bk (?_)))
    refine loop (σ := Nat) (fun i => [(16, .int .i64 (i : Nat)), (3, .int .u32 ((crcBits i (crcRaw 4294967295#32 (b.take j) ^^^ BitVec.ofNat 32 b[j].toNat)).toNat : Nat)), (6, .slice ao b.length cap), (7, .int .i64 (b.length : Nat)), (8, .int .i64 (j : Nat))]) (fun _ => K) (fun _ => hs) (fun i => i ≤ 8) (fun i => 8 - i)
      0 (Nat.zero_le _) ⟨rfl, rfl, rfl, rfl, rfl, trivial⟩ rfl rfl ?_
    intro i hi
    refine sq (rg (?_))
    refine cmp hT 0 rfl (fun h2 => ?_) (fun h2 => ?_)   -- codec.go:122 t17 t16 < 8
    · refine fin hT 0 rfl (th (sq (ifT rfl (sk (th (sq (bk (rg (?_)))))))))
      refine ar hT 1 rfl (u32shr1 _) ?_   -- codec.go:123 t19 t18 shr 1
      refine ar hT 1 rfl (u32and1 _) ?_   -- codec.go:123 t21 t20 and 1
      refine ar hT 0 rfl (u32neg _) ?_   -- codec.go:123 t22 UnOp.neg t21
      refine ar hT 0 rfl (u32andP _) ?_   -- codec.go:123 t23 2197175160 and t22
      refine ar hT 0 rfl (u32xor _ _) ?_   -- codec.go:123 t24 t19 xor t23
      refine fin hT 1 rfl (bl (th (rg (?_))))
      refine ar hT 0 rfl (i64w (by omega)) ?_   -- codec.go:122 t25 t16 add 1
      refine fin hT 1 rfl (?_)
      exact again (x := i) (i + 1) ⟨rfl, by rw [crcBits_succ]; rfl, rfl, rfl, rfl, trivial⟩ rfl rfl (by omega) (by omega)
    · obtain rfl : i = 8 := by omega
      refine fin hT 0 rfl (th (sq (ifF rfl (ex (xt (xt (xb (bl (th (rg (?_)))))))))))
      refine ar hT 0 rfl (i64w (by omega)) ?_   -- codec.go:120 t26 t8 add 1
      refine fin hT 1 rfl (?_)
      exact again (x := j) (j + 1) ⟨rfl, rfl, rfl, by rw [take_succ_get b j hlt, crcRaw_snoc]; rfl, trivial⟩ rfl rfl (by omega) (by omega)
  · obtain rfl : j = b.length := by omega
    refine fin hT 0 rfl (th (sq (ifF rfl (ex (xt (xt (xb (th (sq (rg (?_)))))))))))
    refine ar hT 1 rfl (u32not _) ?_   -- codec.go:126 t28 UnOp.xor t27
    refine fin hT 1 rfl (th (rt (?_)))
    exact ret1 rfl rfl ⟨rfl, rfl, by rw [List.take_length]; rfl⟩
end Go.Proofs.Ythpiokdibknpaaa
