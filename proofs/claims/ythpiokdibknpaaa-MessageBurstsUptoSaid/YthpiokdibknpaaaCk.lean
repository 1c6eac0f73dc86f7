/-
  What bytes written, sealed and unsealed come to.
-/
import Derived.Test.YthpiokdibknpaaaCm
namespace Go.Proofs.Ythpiokdibknpaaa
open Go.En
set_option linter.unusedVariables false
attribute [local irreducible] Code.wp wpList Calls

theorem putBytesC {w0 : World} {K h hb : PH} {R : List PH} (ao : Option Addr) (c1 : Nat) (bs : List UInt8) (ao2 : Option Addr) (c2 : Nat) (x : List UInt8) (o : Own h ao bs.length c1 5 1 (bv bs)) (hm : In K R hb) (xs : IsS hb ao2 x.length c2 1 (bv x))
    (hb1 : bs.length < 549755813888) (hb2 : x.length < 549755813888) :
    Ct Try.prog w0 35 [.slice ao bs.length c1, .slice ao2 x.length c2] K (h :: R)
      (fun v K' hs' => ∃ h', hs' = h' :: R ∧ K' = K ∧ ∃ ao' c', v = .slice ao' (bs ++ putBytes x).length c' ∧ Own h' ao' (bs ++ putBytes x).length c' 5 1 (bv (bs ++ putBytes x))) := by
  have hu := uint_le10 (n := x.length) (by omega)
  refine enter Try.func35 (by kernel_rfl) rfl rfl rfl ?_
  refine sq (rg (?_))
  refine fin hT 1 rfl (th (sq (rg (?_))))
  refine ar hT 3 rfl (u64w (by omega)) ?_   -- codec.go:20 t8 convert t7
  refine cl hT 0 rfl (putUint ao c1 bs x.length o (by omega) (by omega)) ?_   -- codec.go:20 t9
  rintro v9 K9 hs9 ⟨h', rfl, rfl, ao', c', rfl, o'⟩
  have e1 : (bs ++ uint x.length).length + x.length = (bs ++ putBytes x).length := by simp [putBytes_length]; omega
  refine app hT 1 0 rfl rfl o' (In.cons hm) xs rfl (by decide) (bv_one _) (by simp; omega) (by simp [maxLen]; omega) fun ao11 c11 g11 o11 => ?_   -- codec.go:20 t11
  refine fin hT 1 rfl (th (rt (?_)))
  have e2 : bv (bs ++ uint x.length) ++ bv x = bv (bs ++ putBytes x) := by rw [← bv_append, List.append_assoc]; rfl
  rw [e2, e1] at o11
  exact ret1 rfl (by rw [e1]; rfl) ⟨g11, rfl, rfl, ao11, c11, rfl, o11⟩
theorem sealC {w0 : World} {K hb : PH} {hs : List PH} (ao : Option Addr) (cap : Nat) (b : List UInt8) (hm : In K hs hb) (x : IsS hb ao b.length cap 1 (bv b)) (hl : b.length < 1099511627776) :
    Ct Try.prog w0 54 [.slice ao b.length cap] K hs
      (fun v K' hs' => K' = K ∧ ∃ h', hs' = h' :: hs ∧ (2097152 < b.length ∧ v = .tuple #[.slice none 0 0, .int .i64 22] ∨
        b.length ≤ 2097152 ∧ ∃ ao' c', v = .tuple #[.slice ao' (sealed b).length c', .int .i64 0] ∧ Own h' ao' (sealed b).length c' 5 1 (bv (sealed b)))) := by
  refine enter Try.func54 (by kernel_rfl) rfl rfl rfl ?_
  refine sq (rg (?_))
  refine fin hT 2 rfl (th (sq (sq (rg (?_)))))
  refine cmp hT 2 rfl (fun h1 => ?_) (fun h1 => ?_)   -- codec.go:131 t7 t6 > 2097152
  · refine fin hT 0 rfl (th (ifT rfl (sq (rg (?_)))))
    refine fin hT 2 rfl (th (rt (rT (WQ.em ?_))))
    exact ret2 rfl rfl rfl ⟨rfl, em, rfl, .inl ⟨by omega, rfl⟩⟩
  · refine fin hT 0 rfl (th (ifF rfl (sk (th (sq (rg (?_)))))))
    refine cl hT 1 rfl (sumC ao cap b hm x hl) ?_   -- codec.go:134 t9
    rintro v9 K9 hs9 ⟨rfl, rfl, rfl⟩
    refine fin hT 1 rfl (th (sq (rg (?_))))
    refine WL.em ?_
    refine cl hT 1 rfl (putBytesC none 0 [] ao cap b (Own.nil _ _) hm x (by simp) (by omega)) ?_   -- codec.go:135 t11
    rintro v11 K11 hs11 ⟨h', rfl, rfl, ao', c', rfl, o'⟩
    have hs32 := (crc b).isLt
    have hpl := putBytes_length b
    have hu := uint_le10 (n := b.length) (by omega)
    have hse : sealed b = putBytes b ++ le4 (crc b).toNat := rfl
    rw [List.nil_append] at o' ⊢
    generalize (crc b).toNat = s at *
    refine ar hT 1 rfl (u8m s) ?_   -- codec.go:135 t13 convert t12
    refine ar hT 1 rfl (u32shrN s 8 (by decide)) ?_   -- codec.go:135 t15 t14 shr 8
    refine ar hT 0 rfl (u8m _) ?_   -- codec.go:135 t16 convert t15
    refine ar hT 1 rfl (u32shrN s 16 (by decide)) ?_   -- codec.go:135 t18 t17 shr 16
    refine ar hT 0 rfl (u8m _) ?_   -- codec.go:135 t19 convert t18
    refine ar hT 1 rfl (u32shrN s 24 (by decide)) ?_   -- codec.go:135 t21 t20 shr 24
    refine ar hT 0 rfl (u8m _) ?_   -- codec.go:135 t22 convert t21
    refine lit hT 0 #[.int .u8 ((s % 256 : Nat) : Int), .int .u8 ((s / 2 ^ 8 % 256 : Nat) : Int), .int .u8 ((s / 2 ^ 16 % 256 : Nat) : Int), .int .u8 ((s / 2 ^ 24 % 256 : Nat) : Int)] rfl (by decide) (by kernel_rfl) fun b23 => ?_   -- codec.go:135 t23
    have e1 : (putBytes b).length + 4 = (sealed b).length := by rw [hse]; simp [le4]
    have x4 : IsS (pt b23 #[.int .u8 ((s % 256 : Nat) : Int), .int .u8 ((s / 2 ^ 8 % 256 : Nat) : Int), .int .u8 ((s / 2 ^ 16 % 256 : Nat) : Int), .int .u8 ((s / 2 ^ 24 % 256 : Nat) : Int)] 5) (some ⟨b23, 0, none⟩) 4 4 1 (bv (le4 s)) := by
      rw [← le4_cells]
      exact (Own.ofPt (n := 4) (size := 1) (by simp) (by simp [maxLen])).isS
    refine app hT 0 1 rfl rfl o' (.inr ⟨0, rfl⟩) x4 rfl (by decide) (bv_one _) (by dsimp only; omega) (by simp only [maxLen]; omega) fun ao24 c24 g24 o24 => ?_   -- codec.go:135 t24
    rw [← bv_append, ← hse, e1] at o24
    refine fin hT 2 rfl (th (WC.drop (rt (?_))))
    exact ret2 rfl rfl rfl ⟨rfl, g24, rfl, .inr ⟨by omega, ao24, c24, by rw [e1], o24⟩⟩
end Go.Proofs.Ythpiokdibknpaaa
