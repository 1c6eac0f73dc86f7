/-
  The reference's numbers and bytes; the codec alive; the law of numbers.
-/
import Derived.Test.YthgllplhhanpkaaCk
import Derived.Test.YthgllplhhanpkaaEs
namespace Go.Proofs.Ythgllplhhanpkaa
open Go.En
set_option linter.unusedVariables false
attribute [local irreducible] Code.wp wpList Calls

theorem own_of {h : PH} {ao : Option Addr} {n n' cap e size : Nat} {xs ys : List Value} (x : Own h ao n cap e size xs) (h1 : n = n') (h2 : xs = ys) : Own h ao n' cap e size ys := by subst h1; subst h2; exact x
theorem own_byte (b m : Nat) (h : m < 256) : Own (pt b #[.int .u8 ((m : Nat) : Int)] 5) (some ⟨b, 0, none⟩) 1 1 5 1 (bv [UInt8.ofNat m]) :=
  own_of (Own.ofPt (n := 1) (size := 1) (by simp) (by simp [maxLen])) rfl (by simp [bv, byteV h])
theorem u_rem (k : IntKind) (n m : Nat) : Value.int k (((n : Nat) : Int).tmod ((m : Nat) : Int)) = .int k ((n % m : Nat) : Int) := by rw [← Int.ofNat_tmod]
theorem u64quo (n m : Nat) (h : n < 18446744073709551616) : Value.int .u64 (IntKind.u64.wrap (((n : Nat) : Int).tdiv ((m : Nat) : Int))) = .int .u64 ((n / m : Nat) : Int) := by
  rw [← Int.ofNat_tdiv]
  have := Nat.div_le_self n m
  generalize n / m = q at *
  exact u64w (by omega)
theorem isS_pt {b n ty : Nat} {c : Array Value} {fr : Nat × Nat} {xs : List Value} (h1 : c.toList = xs) (h2 : c.size = n) : IsS (pt b c ty fr) (some ⟨b, 0, none⟩) n n 1 xs := by
  subst h1
  refine ⟨by simpa using h2, Nat.le_refl _, fun j u hu => ⟨_, rfl, ?_⟩⟩
  rw [add_mk]
  exact Cell.pt (by simpa using hu)
theorem uintRef {w0 : World} {K : PH} : ∀ (n : Nat) {hs : List PH}, n < 18446744073709551616 →
    Ct Try.prog w0 14 [.int .u64 (n : Nat)] K hs
      (fun v K' hs' => ∃ h', hs' = h' :: hs ∧ K' = K ∧ ∃ ao' c', v = .slice ao' (uint n).length c' ∧ Own h' ao' (uint n).length c' 5 1 (bv (uint n))) := by
  intro n
  induction n using Nat.strongRecOn with
  | ind n ih =>
  intro hs hn
  refine enter Try.func14 (by kernel_rfl) rfl rfl rfl ?_
  refine sq (rg (?_))
  refine fin hT 1 rfl (th (sq (sq (rg (?_)))))
  refine cmp hT 1 rfl (fun h1 => ?_) (fun h1 => ?_)   -- ref.go:8 t5 t4 < 128
  · refine fin hT 0 rfl (th (ifT rfl (sq (rg (?_)))))
    refine ar hT 1 rfl (u8w (by omega)) ?_   -- ref.go:9 t7 convert t6
    refine lit hT 0 #[.int .u8 ((n : Nat) : Int)] rfl (by decide) (by kernel_rfl) fun b8 => ?_   -- ref.go:9 t8
    refine fin hT 1 rfl (th (rt (rT (?_))))
    rw [uint_lt (by omega)]
    exact ret1 rfl rfl ⟨_, rfl, rfl, _, _, rfl, own_byte b8 n (by omega)⟩
  · refine fin hT 0 rfl (th (ifF rfl (sk (th (sq (rg (?_)))))))
    refine ar hT 1 rfl (u_rem .u64 n 128) ?_   -- ref.go:11 t10 t9 rem 128
    refine ar hT 0 rfl (u8w (by omega)) ?_   -- ref.go:11 t11 convert t10
    refine ar hT 0 rfl (v' := .int .u8 ((n % 128 + 128 : Nat) : Int)) (by rw [u8w (by omega)]; rfl) ?_   -- ref.go:11 t12 t11 add 128
    refine lit hT 0 #[.int .u8 ((n % 128 + 128 : Nat) : Int)] rfl (by decide) (by kernel_rfl) fun b13 => ?_   -- ref.go:11 t13
    refine fin hT 1 rfl (th (sq (rg (?_))))
    refine ar hT 2 rfl (u64quo n 128 hn) ?_   -- ref.go:12 t16 t15 quo 128
    refine cl hT 0 rfl (ih (n / 128) (by omega) (by omega)) ?_   -- ref.go:12 t17
    rintro v17 K17 hs17 ⟨h', rfl, rfl, ao', c', rfl, o'⟩
    have hu := uint_le10 (n := n / 128) (by omega)
    refine app hT 0 1 rfl rfl (own_byte b13 (n % 128 + 128) (by omega)) (.inr ⟨0, rfl⟩) o'.isS rfl (by decide) (bv_one _) (by dsimp only; omega) (by simp only [maxLen]; omega) fun ao18 c18 g18 o18 => ?_   -- ref.go:12 t18
    refine fin hT 1 rfl (th (WC.drop (rt (?_))))
    rw [← bv_append] at o18
    have e1 : 1 + (uint (n / 128)).length = (uint n).length := by rw [uint_ge (n := n) (by omega)]; simp; omega
    have e2 : [UInt8.ofNat (n % 128 + 128)] ++ uint (n / 128) = uint n := by rw [uint_ge (n := n) (by omega)]; rfl
    rw [e1, e2] at o18
    exact ret1 rfl rfl ⟨g18, rfl, rfl, ao18, c18, by rw [e1], o18⟩
theorem putRef {w0 : World} {K hb : PH} {hs : List PH} (ao : Option Addr) (cap : Nat) (x : List UInt8) (hm : In K hs hb) (xs : IsS hb ao x.length cap 1 (bv x)) (hl : x.length < 1099511627776) :
    Ct Try.prog w0 17 [.slice ao x.length cap] K hs
      (fun v K' hs' => ∃ h', hs' = h' :: hs ∧ K' = K ∧ ∃ ao' c', v = .slice ao' (putBytes x).length c' ∧ Own h' ao' (putBytes x).length c' 5 1 (bv (putBytes x))) := by
  refine enter Try.func17 (by kernel_rfl) rfl rfl rfl ?_
  refine sq (rg (?_))
  refine fin hT 1 rfl (th (sq (rg (?_))))
  refine ar hT 2 rfl (u64w (by omega)) ?_   -- ref.go:17 t6 convert t5
  refine cl hT 0 rfl (uintRef x.length (by omega)) ?_   -- ref.go:17 t7
  rintro v7 K7 hs7 ⟨h', rfl, rfl, ao', c', rfl, o'⟩
  have hu := uint_le10 (n := x.length) (by omega)
  refine fin hT 1 rfl (th (sq (rg (?_))))
  refine app hT 2 0 rfl rfl o' (In.cons hm) xs rfl (by decide) (bv_one _) (by dsimp only; omega) (by simp only [maxLen]; omega) fun ao10 c10 g10 o10 => ?_   -- ref.go:18 t10
  refine fin hT 1 rfl (th (rt (?_)))
  rw [← bv_append] at o10
  have e1 := putBytes_length x
  rw [← e1] at o10
  exact ret1 rfl rfl ⟨g10, rfl, rfl, ao10, c10, by rw [e1], o10⟩
theorem crc9 : (crc [49, 50, 51, 52, 53, 54, 55, 56, 57]).toNat = 3808858755 := by kernel_rfl
theorem sealed0 : (sealed []).length = 5 := by simp [sealed, putBytes, uint_lt, le4]
theorem r300 : rUint 1000 ([172, 2], 0) = (300, ([], 0)) := by decide
theorem aliveC {w0 : World} {K : PH} {hs : List PH} : Ct Try.prog w0 15 [] K hs (fun v K' hs' => K' = K ∧ hs' = hs ∧ v = .bool true) := by
  refine enter Try.func15 (by kernel_rfl) rfl rfl rfl ?_
  refine sq (rg (?_))
  refine fin hT 1 rfl (th (sq (rg (?_))))
  refine cl hT 0 rfl (sealC none 0 [] (.inl rfl) (IsS.nil _ _ _ _) (by simp)) ?_   -- law.go:18 t6
  rintro v6 K6 hs6 ⟨rfl, h6, rfl, ⟨h, _⟩ | ⟨_, ao6, c6, rfl, o6⟩⟩
  · simp at h
  rw [sealed0]
  refine fin hT 5 rfl (th (sq (rg (?_))))
  refine lit hT 0 #[.int .u8 172, .int .u8 2] rfl (by decide) (by kernel_rfl) fun b9 => ?_   -- law.go:19 t9
  refine cl hT 0 rfl (readC (some ⟨b9, 0, none⟩) 2 [172, 2] (.inr ⟨0, rfl⟩) (isS_pt rfl rfl) (by simp)) ?_   -- law.go:19 t10
  rintro v10 K10 hs10 ⟨rfl, rb, h', hb', rfl, rfl, rd⟩
  refine fin hT 1 rfl (th (sq (sq (rg (?_)))))
  refine cb hT 1 rfl (fun h1 => by simp at h1) (fun h1 => ?_)   -- law.go:20 t12 t11 = c
  refine fin hT 0 rfl (th (ifF rfl (sk (th (sq (rg (?_)))))))
  refine cl hT 1 rfl (uintC (.inr ⟨0, rfl⟩) 1000 ([172, 2], 0) (by simp) rd) ?_   -- law.go:23 t14
  rintro v14 K14 hs14 ⟨h2, rfl, rfl, rfl, rd2⟩
  rw [r300] at rd2 ⊢
  refine fin hT 1 rfl (th (sq (rg (?_))))
  refine lit hT 0 #[.int .u8 49, .int .u8 50, .int .u8 51, .int .u8 52, .int .u8 53, .int .u8 54, .int .u8 55, .int .u8 56, .int .u8 57] rfl (by decide) (by kernel_rfl) fun b15 => ?_   -- law.go:24 t15
  refine mk hT 0 0 rfl (by simp) rfl ⟨5, by kernel_rfl, by kernel_rfl⟩ ?_   -- law.go:24 t16
  refine cl hT 0 rfl (sumC (some ⟨b15, 0, none⟩) 9 [49, 50, 51, 52, 53, 54, 55, 56, 57] (.inr ⟨0, rfl⟩) (isS_pt rfl rfl) (by simp)) ?_   -- law.go:24 t17
  rintro v17 K17 hs17 ⟨rfl, rfl, rfl⟩
  rw [crc9]
  refine cmp hT 0 rfl (fun h2 => ?_) (fun h2 => absurd (by rfl) h2)   -- law.go:24 t18 t17 = 3808858755
  refine cmp hT 2 rfl (fun h3 => ?_) (fun h3 => absurd (by rfl) h3)   -- law.go:24 t21 t20 = 0
  refine cmp hT 4 rfl (fun h4 => ?_) (fun h4 => absurd (by rfl) h4)   -- law.go:24 t26 t25 = 5
  refine cmp hT 3 rfl (fun h5 => ?_) (fun h5 => absurd (by rfl) h5)   -- law.go:24 t30 t29 = 300
  refine WL.drop ?_
  refine cl hT 3 rfl (endC ([], 0) rd2) ?_   -- law.go:24 t34
  rintro v34 K34 hs34 ⟨rfl, rfl, rfl⟩
  refine cmp hT 0 rfl (fun h6 => ?_) (fun h6 => absurd (by rfl) h6)   -- law.go:24 t35 t34 = 0
  refine fin hT 2 rfl (th (WC.drop (WC.drop (WC.drop (WC.drop (rt (?_)))))))
  exact ret1 rfl rfl ⟨rfl, rfl, rfl⟩
end Go.Proofs.Ythgllplhhanpkaa
