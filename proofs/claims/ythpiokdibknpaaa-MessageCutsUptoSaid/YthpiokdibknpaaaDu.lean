/-
  The reference's numbers and bytes.
-/
import Derived.Test.YthpiokdibknpaaaCk
import Derived.Test.YthpiokdibknpaaaEd
namespace Go.Proofs.Ythpiokdibknpaaa
open Go.En
set_option linter.unusedVariables false
attribute [local irreducible] Code.wp wpList Calls

theorem own_of {h : PH} {ao : Option Addr} {n n' cap e size : Nat} {xs ys : List Value} (x : Own h ao n cap e size xs) (h1 : n = n') (h2 : xs = ys) : Own h ao n' cap e size ys := by subst h1; subst h2; exact x
theorem own_byte (b m : Nat) (h : m < 256) : Own (pt b #[.int .u8 ((m : Nat) : Int)] 5) (some ⟨b, 0, none⟩) 1 1 5 1 (bv [UInt8.ofNat m]) :=
  own_of (Own.ofPt (n := 1) (size := 1) (by simp) (by simp [maxLen])) rfl (by simp [bv, byteV h])
theorem u_rem (k : IntKind) (n m : Nat) : Value.int k (((n : Nat) : Int).tmod ((m : Nat) : Int)) = .int k ((n % m : Nat) : Int) := by rw [← Int.ofNat_tmod]
theorem u64quo (n m : Nat) (h : n < 18446744073709551616) : Value.int .u64 (IntKind.u64.wrap (((n : Nat) : Int).tdiv ((m : Nat) : Int))) = .int .u64 ((n / m : Nat) : Int) := by
  rw [← Int.ofNat_tdiv]
  have := Nat.div_le_self n m
  generalize n / m = q at *
  exact u64w (by omega)
theorem isS_pt {b n ty : Nat} {c : Array Value} {fr : Nat × Nat} {xs : List Value} (h1 : c.toList = xs) (h2 : c.size = n) : IsS (pt b c ty fr) (some ⟨b, 0, none⟩) n n 1 xs := by
  subst h1
  refine ⟨by simpa using h2, Nat.le_refl _, fun j u hu => ⟨_, rfl, ?_⟩⟩
  rw [add_mk]
  exact Cell.pt (by simpa using hu)
theorem uintRef {w0 : World} {K : PH} : ∀ (n : Nat) {hs : List PH}, n < 18446744073709551616 →
    Ct Try.prog w0 63 [.int .u64 (n : Nat)] K hs
      (fun v K' hs' => ∃ h', hs' = h' :: hs ∧ K' = K ∧ ∃ ao' c', v = .slice ao' (uint n).length c' ∧ Own h' ao' (uint n).length c' 5 1 (bv (uint n))) := by
  intro n
  induction n using Nat.strongRecOn with
  | ind n ih =>
  intro hs hn
  refine enter Try.func63 (by kernel_rfl) rfl rfl rfl ?_
  refine sq (rg (?_))
  refine fin hT 1 rfl (th (sq (sq (rg (?_)))))
  refine cmp hT 1 rfl (fun h1 => ?_) (fun h1 => ?_)   -- ref.go:8 t5 t4 < 128
  · refine fin hT 0 rfl (th (ifT rfl (sq (rg (?_)))))
    refine ar hT 1 rfl (u8w (by omega)) ?_   -- ref.go:9 t7 convert t6
    refine lit hT 0 #[.int .u8 ((n : Nat) : Int)] rfl (by decide) (by kernel_rfl) fun b8 => ?_   -- ref.go:9 t8
    refine fin hT 1 rfl (th (rt (rT (?_))))
    rw [uint_lt (by omega)]
    exact ret1 rfl rfl ⟨_, rfl, rfl, _, _, rfl, own_byte b8 n (by omega)⟩
  · refine fin hT 0 rfl (th (ifF rfl (sk (th (sq (rg (?_)))))))
    refine ar hT 1 rfl (u_rem .u64 n 128) ?_   -- ref.go:11 t10 t9 rem 128
    refine ar hT 0 rfl (u8w (by omega)) ?_   -- ref.go:11 t11 convert t10
    refine ar hT 0 rfl (v' := .int .u8 ((n % 128 + 128 : Nat) : Int)) (by rw [u8w (by omega)]; rfl) ?_   -- ref.go:11 t12 t11 add 128
    refine lit hT 0 #[.int .u8 ((n % 128 + 128 : Nat) : Int)] rfl (by decide) (by kernel_rfl) fun b13 => ?_   -- ref.go:11 t13
    refine fin hT 1 rfl (th (sq (rg (?_))))
    refine ar hT 2 rfl (u64quo n 128 hn) ?_   -- ref.go:12 t16 t15 quo 128
    refine cl hT 0 rfl (ih (n / 128) (by omega) (by omega)) ?_   -- ref.go:12 t17
    rintro v17 K17 hs17 ⟨h', rfl, rfl, ao', c', rfl, o'⟩
    have hu := uint_le10 (n := n / 128) (by omega)
    refine app hT 0 1 rfl rfl (own_byte b13 (n % 128 + 128) (by omega)) (.inr ⟨0, rfl⟩) o'.isS rfl (by decide) (bv_one _) (by dsimp only; omega) (by simp only [maxLen]; omega) fun ao18 c18 g18 o18 => ?_   -- ref.go:12 t18
    refine fin hT 1 rfl (th (WC.drop (rt (?_))))
    rw [← bv_append] at o18
    have e1 : 1 + (uint (n / 128)).length = (uint n).length := by rw [uint_ge (n := n) (by omega)]; simp; omega
    have e2 : [UInt8.ofNat (n % 128 + 128)] ++ uint (n / 128) = uint n := by rw [uint_ge (n := n) (by omega)]; rfl
    rw [e1, e2] at o18
    exact ret1 rfl rfl ⟨g18, rfl, rfl, ao18, c18, by rw [e1], o18⟩
theorem putRef {w0 : World} {K hb : PH} {hs : List PH} (ao : Option Addr) (cap : Nat) (x : List UInt8) (hm : In K hs hb) (xs : IsS hb ao x.length cap 1 (bv x)) (hl : x.length < 1099511627776) :
    Ct Try.prog w0 38 [.slice ao x.length cap] K hs
      (fun v K' hs' => ∃ h', hs' = h' :: hs ∧ K' = K ∧ ∃ ao' c', v = .slice ao' (putBytes x).length c' ∧ Own h' ao' (putBytes x).length c' 5 1 (bv (putBytes x))) := by
  refine enter Try.func38 (by kernel_rfl) rfl rfl rfl ?_
  refine sq (rg (?_))
  refine fin hT 1 rfl (th (sq (rg (?_))))
  refine ar hT 2 rfl (u64w (by omega)) ?_   -- ref.go:17 t6 convert t5
  refine cl hT 0 rfl (uintRef x.length (by omega)) ?_   -- ref.go:17 t7
  rintro v7 K7 hs7 ⟨h', rfl, rfl, ao', c', rfl, o'⟩
  have hu := uint_le10 (n := x.length) (by omega)
  refine fin hT 1 rfl (th (sq (rg (?_))))
  refine app hT 2 0 rfl rfl o' (In.cons hm) xs rfl (by decide) (bv_one _) (by dsimp only; omega) (by simp only [maxLen]; omega) fun ao10 c10 g10 o10 => ?_   -- ref.go:18 t10
  refine fin hT 1 rfl (th (rt (?_)))
  rw [← bv_append] at o10
  have e1 := putBytes_length x
  rw [← e1] at o10
  exact ret1 rfl rfl ⟨g10, rfl, rfl, ao10, c10, by rw [e1], o10⟩
end Go.Proofs.Ythpiokdibknpaaa
