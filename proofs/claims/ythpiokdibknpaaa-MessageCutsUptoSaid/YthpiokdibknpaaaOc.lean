/-
  The law of cuts.
-/
import Derived.Test.YthpiokdibknpaaaOb
import Derived.Test.YthpiokdibknpaaaCz
namespace Go.Proofs.Ythpiokdibknpaaa
open Go.En
set_option linter.unusedVariables false
attribute [local irreducible] Code.wp wpList Calls

theorem dec_no {b : List UInt8} (h : ¬ ((unsealed b).2.2 = 0 ∧ (unsealed b).2.1 = b.length)) : dec b = none := by
  unfold dec
  rw [if_neg fun g => h ⟨g.1, g.2.1⟩]
theorem enc_ob {m : Msg} (h : ¬ ¬ ec (enc m) = 0) : enc m = some (ob (enc m)) ∧ m.ok ∧ ob (enc m) = sealed m.body := by
  cases hp : enc m with
  | none => exact absurd (by rw [hp]; simp [ec]) h
  | some z => have := enc_some hp; exact ⟨rfl, this.1, this.2⟩
theorem own0 (b : Nat) : Own (pt b #[] 5) (some ⟨b, 0, none⟩) 0 0 5 1 (bv []) :=
  Own.ofPt (b := b) (c := #[]) (e := 5) (n := 0) (size := 1) rfl (by simp [maxLen])
theorem lawCutsM {w0 : World} {K : PH} {hs : List PH} (m : Msg) (p : MA) (hS : MsgS K m p) (hbd : m.bd) (n : Int) (hn : -9223372036854775808 ≤ n ∧ n ≤ 9223372036854775807) (mo : Nat) (hmo : mo < 256) :
    Ct Try.prog w0 12 [.agg (mv m p), .int .i64 n, .int .u8 (mo : Nat)] K hs (fun v K' hs' => K' = K ∧ v = .bool true) := by
  have hlen := enc_len m hbd
  refine enter Try.func12 (by kernel_rfl) rfl rfl rfl ?_
  refine sq (rg (?_))
  refine bx hT 0 rfl fun b3 => ?_   -- law.go:90 t3
  refine fin hT 1 rfl (th (sq (rg (?_))))
  refine ldS hT 0 0 rfl rfl (by kernel_rfl) ?_   -- law.go:91 t14 t3
  refine cl hT 0 rfl (encodeC m p hS hbd) ?_   -- law.go:91 t15
  rintro v15 K15 hs15 ⟨rfl, g1, ao1, c1, rfl, rfl, o1⟩
  refine fin hT 5 rfl (th (sq (sq (rg (?_)))))
  refine cmpS hT 1 rfl fun b19 h19 => ?_   -- law.go:92 t19 t18 ≠ 0
  refine' bjo hT 1 3 23 [19, 20] h19 rfl rfl rfl rfl rfl rfl rfl (fun _ => ?x2) (fun b23 h23 => ?_)   -- law.go:92 t23
  case x2 =>
    refine cmpS hT 1 rfl fun b22 h22 => ?_   -- law.go:92 t22 t21 < 0
    exact fin hT 1 rfl (bjx h22 rfl rfl rfl)
  refine' bjo hT 1 5 29 [23, 24] h23 rfl rfl rfl rfl rfl rfl rfl (fun _ => ?x4) (fun b29 h29 => ?_)   -- law.go:92 t29
  case x4 =>
    refine cmpS hT 3 rfl fun b28 h28 => ?_   -- law.go:92 t28 t25 ≥ t27
    exact fin hT 1 rfl (bjx h28 rfl rfl rfl)
  refine fin hT 0 rfl (th (ifP h29 rfl (fun e6 => ?_) (fun e6 => ?_)))
  · refine sq (rg (?_))
    refine cl hT 0 rfl aliveMC ?_   -- law.go:93 t30
    rintro v30 K30 hs30 ⟨rfl, rfl, b30, rfl, h30⟩
    refine fin hT 1 rfl (th (rt (rT (?_))))
    exact ret1 rfl rfl ⟨rfl, by rw [h30.2 trivial]⟩
  · simp only [not_or] at e6
    obtain ⟨henc, hok, hse⟩ := enc_ob e6.1.1
    obtain ⟨k, rfl⟩ := Int.eq_ofNat_of_zero_le (by omega : 0 ≤ n)
    have hk : k < (ob (enc m)).length := by omega
    have hbs := body_small m hbd hok
    have hd1 : dec ((ob (enc m)).take k) = none := dec_no fun h => by
      have := unsealed_cut (b := m.body) (n := k) hbs (by rw [← hse]; exact hk)
      rw [hse, this] at h
      exact absurd h.1 (by decide)
    have hd2 : dec ([] ++ ob (enc m) ++ [UInt8.ofNat mo]) = none := dec_no fun h => by
      rw [List.nil_append, hse, unsealed_sealed _ hbs] at h
      have h2 : (sealed m.body).length = (sealed m.body ++ [UInt8.ofNat mo]).length := h.2
      simp at h2
    refine sk (th (sq (rg (?_))))
    refine sl hT 2 0 k rfl o1.isS rfl (by simp) (by omega) (ys := bv ((ob (enc m)).take k)) (by simp [bv, List.map_take]) fun ao34 c34 x34 => ?_
    have e1 : k = ((ob (enc m)).take k).length := by simp; omega
    generalize (ob (enc m)).take k = q at e1 x34 hd1 ⊢
    rw [e1] at x34 ⊢
    refine cl hT 0 rfl (decodeC ao34 c34 q (.inr ⟨0, rfl⟩) x34 (by omega)) ?_   -- law.go:95 t35
    rintro v35 K35 hs35 ⟨rfl, le1, p1, rfl, hS1⟩
    rw [hd1] at hS1 ⊢
    simp only [Option.getD_none] at hS1 ⊢
    refine al hT 3 (.agg #[.int .i64 0, .int .i64 0, .int .i64 0, .int .u64 0, .int .u64 0, .int .u64 0, .int .u64 0, .int .u64 0, .bool false, .slice none 0 0, .int .i64 0, .int .i64 0, .slice none 0 0, .slice none 0 0]) rfl (by kernel_rfl) fun b9 => ?_   -- law.go:95 t9
    refine stS hT 0 0 rfl rfl (by kernel_rfl) rfl rfl ?_   -- law.go:95 tNone t9 := t36
    refine fin hT 1 rfl (th (sq (rg (?_))))
    refine lit hT 0 #[] rfl (by decide) (by kernel_rfl) fun b39 => ?_   -- law.go:96 t39
    refine appB hT 1 0 [] (ob (enc m)) rfl rfl rfl (own0 b39) (.inr ⟨2, rfl⟩) o1.isS (by simp only [List.length_nil]; omega) fun ao41 c41 g41 o41 => ?_
    refine lit hT 1 #[.int .u8 ((mo : Nat) : Int)] rfl (by decide) (by kernel_rfl) fun b43 => ?_   -- law.go:96 t43
    refine appB hT 0 1 ([] ++ ob (enc m)) [UInt8.ofNat mo] rfl rfl rfl o41 (.inr ⟨0, rfl⟩) (isS_byte b43 mo hmo) (by simp only [List.nil_append, List.length_singleton]; omega) fun ao44 c44 g44 o44 => ?_
    refine cl hT 0 rfl (decodeC ao44 c44 _ (.inr ⟨1, rfl⟩) o44.isS (by simp only [List.nil_append, List.length_append, List.length_singleton]; omega)) ?_   -- law.go:96 t45
    rintro v45 K45 hs45 ⟨rfl, le2, p2, rfl, hS2⟩
    rw [hd2] at hS2 ⊢
    simp only [Option.getD_none] at hS2 ⊢
    refine al hT 3 (.agg #[.int .i64 0, .int .i64 0, .int .i64 0, .int .u64 0, .int .u64 0, .int .u64 0, .int .u64 0, .int .u64 0, .bool false, .slice none 0 0, .int .i64 0, .int .i64 0, .slice none 0 0, .slice none 0 0]) rfl (by kernel_rfl) fun b11 => ?_   -- law.go:96 t11
    refine stS hT 0 0 rfl rfl (by kernel_rfl) rfl rfl ?_   -- law.go:96 tNone t11 := t46
    refine fin hT 1 rfl (th (sq (rg (?_))))
    refine cl hT 0 rfl aliveMC ?_   -- law.go:97 t48
    rintro v48 K48 hs48 ⟨rfl, rfl, b48, rfl, h48⟩
    refine' bja hT 1 3 52 [48, 49] h48 rfl rfl rfl rfl rfl rfl rfl (fun _ => ?x7) (fun b52 h52 => ?_)   -- law.go:97 t52
    case x7 =>
      refine cmpS hT 1 rfl fun b51 h51 => ?_   -- law.go:97 t51 t50 = 170
      exact fin hT 1 rfl (bjx h51 rfl rfl rfl)
    refine' bja hT 1 3 56 [52, 53] h52 rfl rfl rfl rfl rfl rfl rfl (fun _ => ?x9) (fun b56 h56 => ?_)   -- law.go:97 t56
    case x9 =>
      refine cmpS hT 1 rfl fun b55 h55 => ?_   -- law.go:97 t55 t54 = 170
      exact fin hT 1 rfl (bjx h55 rfl rfl rfl)
    refine fin hT 1 rfl (th (rt (?_)))
    have hfin : b56 = true := h56.2 ⟨⟨trivial, rfl⟩, rfl⟩
    refine WQ.weak (le1.trans le2) ?_
    exact ret1 rfl rfl ⟨rfl, by rw [hfin]⟩
end Go.Proofs.Ythpiokdibknpaaa
