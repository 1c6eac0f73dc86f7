/-
  Configurations written: the code's and the reference's.
  Configurations read: the code's and the reference's; two lists compared.
  Entries written: the code's and the reference's.
  Entries read: the code's and the reference's; two entries compared.
-/
import Derived.Test.YthpiokdibknpaaaNa
import Derived.Test.YthpiokdibknpaaaMs
import Derived.Test.YthpiokdibknpaaaEw
namespace Go.Proofs.Ythpiokdibknpaaa
open Go.En
set_option linter.unusedVariables false
attribute [local irreducible] Code.wp wpList Calls

theorem putConf_no {l : List Int} (h : ¬ (l ≠ [] ∧ confOK (-1) l)) : putConf l = none := if_neg h
theorem take_drop_conf (l : List Int) (i : Nat) : confOK (-1) l ↔ confOK (-1) (l.take i) ∧ confOK ((l.take i).getLastD (-1)) (l.drop i) := by
  rw [← confOK_split, List.take_append_drop]
theorem last_ge (l : List Int) (h : confOK (-1) l) : -1 ≤ l.getLastD (-1) ∧ l.getLastD (-1) ≤ 6 := by
  have hm := confOK_mem l (-1) h (by decide)
  cases hl : l.getLast? with
  | none => simp [List.getLastD_eq_getLast?, hl]
  | some v =>
    have := hm v (List.mem_of_getLast? hl)
    simp [List.getLastD_eq_getLast?, hl]
    omega
theorem bits_take (l : List Int) (i : Nat) (h : confOK (-1) (l.take i)) (hi : i < l.length) (h1 : (l.take i).getLastD (-1) < l[i]) : vbits (l.take i) < 2 ^ l[i].toNat := by
  have h2 := bits_lt (l.take i) (-1) h (by decide)
  have h3 : 2 ^ ((l.take i).getLastD (-1) + 1).toNat ≤ 2 ^ l[i].toNat := Nat.pow_le_pow_right (by decide) (by omega)
  rw [show ((-1 : Int) + 1).toNat = 0 from rfl, Nat.pow_zero] at h2
  omega
theorem bits_take_succ (l : List Int) (i : Nat) (hi : i < l.length) : vbits (l.take (i + 1)) = vbits (l.take i) + 2 ^ l[i].toNat := by
  rw [take_succ_get l i hi, bits_append]; simp [vbits]
theorem conf_take_succ (l : List Int) (i : Nat) (hi : i < l.length) (h : confOK (-1) (l.take i)) (h1 : (l.take i).getLastD (-1) < l[i]) (h2 : l[i] < 7) : confOK (-1) (l.take (i + 1)) := by
  rw [take_succ_get l i hi, confOK_split]
  exact ⟨h, h1, h2, trivial⟩
theorem conf_take_no (l : List Int) (i : Nat) (hi : i < l.length) (h : confOK (-1) l) : (l.take i).getLastD (-1) < l[i] ∧ l[i] < 7 := by
  rw [take_drop_conf l i] at h
  obtain ⟨_, h2⟩ := h
  rw [List.drop_eq_getElem_cons hi] at h2
  exact ⟨h2.1, h2.2.1⟩
theorem putConfC {w0 : World} {K hv : PH} {hs : List PH} (ao : Option Addr) (cap : Nat) (l : List Int) (hm : In K hs hv) (x : IsS hv ao l.length cap 1 (iv l)) (hl : l.length < 1099511627776) :
    Ct Try.prog w0 19 [.agg #[.slice ao l.length cap]] K hs (fun v K' hs' => K' = K ∧ OutB (putConf l) hs v hs') := by
  refine enter Try.func19 (by kernel_rfl) rfl rfl rfl ?_
  refine sq (rg (?_))
  refine bx hT 0 rfl fun b1 => ?_   -- message.go:62 t1
  refine fin hT 2 rfl (th (sq (rg (?_))))
  refine fin hT 1 rfl (th (sq (rg (?_))))
  refine fin hT 1 rfl (th (sq (sq (rg (?_)))))
  refine ldp hT 1 0 rfl rfl rfl ?_   -- message.go:65 t9 *t8
  refine fin hT 2 rfl (th (bk (?_)))
  refine loop (σ := Nat) (fun i => [(1, .pointer (some ⟨b1, 0, none⟩)), (4, .int .u8 (vbits (l.take i) : Nat)), (5, .int .i64 ((l.take i).getLastD (-1))), (9, .slice ao l.length cap), (10, .int .i64 (l.length : Nat)), (11, .int .i64 (i : Nat))]) (fun _ => K) (fun i => pt b1 #[.slice ao l.length cap] 36 :: hs) (fun i => i ≤ l.length ∧ confOK (-1) (l.take i)) (fun i => l.length - i) 0 ⟨Nat.zero_le _, trivial⟩ ⟨rfl, rfl, rfl, rfl, rfl, rfl, trivial⟩ rfl rfl ?_
  rintro i ⟨hi, hc⟩
  refine sq (rg (?_))
  refine cmpS hT 0 rfl fun b12 h12 => ?_   -- message.go:65 t12 t11 < t10
  have hlast := last_ge _ hc
  refine fin hT 0 rfl (th (sq (ifP h12 rfl (fun e2 => ?_) (fun e2 => ?_))))
  · have hin : i < l.length := by omega
    refine sk (th (sq (bk (sq (rg (?_))))))
    refine ix1 hT 0 i rfl rfl rfl x (iv_get hin) fun a13 hc13 => ?_   -- message.go:65 t13 t9[t11]
    refine ld hT 0 rfl (In.cons hm) hc13 ?_
    refine fin hT 1 rfl (th (sq (sq (rg (?_)))))
    refine cmpS hT 2 rfl fun b17 h17 => ?_   -- message.go:66 t17 t15 ≤ t16
    refine' bjo hT 1 3 21 [17, 18] h17 rfl rfl rfl rfl rfl rfl rfl (fun _ => ?x4) (fun b21 h21 => ?_)   -- message.go:66 t21
    case x4 =>
      refine cmpS hT 1 rfl fun b20 h20 => ?_   -- message.go:66 t20 t19 ≥ 7
      exact fin hT 1 rfl (bjx h20 rfl rfl rfl)
    refine fin hT 0 rfl (th (ifP h21 rfl (fun e6 => ?_) (fun e6 => ?_)))
    · refine sq (rg (?_))
      refine fin hT 2 rfl (th (rt (rT (rB (rT (rT (rB (rT (?_)))))))))
      refine WQ.drop (WQ.em ?_)
      exact ret2 rfl rfl rfl ⟨rfl, outN (putConf_no fun h => by have := conf_take_no l i hin h.2; exact e6.elim (fun e => by omega) (fun e => by omega))⟩
    · have h1 : (l.take i).getLastD (-1) < l[i] := by omega
      refine sk (th (sq (rg (?_))))
      have h2 : l[i] < 7 := by omega
      obtain ⟨v, hv⟩ : ∃ v : Nat, l[i] = (v : Nat) := Int.eq_ofNat_of_zero_le (show 0 ≤ l[i] by omega)
      have hbt := bits_take l i hc hin h1
      have hbs := bits_take_succ l i hin
      have hlt := last_take_succ l i hin (-1)
      have hcs := conf_take_succ l i hin hc h1 h2
      rw [hv] at hbt hbs hlt h2 ⊢
      simp only [Int.toNat_natCast] at hbt hbs
      refine shf hT 2 rfl (by omega) (.inl ⟨rfl, shl1 v (by omega)⟩) ?_   -- message.go:69 t24 1 shl t23
      refine ar hT 0 rfl (or_add _ v (by omega) hbt) ?_   -- message.go:69 t25 t22 or t24
      refine fin hT 1 rfl (th (rg (?_)))
      refine fin hT 2 rfl (bl (th (rg (?_))))
      refine ar hT 0 rfl (i64w (by omega)) ?_   -- message.go:65 t27 t11 add 1
      refine fin hT 1 rfl (?_)
      exact again (x := i) (i + 1) ⟨rfl, by rw [hbs]; rfl, by rw [hlt]; rfl, rfl, rfl, rfl, trivial⟩ rfl rfl ⟨by omega, hcs⟩ (by (try dsimp only); omega)
  · obtain rfl : i = l.length := by omega
    refine ex (xt (xt (xb (th (sq (sq (rg (?_))))))))
    rw [List.take_of_length_le (Nat.le_refl _)] at hc ⊢
    have hbb := conf_bits hc
    refine cmpS hT 1 rfl fun b29 h29 => ?_   -- message.go:72 t29 t28 = 0
    refine fin hT 0 rfl (th (ifP h29 rfl (fun e8 => ?_) (fun e8 => ?_)))
    · refine sq (rg (?_))
      refine fin hT 2 rfl (th (rt (rT (?_))))
      refine WQ.drop (WQ.em ?_)
      exact ret2 rfl rfl rfl ⟨rfl, outN (putConf_no fun h => by have := hbb.2.2 h.1; omega)⟩
    · refine sk (th (sq (rg (?_))))
      refine lit hT 1 #[.int .u8 (vbits l : Nat)] rfl (by decide) (by kernel_rfl) fun b31 => ?_   -- message.go:75 t31
      refine fin hT 2 rfl (th (rt (?_)))
      refine WQ.perm (List.Perm.swap _ _ _) (WQ.drop ?_)
      exact ret2 rfl rfl rfl ⟨rfl, outS (by rw [putConf, if_pos ⟨fun h => by subst h; exact e8 rfl, hc⟩]) (own_byte b31 (vbits l) (by omega))⟩
theorem putConfRef {w0 : World} {K hv : PH} {hs : List PH} (ao : Option Addr) (cap : Nat) (l : List Int) (hm : In K hs hv) (x : IsS hv ao l.length cap 1 (iv l)) (hl : l.length < 1099511627776) (h64 : ∀ v ∈ l, -9223372036854775808 ≤ v ∧ v ≤ 9223372036854775807) :
    Ct Try.prog w0 20 [.agg #[.slice ao l.length cap]] K hs (fun v K' hs' => K' = K ∧ OutB (putConf l) hs v hs') := by
  refine enter Try.func20 (by kernel_rfl) rfl rfl rfl ?_
  refine sq (rg (?_))
  refine bx hT 0 rfl fun b1 => ?_   -- ref.go:70 t1
  refine fin hT 2 rfl (th (sq (sq (rg (?_)))))
  refine ldp hT 1 0 rfl rfl rfl ?_   -- ref.go:71 t10 *t9
  refine cmpS hT 1 rfl fun b12 h12 => ?_   -- ref.go:71 t12 t11 < 1
  refine' bjo hT 1 5 18 [12, 13] h12 rfl rfl rfl rfl rfl rfl rfl (fun _ => ?x2) (fun b18 h18 => ?_)   -- ref.go:71 t18
  case x2 =>
    refine ldp hT 1 0 rfl rfl rfl ?_   -- ref.go:71 t15 *t14
    refine cmpS hT 1 rfl fun b17 h17 => ?_   -- ref.go:71 t17 t16 > 7
    exact fin hT 1 rfl (bjx h17 rfl rfl rfl)
  refine fin hT 0 rfl (th (ifP h18 rfl (fun e4 => ?_) (fun e4 => ?_)))
  · refine sq (rg (?_))
    refine fin hT 2 rfl (th (rt (rT (?_))))
    refine WQ.drop (WQ.em ?_)
    exact ret2 rfl rfl rfl ⟨rfl, outN (putConf_no fun h => by have := confOK_len l (-1) h.2 (by decide) (by decide); have h0 := h.1; exact e4.elim (fun e => h0 (List.eq_nil_of_length_eq_zero (by omega))) (fun e => by omega))⟩
  · refine sk (th (sq (rg (?_))))
    refine fin hT 1 rfl (th (sq (sq (rg (?_)))))
    refine fin hT 1 rfl (th (bk (?_)))
    refine loop (σ := Nat) (fun i => [(1, .pointer (some ⟨b1, 0, none⟩)), (4, .int .i64 (vbits (l.take i) : Nat)), (5, .int .i64 (i : Nat))]) (fun _ => K) (fun i => pt b1 #[.slice ao l.length cap] 36 :: hs) (fun i => i ≤ l.length ∧ confOK (-1) (l.take i)) (fun i => l.length - i) 0 ⟨Nat.zero_le _, trivial⟩ ⟨rfl, rfl, rfl, trivial⟩ rfl rfl ?_
    rintro i ⟨hi, hc⟩
    refine sq (sq (rg (?_)))
    refine ldp hT 2 0 rfl rfl rfl ?_   -- ref.go:75 t21 *t20
    refine cmpS hT 1 rfl fun b23 h23 => ?_   -- ref.go:75 t23 t19 < t22
    refine fin hT 0 rfl (th (ifP h23 rfl (fun e6 => ?_) (fun e6 => ?_)))
    · have hin : i < l.length := by omega
      refine sk (th (sq (bk (sq (rg (?_))))))
      have hlast := last_ge _ hc
      have hbb := conf_bits hc
      have hprev : 0 < i → (l.take i).getLastD (-1) = l.getD (i - 1) 0 := fun h => by
        obtain ⟨j, rfl⟩ : ∃ j, i = j + 1 := ⟨i - 1, by omega⟩
        rw [last_take_succ l j (by omega)]
        simp [List.getD, List.getElem?_eq_getElem (show j < l.length by omega)]
      have hprev0 : i = 0 → (l.take i).getLastD (-1) = -1 := fun h => by subst h; rfl
      refine ldp hT 1 0 rfl rfl rfl ?_   -- ref.go:76 t27 *t26
      refine ix1 hT 1 i rfl rfl rfl x (iv_get hin) fun a29 hc29 => ?_   -- ref.go:76 t29 t27[t28]
      refine ld hT 0 rfl (In.cons hm) hc29 ?_
      refine fin hT 1 rfl (th (sq (sq (rg (?_)))))
      refine cmpS hT 1 rfl fun b32 h32 => ?_   -- ref.go:77 t32 t31 < 0
      refine' bjo hT 1 3 36 [32, 33] h32 rfl rfl rfl rfl rfl rfl rfl (fun _ => ?x8) (fun b36 h36 => ?_)   -- ref.go:77 t36
      case x8 =>
        refine cmpS hT 1 rfl fun b35 h35 => ?_   -- ref.go:77 t35 t34 > 6
        exact fin hT 1 rfl (bjx h35 rfl rfl rfl)
      refine' bjo hT 1 13 50 [36, 37] h36 rfl rfl rfl rfl rfl rfl rfl (fun _ => ?x10) (fun b50 h50 => ?_)   -- ref.go:77 t50
      case x10 =>
        refine cmpS hT 1 rfl fun b39 h39 => ?_   -- ref.go:77 t39 t38 > 0
        refine' bja hT 1 9 49 [39, 40] h39 rfl rfl rfl rfl rfl rfl rfl (fun _ => ?x12) (fun b49 h49 => ?_)   -- ref.go:77 t49
        case x12 =>
          refine ldp hT 1 0 rfl rfl rfl ?_   -- ref.go:77 t42 *t41
          refine ar hT 1 rfl (v' := .int .i64 ((i - 1 : Nat) : Int)) (by rw [i64w (by omega)]; congr 1; omega) ?_
          refine ix1 hT 0 (i - 1) rfl rfl rfl x (iv_getD (show i - 1 < l.length by omega)) fun a45 hc45 => ?_   -- ref.go:77 t45 t42[t44]
          refine ld hT 0 rfl (In.cons hm) hc45 ?_
          refine cmpS hT 1 rfl fun b48 h48 => ?_   -- ref.go:77 t48 t46 ≥ t47
          exact fin hT 1 rfl (bjx h48 rfl rfl rfl)
        exact fin hT 1 rfl (bjx h49 rfl rfl rfl)
      refine fin hT 0 rfl (th (ifP h50 rfl (fun e14 => ?_) (fun e14 => ?_)))
      · refine sq (rg (?_))
        refine fin hT 2 rfl (th (rt (rT (rB (rT (rT (rB (rT (?_)))))))))
        refine WQ.drop (WQ.em ?_)
        exact ret2 rfl rfl rfl ⟨rfl, outN (putConf_no fun h => by
          have h7 := conf_take_no l i hin h.2
          rcases e14 with (e | e) | ⟨e, e'⟩
          · omega
          · omega
          · have := hprev (by omega)
            omega)⟩
      · have h2 : l[i] < 7 := by omega
        refine sk (th (sq (rg (?_))))
        have h1 : (l.take i).getLastD (-1) < l[i] := by
          rcases Nat.eq_zero_or_pos i with h | h
          · have := hprev0 h; omega
          · have := hprev h
            have h3 : ¬ (l[i] ≤ l.getD (i - 1) 0) := fun h' => e14 (.inr ⟨by omega, h'⟩)
            omega
        obtain ⟨v, hv⟩ : ∃ v : Nat, l[i] = (v : Nat) := Int.eq_ofNat_of_zero_le (show 0 ≤ l[i] by omega)
        have hbt := bits_take l i hc hin h1
        have hbs := bits_take_succ l i hin
        have hcs := conf_take_succ l i hin hc h1 h2
        have hbb' := (conf_bits hcs).1
        rw [hv] at hbt hbs h2 ⊢
        simp only [Int.toNat_natCast] at hbt hbs
        refine fin hT 1 rfl (th (sq (sq (rg (?_)))))
        refine fin hT 1 rfl (th (bk (?_)))
        refine loop (σ := Nat) (fun k => [(1, .pointer (some ⟨b1, 0, none⟩)), (4, .int .i64 (vbits (l.take i) : Nat)), (5, .int .i64 (i : Nat)), (6, .int .i64 (v : Nat)), (7, .int .i64 (2 ^ k : Nat)), (8, .int .i64 (k : Nat))]) (fun _ => K) (fun k => pt b1 #[.slice ao l.length cap] 36 :: hs) (fun k => k ≤ v) (fun k => v - k) 0 (Nat.zero_le _) ⟨rfl, rfl, rfl, rfl, rfl, rfl, trivial⟩ rfl rfl ?_
        rintro k hk
        refine sq (sq (rg (?_)))
        refine cmpS hT 2 rfl fun b53 h53 => ?_   -- ref.go:81 t53 t51 < t52
        refine fin hT 0 rfl (th (ifP h53 rfl (fun e16 => ?_) (fun e16 => ?_)))
        · refine sk (th (sq (bk (rg (?_)))))
          have hp : 2 ^ k ≤ 2 ^ 6 := Nat.pow_le_pow_right (by decide) (by omega)
          have hp0 := Nat.two_pow_pos k
          refine ar hT 1 rfl (v' := .int .i64 ((2 ^ (k + 1) : Nat) : Int)) (by rw [i64w (by omega), Nat.pow_succ]; congr 1; omega) ?_
          refine fin hT 1 rfl (bl (th (rg (?_))))
          refine ar hT 1 rfl (i64w (by omega)) ?_   -- ref.go:81 t55 t54 add 1
          refine fin hT 1 rfl (?_)
          exact again (x := k) (k + 1) ⟨rfl, rfl, rfl, rfl, rfl, rfl, trivial⟩ rfl rfl (show k + 1 ≤ v by omega) (by (try dsimp only); omega)
        · obtain rfl : k = v := by omega
          refine ex (xt (xt (xb (th (rg (?_))))))
          refine ar hT 2 rfl (v' := .int .i64 ((vbits (l.take (i + 1)) : Nat) : Int)) (by rw [i64w (by omega), hbs]; rfl) ?_
          refine fin hT 1 rfl (bl (th (rg (?_))))
          refine ar hT 1 rfl (i64w (by omega)) ?_   -- ref.go:75 t25 t24 add 1
          refine fin hT 1 rfl (?_)
          exact again (x := i) (i + 1) ⟨rfl, rfl, rfl, trivial⟩ rfl rfl ⟨by omega, hcs⟩ (by (try dsimp only); omega)
    · obtain rfl : i = l.length := by omega
      refine ex (xt (xt (xb (th (sq (rg (?_)))))))
      rw [List.take_of_length_le (Nat.le_refl _)] at hc ⊢
      have hbb := conf_bits hc
      refine ar hT 1 rfl (u8w (by omega)) ?_   -- ref.go:86 t62 convert t61
      refine lit hT 0 #[.int .u8 (vbits l : Nat)] rfl (by decide) (by kernel_rfl) fun b63 => ?_   -- ref.go:86 t63
      refine fin hT 2 rfl (th (rt (?_)))
      refine WQ.perm (List.Perm.swap _ _ _) (WQ.drop ?_)
      exact ret2 rfl rfl rfl ⟨rfl, outS (by rw [putConf, if_pos ⟨fun h => by subst h; exact e4 (.inl (by decide)), hc⟩]) (own_byte b63 (vbits l) (by omega))⟩
end Go.Proofs.Ythpiokdibknpaaa
namespace Go.Proofs.Ythpiokdibknpaaa
open Go.En
set_option linter.unusedVariables false
attribute [local irreducible] Code.wp wpList Calls

def OutV (o : Option (List Int)) (hs : List PH) (v : Value) (hs' : List PH) : Prop :=
  ∃ h ao c, hs' = h :: hs ∧ v = .tuple #[.agg #[.slice ao (o.getD []).length c], .int .i64 (ec o)] ∧ Own h ao (o.getD []).length c 3 1 (iv (o.getD []))
theorem bv_getD {l : List UInt8} {j : Nat} (h : j < l.length) : (bv l)[j]? = some (.int .u8 ((l.getD j 0).toNat : Nat)) := by simp [bv, h, List.getD]
theorem appI {P : Program} {T : Tab} {w0 : World} {ops : Array Oper} {Q : Exit → Act → World → Prop} {rest rest' : List Oper} {n : Nat} {l l' : Sl} {K : PH} {hs : List PH}
    (hT : TabOK P T) (k i : Nat) (xs : List Int) (y : Int) {d : Nat} {si : SlI} {ao ao2 : Option Addr} {c1 c2 : Nat} {h h2 : PH} (h0 : apAt T ops n k rest l = some (d, si, (ao, xs.length, c1), (ao2, 1, c2), rest', l'))
    (hi : hs[i]? = some h) (hsz : (si.size, si.bytes, si.zero.cells.size) = (1, 8, 1)) (o : Own h ao xs.length c1 si.elem 1 (iv xs)) (hm : In K hs h2) (x : IsS h2 ao2 1 c2 1 (iv [y])) (hb : xs.length ≤ 17592186044415)
    (hk : ∀ ao' cap' h', Own h' ao' (xs ++ [y]).length cap' si.elem 1 (iv (xs ++ [y])) → WL P w0 ops Q rest' n ((d, .slice ao' (xs ++ [y]).length cap') :: l') K (hs.set i h')) : WL P w0 ops Q rest n l K hs := by
  simp only [Prod.mk.injEq] at hsz
  obtain ⟨e1, e2, e3⟩ := hsz
  refine app hT k i h0 hi (by rw [e1]; exact o) hm (by rw [e1]; exact x) (by rw [e1, e3]) (by rw [e1]; decide) (iv_one _) (by rw [e2]; omega) (by simp only [maxLen]; omega) fun ao' cap' h' o' => ?_
  have e : (xs ++ [y]).length = xs.length + 1 := by simp
  rw [e1, ← iv_append, ← e] at o'
  have := hk ao' cap' h' o'
  rwa [e] at this
theorem getConf_one {c : UInt8} (h : ¬ (c.toNat = 0 ∨ 128 ≤ c.toNat)) : getConf [c] = some (voters c.toNat 7) := if_neg h
theorem getConf_no {b : List UInt8} (h : b.length ≠ 1 ∨ (b.getD 0 0).toNat = 0 ∨ 128 ≤ (b.getD 0 0).toNat) : getConf b = none := by
  unfold getConf
  split
  · rename_i c
    rw [if_pos]
    rcases h with h | h
    · exact absurd rfl h
    · exact h
  · rfl
theorem i64quo2 (n : Nat) (h : n < 18446744073709551616) : Value.int .i64 (IntKind.i64.wrap (((n : Nat) : Int).tdiv 2)) = .int .i64 ((n / 2 : Nat) : Int) := by
  rw [show ((n : Nat) : Int).tdiv 2 = ((n / 2 : Nat) : Int) from by rw [show (2 : Int) = ((2 : Nat) : Int) from rfl, ← Int.ofNat_tdiv], i64w (by omega)]
theorem getConfC {w0 : World} {K hb : PH} {hs : List PH} (ao : Option Addr) (cap : Nat) (b : List UInt8) (hm : In K hs hb) (x : IsS hb ao b.length cap 1 (bv b)) (hl : b.length < 1099511627776) :
    Ct Try.prog w0 21 [.slice ao b.length cap] K hs (fun v K' hs' => K' = K ∧ OutV (getConf b) hs v hs') := by
  refine enter Try.func21 (by kernel_rfl) rfl rfl rfl ?_
  refine sq (rg (?_))
  refine al hT 0 (.agg #[.slice none 0 0]) rfl (by kernel_rfl) fun b2 => ?_   -- message.go:79 t2
  refine fin hT 1 rfl (th (sq (sq (rg (?_)))))
  refine cmpS hT 2 rfl fun b8 h8 => ?_   -- message.go:80 t8 t7 ≠ 1
  refine' bjo hT 1 5 14 [8, 9] h8 rfl rfl rfl rfl rfl rfl rfl (fun _ => ?x2) (fun b14 h14 => ?_)   -- message.go:80 t14
  case x2 =>
    refine ix1 hT 1 0 rfl rfl rfl x (bv_getD (by omega)) fun a11 hc11 => ?_   -- message.go:80 t11 t10[0]
    refine ld hT 0 rfl (In.cons hm) hc11 ?_
    refine cmpS hT 0 rfl fun b13 h13 => ?_   -- message.go:80 t13 t12 = 0
    exact fin hT 1 rfl (bjx h13 rfl rfl rfl)
  refine' bjo hT 1 5 20 [14, 15] h14 rfl rfl rfl rfl rfl rfl rfl (fun _ => ?x4) (fun b20 h20 => ?_)   -- message.go:80 t20
  case x4 =>
    refine ix1 hT 1 0 rfl rfl rfl x (bv_getD (by omega)) fun a17 hc17 => ?_   -- message.go:80 t17 t16[0]
    refine ld hT 0 rfl (In.cons hm) hc17 ?_
    refine cmpS hT 0 rfl fun b19 h19 => ?_   -- message.go:80 t19 t18 ≥ 128
    exact fin hT 1 rfl (bjx h19 rfl rfl rfl)
  refine fin hT 0 rfl (th (ifP h20 rfl (fun e6 => ?_) (fun e6 => ?_)))
  · have hn : getConf b = none := getConf_no (by omega)
    refine sq (rg (?_))
    refine bd hT 0 (.agg #[.slice none 0 0]) rfl (fun w => by kernel_rfl) ?_   -- message.go:81 t21
    refine stS hT 0 0 rfl rfl (by kernel_rfl) rfl rfl ?_   -- message.go:81 tNone t2 := t21
    refine fin hT 1 rfl (th (rt (rT (?_))))
    refine WQ.em (WQ.perm (List.Perm.swap _ _ _) ?_)
    exact retcP 0 1 rfl rfl rfl rfl (by kernel_rfl) ⟨rfl, em, none, 0, rfl, by rw [hn]; rfl, by rw [hn]; exact Own.nil _ _⟩
  · obtain ⟨c, rfl⟩ : ∃ c, b = [c] := List.length_eq_one_iff.1 (by omega)
    refine sk (th (sq (rg (?_))))
    have hc : ¬ (c.toNat = 0 ∨ 128 ≤ c.toNat) := by simp only [List.getD_cons_zero] at e6; omega
    clear e6
    have hn := getConf_one hc
    refine al hT 0 (.agg #[.slice none 0 0]) rfl (by kernel_rfl) fun b4 => ?_   -- message.go:83 t4
    refine fin hT 0 rfl (th (sq (sq (rg (?_)))))
    refine fin hT 1 rfl (th (bk (WC.em ?_)))
    refine loop (σ := Nat × Option Addr × Nat × PH) (fun s => [(0, .slice ao 1 cap), (2, .pointer (some ⟨b2, 0, none⟩)), (4, .pointer (some ⟨b4, 0, none⟩)), (22, .int .i64 (s.1 : Nat))]) (fun _ => K) (fun s => s.2.2.2 :: pt b4 #[.slice s.2.1 (voters c.toNat s.1).length s.2.2.1] 36 :: pt b2 #[.slice none 0 0] 36 :: hs) (fun s => s.1 ≤ 7 ∧ Own s.2.2.2 s.2.1 (voters c.toNat s.1).length s.2.2.1 3 1 (iv (voters c.toNat s.1))) (fun s => 7 - s.1) (0, none, 0, em) ⟨by decide, Own.nil _ _⟩ ⟨rfl, rfl, rfl, rfl, trivial⟩ rfl rfl ?_
    rintro ⟨k, aoV, cV, g⟩ ⟨hk, o⟩
    dsimp only at hk o ⊢
    have hvl := voters_len c.toNat k
    have hvs := voters_succ c.toNat k
    refine sq (rg (?_))
    refine cmpS hT 0 rfl fun b23 h23 => ?_   -- message.go:84 t23 t22 < 7
    refine fin hT 0 rfl (th (sq (ifP h23 rfl (fun e8 => ?_) (fun e8 => ?_))))
    · have hk7 : k < 7 := by omega
      refine sk (th (sq (bk (sq (rg (?_))))))
      refine fin hT 2 rfl (th (sq (rg (?_))))
      refine ix1 hT 1 0 rfl rfl rfl x rfl fun a26 hc26 => ?_   -- message.go:85 t26 t25[0]
      refine ld hT 0 rfl (In.cons3 hm) hc26 ?_
      refine shf hT 1 rfl (by omega) (.inr ⟨rfl, shrN c.toNat k hk7⟩) ?_   -- message.go:85 t29 t27 shr t28
      refine ar hT 0 rfl (and1N _ (by have := Nat.div_le_self c.toNat (2 ^ k); have := c.toNat_lt; omega)) ?_   -- message.go:85 t30 t29 and 1
      refine cmpS hT 0 rfl fun b31 h31 => ?_   -- message.go:85 t31 t30 = 1
      refine fin hT 0 rfl (th (ifP h31 rfl (fun e10 => ?_) (fun e10 => ?_)))
      · have e10' : c.toNat / 2 ^ k % 2 = 1 := by omega
        refine rg (?_)
        rw [if_pos e10'] at hvs
        refine ldp hT 1 1 rfl rfl rfl ?_   -- message.go:86 t33 *t32
        refine lit hT 1 #[.int .i64 (k : Nat)] rfl (by decide) (by kernel_rfl) fun b35 => ?_   -- message.go:86 t35
        refine appI hT 0 1 (voters c.toNat k) (k : Nat) rfl rfl rfl o (.inr ⟨0, rfl⟩) (isS_pt rfl rfl) (by omega) fun ao36 c36 g36 o36 => ?_
        rw [← hvs] at o36 ⊢
        refine stp hT 1 2 rfl rfl rfl rfl ?_   -- message.go:86 tNone t37 := t36
        refine fin hT 0 rfl (bl (th (WC.drop (rg (?_)))))
        refine ar hT 0 rfl (i64w (by omega)) ?_   -- message.go:84 t38 t22 add 1
        refine fin hT 1 rfl (?_)
        exact again (x := (k, aoV, cV, g)) (k + 1, ao36, c36, g36) ⟨rfl, rfl, rfl, rfl, trivial⟩ rfl rfl ⟨by omega, o36⟩ (by (try dsimp only); omega)
      · have e10' : ¬ c.toNat / 2 ^ k % 2 = 1 := by omega
        refine sk (bl (th (rg (?_))))
        rw [if_neg e10', List.append_nil] at hvs
        refine ar hT 0 rfl (i64w (by omega)) ?_   -- message.go:84 t38 t22 add 1
        refine fin hT 1 rfl (?_)
        exact again (x := (k, aoV, cV, g)) (k + 1, aoV, cV, g) ⟨rfl, rfl, rfl, rfl, trivial⟩ rfl (by rw [← hvs]) ⟨by omega, by rw [hvs]; exact o⟩ (by (try dsimp only); omega)
    · obtain rfl : k = 7 := by omega
      refine ex (xt (xt (xb (th (sq (rg (?_)))))))
      refine ldS hT 0 1 rfl rfl (by kernel_rfl) ?_   -- message.go:89 t39 t4
      refine stS hT 0 2 rfl rfl (by kernel_rfl) rfl rfl ?_   -- message.go:89 tNone t2 := t39
      refine fin hT 1 rfl (th (rt (?_)))
      refine WQ.perm (List.perm_middle (l₁ := [_, _])).symm (WQ.drop ?_)
      exact retcP 0 1 rfl rfl rfl rfl (by kernel_rfl) ⟨rfl, g, aoV, cV, rfl, by rw [hn]; rfl, by rw [hn]; exact o⟩
theorem getConfRef {w0 : World} {K hb : PH} {hs : List PH} (ao : Option Addr) (cap : Nat) (b : List UInt8) (hm : In K hs hb) (x : IsS hb ao b.length cap 1 (bv b)) (hl : b.length < 1099511627776) :
    Ct Try.prog w0 23 [.slice ao b.length cap] K hs (fun v K' hs' => K' = K ∧ OutV (getConf b) hs v hs') := by
  refine enter Try.func23 (by kernel_rfl) rfl rfl rfl ?_
  refine sq (rg (?_))
  refine al hT 0 (.agg #[.slice none 0 0]) rfl (by kernel_rfl) fun b2 => ?_   -- ref.go:90 t2
  refine fin hT 1 rfl (th (sq (rg (?_))))
  refine al hT 0 (.agg #[.slice none 0 0]) rfl (by kernel_rfl) fun b4 => ?_   -- ref.go:91 t4
  refine fin hT 0 rfl (th (sq (sq (rg (?_)))))
  refine cmpS hT 2 rfl fun b9 h9 => ?_   -- ref.go:92 t9 t8 ≠ 1
  refine' bjo hT 1 5 15 [9, 10] h9 rfl rfl rfl rfl rfl rfl rfl (fun _ => ?x2) (fun b15 h15 => ?_)   -- ref.go:92 t15
  case x2 =>
    refine ix1 hT 1 0 rfl rfl rfl x (bv_getD (by omega)) fun a12 hc12 => ?_   -- ref.go:92 t12 t11[0]
    refine ld hT 0 rfl (In.cons (In.cons hm)) hc12 ?_
    refine cmpS hT 0 rfl fun b14 h14 => ?_   -- ref.go:92 t14 t13 < 1
    exact fin hT 1 rfl (bjx h14 rfl rfl rfl)
  refine' bjo hT 1 5 21 [15, 16] h15 rfl rfl rfl rfl rfl rfl rfl (fun _ => ?x4) (fun b21 h21 => ?_)   -- ref.go:92 t21
  case x4 =>
    refine ix1 hT 1 0 rfl rfl rfl x (bv_getD (by omega)) fun a18 hc18 => ?_   -- ref.go:92 t18 t17[0]
    refine ld hT 0 rfl (In.cons (In.cons hm)) hc18 ?_
    refine cmpS hT 0 rfl fun b20 h20 => ?_   -- ref.go:92 t20 t19 > 127
    exact fin hT 1 rfl (bjx h20 rfl rfl rfl)
  refine fin hT 0 rfl (th (ifP h21 rfl (fun e6 => ?_) (fun e6 => ?_)))
  · have hn : getConf b = none := getConf_no (by omega)
    refine sq (rg (?_))
    refine ldS hT 0 0 rfl rfl (by kernel_rfl) ?_   -- ref.go:93 t22 t4
    refine stS hT 0 1 rfl rfl (by kernel_rfl) rfl rfl ?_   -- ref.go:93 tNone t2 := t22
    refine fin hT 1 rfl (th (rt (rT (?_))))
    refine WQ.drop (WQ.em (WQ.perm (List.Perm.swap _ _ _) ?_))
    exact retcP 0 1 rfl rfl rfl rfl (by kernel_rfl) ⟨rfl, em, none, 0, rfl, by rw [hn]; rfl, by rw [hn]; exact Own.nil _ _⟩
  · obtain ⟨c, rfl⟩ : ∃ c, b = [c] := List.length_eq_one_iff.1 (by omega)
    refine sk (th (sq (rg (?_))))
    have hc : ¬ (c.toNat = 0 ∨ 128 ≤ c.toNat) := by simp only [List.getD_cons_zero] at e6; omega
    clear e6
    have hn := getConf_one hc
    have hc256 := c.toNat_lt
    refine ix1 hT 1 0 rfl rfl rfl x rfl fun a24 hc24 => ?_   -- ref.go:95 t24 t23[0]
    refine ld hT 0 rfl (In.cons (In.cons hm)) hc24 ?_
    refine ar hT 0 rfl (i64w (by omega)) ?_   -- ref.go:95 t26 convert t25
    refine fin hT 1 rfl (th (sq (sq (rg (?_)))))
    refine fin hT 1 rfl (th (bk (WC.em ?_)))
    refine loop (σ := Nat × Option Addr × Nat × PH) (fun s => [(2, .pointer (some ⟨b2, 0, none⟩)), (4, .pointer (some ⟨b4, 0, none⟩)), (5, .int .i64 (c.toNat / 2 ^ s.1 : Nat)), (6, .int .i64 (s.1 : Nat))]) (fun _ => K) (fun s => s.2.2.2 :: pt b4 #[.slice s.2.1 (voters c.toNat s.1).length s.2.2.1] 36 :: pt b2 #[.slice none 0 0] 36 :: hs) (fun s => s.1 ≤ 7 ∧ Own s.2.2.2 s.2.1 (voters c.toNat s.1).length s.2.2.1 3 1 (iv (voters c.toNat s.1))) (fun s => 7 - s.1) (0, none, 0, em) ⟨by decide, Own.nil _ _⟩ ⟨rfl, rfl, by simp; rfl, rfl, trivial⟩ rfl rfl ?_
    rintro ⟨k, aoV, cV, g⟩ ⟨hk, o⟩
    dsimp only at hk o ⊢
    have hvl := voters_len c.toNat k
    have hvs := voters_succ c.toNat k
    have hdiv := Nat.div_le_self c.toNat (2 ^ k)
    have hd2 : c.toNat / 2 ^ (k + 1) = c.toNat / 2 ^ k / 2 := by rw [Nat.pow_succ, Nat.div_div_eq_div_mul]
    refine sq (sq (rg (?_)))
    refine cmpS hT 1 rfl fun b28 h28 => ?_   -- ref.go:96 t28 t27 < 7
    refine fin hT 0 rfl (th (ifP h28 rfl (fun e8 => ?_) (fun e8 => ?_)))
    · refine sk (th (sq (bk (sq (sq (rg (?_)))))))
      refine ar hT 1 rfl (u_rem .i64 (c.toNat / 2 ^ k) 2) ?_   -- ref.go:97 t32 t31 rem 2
      refine cmpS hT 0 rfl fun b33 h33 => ?_   -- ref.go:97 t33 t32 = 1
      refine fin hT 0 rfl (th (ifP h33 rfl (fun e10 => ?_) (fun e10 => ?_)))
      · have e10' : c.toNat / 2 ^ k % 2 = 1 := by omega
        refine rg (?_)
        rw [if_pos e10'] at hvs
        refine ldp hT 1 1 rfl rfl rfl ?_   -- ref.go:98 t35 *t34
        refine lit hT 1 #[.int .i64 (k : Nat)] rfl (by decide) (by kernel_rfl) fun b37 => ?_   -- ref.go:98 t37
        refine appI hT 0 1 (voters c.toNat k) (k : Nat) rfl rfl rfl o (.inr ⟨0, rfl⟩) (isS_pt rfl rfl) (by omega) fun ao36 c36 g36 o36 => ?_
        rw [← hvs] at o36 ⊢
        refine stp hT 1 2 rfl rfl rfl rfl ?_   -- ref.go:98 tNone t39 := t38
        refine fin hT 0 rfl (th (WC.drop (rg (?_))))
        refine ar hT 1 rfl (v' := .int .i64 ((c.toNat / 2 ^ (k + 1) : Nat) : Int)) (by rw [i64quo2 _ (by omega), hd2]) ?_   -- ref.go:100 t41 t40 quo 2
        refine fin hT 1 rfl (bl (th (rg (?_))))
        refine ar hT 1 rfl (i64w (by omega)) ?_   -- ref.go:96 t30 t29 add 1
        refine fin hT 1 rfl (?_)
        exact again (x := (k, aoV, cV, g)) (k + 1, ao36, c36, g36) ⟨rfl, rfl, rfl, rfl, trivial⟩ rfl rfl ⟨by omega, o36⟩ (by (try dsimp only); omega)
      · have e10' : ¬ c.toNat / 2 ^ k % 2 = 1 := by omega
        refine sk (th (rg (?_)))
        rw [if_neg e10', List.append_nil] at hvs
        refine ar hT 1 rfl (v' := .int .i64 ((c.toNat / 2 ^ (k + 1) : Nat) : Int)) (by rw [i64quo2 _ (by omega), hd2]) ?_   -- ref.go:100 t41 t40 quo 2
        refine fin hT 1 rfl (bl (th (rg (?_))))
        refine ar hT 1 rfl (i64w (by omega)) ?_   -- ref.go:96 t30 t29 add 1
        refine fin hT 1 rfl (?_)
        exact again (x := (k, aoV, cV, g)) (k + 1, aoV, cV, g) ⟨rfl, rfl, rfl, rfl, trivial⟩ rfl (by rw [← hvs]) ⟨by omega, by rw [hvs]; exact o⟩ (by (try dsimp only); omega)
    · obtain rfl : k = 7 := by omega
      refine ex (xt (xt (xb (th (sq (rg (?_)))))))
      refine ldS hT 0 1 rfl rfl (by kernel_rfl) ?_   -- ref.go:102 t42 t4
      refine stS hT 0 2 rfl rfl (by kernel_rfl) rfl rfl ?_   -- ref.go:102 tNone t2 := t42
      refine fin hT 1 rfl (th (rt (?_)))
      refine WQ.perm (List.perm_middle (l₁ := [_, _])).symm (WQ.drop ?_)
      exact retcP 0 1 rfl rfl rfl rfl (by kernel_rfl) ⟨rfl, g, aoV, cV, rfl, by rw [hn]; rfl, by rw [hn]; exact o⟩
theorem sameVoters {w0 : World} {K h1 h2 : PH} {hs : List PH} (a1 a2 : Option Addr) (c1 c2 : Nat) (l1 l2 : List Int) (m1 : In K hs h1) (m2 : In K hs h2) (x1 : IsS h1 a1 l1.length c1 1 (iv l1)) (x2 : IsS h2 a2 l2.length c2 1 (iv l2)) (hl : l1.length < 1099511627776) :
    Ct Try.prog w0 22 [.slice a1 l1.length c1, .slice a2 l2.length c2] K hs (fun v K' hs' => K' = K ∧ hs' = hs ∧ ∃ b : Bool, v = .bool b ∧ (b = true ↔ l1 = l2)) := by
  refine enter Try.func22 (by kernel_rfl) rfl rfl rfl ?_
  refine sq (rg (?_))
  refine fin hT 1 rfl (th (sq (sq (rg (?_)))))
  refine cmpS hT 4 rfl fun b10 h10 => ?_   -- ref.go:183 t10 t7 ≠ t9
  refine fin hT 0 rfl (th (ifP h10 rfl (fun e2 => ?_) (fun e2 => ?_)))
  · refine sq (rg (?_))
    refine fin hT 1 rfl (th (rt (rT (?_))))
    exact ret1 rfl rfl ⟨rfl, rfl, false, rfl, by simp; intro h; subst h; exact e2 rfl⟩
  · have hll : l1.length = l2.length := by omega
    refine sk (th (sq (sq (rg (?_)))))
    refine fin hT 1 rfl (th (bk (?_)))
    refine loop (σ := Nat) (fun i => [(0, .slice a1 l1.length c1), (1, .slice a2 l2.length c2), (5, .int .i64 (i : Nat))]) (fun _ => K) (fun _ => hs) (fun i => i ≤ l1.length ∧ l1.take i = l2.take i) (fun i => l1.length - i) 0 ⟨Nat.zero_le _, rfl⟩ ⟨rfl, rfl, rfl, trivial⟩ rfl rfl ?_
    rintro i ⟨hi, he⟩
    refine sq (sq (rg (?_)))
    refine cmpS hT 3 rfl fun b14 h14 => ?_   -- ref.go:186 t14 t11 < t13
    refine fin hT 0 rfl (th (ifP h14 rfl (fun e4 => ?_) (fun e4 => ?_)))
    · have hi1 : i < l1.length := by omega
      refine sk (th (sq (bk (sq (rga hs 9 [0, 2, 4, 6, 8, 10, 12, 14, 16] (by simp) (by kernel_rfl) (by kernel_rfl) ?_)))))
      have hi2 : i < l2.length := by omega
      obtain ⟨a1, rfl⟩ := x1.addr hi1 (by decide)
      obtain ⟨a2, rfl⟩ := x2.addr hi2 (by decide)
      obtain ⟨a1', ha1, hc1⟩ := x1.2.2 i _ (iv_get hi1)
      obtain ⟨a2', ha2, hc2⟩ := x2.2.2 i _ (iv_get hi2)
      cases ha1
      cases ha2
      refine dixs hT (by kernel_rfl) 2 i rfl rfl hi1 ?_   -- ref.go:187 t19 t17[t18]
      refine dld hT (by kernel_rfl) 0 rfl m1 (by simpa using hc1) ?_
      refine dixs hT (by kernel_rfl) 2 i rfl rfl hi2 ?_   -- ref.go:187 t23 t21[t22]
      refine dld hT (by kernel_rfl) 0 rfl m2 (by simpa using hc2) ?_
      refine dcbS hT (by kernel_rfl) 0 (l1[i] ≠ l2[i]) rfl (by simp) fun b25 h25 => ?_   -- ref.go:187 t25 t20 ≠ t24
      refine dend hT (by kernel_rfl) 0 rfl (th (ifP h25 rfl (fun e5 => ?_) (fun e5 => ?_)))
      · refine sq (rg (?_))
        refine fin hT 1 rfl (th (rt (rB (rT (rT (rB (rT (?_))))))))
        exact ret1 rfl rfl ⟨rfl, rfl, false, rfl, by simp; intro h; subst h; exact e5 rfl⟩
      · refine sk (bl (th (rg (?_))))
        refine ar hT 1 rfl (i64w (by omega)) ?_   -- ref.go:186 t16 t15 add 1
        refine fin hT 1 rfl (?_)
        exact again (x := i) (i + 1) ⟨rfl, rfl, rfl, trivial⟩ rfl rfl ⟨by omega, by rw [take_succ_get l1 i hi1, take_succ_get l2 i hi2, he, Decidable.not_not.1 e5]⟩ (by (try dsimp only); omega)
    · obtain rfl : i = l1.length := by omega
      refine ex (xt (xt (xb (th (sq (rg (?_)))))))
      refine fin hT 1 rfl (th (rt (?_)))
      exact ret1 rfl rfl ⟨rfl, rfl, true, rfl, by simp; rw [List.take_of_length_le (Nat.le_refl _), hll, List.take_of_length_le (Nat.le_refl _)] at he; exact he⟩
end Go.Proofs.Ythpiokdibknpaaa
namespace Go.Proofs.Ythpiokdibknpaaa
open Go.En
set_option linter.unusedVariables false
attribute [local irreducible] Code.wp wpList Calls

theorem heldC {w0 : World} {K hb : PH} {hs : List PH} (k : Int) (ao : Option Addr) (cap : Nat) (b : List UInt8) (hm : In K hs hb) (x : IsS hb ao b.length cap 1 (bv b)) (hl : b.length < 1099511627776) :
    Ct Try.prog w0 49 [.int .i64 k, .slice ao b.length cap] K hs (fun v K' hs' => K' = K ∧ hs' = hs ∧ ∃ t : Bool, v = .bool t ∧ (t = true ↔ heldP k b)) := by
  refine enter Try.func49 (by kernel_rfl) rfl rfl rfl ?_
  refine sq (rg (?_))
  refine fin hT 1 rfl (th (sq (rg (?_))))
  refine fin hT 1 rfl (th (jn (σ := Int) (fun s => [(5, .int .i64 s)]) (fun s => hs) (fun s => (s = 0 ↔ heldP k b)) ?_ ?_))
  · refine sq (rg (?_))
    refine fin hT 1 rfl (th (bk (sq (rg (?_)))))
    refine cmpS hT 0 rfl fun b8 h8 => ?_   -- message.go:96 t8 t6 = 0
    refine fin hT 1 rfl (th (ifP h8 rfl (fun e2 => ?_) (fun e2 => ?_)))
    · refine sq (rg (?_))
      refine cmpS hT 2 rfl fun b11 h11 => ?_   -- message.go:97 t11 t10 = 0
      refine fin hT 1 rfl (th (rt (rB (jr (?_)))))
      exact ret1 rfl rfl ⟨rfl, rfl, b11, rfl, h11.trans ⟨fun h => .inl ⟨e2, List.eq_nil_of_length_eq_zero (by omega)⟩, fun h => by rcases h with ⟨_, h⟩ | ⟨h, _⟩ | ⟨h, _⟩ <;> first | (rw [h]; rfl) | (omega)⟩⟩
    · refine sq (rg (?_))
      refine cmpS hT 0 rfl fun b13 h13 => ?_   -- message.go:98 t13 t6 = 1
      refine fin hT 1 rfl (th (ifP h13 rfl (fun e5 => ?_) (fun e5 => ?_)))
      · refine rg (?_)
        refine cl hT 1 rfl (getCmdC ao cap b hm x hl) ?_   -- message.go:99 t16
        rintro v16 K16 hs16 ⟨rfl, rfl, rfl⟩
        refine fin hT 4 rfl (bl (?_))
        exact jx (ec (getCmd b)) ⟨fun h => .inr (.inl ⟨e5, ec_zero.1 h⟩), fun h => ec_zero.2 (by rcases h with ⟨h, _⟩ | ⟨_, h⟩ | ⟨h, _⟩ <;> first | exact h | (omega))⟩ ⟨rfl, trivial⟩ rfl rfl
      · refine sq (rg (?_))
        refine cmpS hT 0 rfl fun b20 h20 => ?_   -- message.go:100 t20 t6 = 2
        refine fin hT 1 rfl (th (ifP h20 rfl (fun e7 => ?_) (fun e7 => ?_)))
        · refine rg (?_)
          refine cl hT 1 rfl (getConfC ao cap b hm x hl) ?_   -- message.go:101 t23
          rintro v23 K23 hs23 ⟨rfl, g, aog, cg, rfl, rfl, og⟩
          refine fin hT 4 rfl (bl (WQ.drop ?_))
          exact jx (ec (getConf b)) ⟨fun h => .inr (.inr ⟨e7, ec_zero.1 h⟩), fun h => ec_zero.2 (by rcases h with ⟨h, _⟩ | ⟨h, _⟩ | ⟨_, h⟩ <;> first | exact h | (omega))⟩ ⟨rfl, trivial⟩ rfl rfl
        · refine sq (rg (?_))
          refine fin hT 1 rfl (th (rt (rB (jr (?_)))))
          exact ret1 rfl rfl ⟨rfl, rfl, false, rfl, ⟨fun h => by simp at h, fun h => by have := held_kind h; omega⟩⟩
  · rintro s hsd
    refine sq (rg (?_))
    refine cmpS hT 1 rfl fun b27 h27 => ?_   -- message.go:105 t27 t26 = 0
    refine fin hT 1 rfl (th (rt (?_)))
    exact ret1 rfl rfl ⟨rfl, rfl, b27, rfl, h27.trans hsd⟩
theorem heldRef {w0 : World} {K hb : PH} {hs : List PH} (k : Int) (ao : Option Addr) (cap : Nat) (b : List UInt8) (hm : In K hs hb) (x : IsS hb ao b.length cap 1 (bv b)) (hl : b.length < 1099511627776) :
    Ct Try.prog w0 50 [.int .i64 k, .slice ao b.length cap] K hs (fun v K' hs' => K' = K ∧ hs' = hs ∧ ∃ t : Bool, v = .bool t ∧ (t = true ↔ heldP k b)) := by
  refine enter Try.func50 (by kernel_rfl) rfl rfl rfl ?_
  refine sq (rg (?_))
  refine fin hT 1 rfl (th (sq (sq (rg (?_)))))
  refine cmpS hT 1 rfl fun b10 h10 => ?_   -- ref.go:107 t10 t9 = 0
  refine fin hT 0 rfl (th (ifP h10 rfl (fun e2 => ?_) (fun e2 => ?_)))
  · refine sq (rg (?_))
    refine cmpS hT 2 rfl fun b13 h13 => ?_   -- ref.go:108 t13 t12 = 0
    refine fin hT 1 rfl (th (rt (rT (?_))))
    exact ret1 rfl rfl ⟨rfl, rfl, b13, rfl, h13.trans ⟨fun h => .inl ⟨e2, List.eq_nil_of_length_eq_zero (by omega)⟩, fun h => by rcases h with ⟨_, h⟩ | ⟨h, _⟩ | ⟨h, _⟩ <;> first | (rw [h]; rfl) | (omega)⟩⟩
  · refine sk (th (sq (rg (?_))))
    refine cl hT 1 rfl (getCmdRef ao cap b hm x hl) ?_   -- ref.go:110 t16
    rintro v16 K16 hs16 ⟨rfl, rfl, rfl⟩
    refine al hT 3 (.agg #[.int .i64 0, .int .u64 0, .int .u64 0, .string ⟨#[]⟩, .int .i64 0]) rfl (by kernel_rfl) fun b5 => ?_   -- ref.go:110 t5
    refine stS hT 0 0 rfl rfl (by kernel_rfl) rfl rfl ?_   -- ref.go:110 tNone t5 := t17
    refine fin hT 1 rfl (th (sq (rg (?_))))
    refine cl hT 1 rfl (getConfRef ao cap b (In.cons hm) x hl) ?_   -- ref.go:111 t21
    rintro v21 K21 hs21 ⟨rfl, g, aog, cg, rfl, rfl, og⟩
    refine al hT 3 (.agg #[.slice none 0 0]) rfl (by kernel_rfl) fun b7 => ?_   -- ref.go:111 t7
    refine stS hT 0 0 rfl rfl (by kernel_rfl) rfl rfl ?_   -- ref.go:111 tNone t7 := t22
    refine fin hT 1 rfl (th (sq (rg (?_))))
    refine cmpS hT 1 rfl fun b25 h25 => ?_   -- ref.go:112 t25 t24 = 1
    refine' bja hT 1 3 29 [25, 26] h25 rfl rfl rfl rfl rfl rfl rfl (fun _ => ?x5) (fun b29 h29 => ?_)   -- ref.go:112 t29
    case x5 =>
      refine cmpS hT 1 rfl fun b28 h28 => ?_   -- ref.go:112 t28 t27 = 0
      exact fin hT 1 rfl (bjx h28 rfl rfl rfl)
    refine' bjo hT 1 7 37 [29, 30] h29 rfl rfl rfl rfl rfl rfl rfl (fun _ => ?x7) (fun b37 h37 => ?_)   -- ref.go:112 t37
    case x7 =>
      refine cmpS hT 1 rfl fun b32 h32 => ?_   -- ref.go:112 t32 t31 = 2
      refine' bja hT 1 3 36 [32, 33] h32 rfl rfl rfl rfl rfl rfl rfl (fun _ => ?x9) (fun b36 h36 => ?_)   -- ref.go:112 t36
      case x9 =>
        refine cmpS hT 1 rfl fun b35 h35 => ?_   -- ref.go:112 t35 t34 = 0
        exact fin hT 1 rfl (bjx h35 rfl rfl rfl)
      exact fin hT 1 rfl (bjx h36 rfl rfl rfl)
    refine fin hT 1 rfl (th (rt (?_)))
    refine WQ.drop (WQ.drop (WQ.drop ?_))
    exact ret1 rfl rfl ⟨rfl, rfl, b37, rfl, h37.trans ⟨fun h => h.elim (fun h => .inr (.inl ⟨h.1, ec_zero.1 h.2⟩)) (fun h => .inr (.inr ⟨h.1, ec_zero.1 h.2⟩)), fun h => h.elim (fun h => absurd h.1 e2) (fun h => h.elim (fun h => .inl ⟨h.1, ec_zero.2 h.2⟩) (fun h => .inr ⟨h.1, ec_zero.2 h.2⟩))⟩⟩
theorem putEnt_no {e : Ent} (h : ¬ e.ok) : putEnt e = none := if_neg h
theorem putEntC {w0 : World} {K hb : PH} {hs : List PH} (e : Ent) (ao : Option Addr) (cap : Nat) (h1 : e.idx ≤ mxU) (h2 : e.term ≤ mxU) (hm : In K hs hb) (x : IsS hb ao e.data.length cap 1 (bv e.data)) (hl : e.data.length < 1099511627776) :
    Ct Try.prog w0 24 [.agg (e.v ao cap)] K hs (fun v K' hs' => K' = K ∧ OutB (putEnt e) hs v hs') := by
  have hmx : mxU = 18446744073709551615 := rfl
  refine enter Try.func24 (by kernel_rfl) rfl rfl rfl ?_
  refine sq (rg (?_))
  refine bx hT 0 rfl fun b1 => ?_   -- message.go:109 t1
  refine fin hT 2 rfl (th (sq (sq (rg (?_)))))
  refine ldp hT 1 0 rfl rfl rfl ?_   -- message.go:110 t6 *t5
  refine cmpS hT 0 rfl fun b7 h7 => ?_   -- message.go:110 t7 t6 = 0
  refine' bjo hT 1 4 12 [7, 8] h7 rfl rfl rfl rfl rfl rfl rfl (fun _ => ?x2) (fun b12 h12 => ?_)   -- message.go:110 t12
  case x2 =>
    refine ldp hT 1 0 rfl rfl rfl ?_   -- message.go:110 t10 *t9
    refine cmpS hT 0 rfl fun b11 h11 => ?_   -- message.go:110 t11 t10 = 0
    exact fin hT 1 rfl (bjx h11 rfl rfl rfl)
  refine' bjo hT 1 7 20 [12, 13] h12 rfl rfl rfl rfl rfl rfl rfl (fun _ => ?x4) (fun b20 h20 => ?_)   -- message.go:110 t20
  case x4 =>
    refine ldp hT 1 0 rfl rfl rfl ?_   -- message.go:110 t15 *t14
    refine ldp hT 1 0 rfl rfl rfl ?_   -- message.go:110 t17 *t16
    refine cl hT 0 rfl (heldC e.kind ao cap e.data (In.cons hm) x hl) ?_   -- message.go:110 t18
    rintro v18 K18 hs18 ⟨rfl, rfl, b18, rfl, h18⟩
    refine cbS hT 0 _ rfl (bnot h18) fun b19 h19 => ?_   -- not
    exact fin hT 1 rfl (bjx h19 rfl rfl rfl)
  refine fin hT 0 rfl (th (ifP h20 rfl (fun e5 => ?_) (fun e5 => ?_)))
  · refine sq (rg (?_))
    refine fin hT 2 rfl (th (rt (rT (?_))))
    refine WQ.drop (WQ.em ?_)
    exact ret2 rfl rfl rfl ⟨rfl, outN (putEnt_no fun h => e5.elim (fun h' => h'.elim (fun h' => h.1 (by omega)) (fun h' => h.2.1 (by omega))) (fun h' => h' h.2.2))⟩
  · have hok : e.ok := ⟨fun h => e5 (.inl (.inl (by omega))), fun h => e5 (.inl (.inr (by omega))), Decidable.not_not.1 fun h => e5 (.inr h)⟩
    refine sk (th (WC.em (sq (rga [pt b1 (Value.agg (e.v ao cap)).cells 43] 7 [0, 2, 6, 8, 5, 11, 12] (by simp) (by kernel_rfl) (by kernel_rfl) ?_))))
    have hd := held_len hok.2.2
    have hkd := held_kind hok.2.2
    obtain ⟨k, hk⟩ : ∃ k : Nat, e.kind = (k : Nat) := Int.eq_ofNat_of_zero_le (show 0 ≤ e.kind by omega)
    have hu1 := uint_le10 (n := e.idx) (by omega)
    have hu2 := uint_le10 (n := e.term) (by omega)
    refine dldp hT (by kernel_rfl) 1 0 rfl rfl rfl ?_   -- message.go:113 t22 *t21
    refine dldp hT (by kernel_rfl) 1 0 rfl rfl rfl ?_   -- message.go:113 t25 *t24
    refine dact hT (by kernel_rfl) 0 rfl ?_
    refine cl hT 0 rfl (putUint none 0 [] e.idx (Own.nil _ _) (by omega) (by simp)) ?_   -- message.go:113 t23
    rintro v23 K23 hs23 ⟨g23, rfl, rfl, ao23, c23, rfl, o23⟩
    refine dnex [pt b1 (Value.agg (e.v ao cap)).cells 43] (by simp) (by simp) rfl ?_
    refine dact hT (by kernel_rfl) 0 rfl ?_
    refine cl hT 0 rfl (putUint ao23 c23 _ e.term o23 (by omega) (by simp; omega)) ?_   -- message.go:113 t26
    rintro v26 K26 hs26 ⟨g26, rfl, rfl, ao26, c26, rfl, o26⟩
    refine dnex [pt b1 (Value.agg (e.v ao cap)).cells 43] (by simp) (by simp) rfl ?_
    refine dend hT (by kernel_rfl) 1 rfl (th (sq (rga [pt b1 (Value.agg (e.v ao cap)).cells 43] 11 [0, 2, 4, 6, 12, 14, 9, 11, 17, 18, 20] (by simp) (by kernel_rfl) (by kernel_rfl) ?_)))
    refine dldp hT (by kernel_rfl) 2 0 rfl rfl rfl ?_   -- message.go:114 t29 *t28
    refine dar hT (by kernel_rfl) 0 rfl (v' := .int .u8 ((k : Nat) : Int)) (by rw [hk, u8w (by omega)]) ?_
    refine dldp hT (by kernel_rfl) 1 0 rfl rfl rfl ?_   -- message.go:114 t34 *t33
    refine dact hT (by kernel_rfl) 0 rfl ?_
    refine lit hT 0 #[.int .u8 ((k : Nat) : Int)] rfl (by decide) (by kernel_rfl) fun b31 => ?_   -- message.go:114 t31
    refine dnex [pt b1 (Value.agg (e.v ao cap)).cells 43] (by simp) (by simp) rfl ?_
    refine dact hT (by kernel_rfl) 0 rfl ?_
    refine appB hT 0 1 _ [UInt8.ofNat k] rfl rfl rfl o26 (.inr ⟨0, rfl⟩) (isS_byte b31 k (by omega)) (by simp; omega) fun ao32 c32 g32 o32 => ?_
    refine dnex [pt b1 (Value.agg (e.v ao cap)).cells 43] (by simp) (by simp) rfl ?_
    refine dact hT (by kernel_rfl) 0 rfl ?_
    refine cl hT 0 rfl (Ct.at 1 rfl (putBytesC ao32 c32 _ ao cap e.data o32 (In.cons (In.cons hm)) x (by simp; omega) (by omega))) ?_   -- message.go:114 t35
    rintro v35 K35 hs35 ⟨g35, rfl, rfl, ao35, c35, rfl, o35⟩
    refine dnex [pt b1 (Value.agg (e.v ao cap)).cells 43] (by simp) (by simp) rfl ?_
    refine dend hT (by kernel_rfl) 2 rfl (th (rt (?_)))
    refine WQ.drop (WQ.perm (List.Perm.swap _ _ _) (WQ.drop ?_))
    exact ret2 rfl rfl rfl ⟨rfl, outS (by rw [putEnt, if_pos hok, Ent.bytes, hk]; simp) o35⟩
theorem putEntRef {w0 : World} {K hb : PH} {hs : List PH} (e : Ent) (ao : Option Addr) (cap : Nat) (h1 : e.idx ≤ mxU) (h2 : e.term ≤ mxU) (hm : In K hs hb) (x : IsS hb ao e.data.length cap 1 (bv e.data)) (hl : e.data.length < 1099511627776) :
    Ct Try.prog w0 25 [.agg (e.v ao cap)] K hs (fun v K' hs' => K' = K ∧ OutB (putEnt e) hs v hs') := by
  have hmx : mxU = 18446744073709551615 := rfl
  refine enter Try.func25 (by kernel_rfl) rfl rfl rfl ?_
  refine sq (rg (?_))
  refine bx hT 0 rfl fun b1 => ?_   -- ref.go:116 t1
  refine fin hT 2 rfl (th (sq (rg (?_))))
  refine ldp hT 1 0 rfl rfl rfl ?_   -- ref.go:117 t8 *t7
  refine ldp hT 1 0 rfl rfl rfl ?_   -- ref.go:117 t10 *t9
  refine cl hT 0 rfl (heldRef e.kind ao cap e.data (In.cons hm) x hl) ?_   -- ref.go:117 t11
  rintro v11 K11 hs11 ⟨rfl, rfl, b11, rfl, h11⟩
  refine fin hT 1 rfl (th (sq (sq (rg (?_)))))
  refine ldp hT 1 0 rfl rfl rfl ?_   -- ref.go:118 t13 *t12
  refine cmpS hT 0 rfl fun b14 h14 => ?_   -- ref.go:118 t14 t13 = 0
  refine' bjo hT 1 4 19 [14, 15] h14 rfl rfl rfl rfl rfl rfl rfl (fun _ => ?x2) (fun b19 h19 => ?_)   -- ref.go:118 t19
  case x2 =>
    refine ldp hT 1 0 rfl rfl rfl ?_   -- ref.go:118 t17 *t16
    refine cmpS hT 0 rfl fun b18 h18 => ?_   -- ref.go:118 t18 t17 = 0
    exact fin hT 1 rfl (bjx h18 rfl rfl rfl)
  refine' bjo hT 1 3 23 [19, 20] h19 rfl rfl rfl rfl rfl rfl rfl (fun _ => ?x4) (fun b23 h23 => ?_)   -- ref.go:118 t23
  case x4 =>
    refine cbS hT 1 _ rfl (bnot h11) fun b22 h22 => ?_   -- not
    exact fin hT 1 rfl (bjx h22 rfl rfl rfl)
  refine fin hT 0 rfl (th (ifP h23 rfl (fun e5 => ?_) (fun e5 => ?_)))
  · refine sq (rg (?_))
    refine fin hT 2 rfl (th (rt (rT (?_))))
    refine WQ.drop (WQ.em ?_)
    exact ret2 rfl rfl rfl ⟨rfl, outN (putEnt_no fun h => e5.elim (fun h' => h'.elim (fun h' => h.1 (by omega)) (fun h' => h.2.1 (by omega))) (fun h' => h' h.2.2))⟩
  · have hok : e.ok := ⟨fun h => e5 (.inl (.inl (by omega))), fun h => e5 (.inl (.inr (by omega))), Decidable.not_not.1 fun h => e5 (.inr h)⟩
    refine sk (th (sq (rg (?_))))
    have hd := held_len hok.2.2
    have hkd := held_kind hok.2.2
    obtain ⟨k, hk⟩ : ∃ k : Nat, e.kind = (k : Nat) := Int.eq_ofNat_of_zero_le (show 0 ≤ e.kind by omega)
    have hu1 := uint_le10 (n := e.idx) (by omega)
    have hu2 := uint_le10 (n := e.term) (by omega)
    refine ldp hT 1 0 rfl rfl rfl ?_   -- ref.go:121 t25 *t24
    refine ldp hT 1 0 rfl rfl rfl ?_   -- ref.go:121 t27 *t26
    refine lit hT 0 #[.int .u64 (e.idx : Nat), .int .u64 (e.term : Nat)] rfl (by decide) (by kernel_rfl) fun b28 => ?_   -- ref.go:121 t28
    refine WL.em ?_
    refine cl hT 0 rfl (uintsRef none 0 [] _ _ [e.idx, e.term] (Own.nil _ _) (.inr ⟨0, rfl⟩) (isS_pt rfl rfl) (by simp; omega) (by simp) (by simp)) ?_   -- ref.go:121 t29
    rintro v29 K29 hs29 ⟨g29, rfl, rfl, ao29, c29, rfl, o29⟩
    have hus := us_len [e.idx, e.term] (by simp; omega)
    have husl : [e.idx, e.term].length = 2 := rfl
    refine fin hT 1 rfl (th (WC.perm (List.Perm.swap _ _ _) (WC.drop (sq (rg (?_))))))
    refine ldp hT 2 1 rfl rfl rfl ?_   -- ref.go:122 t32 *t31
    refine ar hT 0 rfl (v' := .int .u8 ((k : Nat) : Int)) (by rw [hk, u8w (by omega)]) ?_
    refine lit hT 0 #[.int .u8 ((k : Nat) : Int)] rfl (by decide) (by kernel_rfl) fun b34 => ?_   -- ref.go:122 t34
    refine appB hT 0 1 ([] ++ us [e.idx, e.term]) [UInt8.ofNat k] rfl rfl rfl o29 (.inr ⟨0, rfl⟩) (isS_byte b34 k (by omega)) (by simp only [List.length_append, List.length_singleton, List.length_nil]; omega) fun ao35 c35 g35 o35 => ?_
    refine fin hT 1 rfl (th (WC.drop (sq (rg (?_)))))
    refine ldp hT 1 1 rfl rfl rfl ?_   -- ref.go:123 t37 *t36
    refine cl hT 0 rfl (putRef ao cap e.data (In.cons (In.cons hm)) x (by omega)) ?_   -- ref.go:123 t38
    rintro v38 K38 hs38 ⟨g38, rfl, rfl, ao38, c38, rfl, o38⟩
    have hpl := putBytes_length e.data
    have hu3 := uint_le10 (n := e.data.length) (by omega)
    refine fin hT 1 rfl (th (sq (rg (?_))))
    refine appB hT 2 1 _ _ rfl rfl rfl o35 (.inr ⟨0, rfl⟩) o38.isS (by simp only [List.length_append, List.length_singleton, List.length_nil]; omega) fun ao41 c41 g41 o41 => ?_
    refine fin hT 2 rfl (th (rt (?_)))
    refine WQ.drop (WQ.perm (List.Perm.swap _ _ _) (WQ.drop ?_))
    exact ret2 rfl rfl rfl ⟨rfl, outS (by rw [putEnt, if_pos hok, Ent.bytes, hk]; simp [us]) o41⟩
end Go.Proofs.Ythpiokdibknpaaa
namespace Go.Proofs.Ythpiokdibknpaaa
open Go.En
set_option linter.unusedVariables false
attribute [local irreducible] Code.wp wpList Calls

def OutE (o : Option Ent) (hs : List PH) (v : Value) (hs' : List PH) : Prop :=
  ∃ h ao c, hs' = h :: hs ∧ v = .tuple #[.agg ((o.getD Ent.zero).v ao c), .int .i64 (ec o)] ∧ Own h ao (o.getD Ent.zero).data.length c 5 1 (bv (o.getD Ent.zero).data)
theorem getEntC {w0 : World} {K hb : PH} {hs : List PH} (ao : Option Addr) (cap : Nat) (b : List UInt8) (hm : In K hs hb) (x : IsS hb ao b.length cap 1 (bv b)) (hl : b.length < 1099511627776) :
    Ct Try.prog w0 26 [.slice ao b.length cap] K hs (fun v K' hs' => K' = K ∧ OutE (getEnt b) hs v hs') := by
  have hl1 := rUint_len mxU (b, 0)
  have hl2 := rUint_len mxU (rUint mxU (b, 0)).2
  have hl3 := rByte_len (rUint mxU (rUint mxU (b, 0)).2).2
  have hl4 := (rBytes_len 512 (rByte (rUint mxU (rUint mxU (b, 0)).2).2).2).1
  have hk256 := rByte_lt (rUint mxU (rUint mxU (b, 0)).2).2
  dsimp only at hl1
  have hgE : getEntR b = (⟨(rUint mxU (b, 0)).1, (rUint mxU (rUint mxU (b, 0)).2).1, ((rByte (rUint mxU (rUint mxU (b, 0)).2).2).1 : Nat), (rBytes 512 (rByte (rUint mxU (rUint mxU (b, 0)).2).2).2).1⟩, (rBytes 512 (rByte (rUint mxU (rUint mxU (b, 0)).2).2).2).2) := rfl
  refine enter Try.func26 (by kernel_rfl) rfl rfl rfl ?_
  refine sq (rg (?_))
  refine al hT 0 (.agg #[.int .u64 0, .int .u64 0, .int .i64 0, .slice none 0 0]) rfl (by kernel_rfl) fun b2 => ?_   -- message.go:118 t2
  refine fin hT 1 rfl (th (sq (rg (?_))))
  refine cl hT 1 rfl (readC ao cap b (In.cons hm) x hl) ?_   -- message.go:119 t7
  rintro v7 K7 hs7 ⟨rfl, rb, h, hb', rfl, rfl, rd⟩
  refine fin hT 1 rfl (th (sq (rg (?_))))
  refine cl hT 1 rfl (uintC (.inr ⟨0, rfl⟩) mxU (b, 0) hl rd) ?_   -- message.go:120 t9
  rintro v9 K9 hs9 ⟨h1, rfl, rfl, rfl, rd1⟩
  refine cl hT 1 rfl (uintC (.inr ⟨0, rfl⟩) mxU _ (by omega) rd1) ?_   -- message.go:120 t11
  rintro v11 K11 hs11 ⟨h2, rfl, rfl, rfl, rd2⟩
  refine cl hT 1 rfl (byteC (.inr ⟨0, rfl⟩) _ rd2) ?_   -- message.go:120 t13
  rintro v13 K13 hs13 ⟨h3, rfl, rfl, rfl, rd3⟩
  refine ar hT 0 rfl (i64w (by omega)) ?_   -- message.go:120 t14 convert t13
  refine bd hT 0 (.agg ((Ent.mk (rUint mxU (b, 0)).1 (rUint mxU (rUint mxU (b, 0)).2).1 ((rByte (rUint mxU (rUint mxU (b, 0)).2).2).1 : Nat) []).v none 0)) rfl (fun w => by kernel_rfl) ?_   -- message.go:120 t15
  refine al hT 0 (.agg #[.int .u64 0, .int .u64 0, .int .i64 0, .slice none 0 0]) rfl (by kernel_rfl) fun b5 => ?_   -- message.go:120 t5
  refine stS hT 0 0 rfl rfl (by kernel_rfl) rfl rfl ?_   -- message.go:120 tNone t5 := t15
  refine fin hT 0 rfl (th (sq (rg (?_))))
  refine cl hT 1 rfl (Ct.atN 1 rfl (bytesC (.inr ⟨1, rfl⟩) 512 (by omega) _ (by omega) rd3)) ?_   -- message.go:121 t17
  rintro v17 K17 hs17 ⟨h4, new, rfl, rfl, hx, aox, cx, rfl, rfl, ox, rd4⟩
  refine stp hT 1 1 rfl rfl rfl rfl ?_   -- message.go:121 tNone t18 := t17
  refine fin hT 0 rfl (th (sq (sq (rg (?_)))))
  refine cl hT 1 rfl (Ct.keep 2 rfl (endC _ rd4)) ?_   -- message.go:122 t20
  rintro v20 K20 hs20 ⟨rfl, rfl, rfl⟩
  refine cmpS hT 0 rfl fun b21 h21 => ?_   -- message.go:122 t21 t20 ≠ 0
  refine' bjo hT 1 4 26 [21, 22] h21 rfl rfl rfl rfl rfl rfl rfl (fun _ => ?x2) (fun b26 h26 => ?_)   -- message.go:122 t26
  case x2 =>
    refine ldp hT 1 1 rfl rfl rfl ?_   -- message.go:122 t24 *t23
    refine cmpS hT 0 rfl fun b25 h25 => ?_   -- message.go:122 t25 t24 = 0
    exact fin hT 1 rfl (bjx h25 rfl rfl rfl)
  refine' bjo hT 1 4 31 [26, 27] h26 rfl rfl rfl rfl rfl rfl rfl (fun _ => ?x4) (fun b31 h31 => ?_)   -- message.go:122 t31
  case x4 =>
    refine ldp hT 1 1 rfl rfl rfl ?_   -- message.go:122 t29 *t28
    refine cmpS hT 0 rfl fun b30 h30 => ?_   -- message.go:122 t30 t29 = 0
    exact fin hT 1 rfl (bjx h30 rfl rfl rfl)
  refine' bjo hT 1 7 39 [31, 32] h31 rfl rfl rfl rfl rfl rfl rfl (fun _ => ?x6) (fun b39 h39 => ?_)   -- message.go:122 t39
  case x6 =>
    refine ldp hT 1 1 rfl rfl rfl ?_   -- message.go:122 t34 *t33
    refine ldp hT 1 1 rfl rfl rfl ?_   -- message.go:122 t36 *t35
    refine cl hT 0 rfl (heldC _ aox cx _ (.inr ⟨0, rfl⟩) ox.isS (by omega)) ?_   -- message.go:122 t37
    rintro v37 K37 hs37 ⟨rfl, rfl, b37, rfl, h37⟩
    refine cbS hT 0 _ rfl (bnot h37) fun b38 h38 => ?_   -- not
    exact fin hT 1 rfl (bjx h38 rfl rfl rfl)
  refine fin hT 0 rfl (th (ifP h39 rfl (fun e7 => ?_) (fun e7 => ?_)))
  · have hn : getEnt b = none := by
      rw [getEnt, if_neg]
      rw [hgE]
      exact fun h => e7.elim (fun h' => h'.elim (fun h' => h'.elim (fun h' => h' h.1) (fun h' => h.2.1 (Int.ofNat_inj.1 h'))) (fun h' => h.2.2.1 (Int.ofNat_inj.1 h'))) (fun h' => h' h.2.2.2)
    refine sq (rg (?_))
    refine bd hT 0 (.agg (Ent.zero.v none 0)) rfl (fun w => by kernel_rfl) ?_   -- message.go:123 t40
    refine stS hT 0 4 rfl rfl (by kernel_rfl) rfl rfl ?_   -- message.go:123 tNone t2 := t40
    refine fin hT 1 rfl (th (rt (rT (?_))))
    refine WQ.drop (WQ.drop (WQ.drop (WQ.drop (WQ.em (WQ.perm (List.Perm.swap _ _ _) ?_)))))
    exact retcP 0 1 rfl rfl rfl rfl (by kernel_rfl) ⟨rfl, em, none, 0, rfl, by rw [hn]; rfl, by rw [hn]; exact Own.nil _ _⟩
  · have hn : getEnt b = some (getEntR b).1 := by
      rw [getEnt, if_pos]
      rw [hgE]
      exact ⟨Decidable.not_not.1 fun h => e7 (.inl (.inl (.inl h))), fun h => e7 (.inl (.inl (.inr (Int.ofNat_inj.2 h)))), fun h => e7 (.inl (.inr (Int.ofNat_inj.2 h))), Decidable.not_not.1 fun h => e7 (.inr h)⟩
    rw [hgE] at hn
    refine sk (th (sq (rg (?_))))
    refine ldS hT 0 1 rfl rfl (by kernel_rfl) ?_   -- message.go:125 t41 t5
    refine stS hT 0 4 rfl rfl (by kernel_rfl) rfl rfl ?_   -- message.go:125 tNone t2 := t41
    refine fin hT 1 rfl (th (rt (?_)))
    refine WQ.perm (List.perm_middle (l₁ := [_, _, _, _])).symm (WQ.drop (WQ.drop (WQ.drop ?_)))
    exact retcP 0 1 rfl rfl rfl rfl (by kernel_rfl) ⟨rfl, hx, aox, cx, rfl, by rw [hn]; rfl, by rw [hn]; exact ox⟩
theorem sameEntry {w0 : World} {K h1 h2 : PH} {hs : List PH} (e1 e2 : Ent) (a1 a2 : Option Addr) (c1 c2 : Nat) (m1 : In K hs h1) (m2 : In K hs h2) (x1 : IsS h1 a1 e1.data.length c1 1 (bv e1.data)) (x2 : IsS h2 a2 e2.data.length c2 1 (bv e2.data)) :
    Ct Try.prog w0 27 [.agg (e1.v a1 c1), .agg (e2.v a2 c2)] K hs (fun v K' hs' => K' = K ∧ hs' = hs ∧ ∃ b : Bool, v = .bool b ∧ (b = true ↔ e1 = e2)) := by
  refine enter Try.func27 (by kernel_rfl) rfl rfl rfl ?_
  refine sq (rg (?_))
  refine bx hT 0 rfl fun b2 => ?_   -- ref.go:177 t2
  refine bx hT 0 rfl fun b3 => ?_   -- ref.go:177 t3
  refine fin hT 1 rfl (th (sq (rg (?_))))
  refine ldp hT 1 1 rfl rfl rfl ?_   -- ref.go:178 t6 *t5
  refine ldp hT 1 0 rfl rfl rfl ?_   -- ref.go:178 t8 *t7
  refine cmpS hT 0 rfl fun b9 h9 => ?_   -- ref.go:178 t9 t6 = t8
  refine' bja hT 1 6 16 [9, 10] h9 rfl rfl rfl rfl rfl rfl rfl (fun _ => ?x2) (fun b16 h16 => ?_)   -- ref.go:178 t16
  case x2 =>
    refine ldp hT 1 1 rfl rfl rfl ?_   -- ref.go:178 t12 *t11
    refine ldp hT 1 0 rfl rfl rfl ?_   -- ref.go:178 t14 *t13
    refine cmpS hT 0 rfl fun b15 h15 => ?_   -- ref.go:178 t15 t12 = t14
    exact fin hT 1 rfl (bjx h15 rfl rfl rfl)
  refine' bja hT 1 6 23 [16, 17] h16 rfl rfl rfl rfl rfl rfl rfl (fun _ => ?x4) (fun b23 h23 => ?_)   -- ref.go:178 t23
  case x4 =>
    refine ldp hT 1 1 rfl rfl rfl ?_   -- ref.go:178 t19 *t18
    refine ldp hT 1 0 rfl rfl rfl ?_   -- ref.go:178 t21 *t20
    refine cmpS hT 0 rfl fun b22 h22 => ?_   -- ref.go:178 t22 t19 = t21
    exact fin hT 1 rfl (bjx h22 rfl rfl rfl)
  refine' bja hT 1 8 32 [23, 24] h23 rfl rfl rfl rfl rfl rfl rfl (fun _ => ?x6) (fun b32 h32 => ?_)   -- ref.go:178 t32
  case x6 =>
    refine ldp hT 1 1 rfl rfl rfl ?_   -- ref.go:178 t26 *t25
    refine cvs hT 0 _ rfl (In.cons (In.cons m1)) x1 (by kernel_rfl) ?_   -- ref.go:178 t27 t26
    refine ldp hT 1 0 rfl rfl rfl ?_   -- ref.go:178 t29 *t28
    refine cvs hT 0 _ rfl (In.cons (In.cons m2)) x2 (by kernel_rfl) ?_   -- ref.go:178 t30 t29
    refine seS hT 0 rfl fun b31 h31 => ?_   -- ref.go:178 t31 t27 = t30
    exact fin hT 1 rfl (bjx h31 rfl rfl rfl)
  refine fin hT 1 rfl (th (rt (?_)))
  refine WQ.drop (WQ.drop ?_)
  exact ret1 rfl rfl ⟨rfl, rfl, b32, rfl, h32.trans ⟨fun ⟨⟨⟨g1, g2⟩, g3⟩, g4⟩ => by
    obtain ⟨i, t, k, d⟩ := e1
    obtain ⟨i', t', k', d'⟩ := e2
    dsimp only [Ent.v] at g1 g2 g3 g4
    have g1 := Int.ofNat_inj.1 g1
    have g2 := Int.ofNat_inj.1 g2
    have g3 : k = k' := g3
    rw [g1, g2, g3, g4], fun h => by subst h; exact ⟨⟨⟨rfl, rfl⟩, rfl⟩, rfl⟩⟩⟩
theorem getEntRef {w0 : World} {K hb : PH} {hs : List PH} (ao : Option Addr) (cap : Nat) (b : List UInt8) (hm : In K hs hb) (x : IsS hb ao b.length cap 1 (bv b)) (hl : b.length < 1099511627776) :
    Ct Try.prog w0 28 [.slice ao b.length cap] K hs (fun v K' hs' => K' = K ∧ OutE (getEnt b) hs v hs') := by
  refine enter Try.func28 (by kernel_rfl) rfl rfl rfl ?_
  refine sq (rg (?_))
  refine al hT 0 (.agg #[.int .u64 0, .int .u64 0, .int .i64 0, .slice none 0 0]) rfl (by kernel_rfl) fun b2 => ?_   -- ref.go:128 t2
  refine fin hT 1 rfl (th (sq (rg (?_))))
  refine bd hT 1 (rv ao b.length cap 0 0) rfl (fun w => by kernel_rfl) ?_   -- ref.go:129 t14
  refine cl hT 0 rfl (getUintRef ao cap b (In.cons hm) x hl 0 0 (Nat.zero_le _) mxU) ?_   -- ref.go:129 t15
  rintro v15 K15 hs15 ⟨rfl, rfl, p1, hp1, rfl, hd1⟩
  rw [List.drop_zero] at hd1 ⊢
  have E1 : (b.drop p1, (rUint mxU (b, 0)).2.2) = (rUint mxU (b, 0)).2 := Prod.ext hd1.symm rfl
  refine al hT 3 (.agg #[.slice none 0 0, .int .i64 0, .int .i64 0]) rfl (by kernel_rfl) fun b4 => ?_   -- ref.go:129 t4
  refine stS hT 0 0 rfl rfl (by kernel_rfl) rfl rfl ?_   -- ref.go:129 tNone t4 := t16
  refine fin hT 1 rfl (th (sq (rg (?_))))
  refine ldS hT 0 0 rfl rfl (by kernel_rfl) ?_   -- ref.go:130 t19 t4
  refine cl hT 0 rfl (getUintRef ao cap b (In.cons (In.cons hm)) x hl p1 _ hp1 mxU) ?_   -- ref.go:130 t20
  rintro v20 K20 hs20 ⟨rfl, rfl, p2, hp2, rfl, hd2⟩
  rw [E1] at hd2 ⊢
  have E2 : (b.drop p2, (rUint mxU (rUint mxU (b, 0)).2).2.2) = (rUint mxU (rUint mxU (b, 0)).2).2 := Prod.ext hd2.symm rfl
  refine stS hT 3 0 rfl rfl (by kernel_rfl) rfl rfl ?_   -- ref.go:130 tNone t4 := t21
  refine fin hT 1 rfl (th (sq (rg (?_))))
  refine ldS hT 0 0 rfl rfl (by kernel_rfl) ?_   -- ref.go:131 t24 t4
  refine cl hT 0 rfl (byteRef ao cap b (In.cons (In.cons hm)) x hl p2 _ hp2) ?_   -- ref.go:131 t25
  rintro v25 K25 hs25 ⟨rfl, rfl, p3, hp3, rfl, hd3⟩
  rw [E2] at hd3 ⊢
  have E3 : (b.drop p3, (rByte (rUint mxU (rUint mxU (b, 0)).2).2).2.2) = (rByte (rUint mxU (rUint mxU (b, 0)).2).2).2 := Prod.ext hd3.symm rfl
  have hk256 := rByte_lt (rUint mxU (rUint mxU (b, 0)).2).2
  refine stS hT 3 0 rfl rfl (by kernel_rfl) rfl rfl ?_   -- ref.go:131 tNone t4 := t26
  refine fin hT 1 rfl (th (sq (rg (?_))))
  refine ldS hT 0 0 rfl rfl (by kernel_rfl) ?_   -- ref.go:132 t29 t4
  refine cl hT 0 rfl (getBytesRef ao cap b (In.cons (In.cons hm)) x hl p3 _ hp3 512 (by omega)) ?_   -- ref.go:132 t30
  rintro v30 K30 hs30 ⟨rfl, hy, rfl, p4, hp4, aoy, cy, rfl, hd4, oy⟩
  rw [E3] at hd4 oy ⊢
  have E4 : (b.drop p4, (rBytes 512 (rByte (rUint mxU (rUint mxU (b, 0)).2).2).2).2.2) = (rBytes 512 (rByte (rUint mxU (rUint mxU (b, 0)).2).2).2).2 := Prod.ext hd4.symm rfl
  have hgE : getEntR b = (⟨(rUint mxU (b, 0)).1, (rUint mxU (rUint mxU (b, 0)).2).1, ((rByte (rUint mxU (rUint mxU (b, 0)).2).2).1 : Nat), (rBytes 512 (rByte (rUint mxU (rUint mxU (b, 0)).2).2).2).1⟩, (rBytes 512 (rByte (rUint mxU (rUint mxU (b, 0)).2).2).2).2) := rfl
  have hbl := (rBytes_len 512 (rByte (rUint mxU (rUint mxU (b, 0)).2).2).2).1
  have hl1 := rUint_len mxU (b, 0)
  have hl2 := rUint_len mxU (rUint mxU (b, 0)).2
  have hl3 := rByte_len (rUint mxU (rUint mxU (b, 0)).2).2
  dsimp only at hl1
  refine stS hT 3 1 rfl rfl (by kernel_rfl) rfl rfl ?_   -- ref.go:132 tNone t4 := t31
  refine fin hT 1 rfl (th (sq (rg (?_))))
  refine ar hT 3 rfl (i64w (by omega)) ?_   -- ref.go:133 t36 convert t35
  refine bd hT 1 (.agg ((getEntR b).1.v aoy cy)) rfl (fun w => by kernel_rfl) ?_   -- ref.go:133 t38
  refine al hT 0 (.agg #[.int .u64 0, .int .u64 0, .int .i64 0, .slice none 0 0]) rfl (by kernel_rfl) fun b9 => ?_   -- ref.go:133 t9
  refine stS hT 0 0 rfl rfl (by kernel_rfl) rfl rfl ?_   -- ref.go:133 tNone t9 := t38
  refine fin hT 0 rfl (th (sq (rg (?_))))
  refine ldS hT 0 0 rfl rfl (by kernel_rfl) ?_   -- ref.go:134 t40 t9
  refine cl hT 0 rfl (putEntRef (getEntR b).1 aoy cy (getEntR_bd b).1 (getEntR_bd b).2 (.inr ⟨1, rfl⟩) oy.isS (show (rBytes 512 (rByte (rUint mxU (rUint mxU (b, 0)).2).2).2).1.length < 1099511627776 by omega)) ?_   -- ref.go:134 t41
  rintro v41 K41 hs41 ⟨rfl, g, aog, cg, rfl, rfl, og⟩
  refine fin hT 5 rfl (th (sq (sq (rg (?_)))))
  refine ldS hT 0 3 rfl rfl (by kernel_rfl) ?_   -- ref.go:135 t44 t4
  refine cl hT 0 rfl (endRef ao cap b p4 _ hp4) ?_   -- ref.go:135 t45
  rintro v45 K45 hs45 ⟨rfl, rfl, rfl⟩
  rw [E4]
  refine cmpS hT 0 rfl fun b46 h46 => ?_   -- ref.go:135 t46 t45 ≠ 0
  refine' bjo hT 1 3 50 [46, 47] h46 rfl rfl rfl rfl rfl rfl rfl (fun _ => ?x2) (fun b50 h50 => ?_)   -- ref.go:135 t50
  case x2 =>
    refine cmpS hT 1 rfl fun b49 h49 => ?_   -- ref.go:135 t49 t48 ≠ 0
    exact fin hT 1 rfl (bjx h49 rfl rfl rfl)
  refine' bjo hT 1 6 57 [50, 51] h50 rfl rfl rfl rfl rfl rfl rfl (fun _ => ?x4) (fun b57 h57 => ?_)   -- ref.go:135 t57
  case x4 =>
    refine cvs hT 1 _ rfl (.inr ⟨0, rfl⟩) og.isS (by kernel_rfl) ?_   -- ref.go:135 t53 t52
    refine cvs hT 1 b rfl (In.cons (In.cons4 hm)) x (by kernel_rfl) ?_   -- ref.go:135 t55 t54
    refine snS hT 0 rfl fun b56 h56 => ?_   -- ref.go:135 t56 t53 ≠ t55
    exact fin hT 1 rfl (bjx h56 rfl rfl rfl)
  refine fin hT 0 rfl (th (ifP h57 rfl (fun e6 => ?_) (fun e6 => ?_)))
  · have hn : getEnt b = none := by
      rw [ref_getEnt, if_neg]
      exact fun h => by have := ec_ob.2 h.2; exact e6.elim (fun e => e.elim (fun e => e h.1) (fun e => e this.1)) (fun e => e this.2)
    refine sq (rg (?_))
    refine bd hT 0 (.agg (Ent.zero.v none 0)) rfl (fun w => by kernel_rfl) ?_   -- ref.go:136 t58
    refine stS hT 0 4 rfl rfl (by kernel_rfl) rfl rfl ?_   -- ref.go:136 tNone t2 := t58
    refine fin hT 1 rfl (th (rt (rT (?_))))
    refine WQ.drop (WQ.drop (WQ.drop (WQ.drop (WQ.em (WQ.perm (List.Perm.swap _ _ _) ?_)))))
    exact retcP 0 1 rfl rfl rfl rfl (by kernel_rfl) ⟨rfl, em, none, 0, rfl, by rw [hn]; rfl, by rw [hn]; exact Own.nil _ _⟩
  · have hn : getEnt b = some (getEntR b).1 := by
      simp only [not_or, ne_eq, Decidable.not_not] at e6
      rw [ref_getEnt, if_pos]
      exact ⟨e6.1.1, ec_ob.1 ⟨e6.1.2, e6.2⟩⟩
    refine sk (th (sq (rg (?_))))
    refine ldS hT 0 1 rfl rfl (by kernel_rfl) ?_   -- ref.go:138 t59 t9
    refine stS hT 0 4 rfl rfl (by kernel_rfl) rfl rfl ?_   -- ref.go:138 tNone t2 := t59
    refine fin hT 1 rfl (th (rt (?_)))
    refine WQ.drop (WQ.drop (WQ.perm (List.perm_middle (l₁ := [_, _])).symm (WQ.drop ?_)))
    exact retcP 0 1 rfl rfl rfl rfl (by kernel_rfl) ⟨rfl, hy, aoy, cy, rfl, by rw [hn]; rfl, by rw [hn]; exact oy⟩
end Go.Proofs.Ythpiokdibknpaaa
