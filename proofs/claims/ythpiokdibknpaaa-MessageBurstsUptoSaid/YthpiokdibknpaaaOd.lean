/-
  The law of bursts of messages.
-/
import Derived.Test.YthpiokdibknpaaaOc
import Derived.Test.YthpiokdibknpaaaCt
namespace Go.Proofs.Ythpiokdibknpaaa
open Go.En
set_option linter.unusedVariables false
set_option linter.unusedSimpArgs false
attribute [local irreducible] Code.wp wpList Calls

theorem uint_posM (n : Nat) : 0 < (uint n).length := by
  by_cases h : n < 128
  · rw [uint_lt h]; simp
  · rw [uint_ge h]; simp
theorem uint_byte (n : Nat) : ∀ (j : Nat) (h : j < (uint n).length), 128 ≤ (uint n)[j].toNat ↔ j + 1 < (uint n).length := by
  induction n using Nat.strongRecOn with
  | _ n ih =>
    by_cases hn : n < 128
    · rw [uint_lt hn]
      intro j h
      obtain rfl : j = 0 := by simpa using h
      simp
      omega
    · rw [uint_ge hn]
      intro j h
      have hp := uint_posM (n / 128)
      cases j with
      | zero => simp; omega
      | succ j =>
        have := ih (n / 128) (by omega) j (by simpa using h)
        simp only [List.getElem_cons_succ, List.length_cons]
        rw [this]
        omega
theorem own_cellsM {g off n cap e : Nat} {cur : Array Value} {xs : List Value} (o : Own (pt g cur e) (some ⟨g, off, none⟩) n cap e 1 xs) : (cur.toList.drop off).take (n * 1) = xs := by
  rcases o.2.2.2 with ⟨h, _⟩ | ⟨g', off', cur', h1, h2, _, ht⟩
  · cases h
  · simp only [Option.some.injEq, Addr.mk.injEq, and_true] at h1
    obtain ⟨rfl, rfl⟩ := h1
    have h3 := congrFun h2 g
    simp [pt, sg] at h3
    rw [h3]
    exact ht
theorem turn2 (x q k a : Nat) : x ^^^ q <<< a ^^^ (1 <<< (a + k)) = x ^^^ (q ^^^ 1 <<< k) <<< a := by
  rw [Nat.shiftLeft_xor_distrib, ← Nat.shiftLeft_add, Nat.add_comm k a, Nat.xor_assoc]
theorem turn_lt {q k : Nat} (h : q < 2 ^ k) : q ^^^ 1 <<< k < 2 ^ (k + 1) ∧ q ^^^ 1 <<< k ≠ 0 := by
  rw [shl_add _ _ _ h, Nat.pow_succ]
  omega
theorem lawBurstsM {w0 : World} {K : PH} {hs : List PH} (m : Msg) (p : MA) (hS : MsgS K m p) (hbd : m.bd) (at' : Int) (hat : -9223372036854775808 ≤ at' ∧ at' ≤ 9223372036854775807) (w : Nat) (hw : w < 4294967296) :
    Ct Try.prog w0 13 [.agg (mv m p), .int .i64 at', .int .u32 (w : Nat)] K hs (fun v K' hs' => K' = K ∧ v = .bool true) := by
  have hlen := enc_len m hbd
  refine enter Try.func13 (by kernel_rfl) rfl rfl rfl ?_
  refine sq (rg (?_))
  refine bx hT 0 rfl fun b3 => ?_   -- law.go:101 t3
  refine fin hT 1 rfl (th (sq (rg (?_))))
  refine ldS hT 0 0 rfl rfl (by kernel_rfl) ?_   -- law.go:102 t16 t3
  refine cl hT 0 rfl (encodeC m p hS hbd) ?_   -- law.go:102 t17
  rintro v17 K17 hs17 ⟨rfl, g1, ao1, c1, rfl, rfl, o1⟩
  refine fin hT 5 rfl (th (sq (sq (rg (?_)))))
  refine cmpS hT 1 rfl fun b21 h21 => ?_   -- law.go:103 t21 t20 ≠ 0
  refine' bjo hT 1 3 25 [21, 22] h21 rfl rfl rfl rfl rfl rfl rfl (fun _ => ?x2) (fun b25 h25 => ?_)   -- law.go:103 t25
  case x2 =>
    refine cmpS hT 1 rfl fun b24 h24 => ?_   -- law.go:103 t24 t23 < 0
    exact fin hT 1 rfl (bjx h24 rfl rfl rfl)
  refine' bjo hT 1 3 29 [25, 26] h25 rfl rfl rfl rfl rfl rfl rfl (fun _ => ?x4) (fun b29 h29 => ?_)   -- law.go:103 t29
  case x4 =>
    refine cmpS hT 1 rfl fun b28 h28 => ?_   -- law.go:103 t28 t27 > 1048576
    exact fin hT 1 rfl (bjx h28 rfl rfl rfl)
  refine fin hT 0 rfl (th (ifP h29 rfl (fun e6 => ?_) (fun e6 => ?_)))
  · refine sq (rg (?_))
    refine cl hT 0 rfl aliveMC ?_   -- law.go:104 t30
    rintro v30 K30 hs30 ⟨rfl, rfl, b30, rfl, h30⟩
    refine fin hT 1 rfl (th (rt (rT (?_))))
    exact ret1 rfl rfl ⟨rfl, by rw [h30.2 trivial]⟩
  · simp only [not_or] at e6
    obtain ⟨henc, hok, hse⟩ := enc_ob e6.1.1
    obtain ⟨a, rfl⟩ := Int.eq_ofNat_of_zero_le (by omega : 0 ≤ at')
    have hbs := body_small m hbd hok
    have hM0 : (m.body ++ le4 (crc m.body).toNat).length = m.body.length + 4 := by simp [le4]
    obtain ⟨M0, hM00⟩ : ∃ M, M = m.body ++ le4 (crc m.body).toNat := ⟨_, rfl⟩
    obtain ⟨u, huu⟩ : ∃ u, u = uint m.body.length := ⟨_, rfl⟩
    have hB : ob (enc m) = u ++ M0 := by rw [hse, sealed_split, huu, hM00]
    have hup : 0 < u.length := by rw [huu]; exact uint_posM _
    have huby : ∀ (j : Nat) (h : j < u.length), 128 ≤ u[j].toNat ↔ j + 1 < u.length := by subst huu; exact uint_byte _
    rw [← hM00] at hM0
    rw [hB] at o1 hlen ⊢
    obtain ⟨N, hN⟩ : ∃ N, N = (u ++ M0).length := ⟨_, rfl⟩
    rw [← hN] at o1 hlen ⊢
    have hNl : N = u.length + (m.body.length + 4) := by rw [hN, List.length_append, hM0]
    obtain ⟨hxl, hnc, hcm, ⟨rfl, rfl, rfl⟩ | ⟨g, off, cur0, rfl, rfl, hcs, hct⟩⟩ := o1
    · omega
    have o1 : Own (pt g cur0 5) (some ⟨g, off, none⟩) N c1 5 1 (bv (u ++ M0)) := ⟨hxl, hnc, hcm, .inr ⟨g, off, cur0, rfl, rfl, hcs, hct⟩⟩
    refine sk (th (drop1C (sq (rg (?_)))))
    refine fin hT 1 rfl (th (sq (bk (?_))))
    refine loop (σ := Nat) (fun h => [(1, .int .i64 ((a : Nat) : Int)), (2, .int .u32 ((w : Nat) : Int)), (7, .slice (some ⟨g, off, none⟩) N c1), (9, .int .i64 ((h : Nat) : Int))]) (fun _ => K17) (fun h => pt g cur0 5 :: hs) (fun h => 1 ≤ h ∧ h ≤ u.length) (fun h => u.length - h) 1 ⟨Nat.le_refl _, hup⟩ ⟨rfl, rfl, rfl, rfl, trivial⟩ rfl rfl ?_
    rintro h ⟨h1, h2⟩
    have hj : h - 1 < u.length := by omega
    have hgv : (bv (u ++ M0))[h - 1]? = some (.int .u8 (u[h - 1].toNat : Nat)) := by simp [bv, List.getElem?_append_left, List.getElem?_eq_getElem hj, hj]
    have hby := huby (h - 1) hj
    refine sq (sq (rg (?_)))
    refine cmpS hT 3 rfl fun b34 h34 => ?_   -- law.go:107 t34 t31 < t33
    refine' bja hT 1 7 42 [34, 35] h34 rfl rfl rfl rfl rfl rfl rfl (fun _ => ?x8) (fun b42 h42 => ?_)   -- law.go:107 t42
    case x8 =>
      refine ar hT 2 rfl (v' := .int .i64 ((h - 1 : Nat) : Int)) (by rw [i64w (by omega)]; congr 1; omega) ?_
      refine ix1 hT 0 (h - 1) rfl rfl rfl o1.isS hgv fun a39 hc39 => ?_   -- law.go:107 t39 t36[t38]
      refine ld hT 0 rfl (.inr ⟨0, rfl⟩) hc39 ?_
      refine cmpS hT 0 rfl fun b41 h41 => ?_   -- law.go:107 t41 t40 ≥ 128
      exact fin hT 1 rfl (bjx h41 rfl rfl rfl)
    refine fin hT 0 rfl (th (ifP h42 rfl (fun e10 => ?_) (fun e10 => ?_)))
    · refine sk (th (bk (rg (?_))))
      refine ar hT 1 rfl (i64w (by omega)) ?_   -- law.go:108 t44 t43 add 1
      refine fin hT 1 rfl (bl (?_))
      exact again (x := h) (h + 1) ⟨rfl, rfl, rfl, rfl, trivial⟩ rfl rfl ⟨by omega, by omega⟩ (by (try dsimp only); omega)
    · obtain rfl : h = u.length := by omega
      refine ex (xt (xt (xb (th (sq (rg (?_)))))))
      refine fin hT 1 rfl (th (sq (sq (rg (?_)))))
      refine fin hT 1 rfl (th (bk (?_)))
      refine loop (σ := Nat × List UInt8 × Array Value × Nat × Bool) (fun s => [(1, .int .i64 ((a : Nat) : Int)), (2, .int .u32 ((w : Nat) : Int)), (7, .slice (some ⟨g, off, none⟩) N c1), (9, .int .i64 ((u.length : Nat) : Int)), (10, .bool s.2.2.2.2), (11, .int .i64 ((s.1 : Nat) : Int))]) (fun _ => K17) (fun s => pt g s.2.2.1 5 :: hs)
        (fun s => s.1 ≤ 32 ∧ s.2.1.length = m.body.length + 4 ∧ s.2.2.2.1 < 2 ^ s.1 ∧ ux s.2.1 = ux M0 ^^^ (s.2.2.2.1 <<< a) ∧ (s.2.2.2.2 = true ↔ s.2.2.2.1 ≠ 0) ∧ (s.2.2.2.1 ≠ 0 → a ≤ 8 * M0.length) ∧ s.2.2.1.size = off + c1 ∧ (s.2.2.1.toList.drop off).take N = bv (u ++ s.2.1) ∧ Own (pt g s.2.2.1 5) (some ⟨g, off, none⟩) N c1 5 1 (bv (u ++ s.2.1))) (fun s => 32 - s.1)
        (0, M0, cur0, 0, false) ⟨by omega, hM0, by show (0 : Nat) < 2 ^ 0; decide, by simp, by simp, fun h => absurd rfl h, by dsimp only; omega, by rw [Nat.mul_one] at hct; exact hct, o1⟩ ⟨rfl, rfl, rfl, rfl, rfl, rfl, trivial⟩ rfl rfl ?_
      rintro ⟨k, M, cur, q, tu⟩ ⟨hk, hM, hq, hux, htu, hqa, hcs, hct, o⟩
      dsimp only at hk hM hq hux htu hqa hcs hct o ⊢
      refine sq (sq (rg (?_)))
      refine cmpS hT 1 rfl fun b46 h46 => ?_   -- law.go:111 t46 t45 < 32
      refine fin hT 0 rfl (th (ifP h46 rfl (fun e12 => ?_) (fun e12 => ?_)))
      · have hk32 : k < 32 := by omega
        refine sk (th (sq (bk (sq (rg (?_))))))
        refine ar hT 1 rfl (v' := .int .i64 ((8 * u.length : Nat) : Int)) (by rw [i64w (by omega)]; rfl) ?_
        refine ar hT 1 rfl (v' := .int .i64 ((8 * u.length + a : Nat) : Int)) (by rw [i64w (by omega)]; rfl) ?_
        refine ar hT 1 rfl (v' := .int .i64 ((8 * u.length + a + k : Nat) : Int)) (by rw [i64w (by omega)]; rfl) ?_
        refine fin hT 1 rfl (th (sq (rg (?_))))
        refine shf hT 2 rfl (by omega) (.inr ⟨rfl, u32shrN w k (by omega)⟩) ?_   -- law.go:113 t57 t55 shr t56
        refine ar hT 0 rfl (u32and1N _) ?_   -- law.go:113 t58 t57 and 1
        refine cmpS hT 0 rfl fun b59 h59 => ?_   -- law.go:113 t59 t58 = 1
        refine' bja hT 1 6 66 [59, 60] h59 rfl rfl rfl rfl rfl rfl rfl (fun _ => ?x14) (fun b66 h66 => ?_)   -- law.go:113 t66
        case x14 =>
          refine ar hT 1 rfl (i64quoN _ 8 (by omega)) ?_
          refine cmpS hT 2 rfl fun b65 h65 => ?_   -- law.go:113 t65 t62 < t64
          exact fin hT 1 rfl (bjx h65 rfl rfl rfl)
        refine fin hT 0 rfl (th (ifP h66 rfl (fun e16 => ?_) (fun e16 => ?_)))
        · have hbit : w / 2 ^ k % 2 = 1 := by omega
          have hj : (a + k) / 8 < M.length := by omega
          have hr : (a + k) % 8 < 8 := by omega
          have hgv : (bv (u ++ M))[u.length + (a + k) / 8]? = some (.int .u8 (M[(a + k) / 8].toNat : Nat)) := by simp [bv, List.getElem?_append_right, List.getElem?_eq_getElem hj]
          have hcell := cur_get hct hgv
          have hp8 := pow8 _ hr
          have hc8 := M[(a + k) / 8].toNat_lt
          have hv8 : (UInt8.ofNat (M[(a + k) / 8].toNat ^^^ (1 <<< ((a + k) % 8)))).toNat = M[(a + k) / 8].toNat ^^^ (1 <<< ((a + k) % 8)) := UInt8.toNat_ofNat_of_lt' (Nat.xor_lt_two_pow (n := 8) hc8 (by rw [Nat.one_shiftLeft]; omega))
          have hset := ux_set M ((a + k) / 8) ((a + k) % 8) hj _ hv8
          refine sq (rga [pt g cur 5] 10 [0, 2, 4, 6, 8, 10, 12, 14, 16, 18, 21] (by simp) (by kernel_rfl) (by kernel_rfl) ?_)
          refine dar hT (by kernel_rfl) 2 rfl (v' := .int .i64 ((u.length + (a + k) / 8 : Nat) : Int)) ((i64quoN _ 8 (by omega)).trans (by congr 2; omega)) ?_
          refine dixs hT (by kernel_rfl) 0 (u.length + (a + k) / 8) rfl rfl (by omega) ?_
          simp only [add_mk, Nat.mul_one]
          refine dldpw hT (by kernel_rfl) 0 0 rfl (by kernel_rfl) rfl hcell ?_
          refine dar hT (by kernel_rfl) 1 rfl (v' := .int .i64 (((a + k) % 8 : Nat) : Int)) ((u_rem .i64 _ 8).trans (by congr 2; omega)) ?_
          refine dshf hT (by kernel_rfl) 0 rfl (by omega) (.inl ⟨rfl, (u8shl1 _ hr)⟩) ?_   -- law.go:114 t74 1 shl t73
          refine dar hT (by kernel_rfl) 0 rfl (u8xorN _ _ hc8 (by rw [Nat.one_shiftLeft]; omega)) ?_
          refine dixs hT (by kernel_rfl) 0 (u.length + (a + k) / 8) rfl rfl (by omega) ?_
          simp only [add_mk, Nat.mul_one]
          refine dact hT (by kernel_rfl) 0 rfl ?_
          refine stp hT 0 0 rfl rfl hcell rfl ?_
          refine dnext (.inl (by kernel_rfl)) ?_
          refine dend hT (by kernel_rfl) 0 rfl (th (rg (?_)))
          refine fin hT 1 rfl (bl (th (rg (?_))))
          refine ar hT 1 rfl (i64w (by omega)) ?_   -- law.go:111 t48 t47 add 1
          refine fin hT 1 rfl (?_)
          have hbs2 := bv_set u M ((a + k) / 8) (UInt8.ofNat (M[(a + k) / 8].toNat ^^^ (1 <<< ((a + k) % 8))))
          have o' := Own.set1 o (by omega) (by rw [Nat.mul_one]; exact hct) (u.length + (a + k) / 8) (.int .u8 ((UInt8.ofNat (M[(a + k) / 8].toNat ^^^ (1 <<< ((a + k) % 8)))).toNat : Nat))
          rw [hbs2] at o'
          rw [hv8] at o'
          have e2 := turn2 (ux M0) q k a
          rw [← hux, show a + k = 8 * ((a + k) / 8) + (a + k) % 8 from by omega, ← hset] at e2
          have htl := turn_lt hq
          exact again (x := (k, M, cur, q, tu)) (k + 1, M.set ((a + k) / 8) (UInt8.ofNat (M[(a + k) / 8].toNat ^^^ (1 <<< ((a + k) % 8)))), cur.setIfInBounds (off + (u.length + (a + k) / 8)) (.int .u8 ((M[(a + k) / 8].toNat ^^^ (1 <<< ((a + k) % 8)) : Nat) : Int)), q ^^^ 1 <<< k, true) ⟨rfl, rfl, rfl, rfl, rfl, rfl, trivial⟩ rfl rfl ⟨hk32, by rw [List.length_set]; exact hM, htl.1, e2, ⟨fun _ => htl.2, fun _ => rfl⟩, fun _ => by omega, by simpa using hcs, by have := own_cellsM o'; rw [Nat.mul_one] at this; exact this, o'⟩ (by dsimp only; omega)
        · refine sk (bl (th (rg (?_))))
          refine ar hT 1 rfl (i64w (by omega)) ?_   -- law.go:111 t48 t47 add 1
          refine fin hT 1 rfl (?_)
          exact again (x := (k, M, cur, q, tu)) (k + 1, M, cur, q, tu) ⟨rfl, rfl, rfl, rfl, rfl, rfl, trivial⟩ rfl rfl ⟨hk32, hM, by dsimp only; rw [Nat.pow_succ]; omega, hux, htu, hqa, hcs, hct, o⟩ (by dsimp only; omega)
      · obtain rfl : k = 32 := by omega
        have hql : (u ++ M).length = N := by rw [List.length_append]; omega
        rw [← hql] at o ⊢
        have hdq : q ≠ 0 → dec (u ++ M) = none := fun h0 => dec_no fun h => by
          have hne : un4 (M.drop m.body.length) ≠ (crc (M.take m.body.length)).toNat := burst (p := m.body) (t := le4 (crc m.body).toNat) (w := q) (a := a) rfl (by simp; omega) (by simp; omega) (un4_le4 _ (crc m.body).isLt) hq h0 (by rw [← hM00]; exact hqa h0) (by rw [List.take_append_drop, ← hM00]; exact hux)
          rw [unsealed_burst huu hM hbs hne] at h
          exact absurd h.1 (by decide)
        refine ex (xt (xt (xb (th (sq (rg (?_)))))))
        refine cl hT 1 rfl (decodeC _ c1 (u ++ M) (.inr ⟨0, rfl⟩) o.isS (by omega)) ?_   -- law.go:118 t79
        rintro v79 K79 hs79 ⟨rfl, le, p2, rfl, hS2⟩
        refine al hT 3 (.agg #[.int .i64 0, .int .i64 0, .int .i64 0, .int .u64 0, .int .u64 0, .int .u64 0, .int .u64 0, .int .u64 0, .bool false, .slice none 0 0, .int .i64 0, .int .i64 0, .slice none 0 0, .slice none 0 0]) rfl (by kernel_rfl) fun b13 => ?_   -- law.go:118 t13
        refine stS hT 0 0 rfl rfl (by kernel_rfl) rfl rfl ?_   -- law.go:118 tNone t13 := t80
        refine fin hT 1 rfl (th (sq (rg (?_))))
        refine cl hT 0 rfl aliveMC ?_   -- law.go:119 t82
        rintro v82 K82 hs82 ⟨rfl, rfl, b82, rfl, h82⟩
        refine' bja hT 1 7 90 [82, 83] h82 rfl rfl rfl rfl rfl rfl rfl (fun _ => ?x17) (fun b90 h90 => ?_)   -- law.go:119 t90
        case x17 =>
          refine cbS hT 1 _ rfl (bnot htu) fun b85 h85 => ?_
          refine' bjo hT 1 3 89 [85, 86] h85 rfl rfl rfl rfl rfl rfl rfl (fun _ => ?xx) (fun b89 h89 => ?_)
          case xx =>
            refine cmpS hT 1 rfl fun b88 h88 => ?_
            exact fin hT 1 rfl (bjx h88 rfl rfl rfl)
          exact fin hT 1 rfl (bjx h89 rfl rfl rfl)
        refine fin hT 1 rfl (th (rt (?_)))
        have hfin : b90 = true := h90.2 ⟨trivial, by
          by_cases h0 : q = 0
          · exact .inl fun h => h h0
          · exact .inr (by rw [hdq h0]; rfl)⟩
        refine WQ.weak le ?_
        exact ret1 rfl rfl ⟨rfl, by rw [hfin]⟩
end Go.Proofs.Ythpiokdibknpaaa
