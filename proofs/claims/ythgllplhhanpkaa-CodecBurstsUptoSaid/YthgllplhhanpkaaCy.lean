/-
  The law of bursts: what the program does at them.
-/
import Derived.Test.YthgllplhhanpkaaCt
namespace Go.Proofs.Ythgllplhhanpkaa
open Go.En
set_option linter.unusedVariables false
attribute [local irreducible] Code.wp wpList Calls

theorem uint_pos (n : Nat) : 0 < (uint n).length := by
  by_cases h : n < 128
  · rw [uint_lt h]; simp
  · rw [uint_ge h]; simp
theorem own_cells {g off n cap e : Nat} {cur : Array Value} {xs : List Value} (o : Own (pt g cur e) (some ⟨g, off, none⟩) n cap e 1 xs) : (cur.toList.drop off).take (n * 1) = xs := by
  rcases o.2.2.2 with ⟨h, _⟩ | ⟨g', off', cur', h1, h2, _, ht⟩
  · cases h
  · simp only [Option.some.injEq, Addr.mk.injEq, and_true] at h1
    obtain ⟨rfl, rfl⟩ := h1
    have h3 := congrFun h2 g
    simp [pt, sg] at h3
    rw [h3]
    exact ht
theorem lawBursts {w0 : World} {K hb : PH} {hs : List PH} (ao : Option Addr) (cap : Nat) (b : List UInt8) (hm : In K hs hb) (x : IsS hb ao b.length cap 1 (bv b)) (hl : b.length < 1099511627776) (at' : Int) (hat : -9223372036854775808 ≤ at' ∧ at' ≤ 9223372036854775807) (w : Nat) (hw : w < 4294967296) :
    Ct Try.prog w0 12 [.slice ao b.length cap, .int .i64 at', .int .u32 (w : Nat)] K hs (fun v K' hs' => K' = K ∧ v = .bool true) := by
  refine enter Try.func12 (by kernel_rfl) rfl rfl rfl ?_
  refine sq (rg (?_))
  refine fin hT 1 rfl (th (sq (rg (?_))))
  refine cl hT 1 rfl (sealC ao cap b hm x hl) ?_   -- law.go:136 t17
  rintro v17 K17 hs17 ⟨rfl, h17, rfl, ⟨hb17, rfl⟩ | ⟨hb17, ao17, c17, rfl, o17⟩⟩
  · refine fin hT 5 rfl (th (sq (sq (rg (?_)))))
    refine cmp hT 1 rfl (fun h1 => ?_) (fun h1 => absurd (by decide) h1)
    refine fin hT 4 rfl (th (ifT rfl (sq (rg (?_)))))
    refine cl hT 0 rfl aliveC ?_   -- law.go:138 t26
    rintro v26 K26 hs26 ⟨rfl, rfl, rfl⟩
    refine fin hT 1 rfl (th (rt (rT (?_))))
    exact ret1 rfl rfl ⟨rfl, rfl⟩
  · refine fin hT 5 rfl (th (sq (sq (rg (?_)))))
    refine cmp hT 1 rfl (fun h1 => absurd rfl h1) (fun h1 => ?_)
    have hls := sealed_length b
    have hu := uint_le10 (n := b.length) (by omega)
    have hu1 := uint_pos b.length
    refine cmp hT 2 rfl (fun h2 => ?_) (fun h2 => ?_)
    · refine fin hT 1 rfl (th (ifT rfl (sq (rg (?_)))))
      refine cl hT 0 rfl aliveC ?_   -- law.go:138 t26
      rintro v26 K26 hs26 ⟨rfl, rfl, rfl⟩
      refine fin hT 1 rfl (th (rt (rT (?_))))
      exact ret1 rfl rfl ⟨rfl, rfl⟩
    · refine fin hT 1 rfl (th (ifF rfl (sk (th (sq (sq (rg (?_))))))))
      refine ar hT 4 rfl (i64w (by omega)) ?_   -- law.go:140 t31 t30 add 5
      refine cmp hT 0 rfl (fun h3 => absurd h3 (by omega)) (fun h3 => ?_)
      · refine fin hT 0 rfl (th (ifF rfl (sk (th (sq (rg (?_)))))))
        refine ar hT 2 rfl (i64w (by omega)) ?_   -- law.go:143 t35 t34 sub 4
        refine ar hT 2 rfl (v' := .int .i64 (((uint b.length).length : Nat) : Int)) (by rw [i64w (by omega)]; congr 1; omega) ?_
        refine ar hT 0 rfl (v' := .int .i64 ((8 * (uint b.length).length : Nat) : Int)) (by rw [i64w (by omega)]; rfl) ?_
        refine fin hT 1 rfl (th (sq (sq (rg (?_)))))
        refine cmp hT 1 rfl (fun h4 => ?_) (fun h4 => ?_)   -- law.go:144 t41 t40 < 0
        · refine fin hT 8 rfl (th (ifT rfl (sq (rg (?_)))))
          refine cl hT 0 rfl aliveC ?_   -- law.go:145 t50
          rintro v50 K50 hs50 ⟨rfl, rfl, rfl⟩
          refine fin hT 1 rfl (th (rt (rT (?_))))
          exact ret1 rfl rfl ⟨rfl, rfl⟩
        · refine ar hT 4 rfl (i64w (by omega)) ?_   -- law.go:144 t46 8 mul t45
          refine ar hT 0 rfl (i64w (by omega)) ?_   -- law.go:144 t47 t46 add 32
          refine cmp hT 0 rfl (fun h5 => ?_) (fun h5 => ?_)   -- law.go:144 t48 t43 ≥ t47
          · refine fin hT 1 rfl (th (ifT rfl (sq (rg (?_)))))
            refine cl hT 0 rfl aliveC ?_   -- law.go:145 t50
            rintro v50 K50 hs50 ⟨rfl, rfl, rfl⟩
            refine fin hT 1 rfl (th (rt (rT (?_))))
            exact ret1 rfl rfl ⟨rfl, rfl⟩
          · refine fin hT 1 rfl (th (ifF rfl (sk (th (sq (sq (rg (?_))))))))
            obtain ⟨a, rfl⟩ := Int.eq_ofNat_of_zero_le (by omega : 0 ≤ at')
            have hss := sealed_split b
            have hM0 : (b ++ le4 (crc b).toNat).length = b.length + 4 := by simp [le4]
            generalize hN : (sealed b).length = N at *
            rw [hss] at o17
            obtain ⟨hxl, hnc, hcm, ⟨rfl, rfl, rfl⟩ | ⟨g, off, cur0, rfl, rfl, hcs, hct⟩⟩ := o17
            · omega
            have o17 : Own (pt g cur0 5) (some ⟨g, off, none⟩) N c17 5 1 (bv (uint b.length ++ (b ++ le4 (crc b).toNat))) := ⟨hxl, hnc, hcm, .inr ⟨g, off, cur0, rfl, rfl, hcs, hct⟩⟩
            have hux : ux (b ++ le4 (crc b).toNat) = ux (b ++ le4 (crc b).toNat) ^^^ ((w % 2 ^ 0) <<< a) := by simp [Nat.mod_one]
            have hlen : N = (uint b.length).length + (b.length + 4) := by omega
            generalize hM00 : b ++ le4 (crc b).toNat = M0 at *
            generalize huu : uint b.length = u at *
            refine fin hT 1 rfl (th (bk (?_)))
            refine loop (σ := Nat × List UInt8 × Nat × Array Value) (fun s => [(0, .slice ao b.length cap), (1, .int .i64 ((a : Nat) : Int)), (2, .int .u32 ((s.2.2.1 : Nat) : Int)), (7, .slice (some ⟨g, off, none⟩) N c17), (9, .int .i64 ((8 * u.length : Nat) : Int)), (10, .int .i64 ((s.1 : Nat) : Int))]) (fun _ => K17) (fun s => pt g s.2.2.2 5 :: hs)
              (fun s => s.1 ≤ 32 ∧ s.2.1.length = b.length + 4 ∧ s.2.2.1 < 4294967296 ∧ ux s.2.1 = ux M0 ^^^ ((s.2.2.1 % 2 ^ s.1) <<< a) ∧ s.2.2.2.size = off + c17 ∧ (s.2.2.2.toList.drop off).take N = bv (u ++ s.2.1) ∧ Own (pt g s.2.2.2 5) (some ⟨g, off, none⟩) N c17 5 1 (bv (u ++ s.2.1))) (fun s => 32 - s.1)
              (0, M0, w, cur0) ⟨by omega, hM0, hw, hux, by dsimp only; omega, by rw [Nat.mul_one] at hct; exact hct, o17⟩ ⟨rfl, rfl, rfl, rfl, rfl, rfl, trivial⟩ rfl rfl ?_
            rintro ⟨k, M, w, cur⟩ ⟨hk, hM, hw, hux, hcs, hct, o⟩
            dsimp only at hk hM hw hux hcs hct o ⊢
            refine sq (sq (rg (?_)))
            refine cmp hT 1 rfl (fun h6 => ?_) (fun h6 => ?_)   -- law.go:147 t52 t51 < 32
            · have hk32 : k < 32 := by omega
              refine fin hT 0 rfl (th (ifT rfl (sk (th (sq (bk (sq (rg (?_)))))))))
              refine ar hT 2 rfl (v' := .int .i64 ((8 * u.length + a : Nat) : Int)) (by rw [i64w (by omega)]; rfl) ?_
              refine ar hT 1 rfl (v' := .int .i64 ((8 * u.length + a + k : Nat) : Int)) (by rw [i64w (by omega)]; rfl) ?_
              refine fin hT 1 rfl (th (sq (rg (?_))))
              refine shf hT 2 rfl (by omega) (.inr ⟨rfl, (u32shrN w k (by omega))⟩) ?_   -- law.go:149 t62 t60 shr t61
              refine ar hT 0 rfl (u32and1N _) ?_   -- law.go:149 t63 t62 and 1
              refine cmp hT 0 rfl (fun h7 => ?_) (fun h7 => ?_)   -- law.go:149 t64 t63 = 1
              · refine ar hT 2 rfl (i64quoN _ 8 (by omega)) ?_   -- law.go:149 t67 t66 quo 8
                refine cmp hT 2 rfl (fun h8 => ?_) (fun h8 => ?_)   -- law.go:149 t70 t67 < t69
                · have hbit : w / 2 ^ k % 2 = 1 := by omega
                  have hj : (a + k) / 8 < M.length := by omega
                  have hr : (a + k) % 8 < 8 := by omega
                  have hgv : (bv (u ++ M))[u.length + (a + k) / 8]? = some (.int .u8 (M[(a + k) / 8].toNat : Nat)) := by simp [bv, List.getElem?_append_right, List.getElem?_eq_getElem hj]
                  have hcell := cur_get hct hgv
                  have hp8 := pow8 _ hr
                  have hc8 := M[(a + k) / 8].toNat_lt
                  have hv8 : (UInt8.ofNat (M[(a + k) / 8].toNat ^^^ (1 <<< ((a + k) % 8)))).toNat = M[(a + k) / 8].toNat ^^^ (1 <<< ((a + k) % 8)) := UInt8.toNat_ofNat_of_lt' (Nat.xor_lt_two_pow (n := 8) hc8 (by rw [Nat.one_shiftLeft]; omega))
                  have hset := ux_set M ((a + k) / 8) ((a + k) % 8) hj _ hv8
                  refine fin hT 1 rfl (th (ifT rfl (rga [pt g cur 5] 10 [0, 2, 4, 6, 8, 10, 12, 14, 16, 18, 21] (by simp) (by kernel_rfl) (by kernel_rfl) ?_)))
                  refine dar hT (by kernel_rfl) 2 rfl (v' := .int .i64 ((u.length + (a + k) / 8 : Nat) : Int)) ((i64quoN _ 8 (by omega)).trans (by congr 2; omega)) ?_
                  refine dixs hT (by kernel_rfl) 0 (u.length + (a + k) / 8) rfl rfl (by omega) ?_   -- law.go:150 t75 t72[t74]
                  simp only [add_mk, Nat.mul_one]
                  refine dldpw hT (by kernel_rfl) 0 0 rfl (by kernel_rfl) rfl hcell ?_
                  refine dar hT (by kernel_rfl) 1 rfl (v' := .int .i64 (((a + k) % 8 : Nat) : Int)) ((u_rem .i64 _ 8).trans (by congr 2; omega)) ?_
                  refine dshf hT (by kernel_rfl) 0 rfl (by omega) (.inl ⟨rfl, (u8shl1 _ hr)⟩) ?_   -- law.go:150 t79 1 shl t78
                  refine dar hT (by kernel_rfl) 0 rfl (u8xorN _ _ hc8 (by rw [Nat.one_shiftLeft]; omega)) ?_
                  refine dixs hT (by kernel_rfl) 0 (u.length + (a + k) / 8) rfl rfl (by omega) ?_   -- law.go:150 t81 t72[t74]
                  simp only [add_mk, Nat.mul_one]
                  refine dact hT (by kernel_rfl) 0 rfl ?_
                  refine stp hT 0 0 rfl rfl hcell rfl ?_
                  refine dnext (.inl (by kernel_rfl)) ?_
                  refine dend hT (by kernel_rfl) 0 rfl (bl (th (rg (?_))))
                  refine ar hT 1 rfl (i64w (by omega)) ?_   -- law.go:147 t54 t53 add 1
                  refine fin hT 1 rfl (?_)
                  have hbs := bv_set u M ((a + k) / 8) (UInt8.ofNat (M[(a + k) / 8].toNat ^^^ (1 <<< ((a + k) % 8))))
                  have o' := Own.set1 o (by omega) (by rw [Nat.mul_one]; exact hct) (u.length + (a + k) / 8) (.int .u8 ((UInt8.ofNat (M[(a + k) / 8].toNat ^^^ (1 <<< ((a + k) % 8)))).toNat : Nat))
                  rw [hbs] at o'
                  rw [hv8] at o'
                  have e2 := turn1 (ux M0) w k a hbit
                  rw [← hux, show a + k = 8 * ((a + k) / 8) + (a + k) % 8 from by omega, ← hset] at e2
                  exact again (x := (k, M, w, cur)) (k + 1, M.set ((a + k) / 8) (UInt8.ofNat (M[(a + k) / 8].toNat ^^^ (1 <<< ((a + k) % 8)))), w, cur.setIfInBounds (off + (u.length + (a + k) / 8)) (.int .u8 ((M[(a + k) / 8].toNat ^^^ (1 <<< ((a + k) % 8)) : Nat) : Int))) ⟨rfl, rfl, rfl, rfl, rfl, rfl, trivial⟩ rfl rfl ⟨hk32, by rw [List.length_set]; exact hM, hw, e2, by simpa using hcs, by have := own_cells o'; rw [Nat.mul_one] at this; exact this, o'⟩ (by dsimp only; omega)
                · refine fin hT 1 rfl (th (ifF rfl (sq (rg (?_)))))
                  refine shf hT 2 rfl (by omega) (.inr ⟨rfl, (u32shrN w k (by omega))⟩) ?_   -- law.go:151 t84 t82 shr t83
                  refine ar hT 0 rfl (u32and1N _) ?_   -- law.go:151 t85 t84 and 1
                  refine cmp hT 0 rfl (fun h9 => ?_) (fun h9 => absurd h7 h9)
                  · refine fin hT 0 rfl (th (ifT rfl (rg (?_))))
                    refine shf hT 2 rfl (by omega) (.inl ⟨rfl, (u32shl1 k hk32)⟩) ?_   -- law.go:152 t89 1 shl t88
                    refine ar hT 0 rfl (u32strike w k) ?_   -- law.go:152 t90 t87 andNot t89
                    refine fin hT 1 rfl (bl (th (rg (?_))))
                    refine ar hT 1 rfl (i64w (by omega)) ?_   -- law.go:147 t54 t53 add 1
                    refine fin hT 1 rfl (?_)
                    exact again (x := (k, M, w, cur)) (k + 1, M, strike w k, cur) ⟨rfl, rfl, rfl, rfl, rfl, rfl, trivial⟩ rfl rfl ⟨hk32, hM, strike_lt _ _, by rw [strike_mod w k hw hk32]; exact hux, hcs, hct, o⟩ (by dsimp only; omega)
              · refine fin hT 7 rfl (th (ifF rfl (sq (rg (?_)))))
                refine shf hT 2 rfl (by omega) (.inr ⟨rfl, (u32shrN w k (by omega))⟩) ?_   -- law.go:151 t84 t82 shr t83
                refine ar hT 0 rfl (u32and1N _) ?_   -- law.go:151 t85 t84 and 1
                refine cmp hT 0 rfl (fun h10 => absurd h10 h7) (fun h10 => ?_)
                · refine fin hT 0 rfl (th (ifF rfl (sk (bl (th (rg (?_)))))))
                  refine ar hT 1 rfl (i64w (by omega)) ?_   -- law.go:147 t54 t53 add 1
                  refine fin hT 1 rfl (?_)
                  exact again (x := (k, M, w, cur)) (k + 1, M, w, cur) ⟨rfl, rfl, rfl, rfl, rfl, rfl, trivial⟩ rfl rfl ⟨hk32, hM, hw, by rw [mod_succ0 w k (by omega)]; exact hux, hcs, hct, o⟩ (by dsimp only; omega)
            · obtain rfl : k = 32 := by omega
              rw [Nat.mod_eq_of_lt (by omega)] at hux
              have hql : (u ++ M).length = N := by rw [List.length_append]; omega
              rw [← hql] at o ⊢
              refine fin hT 0 rfl (th (ifF rfl (ex (xt (xt (xb (th (sq (rg (?_))))))))))
              refine cl hT 1 rfl (unsealC _ c17 (u ++ M) (.inr ⟨0, rfl⟩) o.isS (by omega)) ?_   -- law.go:155 t93
              rintro v93 K93 hs93 ⟨rfl, h93, rfl, ao93, c93, rfl, o93⟩
              refine fin hT 7 rfl (th (sq (rg (?_))))
              refine cl hT 0 rfl aliveC ?_   -- law.go:156 t97
              rintro v97 K97 hs97 ⟨rfl, rfl, rfl⟩
              refine cmp hT 2 rfl (fun h11 => ?_) (fun h11 => ?_)   -- law.go:156 t100 t99 = 0
              · refine fin hT 6 rfl (th (rt (?_)))
                exact ret1 rfl rfl ⟨rfl, rfl⟩
              · have hne : un4 (M.drop b.length) ≠ (crc (M.take b.length)).toNat := burst (p := b) (t := le4 (crc b).toNat) (w := w) (a := a) rfl (by simp; omega) (by simp; omega) (un4_le4 _ (crc b).isLt) hw (by omega) (by rw [hM00]; omega) (by rw [List.take_append_drop, hM00]; exact hux)
                refine cmp hT 2 rfl (fun h12 => ?_) (fun h12 => absurd (unsealed_burst huu.symm hM hb17 hne) h12)
                · refine fin hT 3 rfl (th (rt (?_)))
                  exact ret1 rfl rfl ⟨rfl, rfl⟩
end Go.Proofs.Ythgllplhhanpkaa
