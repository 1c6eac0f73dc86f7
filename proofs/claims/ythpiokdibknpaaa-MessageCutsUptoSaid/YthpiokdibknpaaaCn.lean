/-
  What the codec unseals.
-/
import Derived.Test.YthpiokdibknpaaaCp
import Derived.Test.YthpiokdibknpaaaDx
namespace Go.Proofs.Ythpiokdibknpaaa
open Go.En
set_option linter.unusedVariables false
attribute [local irreducible] Code.wp wpList Calls

theorem unsealC {w0 : World} {K hb : PH} {hs : List PH} (ao : Option Addr) (cap : Nat) (b : List UInt8) (hm : In K hs hb) (x : IsS hb ao b.length cap 1 (bv b)) (hl : b.length < 1099511627776) :
    Ct Try.prog w0 57 [.slice ao b.length cap] K hs
      (fun v K' hs' => K' = K ∧ ∃ h', hs' = h' :: hs ∧ ∃ ao' c', v = .tuple #[.slice ao' (unsealed b).1.length c', .int .i64 ((unsealed b).2.1 : Nat), .int .i64 (unsealed b).2.2] ∧ Own h' ao' (unsealed b).1.length c' 5 1 (bv (unsealed b).1)) := by
  refine enter Try.func57 (by kernel_rfl) rfl rfl rfl ?_
  refine sq (rg (?_))
  refine fin hT 3 rfl (th (sq (rg (?_))))
  refine bd hT 1 (.agg #[.slice ao b.length cap, .int .i64 0]) rfl (fun w => by kernel_rfl) ?_
  refine al hT 0 (.agg #[.slice none 0 0, .int .i64 0]) rfl (by kernel_rfl) fun b5 => ?_   -- codec.go:140 t5
  refine sts hT 0 0 rfl rfl (by kernel_rfl) (Nat.le_refl _) (by intro v hv; simp at hv; rcases hv with rfl | rfl <;> rfl) ?_
  refine fin hT 0 rfl (th (sq (rg (?_))))
  refine cl hT 0 rfl (bytesC hm 2097152 (by omega) (b, 0) hl ⟨ao, cap, rfl, x⟩) ?_   -- codec.go:141 t12
  rintro v12 K12 hs12 ⟨h', new, rfl, rfl, hx, aox, cx, rfl, rfl, ox, aor, cr, rfl, xr⟩
  have hun : unsealed b = unsealedOf b (rBytes 2097152 (b, 0)) := rfl
  obtain ⟨hb1, hb2⟩ := rBytes_bd 2097152 b 0
  rw [hun]
  generalize rBytes 2097152 (b, 0) = Y at *
  obtain ⟨xx, rr, ee⟩ := Y
  dsimp only at ox xr hb1 hb2 ⊢
  refine fin hT 1 rfl (th (sq (sq (rg (?_)))))
  refine ldp hT 1 1 rfl rfl rfl ?_   -- codec.go:142 t14 *t13
  refine cmp hT 0 rfl (fun h1 => ?_) (fun h1 => ?_)   -- codec.go:142 t15 t14 = 0
  · refine ldp hT 2 1 rfl rfl rfl ?_   -- codec.go:142 t18 *t17
    refine cmp hT 1 rfl (fun h2 => ?_) (fun h2 => ?_)   -- codec.go:142 t20 t19 < 4
    · refine fin hT 1 rfl (th (ifT rfl (rg (?_))))
      refine stp hT 1 1 rfl rfl rfl rfl ?_   -- codec.go:143 tNone t22 := 20
      refine fin hT 0 rfl (th (sq (sq (rg (?_)))))
      refine ldp hT 1 1 rfl rfl rfl ?_   -- codec.go:145 t24 *t23
      refine cmp hT 0 rfl (fun h3 => ?_) (fun h3 => absurd (by decide) h3)
      · subst h1
        have hu : unsealedOf b (xx, rr, 0) = ([], 0, 20) := by unfold unsealedOf; rw [if_neg (by simp), if_pos (by dsimp only; omega)]
        refine fin hT 0 rfl (th (ifT rfl (sq (rga [pt b5 #[.slice aor rr.length cr, .int .i64 20] 104] 5 [0, 2, 4, 6, 8] (by simp) (by kernel_rfl) (by kernel_rfl) ?_))))
        refine dldp hT (by kernel_rfl) 1 0 rfl rfl rfl ?_   -- codec.go:146 t27 *t26
        refine dend hT (by kernel_rfl) 3 rfl (th (rt (rT (?_))))
        rw [hu]
        refine WQ.drop (WQ.drop (WQ.em ?_))
        exact ret3 rfl rfl rfl rfl ⟨rfl, _, rfl, none, 0, rfl, Own.nil _ _⟩
    · refine fin hT 1 rfl (th (ifF rfl (sk (th (sq (sq (rg (?_))))))))
      refine ldp hT 1 1 rfl rfl rfl ?_   -- codec.go:145 t24 *t23
      refine cmp hT 0 rfl (fun h6 => absurd h1 h6) (fun h6 => ?_)
      · subst h1
        refine fin hT 0 rfl (th (ifF rfl (sk (th (sq (rg (?_)))))))
        refine fin hT 1 rfl (th (sq (sq (rg (?_)))))
        refine ldp hT 1 1 rfl rfl rfl ?_   -- codec.go:149 t29 *t28
        have h4 : 4 ≤ rr.length := by omega
        refine sl hT 0 0 4 rfl xr rfl rfl (by omega) (ys := bv (rr.take 4)) (by simp [bv, List.map_take]) fun ao30 c30 x30 => ?_   -- codec.go:149 t30 [['Operand.tmp', 29], 'none', ['some', ['Operand.const', ['Value.int', 'IntKind.i64', 4]]], 'none']
        have hq : (rr.take 4).length = 4 := by simp; omega
        have hu : unsealedOf b (xx, rr, 0) = if un4 (rr.take 4) = (crc xx).toNat then (xx, b.length - rr.length + 4, 0) else ([], 0, 24) := by unfold unsealedOf; rw [if_neg (by simp), if_neg (by dsimp only; omega)]
        rw [hu]
        generalize rr.take 4 = q at *
        refine fin hT 2 rfl (th (bk (?_)))
        refine loop (σ := Nat) (fun k => [(0, .slice ao b.length cap), (5, .pointer (some ⟨b5, 0, none⟩)), (6, .slice aox xx.length cx), (7, .int .u32 ((un4 (q.take k) : Nat) : Int)), (30, .slice ao30 4 c30), (31, .int .i64 4), (32, .int .i64 (k : Nat))]) (fun _ => K12) (fun _ => [hx] ++ pt b5 #[.slice aor rr.length cr, .int .i64 0] 104 :: hs) (fun k => k ≤ 4) (fun k => 4 - k) 0 (by omega) ⟨rfl, rfl, rfl, rfl, rfl, rfl, rfl, trivial⟩ rfl rfl ?_
        intro k hk
        refine sq (rg (?_))
        refine cmp hT 0 rfl (fun h7 => ?_) (fun h7 => ?_)   -- codec.go:149 t33 t32 < t31
        · refine fin hT 0 rfl (th (sq (ifT rfl (sk (th (sq (bk (sq (rg (?_))))))))))
          have hk4 : k < 4 := by omega
          have hkq : k < q.length := by omega
          obtain ⟨hs1, hs2⟩ := un4_take q k hkq
          have hbd := un4_lt (q.take k) k (Nat.le_of_eq hs2)
          refine ix1 hT 1 k rfl rfl rfl x30 (bv_get hkq) fun a35 hc35 => ?_   -- codec.go:149 t35 t30[t32]
          refine ld hT 0 rfl (In.cons (In.cons hm)) hc35 ?_
          refine fin hT 2 rfl (th (rg (?_)))
          refine ar hT 2 rfl (u32w (by have := (q[k]).toNat_lt; omega)) ?_
          refine ar hT 1 rfl (i64w (by omega)) ?_   -- codec.go:150 t41 8 mul t40
          refine shf hT 0 rfl (by omega) (.inl ⟨rfl, u32shl8 _ k hk4 (q[k]).toNat_lt⟩) ?_
          refine ar hT 0 rfl (u32or8 _ _ k hk4 hbd (q[k]).toNat_lt) ?_   -- codec.go:150 t43 t37 or t42
          refine fin hT 1 rfl (bl (th (rg (?_))))
          refine ar hT 0 rfl (i64w (by omega)) ?_   -- codec.go:149 t44 t32 add 1
          refine fin hT 1 rfl (?_)
          exact again (x := k) (k + 1) ⟨rfl, rfl, rfl, by rw [hs1]; rfl, rfl, rfl, rfl, trivial⟩ rfl rfl (by omega) (by omega)
        · obtain rfl : k = 4 := by omega
          rw [List.take_of_length_le (by omega : q.length ≤ 4)]
          refine fin hT 0 rfl (th (sq (ifF rfl (ex (xt (xt (xb (th (sq (sq (rg (?_))))))))))))
          refine cl hT 2 rfl (sumC aox cx xx (.inr ⟨0, rfl⟩) ox.isS (by omega)) ?_   -- codec.go:152 t47
          rintro v47 K47 hs47 ⟨rfl, rfl, rfl⟩
          refine cmp hT 0 rfl (fun h8 => ?_) (fun h8 => ?_)   -- codec.go:152 t48 t45 ≠ t47
          · refine fin hT 0 rfl (th (ifT rfl (sq (rg (?_)))))
            refine fin hT 3 rfl (th (rt (rT (?_))))
            rw [if_neg (by omega)]
            refine WQ.drop (WQ.drop (WQ.em ?_))
            exact ret3 rfl rfl rfl rfl ⟨rfl, _, rfl, none, 0, rfl, Own.nil _ _⟩
          · refine fin hT 0 rfl (th (ifF rfl (sk (th (sq (rga [pt b5 #[.slice aor rr.length cr, .int .i64 0] 104] 11 [0, 2, 4, 6, 8, 10, 12, 14, 16, 18, 20] (by simp) (by kernel_rfl) (by kernel_rfl) ?_))))))
            refine dldp hT (by kernel_rfl) 4 0 rfl rfl rfl ?_   -- codec.go:155 t53 *t52
            refine dar hT (by kernel_rfl) 1 rfl (i64w (by omega)) ?_   -- codec.go:155 t55 t51 sub t54
            refine dar hT (by kernel_rfl) 0 rfl (v' := .int .i64 ((b.length - rr.length + 4 : Nat) : Int)) (by rw [i64w (by omega)]; congr 1; omega) ?_
            refine dend hT (by kernel_rfl) 3 rfl (th (rt (?_)))
            rw [if_pos (by omega)]
            refine WQ.perm (List.Perm.swap _ _ _) (WQ.drop ?_)
            exact ret3 rfl rfl rfl rfl ⟨rfl, hx, rfl, aox, cx, rfl, ox⟩
  · refine fin hT 6 rfl (th (ifF rfl (sk (th (sq (sq (rg (?_))))))))
    refine ldp hT 1 1 rfl rfl rfl ?_   -- codec.go:145 t24 *t23
    refine cmp hT 0 rfl (fun h9 => ?_) (fun h9 => absurd h1 h9)
    · have hu : unsealedOf b (xx, rr, ee) = ([], 0, ee) := by unfold unsealedOf; rw [if_pos h1]
      refine fin hT 0 rfl (th (ifT rfl (sq (rga [pt b5 #[.slice aor rr.length cr, .int .i64 ee] 104] 5 [0, 2, 4, 6, 8] (by simp) (by kernel_rfl) (by kernel_rfl) ?_))))
      refine dldp hT (by kernel_rfl) 1 0 rfl rfl rfl ?_   -- codec.go:146 t27 *t26
      refine dend hT (by kernel_rfl) 3 rfl (th (rt (rT (?_))))
      rw [hu]
      refine WQ.drop (WQ.drop (WQ.em ?_))
      exact ret3 rfl rfl rfl rfl ⟨rfl, _, rfl, none, 0, rfl, Own.nil _ _⟩
end Go.Proofs.Ythpiokdibknpaaa
