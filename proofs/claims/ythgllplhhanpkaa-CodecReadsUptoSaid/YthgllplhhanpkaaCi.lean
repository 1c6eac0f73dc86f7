/-
  The law of readers.
-/
import Derived.Test.YthgllplhhanpkaaCl
import Derived.Test.YthgllplhhanpkaaEt
import Derived.Test.YthgllplhhanpkaaZd
namespace Go.Proofs.Ythgllplhhanpkaa
open Go.En
set_option linter.unusedVariables false
attribute [local irreducible] Code.wp wpList Calls

abbrev ROp := RP (RI .i64) (RP (RI .i64) (RP (RI .u64) R0))
theorem ops_get : ∀ {css : List (List Value)} {xs : List (Int × Int × Int × Unit)} {j : Nat}, All2 ROp css xs → j < xs.length →
    ∃ (k n : Int) (m : Nat), n ≤ 9223372036854775807 ∧ m < 18446744073709551616 ∧ ∀ (i : Nat) v, ([.int .i64 k, .int .i64 n, .int .u64 ((m : Nat) : Int)] : List Value)[i]? = some v → css.flatten[j * 3 + i]? = some v
  | [], [], j, _, h => by simp at h
  | [], _ :: _, j, g, h => g.elim
  | _ :: _, [], j, g, h => g.elim
  | c :: css, (k, n, m, u) :: xs, j, g, h => by
    obtain ⟨⟨c1, c2, rfl, ⟨rfl, hk⟩, c3, c4, rfl, ⟨rfl, hn⟩, c5, c6, rfl, ⟨rfl, hm⟩, rfl⟩, g2⟩ := g
    cases j with
    | zero =>
      have hn' : -9223372036854775808 ≤ n ∧ n ≤ 9223372036854775807 := by simpa [Lit.wf, IntKind.min, IntKind.max, IntKind.signed, IntKind.bits] using hn
      have hm' : 0 ≤ m ∧ m ≤ 18446744073709551615 := by simpa [Lit.wf, IntKind.min, IntKind.max, IntKind.signed, IntKind.bits] using hm
      obtain ⟨m', rfl⟩ := Int.eq_ofNat_of_zero_le hm'.1
      refine ⟨k, n, m', by omega, by omega, fun i v hv => ?_⟩
      have hi : i < 3 := by have := (List.getElem?_eq_some_iff.1 hv).1; simpa using this
      obtain rfl | rfl | rfl : i = 0 ∨ i = 1 ∨ i = 2 := by omega
      all_goals simpa using hv
    | succ j =>
      obtain ⟨k', n', m', h1, h2, h3⟩ := ops_get g2 (by simpa using h : j < xs.length)
      refine ⟨k', n', m', h1, h2, fun i v hv => ?_⟩
      have := h3 i v hv
      rw [show (j + 1) * 3 + i = (j * 3 + i) + 1 + 1 + 1 from by omega]
      simpa using this
theorem lawReads {w0 : World} {K hb : PH} {hs : List PH} (ao : Option Addr) (cap : Nat) (b : List UInt8) (hm : In K [] hb) (x : IsS hb ao b.length cap 1 (bv b)) (hl : b.length < 1099511627776) (aos : Option Addr) (caps : Nat) (css : List (List Value)) (xs : List (Int × Int × Int × Unit)) (xS : IsS K aos xs.length caps 3 css.flatten) (hx : All2 ROp css xs) (hlx : xs.length < 1099511627776) :
    Ct Try.prog w0 13 [.slice ao b.length cap, .slice aos xs.length caps] K hs (fun v K' hs' => K' = K ∧ v = .bool true) := by
  obtain rfl : hb = K := hm.elim id (fun ⟨i, hi⟩ => by simp at hi)
  refine enter Try.func13 (by kernel_rfl) rfl rfl rfl ?_
  refine sq (rg (?_))
  refine fin hT 1 rfl (th (sq (rg (?_))))
  refine cl hT 1 rfl (readC ao cap b (.inl rfl) x hl) ?_   -- law.go:41 t17
  rintro v17 K17 hs17 ⟨rfl, rb, h, hb', rfl, rfl, rd⟩
  refine fin hT 1 rfl (th (sq (rg (?_))))
  refine bd hT 1 (rv ao b.length cap 0 0) rfl (fun w => by kernel_rfl) ?_   -- law.go:42 t19
  refine al hT 0 (.agg #[.slice none 0 0, .int .i64 0, .int .i64 0]) rfl (by kernel_rfl) fun b6 => ?_   -- law.go:42 t6
  refine stS hT 0 0 rfl rfl (by kernel_rfl) rfl rfl ?_   -- law.go:42 tNone t6 := t19
  refine WL.perm (List.Perm.swap _ _ _) ?_
  refine fin hT 0 rfl (th (sq (sq (rg (?_)))))
  refine cb hT 1 rfl (fun h1 => by simp at h1) (fun h1 => ?_)   -- law.go:43 t21 t20 = c
  refine cl hT 1 rfl aliveC ?_   -- law.go:43 t23
  rintro v23 K23 hs23 ⟨rfl, rfl, rfl⟩
  refine fin hT 2 rfl (th (ifF rfl (sk (th (sq (sq (rg (?_))))))))
  refine fin hT 3 rfl (th (bk (?_)))
  refine loop (σ := Nat × Nat × Int × PH) (fun s => [(0, .slice ao b.length cap), (5, .pointer (some ⟨rb, 0, none⟩)), (6, .pointer (some ⟨b6, 0, none⟩)), (26, .slice aos xs.length caps), (27, .int .i64 ((xs.length : Nat) : Int)), (28, .int .i64 ((s.1 : Nat) : Int))]) (fun _ => K23) (fun s => [s.2.2.2, pt b6 #[.slice ao b.length cap, .int .i64 ((s.2.1 : Nat) : Int), .int .i64 s.2.2.1] 50, hb'] ++ hs) (fun s => s.1 ≤ xs.length ∧ s.2.1 ≤ b.length ∧ IsRd rb hb' (b.drop s.2.1, s.2.2.1) s.2.2.2) (fun s => xs.length - s.1) (0, 0, 0, h) ⟨Nat.zero_le _, Nat.zero_le _, by simpa using rd⟩ ⟨rfl, rfl, rfl, rfl, rfl, rfl, trivial⟩ rfl rfl ?_
  clear rd
  rintro ⟨j, p, e, h⟩ ⟨hj, hp, rd⟩
  dsimp only at hj hp rd ⊢
  refine sq (rg (?_))
  refine cmp hT 0 rfl (fun h2 => ?_) (fun h2 => ?_)   -- law.go:46 t29 t28 < t27
  · have hjl : j < xs.length := by omega
    obtain ⟨k, n, m, hn, hmm, hc⟩ := ops_get hx hjl
    refine fin hT 0 rfl (th (sq (ifT rfl (sk (th (sq (bk (sq (rg (?_))))))))))
    refine ixs hT 0 j rfl rfl xS hjl (by decide) fun a30 ha30 => ?_
    refine lds hT 0 [.int .i64 k, .int .i64 n, .int .u64 ((m : Nat) : Int)] rfl (by kernel_rfl) (.inl rfl) (fun i v hv => ?_) ?_
    · obtain ⟨a', h1, h2⟩ := xS.2.2 (j * 3 + i) v (hc i v hv)
      rw [ha30] at h1
      cases h1
      rw [Deep.add_add]
      exact h2
    refine al hT 0 (.agg #[.int .i64 0, .int .i64 0, .int .u64 0]) rfl (by kernel_rfl) fun b8 => ?_   -- law.go:46 t8
    refine stS hT 0 0 rfl rfl (by kernel_rfl) rfl rfl ?_   -- law.go:46 tNone t8 := t31
    refine WL.perm (List.Perm.swap _ _ _) ?_
    refine fin hT 0 rfl (th (sq (rg (?_))))
    refine fin hT 1 rfl (th (jn (σ := Nat × Int × PH) (fun s => [(0, .slice ao b.length cap), (5, .pointer (some ⟨rb, 0, none⟩)), (6, .pointer (some ⟨b6, 0, none⟩)), (26, .slice aos xs.length caps), (27, .int .i64 ((xs.length : Nat) : Int)), (28, .int .i64 ((j : Nat) : Int)), (9, .bool true)]) (fun s => [s.2.2, pt b6 #[.slice ao b.length cap, .int .i64 ((s.1 : Nat) : Int), .int .i64 s.2.1] 50, hb'] ++ hs) (fun s => s.1 ≤ b.length ∧ IsRd rb hb' (b.drop s.1, s.2.1) s.2.2) ?_ ?_))
    · refine sq (rg (?_))
      refine ldp hT 1 1 rfl rfl rfl ?_   -- law.go:48 t33 *t32
      refine fin hT 0 rfl (th (bk (sq (rg (?_)))))
      refine cmp hT 0 rfl (fun h3 => ?_) (fun h3 => ?_)   -- law.go:49 t35 t33 = 0
      · refine fin hT 1 rfl (th (ifT rfl (sq (rg (?_)))))
        refine ldS hT 0 2 rfl rfl (by kernel_rfl) ?_   -- law.go:50 t37 t6
        refine cl hT 0 rfl (byteRef ao cap b (.inl rfl) x hl p e hp) ?_   -- law.go:50 t38
        rintro v38 K38 hs38 ⟨rfl, rfl, p1, hp1, rfl, hd1⟩
        refine al hT 3 (.agg #[.slice none 0 0, .int .i64 0, .int .i64 0]) rfl (by kernel_rfl) fun b10 => ?_   -- law.go:50 t10
        refine stS hT 0 0 rfl rfl (by kernel_rfl) rfl rfl ?_   -- law.go:50 tNone t10 := t39
        refine WL.perm (List.Perm.swap _ _ _) ?_
        refine fin hT 1 rfl (th (rga [pt b10 #[.slice ao b.length cap, .int .i64 ((p1 : Nat) : Int), .int .i64 (rByte (b.drop p, e)).2.2] 50] 7 [0, 2, 6, 5, 8, 11, 12] (by simp) (by kernel_rfl) (by kernel_rfl) ?_))
        refine dldS hT (by kernel_rfl) 0 0 rfl (by kernel_rfl) rfl (by kernel_rfl) ?_   -- law.go:51 t41 t10
        refine dact hT (by kernel_rfl) 2 rfl ?_
        refine cl hT 0 rfl (byteC (.inr ⟨3, rfl⟩) (b.drop p, e) rd) ?_   -- law.go:51 t43
        rintro v43 K43 hs43 ⟨h1, rfl, rfl, rfl, rd1⟩
        refine dnex [pt b10 #[.slice ao b.length cap, .int .i64 ((p1 : Nat) : Int), .int .i64 (rByte (b.drop p, e)).2.2] 50] (by simp) (by simp) rfl ?_
        refine dcmp hT (by kernel_rfl) 0 ((((rByte (b.drop p, e)).1 : Nat) : Int) = ((rByte (b.drop p, e)).1 : Nat)) rfl (by simp) (fun h4 => ?_) (fun h4 => absurd rfl h4)   -- law.go:51 t45 t43 = t44
        refine dact hT (by kernel_rfl) 0 rfl ?_
        refine stS hT 0 3 rfl rfl (by kernel_rfl) rfl rfl ?_   -- law.go:51 tNone t6 := t41
        refine dnex [pt b10 #[.slice ao b.length cap, .int .i64 ((p1 : Nat) : Int), .int .i64 (rByte (b.drop p, e)).2.2] 50] (by simp) (by simp) rfl ?_
        refine dend hT (by kernel_rfl) 1 rfl (bl (WQ.perm (List.perm_middle (l₁ := [_, _])).symm (WQ.drop (WQ.drop ?_))))
        exact jx (p1, (rByte (b.drop p, e)).2.2, h1) ⟨hp1, by dsimp only; rw [← hd1]; exact rd1⟩ ⟨rfl, rfl, rfl, rfl, rfl, rfl, rfl, trivial⟩ rfl rfl
      · refine fin hT 1 rfl (th (ifF rfl (sq (rg (?_)))))
        refine cmp hT 0 rfl (fun h5 => ?_) (fun h5 => ?_)   -- law.go:52 t47 t33 = 1
        · refine fin hT 1 rfl (th (ifT rfl (sq (rg (?_)))))
          refine ldS hT 0 2 rfl rfl (by kernel_rfl) ?_   -- law.go:53 t49 t6
          refine ldp hT 1 1 rfl rfl rfl ?_   -- law.go:53 t51 *t50
          refine cl hT 0 rfl (getUintRef ao cap b (.inl rfl) x hl p e hp m) ?_   -- law.go:53 t52
          rintro v52 K52 hs52 ⟨rfl, rfl, p1, hp1, rfl, hd1⟩
          refine al hT 3 (.agg #[.slice none 0 0, .int .i64 0, .int .i64 0]) rfl (by kernel_rfl) fun b12 => ?_   -- law.go:53 t12
          refine stS hT 0 0 rfl rfl (by kernel_rfl) rfl rfl ?_   -- law.go:53 tNone t12 := t53
          refine WL.perm (List.Perm.swap _ _ _) ?_
          refine fin hT 1 rfl (th (rga [pt b12 #[.slice ao b.length cap, .int .i64 ((p1 : Nat) : Int), .int .i64 (rUint m (b.drop p, e)).2.2] 50, pt b8 #[.int .i64 k, .int .i64 n, .int .u64 ((m : Nat) : Int)] 52] 9 [0, 2, 4, 6, 10, 9, 12, 15, 16] (by simp) (by kernel_rfl) (by kernel_rfl) ?_))
          refine dldS hT (by kernel_rfl) 0 0 rfl (by kernel_rfl) rfl (by kernel_rfl) ?_   -- law.go:54 t55 t12
          refine dldp hT (by kernel_rfl) 2 1 rfl rfl rfl ?_   -- law.go:54 t58 *t57
          refine dact hT (by kernel_rfl) 1 rfl ?_
          refine cl hT 0 rfl (uintC (.inr ⟨3, rfl⟩) m (b.drop p, e) (by simp only [List.length_drop]; omega) rd) ?_   -- law.go:54 t59
          rintro v59 K59 hs59 ⟨h1, rfl, rfl, rfl, rd1⟩
          refine dnex [pt b12 #[.slice ao b.length cap, .int .i64 ((p1 : Nat) : Int), .int .i64 (rUint m (b.drop p, e)).2.2] 50, pt b8 #[.int .i64 k, .int .i64 n, .int .u64 ((m : Nat) : Int)] 52] (by simp) (by simp) rfl ?_
          refine dcmp hT (by kernel_rfl) 0 ((((rUint m (b.drop p, e)).1 : Nat) : Int) = ((rUint m (b.drop p, e)).1 : Nat)) rfl (by simp) (fun h6 => ?_) (fun h6 => absurd rfl h6)   -- law.go:54 t61 t59 = t60
          refine dact hT (by kernel_rfl) 0 rfl ?_
          refine stS hT 0 3 rfl rfl (by kernel_rfl) rfl rfl ?_   -- law.go:54 tNone t6 := t55
          refine dnex [pt b12 #[.slice ao b.length cap, .int .i64 ((p1 : Nat) : Int), .int .i64 (rUint m (b.drop p, e)).2.2] 50, pt b8 #[.int .i64 k, .int .i64 n, .int .u64 ((m : Nat) : Int)] 52] (by simp) (by simp) rfl ?_
          refine dend hT (by kernel_rfl) 1 rfl (bl (WQ.perm (List.perm_middle (l₁ := [_, _])).symm (WQ.drop (WQ.drop ?_))))
          exact jx (p1, (rUint m (b.drop p, e)).2.2, h1) ⟨hp1, by dsimp only; rw [← hd1]; exact rd1⟩ ⟨rfl, rfl, rfl, rfl, rfl, rfl, rfl, trivial⟩ rfl rfl
        · refine fin hT 1 rfl (th (ifF rfl (sq (rg (?_)))))
          refine cmp hT 0 rfl (fun h7 => ?_) (fun h7 => ?_)   -- law.go:55 t63 t33 = 2
          · refine fin hT 1 rfl (th (ifT rfl (sq (rg (?_)))))
            refine ldS hT 0 2 rfl rfl (by kernel_rfl) ?_   -- law.go:56 t65 t6
            refine ldp hT 1 1 rfl rfl rfl ?_   -- law.go:56 t67 *t66
            refine cl hT 0 rfl (getBytesRef ao cap b (.inl rfl) x hl p e hp n hn) ?_   -- law.go:56 t68
            rintro v68 K68 hs68 ⟨rfl, hy, rfl, p1, hp1, aoy, cy, rfl, hd1, oy⟩
            refine al hT 3 (.agg #[.slice none 0 0, .int .i64 0, .int .i64 0]) rfl (by kernel_rfl) fun b14 => ?_   -- law.go:56 t14
            refine stS hT 0 0 rfl rfl (by kernel_rfl) rfl rfl ?_   -- law.go:56 tNone t14 := t69
            refine WL.perm (List.perm_middle (l₁ := [_, _])) ?_
            refine fin hT 1 rfl (th (rga [pt b14 #[.slice ao b.length cap, .int .i64 ((p1 : Nat) : Int), .int .i64 (rBytes n (b.drop p, e)).2.2] 50, pt b8 #[.int .i64 k, .int .i64 n, .int .u64 ((m : Nat) : Int)] 52, hy] 11 [0, 2, 4, 6, 12, 14, 9, 10, 16, 19, 20] (by simp) (by kernel_rfl) (by kernel_rfl) ?_))
            refine dldS hT (by kernel_rfl) 0 0 rfl (by kernel_rfl) rfl (by kernel_rfl) ?_   -- law.go:57 t71 t14
            refine dldp hT (by kernel_rfl) 2 1 rfl rfl rfl ?_   -- law.go:57 t74 *t73
            refine dcvs hT (by kernel_rfl) 1 (rBytes n (b.drop p, e)).1 rfl (.inr ⟨2, rfl⟩) oy.isS (by kernel_rfl) ?_   -- law.go:57 t78 t77
            refine dact hT (by kernel_rfl) 0 rfl ?_
            refine cl hT 0 rfl (bytesC (.inr ⟨4, rfl⟩) n hn (b.drop p, e) (by simp only [List.length_drop]; omega) rd) ?_   -- law.go:57 t75
            rintro v75 K75 hs75 ⟨h1, new, rfl, rfl, hx1, aox, cx, rfl, rfl, ox, rd1⟩
            refine dnex [hx1, pt b14 #[.slice ao b.length cap, .int .i64 ((p1 : Nat) : Int), .int .i64 (rBytes n (b.drop p, e)).2.2] 50, pt b8 #[.int .i64 k, .int .i64 n, .int .u64 ((m : Nat) : Int)] 52, hy] (by simp) (by simp) rfl ?_
            refine dcvs hT (by kernel_rfl) 0 (rBytes n (b.drop p, e)).1 rfl (.inr ⟨0, rfl⟩) ox.isS (by kernel_rfl) ?_   -- law.go:57 t76 t75
            refine dar hT (by kernel_rfl) 0 rfl (v' := .bool true) (by rw [str_eq]; simp) ?_   -- law.go:57 t79 t76 = t78
            refine dact hT (by kernel_rfl) 0 rfl ?_
            refine stS hT 0 5 rfl rfl (by kernel_rfl) rfl rfl ?_   -- law.go:57 tNone t6 := t71
            refine dnex [hx1, pt b14 #[.slice ao b.length cap, .int .i64 ((p1 : Nat) : Int), .int .i64 (rBytes n (b.drop p, e)).2.2] 50, pt b8 #[.int .i64 k, .int .i64 n, .int .u64 ((m : Nat) : Int)] 52, hy] (by simp) (by simp) rfl ?_
            refine dend hT (by kernel_rfl) 1 rfl (bl (WQ.drop (WQ.perm (List.perm_middle (l₁ := [_, _, _])).symm (WQ.drop (WQ.drop (WQ.drop ?_))))))
            exact jx (p1, (rBytes n (b.drop p, e)).2.2, h1) ⟨hp1, by dsimp only; rw [← hd1]; exact rd1⟩ ⟨rfl, rfl, rfl, rfl, rfl, rfl, rfl, trivial⟩ rfl rfl
          · refine fin hT 1 rfl (th (ifF rfl (sq (rg (?_)))))
            refine cmp hT 0 rfl (fun h9 => ?_) (fun h9 => ?_)   -- law.go:58 t81 t33 = 3
            · refine fin hT 1 rfl (th (ifT rfl (sq (rg (?_)))))
              refine ldp hT 2 1 rfl rfl rfl ?_   -- law.go:59 t84 *t83
              refine cl hT 0 rfl (failC (b.drop p, e) n rd) ?_   -- law.go:59 t85
              rintro v85 K85 hs85 ⟨h1, rfl, rfl, rfl, rd1⟩
              refine fin hT 0 rfl (th (sq (rg (?_))))
              refine ldp hT 1 2 rfl rfl rfl ?_   -- law.go:60 t87 *t86
              refine cmp hT 0 rfl (fun h10 => ?_) (fun h10 => ?_)   -- law.go:60 t88 t87 = 0
              · refine fin hT 0 rfl (th (ifT rfl (rg (?_))))
                refine ldp hT 1 1 rfl rfl rfl ?_   -- law.go:61 t90 *t89
                refine stp hT 1 2 rfl rfl rfl rfl ?_   -- law.go:61 tNone t91 := t90
                refine fin hT 0 rfl (bl (WQ.perm (List.Perm.swap _ _ _) (WQ.drop ?_)))
                exact jx (p, n, h1) ⟨hp, by dsimp only at rd1 ⊢; rw [if_pos h10] at rd1; exact rd1⟩ ⟨rfl, rfl, rfl, rfl, rfl, rfl, rfl, trivial⟩ rfl rfl
              · refine fin hT 0 rfl (th (ifF rfl (sk (bl (WQ.perm (List.Perm.swap _ _ _) (WQ.drop ?_))))))
                exact jx (p, e, h1) ⟨hp, by dsimp only at rd1 ⊢; rw [if_neg h10] at rd1; exact rd1⟩ ⟨rfl, rfl, rfl, rfl, rfl, rfl, rfl, trivial⟩ rfl rfl
            · refine fin hT 1 rfl (th (ifF rfl (sk (bl (WQ.perm (List.Perm.swap _ _ _) (WQ.drop ?_))))))
              exact jx (p, e, h) ⟨hp, rd⟩ ⟨rfl, rfl, rfl, rfl, rfl, rfl, rfl, trivial⟩ rfl rfl
    · clear rd hp
      rintro ⟨p, e, h⟩ ⟨hp, rd⟩
      dsimp only at hp rd ⊢
      refine sq (rga [pt b6 #[.slice ao b.length cap, .int .i64 ((p : Nat) : Int), .int .i64 e] 50] 26 [0, 2, 4, 6, 10, 12, 9, 14, 16, 18, 20, 24, 26, 28, 30, 32, 23, 34, 36, 38, 40, 44, 43, 47, 48, 50] (by simp) (by kernel_rfl) (by kernel_rfl) ?_)
      refine dldp hT (by kernel_rfl) 5 0 rfl rfl rfl ?_   -- law.go:64 t98 *t97
      refine dact hT (by kernel_rfl) 0 rfl ?_
      refine cl hT 0 rfl (errC (b.drop p, e) rd) ?_   -- law.go:64 t96
      rintro v96 K96 hs96 ⟨rfl, rfl, rfl⟩
      refine dnex [pt b6 #[.slice ao b.length cap, .int .i64 ((p : Nat) : Int), .int .i64 e] 50] (by simp) (by simp) rfl ?_
      refine dcmp hT (by kernel_rfl) 0 (e ≠ e) rfl (by simp) (fun h11 => absurd h11 (fun h => h rfl)) (fun h11 => ?_)   -- law.go:64 t99 t96 ≠ t98
      refine dldp hT (by kernel_rfl) 6 0 rfl rfl rfl ?_   -- law.go:64 t107 *t106
      refine dar hT (by kernel_rfl) 0 rfl (v' := .int .i64 ((b.length - p : Nat) : Int)) (by rw [i64w (by omega)]; congr 1; omega) ?_
      refine dact hT (by kernel_rfl) 0 rfl ?_
      refine cl hT 0 rfl (leftC (b.drop p, e) rd) ?_   -- law.go:64 t103
      rintro v103 K103 hs103 ⟨rfl, rfl, rfl⟩
      refine dnex [pt b6 #[.slice ao b.length cap, .int .i64 ((p : Nat) : Int), .int .i64 e] 50] (by simp) (by simp) rfl ?_
      refine dcmp hT (by kernel_rfl) 0 (((((b.drop p, e) : Rd).1.length : Nat) : Int) ≠ ((b.length - p : Nat) : Int)) rfl (by simp) (fun h12 => absurd h12 (fun h => h (by simp))) (fun h12 => ?_)   -- law.go:64 t109 t103 ≠ t108
      refine dldS hT (by kernel_rfl) 3 0 rfl (by kernel_rfl) rfl (by kernel_rfl) ?_   -- law.go:64 t114 t6
      refine dact hT (by kernel_rfl) 0 rfl ?_
      refine cl hT 0 rfl (endC (b.drop p, e) rd) ?_   -- law.go:64 t113
      rintro v113 K113 hs113 ⟨rfl, rfl, rfl⟩
      refine dnex [pt b6 #[.slice ao b.length cap, .int .i64 ((p : Nat) : Int), .int .i64 e] 50] (by simp) (by simp) rfl ?_
      refine dact hT (by kernel_rfl) 0 rfl ?_
      refine cl hT 0 rfl (endRef ao cap b p e hp) ?_   -- law.go:64 t115
      rintro v115 K115 hs115 ⟨rfl, rfl, rfl⟩
      refine dnex [pt b6 #[.slice ao b.length cap, .int .i64 ((p : Nat) : Int), .int .i64 e] 50] (by simp) (by simp) rfl ?_
      refine dcmp hT (by kernel_rfl) 0 (rEnd (b.drop p, e) ≠ rEnd (b.drop p, e)) rfl (by simp) (fun h13 => absurd h13 (fun h => h rfl)) (fun h13 => ?_)   -- law.go:64 t116 t113 ≠ t115
      refine dend hT (by kernel_rfl) 1 rfl (th (ifF rfl (sk (bl (th (rg (?_)))))))
      refine ar hT 0 rfl (i64w (by omega)) ?_   -- law.go:46 t118 t28 add 1
      refine fin hT 1 rfl (?_)
      exact again (x := (j, p, e, h)) (j + 1, p, e, h) ⟨rfl, rfl, rfl, rfl, rfl, rfl, trivial⟩ rfl rfl ⟨hjl, hp, rd⟩ (by dsimp only; omega)
  · refine fin hT 0 rfl (th (sq (ifF rfl (ex (xt (xt (xb (th (sq (rg (?_)))))))))))
    refine fin hT 1 rfl (th (rt (?_)))
    exact ret1 rfl rfl ⟨rfl, rfl⟩
end Go.Proofs.Ythgllplhhanpkaa
