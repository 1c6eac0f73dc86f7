/-
  The reference's bytes and what it unseals.
-/
import Derived.Test.YthpiokdibknpaaaCo
import Derived.Test.YthpiokdibknpaaaCn
namespace Go.Proofs.Ythpiokdibknpaaa
open Go.En
set_option linter.unusedVariables false
attribute [local irreducible] Code.wp wpList Calls

theorem getBytesRef {w0 : World} {K hb : PH} {hs : List PH} (ao : Option Addr) (cap : Nat) (b : List UInt8) (hm : In K hs hb) (x : IsS hb ao b.length cap 1 (bv b)) (hl : b.length < 1099511627776) (p : Nat) (e : Int) (hp : p ≤ b.length) (most : Int) (hmost : most ≤ 9223372036854775807) :
    Ct Try.prog w0 47 [rv ao b.length cap p e, .int .i64 most] K hs
      (fun v K' hs' => K' = K ∧ ∃ h', hs' = h' :: hs ∧ ∃ p', p' ≤ b.length ∧ ∃ ao' c', v = .tuple #[rv ao b.length cap p' (rBytes most (b.drop p, e)).2.2, .slice ao' (rBytes most (b.drop p, e)).1.length c'] ∧ (rBytes most (b.drop p, e)).2.1 = b.drop p' ∧ Own h' ao' (rBytes most (b.drop p, e)).1.length c' 5 1 (bv (rBytes most (b.drop p, e)).1)) := by
  refine enter Try.func47 (by kernel_rfl) rfl rfl rfl ?_
  refine sq (rg (?_))
  refine bx hT 0 rfl fun b2 => ?_   -- ref.go:79 t2
  refine al hT 0 (.agg #[.slice none 0 0, .int .i64 0, .int .i64 0]) rfl (by kernel_rfl) fun b4 => ?_   -- ref.go:79 t4
  refine fin hT 1 rfl (th (sq (rg (?_))))
  refine ldS hT 0 1 rfl rfl (by kernel_rfl) ?_
  refine ar hT 2 rfl (v' := .int .u64 (most.toNat : Nat)) (by split <;> rw [u64w (by omega)] <;> congr 1 <;> omega) ?_
  refine cl hT 0 rfl (getUintRef ao cap b (In.cons (In.cons hm)) x hl p e hp most.toNat) ?_
  rintro v14 K14 hs14 ⟨rfl, rfl, p1, hp1, rfl, hd1⟩
  have hres : rBytes most (b.drop p, e) = (let x := rUint most.toNat (b.drop p, e); if x.2.2 = 0 then (if x.2.1.length < x.1 then ([], (b.drop p, 20)) else (x.2.1.take x.1, (x.2.1.drop x.1, 0))) else ([], x.2)) := rfl
  obtain ⟨hn, _⟩ := rUint_bd most.toNat (b.drop p) e
  generalize rUint most.toNat (b.drop p, e) = U at *
  obtain ⟨nn, bb, ee⟩ := U
  dsimp only at hres hn hd1 ⊢
  subst hd1
  rw [List.length_drop] at hres
  refine al hT 3 (.agg #[.slice none 0 0, .int .i64 0, .int .i64 0]) rfl (by kernel_rfl) fun b6 => ?_   -- ref.go:80 t6
  refine stS hT 0 0 rfl rfl (by kernel_rfl) rfl rfl ?_
  refine fin hT 1 rfl (th (sq (sq (rg (?_)))))
  refine ldp hT 1 0 rfl rfl rfl ?_
  refine cmp hT 0 rfl (fun h1 => ?_) (fun h1 => ?_)   -- ref.go:81 t19 t18 ≠ 0
  · refine fin hT 0 rfl (th (ifT rfl (sq (rg (?_)))))
    refine ldS hT 0 0 rfl rfl (by kernel_rfl) ?_
    refine stS hT 0 1 rfl rfl (by kernel_rfl) rfl rfl ?_
    refine fin hT 1 rfl (th (rt (rT (WQ.em (WQ.perm (List.perm_middle (l₁ := [_, _, _])).symm ?_)))))
    rw [hres, if_neg h1]
    exact retcP 1 3 rfl rfl rfl rfl (by kernel_rfl) ⟨rfl, En.em, rfl, p1, hp1, none, 0, rfl, rfl, Own.nil _ _⟩
  · obtain rfl : ee = 0 := Decidable.not_not.1 h1
    rw [if_pos rfl] at hres
    refine fin hT 0 rfl (th (ifF rfl (sk (th (sq (sq (rg (?_))))))))
    refine ldp hT 2 0 rfl rfl rfl ?_
    refine ldp hT 2 0 rfl rfl rfl ?_
    refine ar hT 0 rfl (v' := .int .i64 ((b.length - p1 : Nat) : Int)) (by rw [i64w (by omega)]; congr 1; omega) ?_
    refine ar hT 0 rfl (u64w (by omega)) ?_   -- ref.go:84 t28 convert t27
    refine cmp hT 0 rfl (fun h2 => ?_) (fun h2 => ?_)   -- ref.go:84 t29 t21 > t28
    · rw [if_pos (by omega)] at hres
      refine fin hT 0 rfl (th (ifT rfl (sq (rg (?_)))))
      refine stp hT 1 2 rfl rfl rfl rfl ?_
      refine fin hT 0 rfl (th (sq (rg (?_))))
      refine ldS hT 0 2 rfl rfl (by kernel_rfl) ?_
      refine stS hT 0 1 rfl rfl (by kernel_rfl) rfl rfl ?_
      refine fin hT 1 rfl (th (rt (rT (WQ.em (WQ.perm (List.perm_middle (l₁ := [_, _, _])).symm ?_)))))
      rw [hres]
      exact retcP 1 3 rfl rfl rfl rfl (by kernel_rfl) ⟨rfl, En.em, rfl, p, hp, none, 0, rfl, rfl, Own.nil _ _⟩
    · rw [if_neg (by omega)] at hres
      refine fin hT 0 rfl (th (ifF rfl (sk (th (sq (rg (?_)))))))
      refine lit hT 0 #[] rfl (by decide) (by kernel_rfl) fun b32 => ?_
      refine ldp hT 1 1 rfl rfl rfl ?_
      refine ldp hT 1 1 rfl rfl rfl ?_
      refine ldp hT 1 1 rfl rfl rfl ?_
      refine ar hT 1 rfl (i64w (by omega)) ?_   -- ref.go:88 t40 convert t39
      refine ar hT 0 rfl (v' := .int .i64 ((p1 + nn : Nat) : Int)) (by rw [i64w (by omega)]; rfl) ?_
      refine sl hT 0 p1 nn rfl x rfl rfl (by omega) (ys := bv ((b.drop p1).take nn)) (by simp [bv, List.map_drop, List.map_take]) fun ao42 c42 x42 => ?_
      refine app hT 0 0 rfl rfl (Own.ofPt (c := #[]) (n := 0) (size := 1) (by simp) (by simp [maxLen])) (In.cons (In.cons (In.cons (In.cons hm)))) x42 rfl (by decide) (bv_one _) (by dsimp only; omega) (by simp only [maxLen]; omega) fun ao43 c43 g43 o43 => ?_
      have e1 : 0 + nn = ((b.drop p1).take nn).length := by simp; omega
      have e2 : (#[] : Array Value).toList ++ bv ((b.drop p1).take nn) = bv ((b.drop p1).take nn) := rfl
      rw [e1, e2] at o43
      refine fin hT 1 rfl (th (sq (rg (?_))))
      refine ldp hT 1 1 rfl rfl rfl ?_
      refine ar hT 1 rfl (i64w (by omega)) ?_   -- ref.go:89 t47 convert t46
      refine ar hT 0 rfl (v' := .int .i64 ((p1 + nn : Nat) : Int)) (by rw [i64w (by omega)]; rfl) ?_
      refine stp hT 1 1 rfl rfl rfl rfl ?_
      refine fin hT 0 rfl (th (sq (rg (?_))))
      refine ldS hT 0 1 rfl rfl (by kernel_rfl) ?_
      refine stS hT 1 2 rfl rfl (by kernel_rfl) rfl rfl ?_
      refine fin hT 1 rfl (th (rt (WQ.perm (List.perm_middle (l₁ := [_, _, _])).symm ?_)))
      rw [hres, e1]
      exact retcP 1 3 rfl rfl rfl rfl (by kernel_rfl) ⟨rfl, g43, rfl, p1 + nn, by omega, ao43, c43, rfl, by rw [List.drop_drop], o43⟩
theorem un4_drop (q : List UInt8) (i : Nat) (h : i < q.length) : un4 (q.drop i) = q[i].toNat + 256 * un4 (q.drop (i + 1)) := by
  rw [List.drop_eq_getElem_cons h, un4]
theorem unsealRef {w0 : World} {K hb : PH} {hs : List PH} (ao : Option Addr) (cap : Nat) (b : List UInt8) (hm : In K hs hb) (x : IsS hb ao b.length cap 1 (bv b)) (hl : b.length < 1099511627776) :
    Ct Try.prog w0 59 [.slice ao b.length cap] K hs
      (fun v K' hs' => K' = K ∧ ∃ h', hs' = h' :: hs ∧ ∃ ao' c', v = .tuple #[.slice ao' (unsealed b).1.length c', .int .i64 ((unsealed b).2.1 : Nat), .int .i64 (unsealed b).2.2] ∧ Own h' ao' (unsealed b).1.length c' 5 1 (bv (unsealed b).1)) := by
  refine enter Try.func59 (by kernel_rfl) rfl rfl rfl ?_
  refine sq (rg (?_))
  refine fin hT 3 rfl (th (sq (rg (?_))))
  refine bd hT 1 (rv ao b.length cap 0 0) rfl (fun w => by kernel_rfl) ?_
  refine cl hT 0 rfl (getBytesRef ao cap b hm x hl 0 0 (Nat.zero_le _) 2097152 (by omega)) ?_
  rintro v12 K12 hs12 ⟨rfl, h14, rfl, p1, hp1, aox, cx, rfl, hd1, ox⟩
  rw [List.drop_zero] at ox hd1 ⊢
  have hun : unsealed b = unsealedOf b (rBytes 2097152 (b, 0)) := rfl
  obtain ⟨hb1, hb2⟩ := rBytes_bd 2097152 b 0
  rw [hun]
  generalize rBytes 2097152 (b, 0) = Y at *
  obtain ⟨xx, rr, ee⟩ := Y
  dsimp only at ox hd1 hb1 hb2 ⊢
  subst hd1
  refine al hT 3 (.agg #[.slice none 0 0, .int .i64 0, .int .i64 0]) rfl (by kernel_rfl) fun b5 => ?_   -- ref.go:133 t5
  refine stS hT 0 0 rfl rfl (by kernel_rfl) rfl rfl ?_
  refine fin hT 1 rfl (th (sq (sq (rg (?_)))))
  refine ldp hT 1 0 rfl rfl rfl ?_
  refine cmp hT 0 rfl (fun h1 => ?_) (fun h1 => ?_)   -- ref.go:134 t17 t16 ≠ 0
  · have hu : unsealedOf b (xx, b.drop p1, ee) = ([], 0, ee) := by unfold unsealedOf; rw [if_pos h1]
    refine fin hT 0 rfl (th (ifT rfl (sq (rga [pt b5 #[.slice ao b.length cap, .int .i64 (p1 : Nat), .int .i64 ee] 73] 5 [0, 2, 4, 6, 8] (by simp) (by kernel_rfl) (by kernel_rfl) ?_))))
    refine dldp hT (by kernel_rfl) 1 0 rfl rfl rfl ?_   -- ref.go:135 t19 *t18
    refine dend hT (by kernel_rfl) 3 rfl (th (rt (rT (WQ.drop (WQ.drop (WQ.em ?_))))))
    rw [hu]
    exact ret3 rfl rfl rfl rfl ⟨rfl, _, rfl, none, 0, rfl, Own.nil _ _⟩
  · obtain rfl : ee = 0 := Decidable.not_not.1 h1
    refine fin hT 0 rfl (th (ifF rfl (sk (th (sq (sq (rg (?_))))))))
    refine ldp hT 3 0 rfl rfl rfl ?_
    refine ar hT 0 rfl (v' := .int .i64 ((b.length - p1 : Nat) : Int)) (by rw [i64w (by omega)]; congr 1; omega) ?_
    refine cmp hT 0 rfl (fun h2 => ?_) (fun h2 => ?_)   -- ref.go:137 t25 t24 < 4
    · refine fin hT 0 rfl (th (ifT rfl (sq (rg (?_)))))
      refine fin hT 3 rfl (th (rt (rT (WQ.drop (WQ.drop (WQ.em ?_))))))
      have hu : unsealedOf b (xx, b.drop p1, 0) = ([], 0, 20) := by unfold unsealedOf; rw [if_neg (by simp), if_pos (by simp only [List.length_drop]; omega)]
      rw [hu]
      exact ret3 rfl rfl rfl rfl ⟨rfl, _, rfl, none, 0, rfl, Own.nil _ _⟩
    · have hu : unsealedOf b (xx, b.drop p1, 0) = if un4 ((b.drop p1).take 4) = (crc xx).toNat then (xx, b.length - (b.drop p1).length + 4, 0) else ([], 0, 24) := by unfold unsealedOf; rw [if_neg (by simp), if_neg (by simp only [List.length_drop]; omega)]
      rw [hu]
      have hq : ((b.drop p1).take 4).length = 4 := by simp; omega
      have hqi : ∀ (i : Nat) (h : i < ((b.drop p1).take 4).length) (h' : p1 + i < b.length), ((b.drop p1).take 4)[i] = b[p1 + i] := fun i h h' => by simp
      generalize (b.drop p1).take 4 = q at *
      refine fin hT 0 rfl (th (ifF rfl (sk (th (sq (rg (?_)))))))
      refine fin hT 1 rfl (th (sq (sq (rg (?_)))))
      refine fin hT 1 rfl (th (bk (?_)))
      refine loop (σ := Nat) (fun j => [(0, .slice ao b.length cap), (5, .pointer (some ⟨b5, 0, none⟩)), (6, .slice aox xx.length cx), (7, .int .u32 ((un4 (q.drop j) : Nat) : Int)), (8, .int .i64 ((j : Nat) - 1 : Int))]) (fun _ => K12) (fun _ => pt b5 #[.slice ao b.length cap, .int .i64 (p1 : Nat), .int .i64 0] 73 :: h14 :: hs) (fun j => j ≤ 4) (fun j => j) 4 (Nat.le_refl _) ⟨rfl, rfl, rfl, by rw [List.drop_of_length_le (by omega)]; rfl, rfl, trivial⟩ rfl rfl ?_
      intro j hj
      refine sq (sq (rg (?_)))
      refine cmp hT 1 rfl (fun h3 => ?_) (fun h3 => ?_)   -- ref.go:141 t27 t26 ≥ 0
      · obtain ⟨i, rfl⟩ : ∃ i, j = i + 1 := ⟨j - 1, by omega⟩
        have hs1 := un4_drop q i (by omega)
        have hbd := un4_lt (q.drop (i + 1)) 3 (by simp; omega)
        have h256 : (256 : Nat) ^ 3 = 16777216 := by decide
        have hlt : p1 + i < b.length := by omega
        have hbt := b[p1 + i].toNat_lt
        rw [hqi i (by omega) hlt] at hs1
        refine fin hT 0 rfl (th (ifT rfl (sk (th (sq (bk (rg (?_))))))))
        refine ar hT 1 rfl (u32w (by omega)) ?_   -- ref.go:142 t31 t30 mul 256
        refine ldp hT 2 0 rfl rfl rfl ?_   -- ref.go:142 t34 *t33
        refine ar hT 1 rfl (v' := .int .i64 ((p1 + i : Nat) : Int)) (by rw [i64w (by omega)]; congr 1; omega) ?_
        refine ix1 hT 0 (p1 + i) rfl rfl rfl x (bv_get hlt) fun a37 hc37 => ?_   -- ref.go:142 t37 t32[t36]
        refine ld hT 0 rfl (In.cons (In.cons hm)) hc37 ?_
        refine ar hT 0 rfl (u32w (by omega)) ?_   -- ref.go:142 t39 convert t38
        refine ar hT 0 rfl (v' := .int .u32 ((un4 (q.drop i) : Nat) : Int)) (by rw [u32w (by omega), hs1]; congr 1; omega) ?_
        refine fin hT 1 rfl (bl (th (rg (?_))))
        refine ar hT 1 rfl (v' := .int .i64 ((i : Nat) - 1 : Int)) (by rw [i64w (by omega)]; congr 1; omega) ?_
        refine fin hT 1 rfl (?_)
        exact again (x := i + 1) i ⟨rfl, rfl, rfl, rfl, rfl, trivial⟩ rfl rfl (by omega) (by omega)
      · obtain rfl : j = 0 := by omega
        refine fin hT 0 rfl (th (ifF rfl (ex (xt (xt (xb (th (sq (sq (rg (?_)))))))))))
        rw [List.drop_zero]
        refine cl hT 2 rfl (sumRef aox cx xx (.inr ⟨1, rfl⟩) ox.isS (by omega)) ?_   -- ref.go:144 t43
        rintro v43 K43 hs43 ⟨rfl, rfl, rfl⟩
        refine cmp hT 0 rfl (fun h4 => ?_) (fun h4 => ?_)   -- ref.go:144 t44 t41 ≠ t43
        · refine fin hT 0 rfl (th (ifT rfl (sq (rg (?_)))))
          refine fin hT 3 rfl (th (rt (rT (WQ.drop (WQ.drop (WQ.em ?_))))))
          rw [if_neg (by omega)]
          exact ret3 rfl rfl rfl rfl ⟨rfl, _, rfl, none, 0, rfl, Own.nil _ _⟩
        · refine fin hT 0 rfl (th (ifF rfl (sk (th (sq (rga [pt b5 #[.slice ao b.length cap, .int .i64 (p1 : Nat), .int .i64 0] 73] 7 [0, 2, 4, 6, 8, 10, 12] (by simp) (by kernel_rfl) (by kernel_rfl) ?_))))))
          refine dldp hT (by kernel_rfl) 2 0 rfl rfl rfl ?_   -- ref.go:147 t47 *t46
          refine dar hT (by kernel_rfl) 0 rfl (v' := .int .i64 ((b.length - (b.drop p1).length + 4 : Nat) : Int)) (by rw [i64w (by omega), List.length_drop]; congr 1; omega) ?_
          refine dend hT (by kernel_rfl) 3 rfl (th (rt (WQ.drop ?_)))
          rw [if_pos (by omega)]
          exact ret3 rfl rfl rfl rfl ⟨rfl, h14, rfl, aox, cx, rfl, ox⟩
end Go.Proofs.Ythpiokdibknpaaa
