/-
  Part 2 of what the proof needs (texts Cm Ck Du Ew Dx Co Cn Cg Na Ne Ni Zm So Sq Sr Su Sx Ex Er Em Ec Eg).
-/
import Derived.RangeFuncRecord
import Derived.Sort.LoopGhostIn
import Derived.OrdersIn
import Derived.ChangeKeysEq
import Derived.Laws.Externs
import Derived.Lib.Overlaps
import Derived.Test.YtejkjbkodcamoaaGreatDoorSC1
set_option linter.unusedSectionVars false
set_option linter.unusedSimpArgs false
set_option linter.unusedVariables false
section
namespace Go.Proofs.YtejkjbkodcamoaaGreatDoor
open Go.En
attribute [local irreducible] Code.wp wpList Calls
def IsRd (rb : Nat) (hb : PH) (s : Rd) (h : PH) : Prop := ∃ ao cap, h = pt rb #[.slice ao s.1.length cap, .int .i64 s.2] 115 /\ IsS hb ao s.1.length cap 1 (bv s.1)
section
variable {w0 : World} {K hb h : PH} {R : List PH} {rb : Nat}
theorem endC (s : Rd) (r : IsRd rb hb s h) : Ct Tryz.prog w0 25 [.pointer (some ⟨rb, 0, none⟩)] K (h :: R) (fun v K' hs' => K' = K /\ hs' = h :: R /\ v = .int .i64 (rEnd s)) := by
 obtain ⟨ao, cap, rfl, x⟩ := r
 obtain ⟨b, e⟩ := s
 refine enter Tryz.func25 (by kernel_rfl) rfl rfl rfl ?_
 refine sq (rg ?_)
 refine fin hT 1 rfl (th (sq (sq (rg ?_))))
 refine ldp hT 3 0 rfl rfl rfl ?_
 refine cmp hT 0 rfl (fun h1 => ?_) (fun h1 => ?_)
 ·refine ldp hT 4 0 rfl rfl rfl ?_
  refine cmp hT 1 rfl (fun h2 => ?_) (fun h2 => ?_)
  ·refine fin hT 1 rfl (th (ifT rfl (sq (rg ?_))))
   refine fin hT 1 rfl (th (rt (rT ?_)))
   exact ret1 rfl rfl ⟨rfl, rfl, by rw [rEnd, if_pos ⟨h1, by dsimp only at h2; omega⟩]⟩
  ·refine fin hT 1 rfl (th (ifF rfl (sk (th (sq (rg ?_))))))
   refine ldp hT 3 0 rfl rfl rfl ?_
   refine fin hT 1 rfl (th (rt ?_))
   exact ret1 rfl rfl ⟨rfl, rfl, by rw [rEnd, if_neg (by dsimp only at h2; omega)]; rfl⟩
 ·refine fin hT 8 rfl (th (ifF rfl (sk (th (sq (rg ?_))))))
  refine ldp hT 3 0 rfl rfl rfl ?_
  refine fin hT 1 rfl (th (rt ?_))
  exact ret1 rfl rfl ⟨rfl, rfl, by rw [rEnd, if_neg (fun h => h1 h.1)]; rfl⟩
theorem failC (s : Rd) (e : Int) (r : IsRd rb hb s h) : Ct Tryz.prog w0 28 [.pointer (some ⟨rb, 0, none⟩), .int .i64 e] K (h :: R)
  (fun v K' hs' => ∃ h', hs' = h' :: R /\ K' = K /\ v = .tuple #[] /\ IsRd rb hb (s.1, if s.2 = 0 then e else s.2) h') := by
 obtain ⟨ao, cap, rfl, x⟩ := r
 obtain ⟨b, e0⟩ := s
 refine enter Tryz.func28 (by kernel_rfl) rfl rfl rfl ?_
 refine sq (rg ?_)
 refine ldp hT 3 0 rfl rfl rfl ?_
 refine cmp hT 0 rfl (fun h1 => ?_) (fun h1 => ?_)
 ·refine fin hT 0 rfl (th (ifT rfl (rg ?_)))
  refine stp hT 4 0 rfl rfl rfl rfl ?_
  refine fin hT 0 rfl ?_
  exact end0 rfl ⟨_, rfl, rfl, rfl, ao, cap, by rw [if_pos h1]; rfl, x⟩
 ·refine fin hT 0 rfl (th (ifF rfl (sk ?_)))
  exact end0 rfl ⟨_, rfl, rfl, rfl, ao, cap, by rw [if_neg h1], x⟩
theorem byteC (hm : In K R hb) (s : Rd) (r : IsRd rb hb s h) : Ct Tryz.prog w0 23 [.pointer (some ⟨rb, 0, none⟩)] K (h :: R)
  (fun v K' hs' => ∃ h', hs' = h' :: R /\ K' = K /\ v = .int .u8 ((rByte s).1 : Nat) /\ IsRd rb hb (rByte s).2 h') := by
 obtain ⟨ao, cap, rfl, x⟩ := r
 obtain ⟨b, e⟩ := s
 refine enter Tryz.func23 (by kernel_rfl) rfl rfl rfl ?_
 refine sq (rg ?_)
 refine fin hT 1 rfl (th (sq (bk (sq (bk (sq (bk (sq (sq (sq (rg ?_)))))))))))
 refine ldp hT 3 0 rfl rfl rfl ?_
 refine cmp hT 0 rfl (fun h1 => ?_) (fun h1 => ?_)
 ·dsimp only at h1
  refine ldp hT 4 0 rfl rfl rfl ?_
  refine cmp hT 1 rfl (fun h2 => ?_) (fun h2 => ?_)
  ·dsimp only at h2
   have hb0 : b = [] := List.eq_nil_of_length_eq_zero (by omega)
   subst hb0
   refine fin hT 2 rfl (th (ifT rfl (ex (xt (xt (xb (th (rg ?_))))))))
   refine stp hT 3 0 rfl rfl rfl rfl ?_
   refine fin hT 0 rfl (bl (th (sq (sq (rg ?_)))))
   refine fin hT 1 rfl (th (rt (rT (rB (rT ?_)))))
   exact ret1 rfl rfl ⟨_, rfl, rfl, by simp [rByte, h1], ao, cap, by simp [rByte, h1], by simpa [rByte, h1] using x⟩
  ·cases b with
   | nil => exact absurd rfl h2
   | cons c r =>
    have hv : (rByte (c :: r, e)) = (c.toNat, (r, 0)) := by simp [rByte, h1]
    refine fin hT 2 rfl (th (ifF rfl (sk (th (sq (rg ?_))))))
    refine ldp hT 3 0 rfl rfl rfl ?_
    refine cmp hT 0 rfl (fun h3 => absurd h1 h3) (fun h3 => ?_)
    refine fin hT 1 rfl (th (ifF rfl (sk (th (ex (xn rfl (xt (xn rfl (xt (xb (th (sq (rg ?_)))))))))))))
    refine ldp hT 3 0 rfl rfl rfl ?_
    refine ix1 hT 0 0 rfl rfl rfl x (by rfl) fun a31 hc31 => ?_
    refine ld hT 0 rfl (In.cons hm) hc31 ?_
    refine fin hT 1 rfl (th (sq (rg ?_)))
    refine ldp hT 4 0 rfl rfl rfl ?_
    refine sl hT 0 1 r.length rfl x rfl (by simp; omega) (by simp; omega) (ys := bv r) (by simp only [bv, List.map_cons, Nat.mul_one, List.drop_succ_cons, List.drop_zero]; rw [List.take_of_length_le (by simp)]) fun ao38 c38 x38 => ?_
    refine stp hT 2 0 rfl rfl rfl rfl ?_
    refine fin hT 0 rfl (th (sq (rg ?_)))
    refine fin hT 2 rfl (th (rt ?_))
    rw [hv]
    exact ret1 rfl rfl ⟨_, rfl, rfl, rfl, ao38, c38, by rw [h1]; rfl, x38⟩
 ·dsimp only at h1
  have hv : (rByte (b, e)) = (0, (b, e)) := by simp [rByte, h1]
  refine fin hT 9 rfl (th (ifF rfl (sk (th (sq (rg ?_))))))
  refine ldp hT 3 0 rfl rfl rfl ?_
  refine cmp hT 0 rfl (fun h4 => ?_) (fun h4 => absurd h1 h4)
  refine fin hT 1 rfl (th (ifT rfl (ex (xt (xn rfl (xt (xb (th (sq (sq (rg ?_)))))))))))
  refine fin hT 1 rfl (th (rt (rT (rB (rT ?_)))))
  rw [hv]
  exact ret1 rfl rfl ⟨_, rfl, rfl, rfl, ao, cap, rfl, x⟩
theorem uintC (hm : In K R hb) (most : Nat) (s : Rd) (hl : s.1.length < 1099511627776) (r : IsRd rb hb s h) : Ct Tryz.prog w0 24 [.pointer (some ⟨rb, 0, none⟩), .int .u64 (most : Nat)] K (h :: R)
  (fun v K' hs' => ∃ h', hs' = h' :: R /\ K' = K /\ v = .int .u64 ((rUint most s).1 : Nat) /\ IsRd rb hb (rUint most s).2 h') := by
 obtain ⟨ao, cap, rfl, x⟩ := r
 obtain ⟨b, e⟩ := s
 refine enter Tryz.func24 (by kernel_rfl) rfl rfl rfl ?_
 refine sq (rg ?_)
 refine fin hT 1 rfl (th (sq (sq (rg ?_))))
 refine ldp hT 3 0 rfl rfl rfl ?_
 refine cmp hT 0 rfl (fun h1 => ?_) (fun h1 => ?_)
 ·dsimp only at h1
  have hv : rUint most (b, e) = (0, (b, e)) := by simp [rUint, h1]
  refine fin hT 0 rfl (th (ifT rfl (sq (rg ?_))))
  refine fin hT 1 rfl (th (rt (rT ?_)))
  rw [hv]
  exact ret1 rfl rfl ⟨_, rfl, rfl, rfl, ao, cap, rfl, x⟩
 ·dsimp only at h1 hl x
  have he : e = 0 := by omega
  subst he
  refine fin hT 0 rfl (th (ifF rfl (sk (th (sq (rg ?_))))))
  refine ldp hT 3 0 rfl rfl rfl ?_
  refine cl hT 0 rfl (numberC ao cap b (In.cons hm) x hl) ?_
  rintro v18 K18 hs18 ⟨rfl, rfl, rfl⟩
  have hbd := number_bd b 0 0 (by omega) (by omega)
  have hun : rUint most (b, 0) = if (number 0 0 b).2.2 = 0 then (if most < (number 0 0 b).1 then (0, (b, 22)) else ((number 0 0 b).1, (b.drop (number 0 0 b).2.1, 0))) else (0, (b, (number 0 0 b).2.2)) := by simp [rUint]
  generalize number 0 0 b = N at *
  obtain ⟨nn, kk, ee⟩ := N
  dsimp only at hun hbd ⊢
  refine fin hT 7 rfl (th (sq (sq (rg ?_))))
  refine cmp hT 1 rfl (fun h2 => ?_) (fun h2 => ?_)
  ·subst h2
   rw [if_pos rfl] at hun
   refine cmp hT 3 rfl (fun h3 => ?_) (fun h3 => ?_)
   ·rw [if_pos (by omega)] at hun
    refine fin hT 1 rfl (th (ifT rfl (rg ?_)))
    refine fin hT 1 rfl (th (sq (sq (rg ?_))))
    refine cmp hT 1 rfl (fun h4 => ?_) (fun h4 => absurd (by decide) h4)
    refine fin hT 0 rfl (th (ifT rfl (sq (rg ?_))))
    refine stp hT 4 0 rfl rfl rfl rfl ?_
    refine fin hT 0 rfl (th (sq (rg ?_)))
    refine fin hT 1 rfl (th (rt (rT ?_)))
    rw [hun]
    exact ret1 rfl rfl ⟨_, rfl, rfl, rfl, ao, cap, rfl, x⟩
   ·rw [if_neg (by omega)] at hun
    refine fin hT 1 rfl (th (ifF rfl (sk (th (sq (sq (rg ?_)))))))
    refine cmp hT 1 rfl (fun h5 => absurd rfl h5) (fun h5 => ?_)
    refine fin hT 0 rfl (th (ifF rfl (sk (th (sq (rg ?_))))))
    refine ldp hT 4 0 rfl rfl rfl ?_
    refine sl hT 1 kk (b.length - kk) rfl x rfl (by simp; omega) (by omega) (ys := bv (b.drop kk)) (by simp only [bv, Nat.mul_one, <- List.map_drop, <- List.map_take]; rw [List.take_of_length_le (by simp)]) fun ao41 c41 x41 => ?_
    refine stp hT 2 0 rfl rfl rfl rfl ?_
    refine fin hT 0 rfl (th (sq (rg ?_)))
    refine fin hT 2 rfl (th (rt ?_))
    rw [hun]
    have e1 : b.length - kk = (b.drop kk).length := by simp
    rw [e1] at x41
    exact ret1 rfl rfl ⟨_, rfl, rfl, rfl, ao41, c41, by rw [e1]; rfl, x41⟩
  ·rw [if_neg h2] at hun
   refine fin hT 5 rfl (th (ifF rfl (sk (th (sq (sq (rg ?_)))))))
   refine cmp hT 1 rfl (fun h6 => ?_) (fun h6 => absurd h2 h6)
   refine fin hT 0 rfl (th (ifT rfl (sq (rg ?_))))
   refine stp hT 4 0 rfl rfl rfl rfl ?_
   refine fin hT 0 rfl (th (sq (rg ?_)))
   refine fin hT 1 rfl (th (rt (rT ?_)))
   rw [hun]
   exact ret1 rfl rfl ⟨_, rfl, rfl, rfl, ao, cap, rfl, x⟩
theorem bytesC (hm : In K R hb) (most : Int) (hmost : most <= 9223372036854775807) (s : Rd) (hl : s.1.length < 1099511627776) (r : IsRd rb hb s h) : Ct Tryz.prog w0 27 [.pointer (some ⟨rb, 0, none⟩), .int .i64 most] K (h :: R)
  (fun v K' hs' => ∃ h' new, hs' = new ++ h' :: R /\ K' = K /\ ∃ hx ao' c', new = [hx] /\ v = .slice ao' (rBytes most s).1.length c' /\ Own hx ao' (rBytes most s).1.length c' 5 1 (bv (rBytes most s).1) /\ IsRd rb hb (rBytes most s).2 h') := by
 obtain ⟨ao, cap, rfl, x⟩ := r
 obtain ⟨b, e⟩ := s
 dsimp only at hl x ⊢
 refine enter Tryz.func27 (by kernel_rfl) rfl rfl rfl ?_
 refine sq (rg ?_)
 refine fin hT 1 rfl (th (sq (rg ?_)))
 refine ldp hT 3 0 rfl rfl rfl ?_
 refine fin hT 1 rfl (th (sq (rg ?_)))
 refine ar hT 3 rfl (v' := .int .u64 (most.toNat : Nat)) (by split <;> rw [u64w (by omega)] <;> congr 1 <;> omega) ?_
 refine cl hT 0 rfl (uintC hm most.toNat (b, e) hl ⟨ao, cap, rfl, x⟩) ?_
 rintro v16 K16 hs16 ⟨h', rfl, rfl, rfl, ao', cap', rfl, x'⟩
 have hres : rBytes most (b, e) = (let x := rUint most.toNat (b, e); if x.2.2 = 0 then (if x.2.1.length < x.1 then ([], (b, 20)) else (x.2.1.take x.1, (x.2.1.drop x.1, 0))) else ([], x.2)) := rfl
 obtain ⟨hn, hb'⟩ := rUint_bd most.toNat b e
 generalize rUint most.toNat (b, e) = U at *
 obtain ⟨nn, b', e'⟩ := U
 dsimp only at hres x' hb' hn ⊢
 refine fin hT 1 rfl (th (sq (sq (rg ?_))))
 refine ldp hT 3 0 rfl rfl rfl ?_
 refine cmp hT 0 rfl (fun h1 => ?_) (fun h1 => ?_)
 ·subst h1
  rw [if_pos rfl] at hres
  refine ldp hT 5 0 rfl rfl rfl ?_
  refine ar hT 1 rfl (u64w (by omega)) ?_
  refine cmp hT 0 rfl (fun h2 => ?_) (fun h2 => ?_)
  ·rw [if_pos (by omega)] at hres
   refine fin hT 1 rfl (th (ifT rfl (rg ?_)))
   refine stp hT 5 0 rfl rfl rfl rfl ?_
   refine stp hT 2 0 rfl rfl rfl rfl ?_
   refine fin hT 0 rfl (th (sq (sq (rg ?_))))
   refine ldp hT 3 0 rfl rfl rfl ?_
   refine cmp hT 0 rfl (fun h3 => ?_) (fun h3 => absurd (by decide) h3)
   refine fin hT 0 rfl (th (ifT rfl (sq (rg ?_))))
   refine fin hT 1 rfl (th (rt (rT (WQ.em ?_))))
   rw [hres]
   exact ret1 rfl rfl ⟨_, [em], rfl, rfl, em, none, 0, rfl, rfl, Own.nil _ _, ao, cap, rfl, x⟩
  ·rw [if_neg (by omega)] at hres
   refine fin hT 1 rfl (th (ifF rfl (sk (th (sq (sq (rg ?_)))))))
   refine ldp hT 3 0 rfl rfl rfl ?_
   refine cmp hT 0 rfl (fun h4 => absurd rfl h4) (fun h4 => ?_)
   refine fin hT 0 rfl (th (ifF rfl (sk (th (sq (rg ?_))))))
   refine ldp hT 3 0 rfl rfl rfl ?_
   have hle : nn <= b'.length := by omega
   have e1 : (b'.take nn).length = nn := by simp; omega
   have e2 : (b'.drop nn).length = b'.length - nn := by simp
   refine sl hT 1 0 nn rfl x' rfl (by simp) (by omega) (ys := bv (b'.take nn)) (by simp [bv, <- List.map_take]) fun ao49 c49 x49 => ?_
   have hcl := fun K hs hm => cloneB (w0 := w0) (K := K) (hb := hb) (hs := hs) ao49 c49 (b'.take nn) hm (isS_of x49 e1.symm rfl) (by simp; omega)
   rw [e1] at hcl
   refine cl hT 0 rfl (hcl _ _ (In.cons hm)) ?_
   rintro v50 K50 hs50 ⟨rfl, hx, aox, cx, rfl, rfl, ox⟩
   refine fin hT 1 rfl (th (sq (rg ?_)))
   refine ldp hT 4 1 rfl rfl rfl ?_
   refine sl hT 1 nn (b'.drop nn).length rfl x' rfl (by rw [e2]; simp; omega) (by omega) (ys := bv (b'.drop nn)) (by simp only [bv, Nat.mul_one, <- List.map_drop, <- List.map_take]; rw [List.take_of_length_le (Nat.le_refl _)]) fun ao57 c57 x57 => ?_
   refine stp hT 2 1 rfl rfl rfl rfl ?_
   refine fin hT 0 rfl (th (sq (rg ?_)))
   refine fin hT 2 rfl (th (rt ?_))
   rw [hres]
   exact ret1 rfl rfl ⟨_, [hx], rfl, rfl, hx, aox, cx, rfl, by rw [e1], by rw [e1]; exact ox, ao57, c57, rfl, x57⟩
 ·rw [if_neg h1] at hres
  refine fin hT 10 rfl (th (ifF rfl (sk (th (sq (sq (rg ?_)))))))
  refine ldp hT 3 0 rfl rfl rfl ?_
  refine cmp hT 0 rfl (fun h5 => ?_) (fun h5 => absurd h1 h5)
  refine fin hT 0 rfl (th (ifT rfl (sq (rg ?_))))
  refine fin hT 1 rfl (th (rt (rT (WQ.em ?_))))
  rw [hres]
  exact ret1 rfl rfl ⟨_, [em], rfl, rfl, em, none, 0, rfl, rfl, Own.nil _ _, ao', cap', rfl, x'⟩
end
theorem readC {w0 : World} {K hb : PH} {hs : List PH} (ao : Option Addr) (cap : Nat) (b : List UInt8) (hm : In K hs hb) (x : IsS hb ao b.length cap 1 (bv b)) (hl : b.length < 1099511627776) :
  Ct Tryz.prog w0 22 [.slice ao b.length cap] K hs
   (fun v K' hs' => K' = K /\ ∃ rb h' hb', hs' = h' :: hb' :: hs /\ v = .pointer (some ⟨rb, 0, none⟩) /\ IsRd rb hb' (b, 0) h') := by
 refine enter Tryz.func22 (by kernel_rfl) rfl rfl rfl ?_
 refine sq (rg ?_)
 refine fin hT 1 rfl (th (sq (rg ?_)))
 refine cl hT 1 rfl (cloneB ao cap b hm x hl) ?_
 rintro v4 K4 hs4 ⟨rfl, hx, aox, cx, rfl, rfl, ox⟩
 refine bd hT 0 (.agg #[.slice aox b.length cx, .int .i64 0]) rfl (fun w => by kernel_rfl) ?_
 refine bx hT 0 rfl fun b6 => ?_
 refine fin hT 1 rfl (th (rt ?_))
 exact ret1 rfl rfl ⟨rfl, b6, _, hx, rfl, rfl, aox, cx, rfl, ox.isS⟩
end Go.Proofs.YtejkjbkodcamoaaGreatDoor
end
section
namespace Go.Proofs.YtejkjbkodcamoaaGreatDoor
open Go.En
attribute [local irreducible] Code.wp wpList Calls
theorem putBytesC {w0 : World} {K h hb : PH} {R : List PH} (ao : Option Addr) (c1 : Nat) (bs : List UInt8) (ao2 : Option Addr) (c2 : Nat) (x : List UInt8) (o : Own h ao bs.length c1 5 1 (bv bs)) (hm : In K R hb) (xs : IsS hb ao2 x.length c2 1 (bv x))
  (hb1 : bs.length < 549755813888) (hb2 : x.length < 549755813888) :
  Ct Tryz.prog w0 15 [.slice ao bs.length c1, .slice ao2 x.length c2] K (h :: R)
   (fun v K' hs' => ∃ h', hs' = h' :: R /\ K' = K /\ ∃ ao' c', v = .slice ao' (bs ++ putBytes x).length c' /\ Own h' ao' (bs ++ putBytes x).length c' 5 1 (bv (bs ++ putBytes x))) := by
 have hu := uint_le10 (n := x.length) (by omega)
 refine enter Tryz.func15 (by kernel_rfl) rfl rfl rfl ?_
 refine sq (rg ?_)
 refine fin hT 1 rfl (th (sq (rg ?_)))
 refine ar hT 3 rfl (u64w (by omega)) ?_
 refine cl hT 0 rfl (putUint ao c1 bs x.length o (by omega) (by omega)) ?_
 rintro v9 K9 hs9 ⟨h', rfl, rfl, ao', c', rfl, o'⟩
 have e1 : (bs ++ uint x.length).length + x.length = (bs ++ putBytes x).length := by simp [putBytes_length]; omega
 refine app hT 1 0 rfl rfl o' (In.cons hm) xs rfl (by decide) (bv_one _) (by simp; omega) (by simp [maxLen]; omega) fun ao11 c11 g11 o11 => ?_
 refine fin hT 1 rfl (th (rt ?_))
 have e2 : bv (bs ++ uint x.length) ++ bv x = bv (bs ++ putBytes x) := by rw [<- bv_append, List.append_assoc]; rfl
 rw [e2, e1] at o11
 exact ret1 rfl (by rw [e1]; rfl) ⟨g11, rfl, rfl, ao11, c11, rfl, o11⟩
theorem sealC {w0 : World} {K hb : PH} {hs : List PH} (ao : Option Addr) (cap : Nat) (b : List UInt8) (hm : In K hs hb) (x : IsS hb ao b.length cap 1 (bv b)) (hl : b.length < 1099511627776) :
  Ct Tryz.prog w0 20 [.slice ao b.length cap] K hs
   (fun v K' hs' => K' = K /\ ∃ h', hs' = h' :: hs /\ (2097152 < b.length /\ v = .tuple #[.slice none 0 0, .int .i64 22] \/
    b.length <= 2097152 /\ ∃ ao' c', v = .tuple #[.slice ao' (sealed b).length c', .int .i64 0] /\ Own h' ao' (sealed b).length c' 5 1 (bv (sealed b)))) := by
 refine enter Tryz.func20 (by kernel_rfl) rfl rfl rfl ?_
 refine sq (rg ?_)
 refine fin hT 2 rfl (th (sq (sq (rg ?_))))
 refine cmp hT 2 rfl (fun h1 => ?_) (fun h1 => ?_)
 ·refine fin hT 0 rfl (th (ifT rfl (sq (rg ?_))))
  refine fin hT 2 rfl (th (rt (rT (WQ.em ?_))))
  exact ret2 rfl rfl rfl ⟨rfl, em, rfl, .inl ⟨by omega, rfl⟩⟩
 ·refine fin hT 0 rfl (th (ifF rfl (sk (th (sq (rg ?_))))))
  refine cl hT 1 rfl (sumC ao cap b hm x hl) ?_
  rintro v9 K9 hs9 ⟨rfl, rfl, rfl⟩
  refine fin hT 1 rfl (th (sq (rg ?_)))
  refine WL.em ?_
  refine cl hT 1 rfl (putBytesC none 0 [] ao cap b (Own.nil _ _) hm x (by simp) (by omega)) ?_
  rintro v11 K11 hs11 ⟨h', rfl, rfl, ao', c', rfl, o'⟩
  have hs32 := (crc b).isLt
  have hpl := putBytes_length b
  have hu := uint_le10 (n := b.length) (by omega)
  have hse : sealed b = putBytes b ++ le4 (crc b).toNat := rfl
  rw [List.nil_append] at o' ⊢
  generalize (crc b).toNat = s at *
  refine ar hT 1 rfl (u8m s) ?_
  refine ar hT 1 rfl (u32shrN s 8 (by decide)) ?_
  refine ar hT 0 rfl (u8m _) ?_
  refine ar hT 1 rfl (u32shrN s 16 (by decide)) ?_
  refine ar hT 0 rfl (u8m _) ?_
  refine ar hT 1 rfl (u32shrN s 24 (by decide)) ?_
  refine ar hT 0 rfl (u8m _) ?_
  refine lit hT 0 #[.int .u8 ((s % 256 : Nat) : Int), .int .u8 ((s / 2 ^ 8 % 256 : Nat) : Int), .int .u8 ((s / 2 ^ 16 % 256 : Nat) : Int), .int .u8 ((s / 2 ^ 24 % 256 : Nat) : Int)] rfl (by decide) (by kernel_rfl) fun b23 => ?_
  have e1 : (putBytes b).length + 4 = (sealed b).length := by rw [hse]; simp [le4]
  have x4 : IsS (pt b23 #[.int .u8 ((s % 256 : Nat) : Int), .int .u8 ((s / 2 ^ 8 % 256 : Nat) : Int), .int .u8 ((s / 2 ^ 16 % 256 : Nat) : Int), .int .u8 ((s / 2 ^ 24 % 256 : Nat) : Int)] 5) (some ⟨b23, 0, none⟩) 4 4 1 (bv (le4 s)) := by
   rw [<- le4_cells]
   exact (Own.ofPt (n := 4) (size := 1) (by simp) (by simp [maxLen])).isS
  refine app hT 0 1 rfl rfl o' (.inr ⟨0, rfl⟩) x4 rfl (by decide) (bv_one _) (by dsimp only; omega) (by simp only [maxLen]; omega) fun ao24 c24 g24 o24 => ?_
  rw [<- bv_append, <- hse, e1] at o24
  refine fin hT 2 rfl (th (WC.drop (rt ?_)))
  exact ret2 rfl rfl rfl ⟨rfl, g24, rfl, .inr ⟨by omega, ao24, c24, by rw [e1], o24⟩⟩
end Go.Proofs.YtejkjbkodcamoaaGreatDoor
end
section
namespace Go.Proofs.YtejkjbkodcamoaaGreatDoor
open Go.En
attribute [local irreducible] Code.wp wpList Calls
theorem own_of {h : PH} {ao : Option Addr} {n n' cap e size : Nat} {xs ys : List Value} (x : Own h ao n cap e size xs) (h1 : n = n') (h2 : xs = ys) : Own h ao n' cap e size ys := by subst h1; subst h2; exact x
theorem own_byte (b m : Nat) (h : m < 256) : Own (pt b #[.int .u8 ((m : Nat) : Int)] 5) (some ⟨b, 0, none⟩) 1 1 5 1 (bv [UInt8.ofNat m]) :=
 own_of (Own.ofPt (n := 1) (size := 1) (by simp) (by simp [maxLen])) rfl (by simp [bv, byteV h])
theorem u_rem (k : IntKind) (n m : Nat) : Value.int k (((n : Nat) : Int).tmod ((m : Nat) : Int)) = .int k ((n % m : Nat) : Int) := by rw [<- Int.ofNat_tmod]
theorem isS_pt {b n ty : Nat} {c : Array Value} {fr : Nat × Nat} {xs : List Value} (h1 : c.toList = xs) (h2 : c.size = n) : IsS (pt b c ty fr) (some ⟨b, 0, none⟩) n n 1 xs := by
 subst h1
 refine ⟨by simpa using h2, Nat.le_refl _, fun j u hu => ⟨_, rfl, ?_⟩⟩
 rw [add_mk]
 exact Cell.pt (by simpa using hu)
end Go.Proofs.YtejkjbkodcamoaaGreatDoor
end
section
namespace Go.En
section rules
variable {P : Program} {T : Tab} {w0 : World} {ops : Array Oper} {Q : Exit -> Act -> World -> Prop} {rest rest' : List Oper} {n : Nat} {l l' : Sl} {K : PH} {hs : List PH}
theorem appB (hT : TabOK P T) (k i : Nat) (xs ys : List UInt8) {d : Nat} {si : SlI} {ao ao2 : Option Addr} {c1 c2 : Nat} {h h2 : PH} (h0 : apAt T ops n k rest l = some (d, si, (ao, xs.length, c1), (ao2, ys.length, c2), rest', l'))
  (hi : hs[i]? = some h) (hsz : (si.size, si.bytes, si.zero.cells.size) = (1, 1, 1)) (o : Own h ao xs.length c1 si.elem 1 (bv xs)) (hm : In K hs h2) (x : IsS h2 ao2 ys.length c2 1 (bv ys)) (hb : xs.length + ys.length <= 140737488355328)
  (hk : ∀ ao' cap' h', Own h' ao' (xs ++ ys).length cap' si.elem 1 (bv (xs ++ ys)) -> WL P w0 ops Q rest' n ((d, .slice ao' (xs ++ ys).length cap') :: l') K (hs.set i h')) : WL P w0 ops Q rest n l K hs := by
 simp only [Prod.mk.injEq] at hsz
 obtain ⟨e1, e2, e3⟩ := hsz
 refine app hT k i h0 hi (by rw [e1]; exact o) hm (by rw [e1]; exact x) (by rw [e1, e3]) (by rw [e1]; decide) (bv_one _) (by rw [e2]; omega) (by simp only [maxLen]; omega) fun ao' cap' h' o' => ?_
 rw [e1, <- bv_append, <- List.length_append] at o'
 have := hk ao' cap' h' o'
 rwa [List.length_append] at this
end rules
theorem In.cons3 {K h x y z : PH} {hs : List PH} (hm : In K hs h) : In K (x :: y :: z :: hs) h := In.cons (In.cons (In.cons hm))
theorem In.cons4 {K h x y z w : PH} {hs : List PH} (hm : In K hs h) : In K (x :: y :: z :: w :: hs) h := In.cons (In.cons3 hm)
end Go.En
end
section
namespace Go.Proofs.YtejkjbkodcamoaaGreatDoor
open Go.En
attribute [local irreducible] Code.wp wpList Calls
theorem unsealC {w0 : World} {K hb : PH} {hs : List PH} (ao : Option Addr) (cap : Nat) (b : List UInt8) (hm : In K hs hb) (x : IsS hb ao b.length cap 1 (bv b)) (hl : b.length < 1099511627776) :
  Ct Tryz.prog w0 21 [.slice ao b.length cap] K hs
   (fun v K' hs' => K' = K /\ ∃ h', hs' = h' :: hs /\ ∃ ao' c', v = .tuple #[.slice ao' (unsealed b).1.length c', .int .i64 ((unsealed b).2.1 : Nat), .int .i64 (unsealed b).2.2] /\ Own h' ao' (unsealed b).1.length c' 5 1 (bv (unsealed b).1)) := by
 refine enter Tryz.func21 (by kernel_rfl) rfl rfl rfl ?_
 refine sq (rg ?_)
 refine fin hT 3 rfl (th (sq (rg ?_)))
 refine bd hT 1 (.agg #[.slice ao b.length cap, .int .i64 0]) rfl (fun w => by kernel_rfl) ?_
 refine al hT 0 (.agg #[.slice none 0 0, .int .i64 0]) rfl (by kernel_rfl) fun b5 => ?_
 refine sts hT 0 0 rfl rfl (by kernel_rfl) (Nat.le_refl _) (by intro v hv; simp at hv; rcases hv with rfl | rfl <;> rfl) ?_
 refine fin hT 0 rfl (th (sq (rg ?_)))
 refine cl hT 0 rfl (bytesC hm 2097152 (by omega) (b, 0) hl ⟨ao, cap, rfl, x⟩) ?_
 rintro v12 K12 hs12 ⟨h', new, rfl, rfl, hx, aox, cx, rfl, rfl, ox, aor, cr, rfl, xr⟩
 have hun : unsealed b = unsealedOf b (rBytes 2097152 (b, 0)) := rfl
 obtain ⟨hb1, hb2⟩ := rBytes_bd 2097152 b 0
 rw [hun]
 generalize rBytes 2097152 (b, 0) = Y at *
 obtain ⟨xx, rr, ee⟩ := Y
 dsimp only at ox xr hb1 hb2 ⊢
 refine fin hT 1 rfl (th (sq (sq (rg ?_))))
 refine ldp hT 1 1 rfl rfl rfl ?_
 refine cmp hT 0 rfl (fun h1 => ?_) (fun h1 => ?_)
 ·refine ldp hT 2 1 rfl rfl rfl ?_
  refine cmp hT 1 rfl (fun h2 => ?_) (fun h2 => ?_)
  ·refine fin hT 1 rfl (th (ifT rfl (rg ?_)))
   refine stp hT 1 1 rfl rfl rfl rfl ?_
   refine fin hT 0 rfl (th (sq (sq (rg ?_))))
   refine ldp hT 1 1 rfl rfl rfl ?_
   refine cmp hT 0 rfl (fun h3 => ?_) (fun h3 => absurd (by decide) h3)
   ·subst h1
    have hu : unsealedOf b (xx, rr, 0) = ([], 0, 20) := by unfold unsealedOf; rw [if_neg (by simp), if_pos (by dsimp only; omega)]
    refine fin hT 0 rfl (th (ifT rfl (sq (rga [pt b5 #[.slice aor rr.length cr, .int .i64 20] 115] 5 [0, 2, 4, 6, 8] (by simp) (by kernel_rfl) (by kernel_rfl) ?_))))
    refine dldp hT (by kernel_rfl) 1 0 rfl rfl rfl ?_
    refine dend hT (by kernel_rfl) 3 rfl (th (rt (rT ?_)))
    rw [hu]
    refine WQ.drop (WQ.drop (WQ.em ?_))
    exact ret3 rfl rfl rfl rfl ⟨rfl, _, rfl, none, 0, rfl, Own.nil _ _⟩
  ·refine fin hT 1 rfl (th (ifF rfl (sk (th (sq (sq (rg ?_)))))))
   refine ldp hT 1 1 rfl rfl rfl ?_
   refine cmp hT 0 rfl (fun h6 => absurd h1 h6) (fun h6 => ?_)
   ·subst h1
    refine fin hT 0 rfl (th (ifF rfl (sk (th (sq (rg ?_))))))
    refine fin hT 1 rfl (th (sq (sq (rg ?_))))
    refine ldp hT 1 1 rfl rfl rfl ?_
    have h4 : 4 <= rr.length := by omega
    refine sl hT 0 0 4 rfl xr rfl rfl (by omega) (ys := bv (rr.take 4)) (by simp [bv, List.map_take]) fun ao30 c30 x30 => ?_
    have hq : (rr.take 4).length = 4 := by simp; omega
    have hu : unsealedOf b (xx, rr, 0) = if un4 (rr.take 4) = (crc xx).toNat then (xx, b.length - rr.length + 4, 0) else ([], 0, 24) := by unfold unsealedOf; rw [if_neg (by simp), if_neg (by dsimp only; omega)]
    rw [hu]
    generalize rr.take 4 = q at *
    refine fin hT 2 rfl (th (bk ?_))
    refine loop (σ := Nat) (fun k => [(0, .slice ao b.length cap), (5, .pointer (some ⟨b5, 0, none⟩)), (6, .slice aox xx.length cx), (7, .int .u32 ((un4 (q.take k) : Nat) : Int)), (30, .slice ao30 4 c30), (31, .int .i64 4), (32, .int .i64 (k : Nat))]) (fun _ => K12) (fun _ => [hx] ++ pt b5 #[.slice aor rr.length cr, .int .i64 0] 115 :: hs) (fun k => k <= 4) (fun k => 4 - k) 0 (by omega) ⟨rfl, rfl, rfl, rfl, rfl, rfl, rfl, trivial⟩ rfl rfl ?_
    intro k hk
    refine sq (rg ?_)
    refine cmp hT 0 rfl (fun h7 => ?_) (fun h7 => ?_)
    ·refine fin hT 0 rfl (th (sq (ifT rfl (sk (th (sq (bk (sq (rg ?_)))))))))
     have hk4 : k < 4 := by omega
     have hkq : k < q.length := by omega
     obtain ⟨hs1, hs2⟩ := un4_take q k hkq
     have hbd := un4_lt (q.take k) k (Nat.le_of_eq hs2)
     refine ix1 hT 1 k rfl rfl rfl x30 (bv_get hkq) fun a35 hc35 => ?_
     refine ld hT 0 rfl (In.cons (In.cons hm)) hc35 ?_
     refine fin hT 2 rfl (th (rg ?_))
     refine ar hT 2 rfl (u32w (by have := (q[k]).toNat_lt; omega)) ?_
     refine ar hT 1 rfl (i64w (by omega)) ?_
     refine shf hT 0 rfl (by omega) (.inl ⟨rfl, u32shl8 _ k hk4 (q[k]).toNat_lt⟩) ?_
     refine ar hT 0 rfl (u32or8 _ _ k hk4 hbd (q[k]).toNat_lt) ?_
     refine fin hT 1 rfl (bl (th (rg ?_)))
     refine ar hT 0 rfl (i64w (by omega)) ?_
     refine fin hT 1 rfl ?_
     exact again (x := k) (k + 1) ⟨rfl, rfl, rfl, by rw [hs1]; rfl, rfl, rfl, rfl, trivial⟩ rfl rfl (by omega) (by omega)
    ·obtain rfl : k = 4 := by omega
     rw [List.take_of_length_le (by omega : q.length <= 4)]
     refine fin hT 0 rfl (th (sq (ifF rfl (ex (xt (xt (xb (th (sq (sq (rg ?_)))))))))))
     refine cl hT 2 rfl (sumC aox cx xx (.inr ⟨0, rfl⟩) ox.isS (by omega)) ?_
     rintro v47 K47 hs47 ⟨rfl, rfl, rfl⟩
     refine cmp hT 0 rfl (fun h8 => ?_) (fun h8 => ?_)
     ·refine fin hT 0 rfl (th (ifT rfl (sq (rg ?_))))
      refine fin hT 3 rfl (th (rt (rT ?_)))
      rw [if_neg (by omega)]
      refine WQ.drop (WQ.drop (WQ.em ?_))
      exact ret3 rfl rfl rfl rfl ⟨rfl, _, rfl, none, 0, rfl, Own.nil _ _⟩
     ·refine fin hT 0 rfl (th (ifF rfl (sk (th (sq (rga [pt b5 #[.slice aor rr.length cr, .int .i64 0] 115] 11 [0, 2, 4, 6, 8, 10, 12, 14, 16, 18, 20] (by simp) (by kernel_rfl) (by kernel_rfl) ?_))))))
      refine dldp hT (by kernel_rfl) 4 0 rfl rfl rfl ?_
      refine dar hT (by kernel_rfl) 1 rfl (i64w (by omega)) ?_
      refine dar hT (by kernel_rfl) 0 rfl (v' := .int .i64 ((b.length - rr.length + 4 : Nat) : Int)) (by rw [i64w (by omega)]; congr 1; omega) ?_
      refine dend hT (by kernel_rfl) 3 rfl (th (rt ?_))
      rw [if_pos (by omega)]
      refine WQ.perm (List.Perm.swap _ _ _) (WQ.drop ?_)
      exact ret3 rfl rfl rfl rfl ⟨rfl, hx, rfl, aox, cx, rfl, ox⟩
 ·refine fin hT 6 rfl (th (ifF rfl (sk (th (sq (sq (rg ?_)))))))
  refine ldp hT 1 1 rfl rfl rfl ?_
  refine cmp hT 0 rfl (fun h9 => ?_) (fun h9 => absurd h1 h9)
  ·have hu : unsealedOf b (xx, rr, ee) = ([], 0, ee) := by unfold unsealedOf; rw [if_pos h1]
   refine fin hT 0 rfl (th (ifT rfl (sq (rga [pt b5 #[.slice aor rr.length cr, .int .i64 ee] 115] 5 [0, 2, 4, 6, 8] (by simp) (by kernel_rfl) (by kernel_rfl) ?_))))
   refine dldp hT (by kernel_rfl) 1 0 rfl rfl rfl ?_
   refine dend hT (by kernel_rfl) 3 rfl (th (rt (rT ?_)))
   rw [hu]
   refine WQ.drop (WQ.drop (WQ.em ?_))
   exact ret3 rfl rfl rfl rfl ⟨rfl, _, rfl, none, 0, rfl, Own.nil _ _⟩
end Go.Proofs.YtejkjbkodcamoaaGreatDoor
end
section
namespace Go.Proofs.YtejkjbkodcamoaaGreatDoor
open Go.En
attribute [local irreducible] Code.wp wpList Calls
def OutB (o : Option (List UInt8)) (hs : List PH) (v : Value) (hs' : List PH) : Prop :=
 ∃ h ao c, hs' = h :: hs /\ v = .tuple #[.slice ao (ob o).length c, .int .i64 (ec o)] /\ Own h ao (ob o).length c 5 1 (bv (ob o))
theorem outN {o : Option (List UInt8)} {hs : List PH} (h : o = none) : OutB o hs (.tuple #[.slice none 0 0, .int .i64 170]) (em :: hs) := by subst h; exact ⟨em, none, 0, rfl, rfl, Own.nil _ _⟩
theorem outS {o : Option (List UInt8)} {hs : List PH} {l : List UInt8} {h : PH} {ao : Option Addr} {c : Nat} (e : o = some l) (x : Own h ao l.length c 5 1 (bv l)) : OutB o hs (.tuple #[.slice ao l.length c, .int .i64 0]) (h :: hs) := by subst e; exact ⟨h, ao, c, rfl, rfl, x⟩
theorem putCmd_no {c : Cmd} (h : ¬ c.ok) : putCmd c = none := if_neg h
theorem eqCmd (c d : Cmd) (w : World) : (Op.equalIn 10000 31 (.agg c.v) (.agg d.v)).run Tryz.prog w = .ok (decide (c = d)) w := by
 have u3 := Tryz.underlying3
 have a3 := Tryz.isAgg3
 have z3 := Tryz.sizeOf3
 have u22 := Tryz.underlying23
 have a22 := Tryz.isAgg23
 have z22 := Tryz.sizeOf23
 have u9 := Tryz.underlying9
 have a9 := Tryz.isAgg9
 have z9 := Tryz.sizeOf9
 have hS : Tryz.prog.underlying 31 = some (.struct (Tryz.prog.fieldsOf 31)) := by kernel_rfl
 rw [show (10000 : Nat) = 9999 + 1 from rfl, run_equalIn_agg w 9999 31 _ _ hS (by kernel_rfl)]
 simp only [Program.fieldsOf, Tryz.underlying31, Cmd.v]
 go_simp
 obtain ⟨k, s, q, l, t⟩ := c
 obtain ⟨k', s', q', l', t'⟩ := d
 by_cases h1 : k = k' <;> by_cases h2 : s = s' <;> by_cases h3 : q = q' <;> by_cases h4 : l = l' <;> by_cases h5 : t = t' <;> simp [h1, h2, h3, h4, h5, str_toList, Int.ofNat_inj]
theorem putCmdC {w0 : World} {K : PH} {hs : List PH} (c : Cmd) (hs1 : c.ses < 18446744073709551616) (hs2 : c.seq < 18446744073709551616) :
  Ct Tryz.prog w0 5 [.agg c.v] K hs (fun v K' hs' => K' = K /\ OutB (putCmd c) hs v hs') := by
 refine enter Tryz.func5 (by kernel_rfl) rfl rfl rfl ?_
 refine sq (rg ?_)
 refine bx hT 0 rfl fun b1 => ?_
 refine fin hT 2 rfl (th (sq (rg ?_)))
 refine ldp hT 1 0 rfl rfl rfl ?_
 refine ar hT 0 rfl rfl ?_
 refine lit hT 0 #[.int .u8 (IntKind.u8.wrap c.kind)] rfl (by decide) (by kernel_rfl) fun b8 => ?_
 refine fin hT 1 rfl (th (jn (σ := Nat) (fun s => [(1, .pointer (some ⟨b1, 0, none⟩)), (4, .slice (some ⟨b8, 0, none⟩) 1 1)]) (fun s => pt b8 #[.int .u8 ((s : Nat) : Int)] 5 :: pt b1 c.v 31 :: hs) (fun s => (s = 2 \/ s = 3) /\ c.kind = (s : Nat)) ?_ ?_))
 ·refine sq (rg ?_)
  refine ldp hT 1 1 rfl rfl rfl ?_
  refine fin hT 0 rfl (th (bk (sq (rg ?_))))
  refine cmpS hT 0 rfl fun b12 h12 => ?_
  refine fin hT 1 rfl (th (ifP h12 rfl (fun e2 => ?_) (fun e2 => ?_)))
  ·refine sq (sq (rg ?_))
   refine ldS hT 0 1 rfl rfl (by kernel_rfl) ?_
   refine bd hT 0 (.agg (Cmd.mk 1 0 0 [] 0).v) rfl (fun w => by kernel_rfl) ?_
   refine eqs hT 0 rfl (by kernel_rfl) (fun w => eqCmd c ⟨1, 0, 0, [], 0⟩ w) ?_
   refine nmS fun b15 h15 => ?_
   refine fin hT 0 rfl (th (ifP h15 rfl (fun e4 => ?_) (fun e4 => ?_)))
   ·refine sq (rg ?_)
    refine fin hT 2 rfl (th (rt (rT (rB (jr ?_)))))
    refine WQ.drop (WQ.drop (WQ.em ?_))
    exact ret2 rfl rfl rfl ⟨rfl, outN (putCmd_no fun ok => ok.elim (fun ⟨h0, h1, h2, h3, h4⟩ => absurd (show c = ⟨1, 0, 0, [], 0⟩ by cases c; simp_all) (by simpa using e4)) (fun ⟨h1, _⟩ => by omega))⟩
   ·refine sk (th (sq (rg ?_)))
    refine fin hT 3 rfl (th (rt (rB (jr ?_))))
    have hc : c = ⟨1, 0, 0, [], 0⟩ := by simpa using e4
    subst hc
    refine WQ.perm (List.Perm.swap _ _ _) (WQ.drop ?_)
    exact ret2 rfl rfl rfl ⟨rfl, _, _, _, rfl, rfl, own_byte _ 1 (by decide)⟩
  ·refine sq (sq (rg ?_))
   refine cmpS hT 0 rfl fun b18 h18 => ?_
   refine fin hT 1 rfl (th (ifP h18 rfl (fun e6 => ?_) (fun e6 => ?_)))
   ·refine sk (th (ifPT h18 e6 rfl (sk (bl ?_))))
    exact jx (2 : Nat) ⟨.inl rfl, e6⟩ ⟨rfl, rfl, trivial⟩ rfl (by rw [e6]; rfl)
   ·refine rg ?_
    refine cmpS hT 0 rfl fun b19 h19 => ?_
    refine fin hT 1 rfl (th (ifP h19 rfl (fun e8 => ?_) (fun e8 => ?_)))
    ·refine sk (bl ?_)
     exact jx (3 : Nat) ⟨.inr rfl, e8⟩ ⟨rfl, rfl, trivial⟩ rfl (by rw [e8]; rfl)
    ·refine sq (rg ?_)
     refine fin hT 2 rfl (th (rt (rB (jr ?_))))
     refine WQ.drop (WQ.drop (WQ.em ?_))
     exact ret2 rfl rfl rfl ⟨rfl, outN (putCmd_no fun ok => ok.elim (fun h => e2 h.1) (fun h => h.1.elim e6 e8))⟩
 ·rintro k ⟨hk, hkk⟩
  refine sq (sq (rg ?_))
  refine ldp hT 1 1 rfl rfl rfl ?_
  refine cmpS hT 1 rfl fun b23 h23 => ?_
  refine' bjo hT 1 4 28 [23, 24] h23 rfl rfl rfl rfl rfl rfl rfl (fun _ => ?x10) (fun b28 h28 => ?_)
  case x10 =>
   refine ldp hT 1 1 rfl rfl rfl ?_
   refine cmpS hT 0 rfl fun b27 h27 => ?_
   exact fin hT 1 rfl (bjx h27 rfl rfl rfl)
  refine' bjo hT 1 4 33 [28, 29] h28 rfl rfl rfl rfl rfl rfl rfl (fun _ => ?x12) (fun b33 h33 => ?_)
  case x12 =>
   refine ldp hT 1 1 rfl rfl rfl ?_
   refine cmpS hT 0 rfl fun b32 h32 => ?_
   exact fin hT 1 rfl (bjx h32 rfl rfl rfl)
  refine' bjo hT 1 9 43 [33, 34] h33 rfl rfl rfl rfl rfl rfl rfl (fun _ => ?x14) (fun b43 h43 => ?_)
  case x14 =>
   refine ldp hT 1 1 rfl rfl rfl ?_
   refine cmpS hT 0 rfl fun b37 h37 => ?_
   refine' bja hT 1 4 42 [37, 38] h37 rfl rfl rfl rfl rfl rfl rfl (fun _ => ?x16) (fun b42 h42 => ?_)
   case x16 =>
    refine ldp hT 1 1 rfl rfl rfl ?_
    refine cmpS hT 0 rfl fun b41 h41 => ?_
    exact fin hT 1 rfl (bjx h41 rfl rfl rfl)
   exact fin hT 1 rfl (bjx h42 rfl rfl rfl)
  refine fin hT 0 rfl (th (ifP h43 rfl (fun e18 => ?_) (fun e18 => ?_)))
  ·refine sq (rg ?_)
   refine fin hT 2 rfl (th (rt (rT ?_)))
   refine WQ.drop (WQ.drop (WQ.em ?_))
   exact ret2 rfl rfl rfl ⟨rfl, outN (putCmd_no fun ok => ok.elim (fun h => by omega) (fun h => by simp only [ByteArray.size, List.size_toArray] at e18; omega))⟩
  ·have hok : c.ok := .inr ⟨by omega, by simp only [ByteArray.size, List.size_toArray] at e18; omega, by omega, by omega, by omega⟩
   obtain ⟨t, ht⟩ : ∃ t : Nat, c.wt = (t : Nat) := Int.eq_ofNat_of_zero_le (by rcases hok with h | h <;> omega)
   have hw96 : c.word.length <= 96 := by simp only [ByteArray.size, List.size_toArray] at e18; omega
   have hu1 := uint_le10 (n := c.ses) hs1
   have hu2 := uint_le10 (n := c.seq) hs2
   have hu3 := uint_le10 (n := c.word.length) (by omega)
   have o8 : Own (pt b8 #[.int .u8 ((k : Nat) : Int)] 5) (some ⟨b8, 0, none⟩) ([UInt8.ofNat k] : List UInt8).length 1 5 1 (bv [UInt8.ofNat k]) := own_byte b8 k (by omega)
   refine sk (th (jn (σ := Option Addr × Nat × PH) (fun s => [(1, .pointer (some ⟨b1, 0, none⟩)), (4, .slice s.1 ([UInt8.ofNat k] ++ uint c.ses ++ uint c.seq ++ putBytes c.word).length s.2.1)]) (fun s => s.2.2 :: pt b1 c.v 31 :: hs) (fun s => Own s.2.2 s.1 ([UInt8.ofNat k] ++ uint c.ses ++ uint c.seq ++ putBytes c.word).length s.2.1 5 1 (bv ([UInt8.ofNat k] ++ uint c.ses ++ uint c.seq ++ putBytes c.word))) ?_ ?_))
   ·refine rga [pt b1 c.v 31] 12 [0, 2, 4, 8, 10, 14, 16, 7, 13, 19, 21, 22] (by simp) (by kernel_rfl) (by kernel_rfl) ?_
    refine dldp hT (by kernel_rfl) 2 0 rfl rfl rfl ?_
    refine dldp hT (by kernel_rfl) 1 0 rfl rfl rfl ?_
    refine dldp hT (by kernel_rfl) 1 0 rfl rfl rfl ?_
    refine dfork 9 hT (by kernel_rfl) 0 [7, 13, 21, 22] rfl (by kernel_rfl) ?_ ?_
    ·refine cl hT 0 rfl (putUint _ _ [UInt8.ofNat k] c.ses o8 hs1 (by simp)) ?_
     rintro v47 K47 hs47 ⟨g47, rfl, rfl, ao47, c47, rfl, o47⟩
     refine dnex [pt b1 c.v 31] (by simp) (by simp) rfl ?_
     refine dfork 9 hT (by kernel_rfl) 0 [13, 21, 22] rfl (by kernel_rfl) ?_ ?_
     ·refine cl hT 0 rfl (putUint ao47 c47 _ c.seq o47 hs2 (by simp; omega)) ?_
      rintro v50 K50 hs50 ⟨g50, rfl, rfl, ao50, c50, rfl, o50⟩
      refine dnex [pt b1 c.v 31] (by simp) (by simp) rfl ?_
      refine dact hT (by kernel_rfl) 0 rfl ?_
      refine cvb hT 0 rfl (by kernel_rfl) fun b53 c53 g53 o53 => ?_
      refine dnex [pt b1 c.v 31] (by simp) (by simp) rfl ?_
      refine dact hT (by kernel_rfl) 0 rfl ?_
      refine cl hT 0 rfl (Ct.at 1 rfl (putBytesC ao50 c50 _ _ _ c.word o50 (.inr ⟨0, rfl⟩) o53 (by simp; omega) (by omega))) ?_
      rintro v54 K54 hs54 ⟨g54, rfl, rfl, ao54, c54, rfl, o54⟩
      refine dnex [pt b1 c.v 31] (by simp) (by simp) rfl ?_
      refine dend hT (by kernel_rfl) 1 rfl ?_
      refine WQ.drop ?_
      exact jx (ao54, c54, g54) o54 ⟨rfl, rfl, trivial⟩ rfl rfl
     ·refine cvb hT 0 rfl (by kernel_rfl) fun b53 c53 g53 o53 => ?_
      refine dnex [pt b1 c.v 31] (by simp) (by simp) rfl ?_
      refine dact hT (by kernel_rfl) 0 rfl ?_
      refine cl hT 0 rfl (Ct.at 1 rfl (putUint ao47 c47 _ c.seq o47 hs2 (by simp; omega))) ?_
      rintro v50 K50 hs50 ⟨g50, rfl, rfl, ao50, c50, rfl, o50⟩
      refine dnex [pt b1 c.v 31] (by simp) (by simp) rfl ?_
      refine dact hT (by kernel_rfl) 0 rfl ?_
      refine cl hT 0 rfl (Ct.at 1 rfl (putBytesC ao50 c50 _ _ _ c.word o50 (.inr ⟨0, rfl⟩) o53 (by simp; omega) (by omega))) ?_
      rintro v54 K54 hs54 ⟨g54, rfl, rfl, ao54, c54, rfl, o54⟩
      refine dnex [pt b1 c.v 31] (by simp) (by simp) rfl ?_
      refine dend hT (by kernel_rfl) 1 rfl ?_
      refine WQ.drop ?_
      exact jx (ao54, c54, g54) o54 ⟨rfl, rfl, trivial⟩ rfl rfl
    ·refine cvb hT 0 rfl (by kernel_rfl) fun b53 c53 g53 o53 => ?_
     refine dnex [pt b1 c.v 31] (by simp) (by simp) rfl ?_
     refine dact hT (by kernel_rfl) 0 rfl ?_
     refine cl hT 0 rfl (Ct.at 1 rfl (putUint _ _ [UInt8.ofNat k] c.ses o8 hs1 (by simp))) ?_
     rintro v47 K47 hs47 ⟨g47, rfl, rfl, ao47, c47, rfl, o47⟩
     refine dnex [pt b1 c.v 31] (by simp) (by simp) rfl ?_
     refine dact hT (by kernel_rfl) 0 rfl ?_
     refine cl hT 0 rfl (Ct.at 1 rfl (putUint ao47 c47 _ c.seq o47 hs2 (by simp; omega))) ?_
     rintro v50 K50 hs50 ⟨g50, rfl, rfl, ao50, c50, rfl, o50⟩
     refine dnex [pt b1 c.v 31] (by simp) (by simp) rfl ?_
     refine dact hT (by kernel_rfl) 0 rfl ?_
     refine cl hT 0 rfl (Ct.at 1 rfl (putBytesC ao50 c50 _ _ _ c.word o50 (.inr ⟨0, rfl⟩) o53 (by simp; omega) (by omega))) ?_
     rintro v54 K54 hs54 ⟨g54, rfl, rfl, ao54, c54, rfl, o54⟩
     refine dnex [pt b1 c.v 31] (by simp) (by simp) rfl ?_
     refine dend hT (by kernel_rfl) 1 rfl ?_
     refine WQ.drop ?_
     exact jx (ao54, c54, g54) o54 ⟨rfl, rfl, trivial⟩ rfl rfl
   ·rintro ⟨ao, cap, g⟩ o
    dsimp only at o ⊢
    refine sq (sq (rg ?_))
    refine ldp hT 1 1 rfl rfl rfl ?_
    refine cmpS hT 0 rfl fun b57 h57 => ?_
    refine fin hT 0 rfl (th (ifP h57 rfl (fun e20 => ?_) (fun e20 => ?_)))
    ·refine rg ?_
     refine ldp hT 2 1 rfl rfl rfl ?_
     refine ar hT 0 rfl (v' := .int .u64 ((t : Nat) : Int)) (by rw [ht, u64w (by omega)]) ?_
     refine cl hT 0 rfl (putUint ao cap _ t o (by omega) (by simp [putBytes]; omega)) ?_
     rintro v62 K62 hs62 ⟨g62, rfl, rfl, ao62, c62, rfl, o62⟩
     refine fin hT 1 rfl (th (sq (rg ?_)))
     refine fin hT 3 rfl (th (rt ?_))
     refine WQ.perm (List.Perm.swap _ _ _) (WQ.drop ?_)
     exact ret2 rfl rfl rfl ⟨rfl, outS (by (obtain rfl : k = 2 := by omega); rw [putCmd, if_pos hok, Cmd.bytes, if_neg (by omega), if_pos e20, ht]; simp) o62⟩
    ·refine sk (th (sq (rg ?_)))
     refine fin hT 3 rfl (th (rt ?_))
     refine WQ.perm (List.Perm.swap _ _ _) (WQ.drop ?_)
     exact ret2 rfl rfl rfl ⟨rfl, outS (by (obtain rfl : k = 3 := by omega); rw [putCmd, if_pos hok, Cmd.bytes, if_neg (by omega), if_neg e20]; simp) o⟩
end Go.Proofs.YtejkjbkodcamoaaGreatDoor
namespace Go.Proofs.YtejkjbkodcamoaaGreatDoor
open Go.En
attribute [local irreducible] Code.wp wpList Calls
theorem rByte_lt (s : Rd) : (rByte s).1 < 256 := by
 obtain ⟨b, e⟩ := s
 unfold rByte
 dsimp only
 split
 ·cases b with
  | nil => decide
  | cons c r => exact c.toNat_lt
 ·show (0 : Nat) < 256; omega
theorem rByte_len (s : Rd) : (rByte s).2.1.length <= s.1.length := by
 obtain ⟨b, e⟩ := s
 unfold rByte
 dsimp only
 split
 ·cases b <;> simp
 ·exact Nat.le_refl _
theorem rUint_len (m : Nat) (s : Rd) : (rUint m s).2.1.length <= s.1.length := (rUint_bd m s.1 s.2).2
theorem rBytes_len (m : Int) (s : Rd) : (rBytes m s).1.length <= s.1.length /\ (rBytes m s).2.1.length <= s.1.length := rBytes_bd m s.1 s.2
theorem getCmdR_2 {b : List UInt8} (h : (rByte (b, 0)).1 = 2) : getCmdR b = (⟨2, (rUint mxU (rByte (b, 0)).2).1, (rUint mxU (rUint mxU (rByte (b, 0)).2).2).1, (rBytes 96 (rUint mxU (rUint mxU (rByte (b, 0)).2).2).2).1, (rUint 1073741824 (rBytes 96 (rUint mxU (rUint mxU (rByte (b, 0)).2).2).2).2).1⟩, (rUint 1073741824 (rBytes 96 (rUint mxU (rUint mxU (rByte (b, 0)).2).2).2).2).2) := by
 unfold getCmdR
 dsimp only
 rw [if_neg (by omega), if_pos (.inl h), if_pos h]
theorem getCmdR_3 {b : List UInt8} (h : (rByte (b, 0)).1 = 3) : getCmdR b = (⟨3, (rUint mxU (rByte (b, 0)).2).1, (rUint mxU (rUint mxU (rByte (b, 0)).2).2).1, (rBytes 96 (rUint mxU (rUint mxU (rByte (b, 0)).2).2).2).1, 0⟩, (rBytes 96 (rUint mxU (rUint mxU (rByte (b, 0)).2).2).2).2) := by
 unfold getCmdR
 dsimp only
 rw [if_neg (by omega), if_pos (.inr h), if_neg (by omega)]
theorem getCmdR_1 {b : List UInt8} (h : (rByte (b, 0)).1 = 1) : getCmdR b = (⟨1, 0, 0, [], 0⟩, (rByte (b, 0)).2) := by
 unfold getCmdR
 dsimp only
 rw [if_pos h]
theorem getCmdR_n {b : List UInt8} (h1 : ¬ (rByte (b, 0)).1 = 1) (h2 : ¬ (rByte (b, 0)).1 = 2) (h3 : ¬ (rByte (b, 0)).1 = 3) : getCmdR b = (⟨(rByte (b, 0)).1, 0, 0, [], 0⟩, ((rByte (b, 0)).2.1, if (rByte (b, 0)).2.2 = 0 then 170 else (rByte (b, 0)).2.2)) := by
 unfold getCmdR
 dsimp only
 rw [if_neg h1, if_neg (by omega)]
theorem getCmdC {w0 : World} {K hb : PH} {hs : List PH} (ao : Option Addr) (cap : Nat) (b : List UInt8) (hm : In K hs hb) (x : IsS hb ao b.length cap 1 (bv b)) (hl : b.length < 1099511627776) :
  Ct Tryz.prog w0 8 [.slice ao b.length cap] K hs (fun v K' hs' => K' = K /\ hs' = hs /\ v = .tuple #[.agg ((getCmd b).getD Cmd.zero).v, .int .i64 (ec (getCmd b))]) := by
 refine enter Tryz.func8 (by kernel_rfl) rfl rfl rfl ?_
 refine sq (rg ?_)
 refine al hT 0 (.agg #[.int .i64 0, .int .u64 0, .int .u64 0, .string ⟨#[]⟩, .int .i64 0]) rfl (by kernel_rfl) fun b2 => ?_
 refine fin hT 1 rfl (th (sq (rg ?_)))
 refine cl hT 1 rfl (readC ao cap b (In.cons hm) x hl) ?_
 rintro v7 K7 hs7 ⟨rfl, rb, h, hb', rfl, rfl, rd⟩
 refine fin hT 1 rfl (th (sq (rg ?_)))
 refine cl hT 1 rfl (byteC (.inr ⟨0, rfl⟩) (b, 0) rd) ?_
 rintro v9 K9 hs9 ⟨h1, rfl, rfl, rfl, rd1⟩
 have hk256 := rByte_lt (b, 0)
 have hl1 := rByte_len (b, 0)
 have hl2 := rUint_len mxU (rByte (b, 0)).2
 have hl3 := rUint_len mxU (rUint mxU (rByte (b, 0)).2).2
 have hl4 := (rBytes_len 96 (rUint mxU (rUint mxU (rByte (b, 0)).2).2).2).2
 dsimp only at hl1 hk256
 refine ar hT 0 rfl (i64w (by omega)) ?_
 refine bd hT 0 (.agg (Cmd.mk ((rByte (b, 0)).1 : Nat) 0 0 [] 0).v) rfl (fun w => by kernel_rfl) ?_
 refine al hT 0 (.agg #[.int .i64 0, .int .u64 0, .int .u64 0, .string ⟨#[]⟩, .int .i64 0]) rfl (by kernel_rfl) fun b5 => ?_
 refine stS hT 0 0 rfl rfl (by kernel_rfl) rfl rfl ?_
 refine fin hT 0 rfl (th (jn (σ := Cmd × Rd × PH) (fun s => [(2, .pointer (some ⟨b2, 0, none⟩)), (4, .pointer (some ⟨rb, 0, none⟩)), (5, .pointer (some ⟨b5, 0, none⟩))]) (fun s => pt b5 s.1.v 31 :: s.2.2 :: hb' :: pt b2 Cmd.zero.v 31 :: hs) (fun s => (s.1, s.2.1) = getCmdR b /\ IsRd rb hb' s.2.1 s.2.2) ?_ ?_))
 ·refine sq (rg ?_)
  refine ldp hT 1 0 rfl rfl rfl ?_
  refine fin hT 0 rfl (th (bk (sq (rg ?_))))
  refine cmpS hT 0 rfl fun b17 h17 => ?_
  refine fin hT 1 rfl (th (ifP h17 rfl (fun e2 => ?_) (fun e2 => ?_)))
  ·refine sk (bl ?_)
   exact jx (⟨1, 0, 0, [], 0⟩, (rByte (b, 0)).2, h1) ⟨(getCmdR_1 (by have : ((rByte (b, 0)).1 : Int) = 1 := e2; omega)).symm, rd1⟩ ⟨rfl, rfl, rfl, trivial⟩ rfl (congrArg (fun k : Int => pt b5 (Cmd.mk k 0 0 [] 0).v 31 :: h1 :: hb' :: pt b2 Cmd.zero.v 31 :: hs) e2)
  ·refine sq (sq (rg ?_))
   refine cmpS hT 0 rfl fun b19 h19 => ?_
   refine fin hT 1 rfl (th (ifP h19 rfl (fun e4 => ?_) (fun e4 => ?_)))
   ·refine sk (th (ifPT h19 e4 rfl (sq (rg ?_))))
    refine cl hT 1 rfl (Ct.at 1 rfl (uintC (.inr ⟨1, rfl⟩) mxU _ (by omega) rd1)) ?_
    rintro v22 K22 hs22 ⟨h2, rfl, rfl, rfl, rd2⟩
    refine stp hT 1 0 rfl rfl rfl rfl ?_
    refine fin hT 0 rfl (th (sq (rg ?_)))
    refine cl hT 1 rfl (Ct.at 1 rfl (uintC (.inr ⟨1, rfl⟩) mxU _ (by omega) rd2)) ?_
    rintro v25 K25 hs25 ⟨h3, rfl, rfl, rfl, rd3⟩
    refine stp hT 1 0 rfl rfl rfl rfl ?_
    refine fin hT 0 rfl (th (sq (rg ?_)))
    refine cl hT 1 rfl (Ct.atN 1 rfl (bytesC (.inr ⟨1, rfl⟩) 96 (by omega) _ (by omega) rd3)) ?_
    rintro v28 K28 hs28 ⟨h4, new, rfl, rfl, hx, aox, cx, rfl, rfl, ox, rd4⟩
    refine cvs hT 0 _ rfl (.inr ⟨0, rfl⟩) ox.isS (by kernel_rfl) ?_
    refine stp hT 1 1 rfl rfl rfl rfl ?_
    refine fin hT 0 rfl (th (WC.drop (sq (rg ?_))))
    refine ldp hT 1 0 rfl rfl rfl ?_
    refine cmpS hT 0 rfl fun b33 h33 => ?_
    refine fin hT 0 rfl (th (ifP h33 rfl (fun e6 => ?_) (fun e6 => ?_)))
    ·refine rg ?_
     refine cl hT 1 rfl (Ct.at 1 rfl (uintC (.inr ⟨1, rfl⟩) 1073741824 _ (by omega) rd4)) ?_
     rintro v35 K35 hs35 ⟨h5, rfl, rfl, rfl, rd5⟩
     have hw30 := rUint_le 1073741824 (rBytes 96 (rUint mxU (rUint mxU (rByte (b, 0)).2).2).2).2
     refine ar hT 0 rfl (i64w (by omega)) ?_
     refine stp hT 1 0 rfl rfl rfl rfl ?_
     refine fin hT 0 rfl (bl ?_)
     exact jx (⟨2, (rUint mxU (rByte (b, 0)).2).1, (rUint mxU (rUint mxU (rByte (b, 0)).2).2).1, (rBytes 96 (rUint mxU (rUint mxU (rByte (b, 0)).2).2).2).1, (rUint 1073741824 (rBytes 96 (rUint mxU (rUint mxU (rByte (b, 0)).2).2).2).2).1⟩, (rUint 1073741824 (rBytes 96 (rUint mxU (rUint mxU (rByte (b, 0)).2).2).2).2).2, h5) ⟨(getCmdR_2 (by have : ((rByte (b, 0)).1 : Int) = 2 := e4; omega)).symm, rd5⟩ ⟨rfl, rfl, rfl, trivial⟩ rfl (congrArg (fun k : Int => pt b5 (Cmd.mk k (rUint mxU (rByte (b, 0)).2).1 (rUint mxU (rUint mxU (rByte (b, 0)).2).2).1 (rBytes 96 (rUint mxU (rUint mxU (rByte (b, 0)).2).2).2).1 (rUint 1073741824 (rBytes 96 (rUint mxU (rUint mxU (rByte (b, 0)).2).2).2).2).1).v 31 :: h5 :: hb' :: pt b2 Cmd.zero.v 31 :: hs) e4)
    ·refine absurd e4 e6
   ·refine rg ?_
    refine cmpS hT 0 rfl fun b20 h20 => ?_
    refine fin hT 1 rfl (th (ifP h20 rfl (fun e8 => ?_) (fun e8 => ?_)))
    ·refine sq (rg ?_)
     refine cl hT 1 rfl (Ct.at 1 rfl (uintC (.inr ⟨1, rfl⟩) mxU _ (by omega) rd1)) ?_
     rintro v22 K22 hs22 ⟨h2, rfl, rfl, rfl, rd2⟩
     refine stp hT 1 0 rfl rfl rfl rfl ?_
     refine fin hT 0 rfl (th (sq (rg ?_)))
     refine cl hT 1 rfl (Ct.at 1 rfl (uintC (.inr ⟨1, rfl⟩) mxU _ (by omega) rd2)) ?_
     rintro v25 K25 hs25 ⟨h3, rfl, rfl, rfl, rd3⟩
     refine stp hT 1 0 rfl rfl rfl rfl ?_
     refine fin hT 0 rfl (th (sq (rg ?_)))
     refine cl hT 1 rfl (Ct.atN 1 rfl (bytesC (.inr ⟨1, rfl⟩) 96 (by omega) _ (by omega) rd3)) ?_
     rintro v28 K28 hs28 ⟨h4, new, rfl, rfl, hx, aox, cx, rfl, rfl, ox, rd4⟩
     refine cvs hT 0 _ rfl (.inr ⟨0, rfl⟩) ox.isS (by kernel_rfl) ?_
     refine stp hT 1 1 rfl rfl rfl rfl ?_
     refine fin hT 0 rfl (th (WC.drop (sq (rg ?_))))
     refine ldp hT 1 0 rfl rfl rfl ?_
     refine cmpS hT 0 rfl fun b33 h33 => ?_
     refine fin hT 0 rfl (th (ifP h33 rfl (fun e10 => ?_) (fun e10 => ?_)))
     ·refine absurd e10 (by rw [show ((rByte (b, 0)).1 : Int) = 3 from e8]; decide)
     ·refine sk (bl ?_)
      exact jx (⟨3, (rUint mxU (rByte (b, 0)).2).1, (rUint mxU (rUint mxU (rByte (b, 0)).2).2).1, (rBytes 96 (rUint mxU (rUint mxU (rByte (b, 0)).2).2).2).1, 0⟩, (rBytes 96 (rUint mxU (rUint mxU (rByte (b, 0)).2).2).2).2, h4) ⟨(getCmdR_3 (by have : ((rByte (b, 0)).1 : Int) = 3 := e8; omega)).symm, rd4⟩ ⟨rfl, rfl, rfl, trivial⟩ rfl (congrArg (fun k : Int => pt b5 (Cmd.mk k (rUint mxU (rByte (b, 0)).2).1 (rUint mxU (rUint mxU (rByte (b, 0)).2).2).1 (rBytes 96 (rUint mxU (rUint mxU (rByte (b, 0)).2).2).2).1 0).v 31 :: h4 :: hb' :: pt b2 Cmd.zero.v 31 :: hs) e8)
    ·refine rg ?_
     refine cl hT 1 rfl (Ct.at 1 rfl (failC (rByte (b, 0)).2 170 rd1)) ?_
     rintro v15 K15 hs15 ⟨h2, rfl, rfl, rfl, rd2⟩
     refine fin hT 0 rfl (bl ?_)
     exact jx (⟨((rByte (b, 0)).1 : Nat), 0, 0, [], 0⟩, ((rByte (b, 0)).2.1, if (rByte (b, 0)).2.2 = 0 then 170 else (rByte (b, 0)).2.2), h2) ⟨(getCmdR_n (fun h => e2 (show ((rByte (b, 0)).1 : Int) = 1 by omega)) (fun h => e4 (show ((rByte (b, 0)).1 : Int) = 2 by omega)) (fun h => e8 (show ((rByte (b, 0)).1 : Int) = 3 by omega))).symm, rd2⟩ ⟨rfl, rfl, rfl, trivial⟩ rfl rfl
 ·clear rd rd1
  rintro ⟨c, s, h⟩ ⟨hc, rd⟩
  dsimp only at hc rd ⊢
  refine sq (sq (rg ?_))
  refine cl hT 1 rfl (Ct.keep 1 rfl (endC s rd)) ?_
  rintro v39 K39 hs39 ⟨rfl, rfl, rfl⟩
  refine cmpS hT 0 rfl fun b40 h40 => ?_
  have hg : getCmd b = if rEnd s = 0 then some c else none := by rw [getCmd, <- hc]
  refine fin hT 0 rfl (th (ifP h40 rfl (fun e12 => ?_) (fun e12 => ?_)))
  ·refine sq (rg ?_)
   refine bd hT 0 (.agg Cmd.zero.v) rfl (fun w => by kernel_rfl) ?_
   refine stS hT 0 3 rfl rfl (by kernel_rfl) rfl rfl ?_
   refine fin hT 1 rfl (th (rt (rT ?_)))
   exact retcP 3 4 rfl rfl rfl rfl (by kernel_rfl) ⟨rfl, rfl, by rw [hg, if_neg e12]; rfl⟩
  ·refine sk (th (sq (rg ?_)))
   refine ldS hT 0 0 rfl rfl (by kernel_rfl) ?_
   refine stS hT 0 3 rfl rfl (by kernel_rfl) rfl rfl ?_
   refine fin hT 1 rfl (th (rt ?_))
   exact retcP 3 4 rfl rfl rfl rfl (by kernel_rfl) ⟨rfl, rfl, by rw [hg, if_pos (by simpa using e12)]; rfl⟩
end Go.Proofs.YtejkjbkodcamoaaGreatDoor
namespace Go.Proofs.YtejkjbkodcamoaaGreatDoor
open Go.En
attribute [local irreducible] Code.wp wpList Calls
end Go.Proofs.YtejkjbkodcamoaaGreatDoor
namespace Go.Proofs.YtejkjbkodcamoaaGreatDoor
open Go.En
attribute [local irreducible] Code.wp wpList Calls
theorem ec_ob {o : Option (List UInt8)} {b : List UInt8} : (ec o = 0 /\ ob o = b) ↔ o = some b := by
 cases o <;> simp [ec, ob]
end Go.Proofs.YtejkjbkodcamoaaGreatDoor
end
section
namespace Go.Proofs.YtejkjbkodcamoaaGreatDoor
open Go.En
attribute [local irreducible] Code.wp wpList Calls
theorem putConf_no {l : List Int} (h : ¬ (l ≠ [] /\ confOK (-1) l)) : putConf l = none := if_neg h
theorem take_drop_conf (l : List Int) (i : Nat) : confOK (-1) l ↔ confOK (-1) (l.take i) /\ confOK ((l.take i).getLastD (-1)) (l.drop i) := by
 rw [<- confOK_split, List.take_append_drop]
theorem last_ge (l : List Int) (h : confOK (-1) l) : -1 <= l.getLastD (-1) /\ l.getLastD (-1) <= 6 := by
 have hm := confOK_mem l (-1) h (by decide)
 cases hl : l.getLast? with
 | none => simp [List.getLastD_eq_getLast?, hl]
 | some v =>
  have := hm v (List.mem_of_getLast? hl)
  simp [List.getLastD_eq_getLast?, hl]
  omega
theorem bits_take (l : List Int) (i : Nat) (h : confOK (-1) (l.take i)) (hi : i < l.length) (h1 : (l.take i).getLastD (-1) < l[i]) : vbits (l.take i) < 2 ^ l[i].toNat := by
 have h2 := bits_lt (l.take i) (-1) h (by decide)
 have h3 : 2 ^ ((l.take i).getLastD (-1) + 1).toNat <= 2 ^ l[i].toNat := Nat.pow_le_pow_right (by decide) (by omega)
 rw [show ((-1 : Int) + 1).toNat = 0 from rfl, Nat.pow_zero] at h2
 omega
theorem bits_take_succ (l : List Int) (i : Nat) (hi : i < l.length) : vbits (l.take (i + 1)) = vbits (l.take i) + 2 ^ l[i].toNat := by
 rw [take_succ_get l i hi, bits_append]; simp [vbits]
theorem conf_take_succ (l : List Int) (i : Nat) (hi : i < l.length) (h : confOK (-1) (l.take i)) (h1 : (l.take i).getLastD (-1) < l[i]) (h2 : l[i] < 7) : confOK (-1) (l.take (i + 1)) := by
 rw [take_succ_get l i hi, confOK_split]
 exact ⟨h, h1, h2, trivial⟩
theorem conf_take_no (l : List Int) (i : Nat) (hi : i < l.length) (h : confOK (-1) l) : (l.take i).getLastD (-1) < l[i] /\ l[i] < 7 := by
 rw [take_drop_conf l i] at h
 obtain ⟨_, h2⟩ := h
 rw [List.drop_eq_getElem_cons hi] at h2
 exact ⟨h2.1, h2.2.1⟩
theorem putConfC {w0 : World} {K hv : PH} {hs : List PH} (ao : Option Addr) (cap : Nat) (l : List Int) (hm : In K hs hv) (x : IsS hv ao l.length cap 1 (iv l)) (hl : l.length < 1099511627776) :
  Ct Tryz.prog w0 81 [.agg #[.slice ao l.length cap]] K hs (fun v K' hs' => K' = K /\ OutB (putConf l) hs v hs') := by
 refine enter Tryz.func81 (by kernel_rfl) rfl rfl rfl ?_
 refine sq (rg ?_)
 refine bx hT 0 rfl fun b1 => ?_
 refine fin hT 2 rfl (th (sq (rg ?_)))
 refine fin hT 1 rfl (th (sq (rg ?_)))
 refine fin hT 1 rfl (th (sq (sq (rg ?_))))
 refine ldp hT 1 0 rfl rfl rfl ?_
 refine fin hT 2 rfl (th (bk ?_))
 refine loop (σ := Nat) (fun i => [(1, .pointer (some ⟨b1, 0, none⟩)), (4, .int .u8 (vbits (l.take i) : Nat)), (5, .int .i64 ((l.take i).getLastD (-1))), (9, .slice ao l.length cap), (10, .int .i64 (l.length : Nat)), (11, .int .i64 (i : Nat))]) (fun _ => K) (fun i => pt b1 #[.slice ao l.length cap] 149 :: hs) (fun i => i <= l.length /\ confOK (-1) (l.take i)) (fun i => l.length - i) 0 ⟨Nat.zero_le _, trivial⟩ ⟨rfl, rfl, rfl, rfl, rfl, rfl, trivial⟩ rfl rfl ?_
 rintro i ⟨hi, hc⟩
 refine sq (rg ?_)
 refine cmpS hT 0 rfl fun b12 h12 => ?_
 have hlast := last_ge _ hc
 refine fin hT 0 rfl (th (sq (ifP h12 rfl (fun e2 => ?_) (fun e2 => ?_))))
 ·have hin : i < l.length := by omega
  refine sk (th (sq (bk (sq (rg ?_)))))
  refine ix1 hT 0 i rfl rfl rfl x (iv_get hin) fun a13 hc13 => ?_
  refine ld hT 0 rfl (In.cons hm) hc13 ?_
  refine fin hT 1 rfl (th (sq (sq (rg ?_))))
  refine cmpS hT 2 rfl fun b17 h17 => ?_
  refine' bjo hT 1 3 21 [17, 18] h17 rfl rfl rfl rfl rfl rfl rfl (fun _ => ?x4) (fun b21 h21 => ?_)
  case x4 =>
   refine cmpS hT 1 rfl fun b20 h20 => ?_
   exact fin hT 1 rfl (bjx h20 rfl rfl rfl)
  refine fin hT 0 rfl (th (ifP h21 rfl (fun e6 => ?_) (fun e6 => ?_)))
  ·refine sq (rg ?_)
   refine fin hT 2 rfl (th (rt (rT (rB (rT (rT (rB (rT ?_))))))))
   refine WQ.drop (WQ.em ?_)
   exact ret2 rfl rfl rfl ⟨rfl, outN (putConf_no fun h => by have := conf_take_no l i hin h.2; exact e6.elim (fun e => by omega) (fun e => by omega))⟩
  ·have h1 : (l.take i).getLastD (-1) < l[i] := by omega
   refine sk (th (sq (rg ?_)))
   have h2 : l[i] < 7 := by omega
   obtain ⟨v, hv⟩ : ∃ v : Nat, l[i] = (v : Nat) := Int.eq_ofNat_of_zero_le (show 0 <= l[i] by omega)
   have hbt := bits_take l i hc hin h1
   have hbs := bits_take_succ l i hin
   have hlt := last_take_succ l i hin (-1)
   have hcs := conf_take_succ l i hin hc h1 h2
   rw [hv] at hbt hbs hlt h2 ⊢
   simp only [Int.toNat_natCast] at hbt hbs
   refine shf hT 2 rfl (by omega) (.inl ⟨rfl, shl1 v (by omega)⟩) ?_
   refine ar hT 0 rfl (or_add _ v (by omega) hbt) ?_
   refine fin hT 1 rfl (th (rg ?_))
   refine fin hT 2 rfl (bl (th (rg ?_)))
   refine ar hT 0 rfl (i64w (by omega)) ?_
   refine fin hT 1 rfl ?_
   exact again (x := i) (i + 1) ⟨rfl, by rw [hbs]; rfl, by rw [hlt]; rfl, rfl, rfl, rfl, trivial⟩ rfl rfl ⟨by omega, hcs⟩ (by (try dsimp only); omega)
 ·obtain rfl : i = l.length := by omega
  refine ex (xt (xt (xb (th (sq (sq (rg ?_)))))))
  rw [List.take_of_length_le (Nat.le_refl _)] at hc ⊢
  have hbb := conf_bits hc
  refine cmpS hT 1 rfl fun b29 h29 => ?_
  refine fin hT 0 rfl (th (ifP h29 rfl (fun e8 => ?_) (fun e8 => ?_)))
  ·refine sq (rg ?_)
   refine fin hT 2 rfl (th (rt (rT ?_)))
   refine WQ.drop (WQ.em ?_)
   exact ret2 rfl rfl rfl ⟨rfl, outN (putConf_no fun h => by have := hbb.2.2 h.1; omega)⟩
  ·refine sk (th (sq (rg ?_)))
   refine lit hT 1 #[.int .u8 (vbits l : Nat)] rfl (by decide) (by kernel_rfl) fun b31 => ?_
   refine fin hT 2 rfl (th (rt ?_))
   refine WQ.perm (List.Perm.swap _ _ _) (WQ.drop ?_)
   exact ret2 rfl rfl rfl ⟨rfl, outS (by rw [putConf, if_pos ⟨fun h => by subst h; exact e8 rfl, hc⟩]) (own_byte b31 (vbits l) (by omega))⟩
end Go.Proofs.YtejkjbkodcamoaaGreatDoor
namespace Go.Proofs.YtejkjbkodcamoaaGreatDoor
open Go.En
attribute [local irreducible] Code.wp wpList Calls
def OutV (o : Option (List Int)) (hs : List PH) (v : Value) (hs' : List PH) : Prop :=
 ∃ h ao c, hs' = h :: hs /\ v = .tuple #[.agg #[.slice ao (o.getD []).length c], .int .i64 (ec o)] /\ Own h ao (o.getD []).length c 3 1 (iv (o.getD []))
theorem bv_getD {l : List UInt8} {j : Nat} (h : j < l.length) : (bv l)[j]? = some (.int .u8 ((l.getD j 0).toNat : Nat)) := by simp [bv, h, List.getD]
theorem appI {P : Program} {T : Tab} {w0 : World} {ops : Array Oper} {Q : Exit -> Act -> World -> Prop} {rest rest' : List Oper} {n : Nat} {l l' : Sl} {K : PH} {hs : List PH}
  (hT : TabOK P T) (k i : Nat) (xs : List Int) (y : Int) {d : Nat} {si : SlI} {ao ao2 : Option Addr} {c1 c2 : Nat} {h h2 : PH} (h0 : apAt T ops n k rest l = some (d, si, (ao, xs.length, c1), (ao2, 1, c2), rest', l'))
  (hi : hs[i]? = some h) (hsz : (si.size, si.bytes, si.zero.cells.size) = (1, 8, 1)) (o : Own h ao xs.length c1 si.elem 1 (iv xs)) (hm : In K hs h2) (x : IsS h2 ao2 1 c2 1 (iv [y])) (hb : xs.length <= 17592186044415)
  (hk : ∀ ao' cap' h', Own h' ao' (xs ++ [y]).length cap' si.elem 1 (iv (xs ++ [y])) -> WL P w0 ops Q rest' n ((d, .slice ao' (xs ++ [y]).length cap') :: l') K (hs.set i h')) : WL P w0 ops Q rest n l K hs := by
 simp only [Prod.mk.injEq] at hsz
 obtain ⟨e1, e2, e3⟩ := hsz
 refine app hT k i h0 hi (by rw [e1]; exact o) hm (by rw [e1]; exact x) (by rw [e1, e3]) (by rw [e1]; decide) (iv_one _) (by rw [e2]; omega) (by simp only [maxLen]; omega) fun ao' cap' h' o' => ?_
 have e : (xs ++ [y]).length = xs.length + 1 := by simp
 rw [e1, <- iv_append, <- e] at o'
 have := hk ao' cap' h' o'
 rwa [e] at this
theorem getConf_one {c : UInt8} (h : ¬ (c.toNat = 0 \/ 128 <= c.toNat)) : getConf [c] = some (voters c.toNat 7) := if_neg h
theorem getConf_no {b : List UInt8} (h : b.length ≠ 1 \/ (b.getD 0 0).toNat = 0 \/ 128 <= (b.getD 0 0).toNat) : getConf b = none := by
 unfold getConf
 split
 ·rename_i c
  rw [if_pos]
  rcases h with h | h
  ·exact absurd rfl h
  ·exact h
 ·rfl
theorem getConfC {w0 : World} {K hb : PH} {hs : List PH} (ao : Option Addr) (cap : Nat) (b : List UInt8) (hm : In K hs hb) (x : IsS hb ao b.length cap 1 (bv b)) (hl : b.length < 1099511627776) :
  Ct Tryz.prog w0 83 [.slice ao b.length cap] K hs (fun v K' hs' => K' = K /\ OutV (getConf b) hs v hs') := by
 refine enter Tryz.func83 (by kernel_rfl) rfl rfl rfl ?_
 refine sq (rg ?_)
 refine al hT 0 (.agg #[.slice none 0 0]) rfl (by kernel_rfl) fun b2 => ?_
 refine fin hT 1 rfl (th (sq (sq (rg ?_))))
 refine cmpS hT 2 rfl fun b8 h8 => ?_
 refine' bjo hT 1 5 14 [8, 9] h8 rfl rfl rfl rfl rfl rfl rfl (fun _ => ?x2) (fun b14 h14 => ?_)
 case x2 =>
  refine ix1 hT 1 0 rfl rfl rfl x (bv_getD (by omega)) fun a11 hc11 => ?_
  refine ld hT 0 rfl (In.cons hm) hc11 ?_
  refine cmpS hT 0 rfl fun b13 h13 => ?_
  exact fin hT 1 rfl (bjx h13 rfl rfl rfl)
 refine' bjo hT 1 5 20 [14, 15] h14 rfl rfl rfl rfl rfl rfl rfl (fun _ => ?x4) (fun b20 h20 => ?_)
 case x4 =>
  refine ix1 hT 1 0 rfl rfl rfl x (bv_getD (by omega)) fun a17 hc17 => ?_
  refine ld hT 0 rfl (In.cons hm) hc17 ?_
  refine cmpS hT 0 rfl fun b19 h19 => ?_
  exact fin hT 1 rfl (bjx h19 rfl rfl rfl)
 refine fin hT 0 rfl (th (ifP h20 rfl (fun e6 => ?_) (fun e6 => ?_)))
 ·have hn : getConf b = none := getConf_no (by omega)
  refine sq (rg ?_)
  refine bd hT 0 (.agg #[.slice none 0 0]) rfl (fun w => by kernel_rfl) ?_
  refine stS hT 0 0 rfl rfl (by kernel_rfl) rfl rfl ?_
  refine fin hT 1 rfl (th (rt (rT ?_)))
  refine WQ.em (WQ.perm (List.Perm.swap _ _ _) ?_)
  exact retcP 0 1 rfl rfl rfl rfl (by kernel_rfl) ⟨rfl, em, none, 0, rfl, by rw [hn]; rfl, by rw [hn]; exact Own.nil _ _⟩
 ·obtain ⟨c, rfl⟩ : ∃ c, b = [c] := List.length_eq_one_iff.1 (by omega)
  refine sk (th (sq (rg ?_)))
  have hc : ¬ (c.toNat = 0 \/ 128 <= c.toNat) := by simp only [List.getD_cons_zero] at e6; omega
  clear e6
  have hn := getConf_one hc
  refine al hT 0 (.agg #[.slice none 0 0]) rfl (by kernel_rfl) fun b4 => ?_
  refine fin hT 0 rfl (th (sq (sq (rg ?_))))
  refine fin hT 1 rfl (th (bk (WC.em ?_)))
  refine loop (σ := Nat × Option Addr × Nat × PH) (fun s => [(0, .slice ao 1 cap), (2, .pointer (some ⟨b2, 0, none⟩)), (4, .pointer (some ⟨b4, 0, none⟩)), (22, .int .i64 (s.1 : Nat))]) (fun _ => K) (fun s => s.2.2.2 :: pt b4 #[.slice s.2.1 (voters c.toNat s.1).length s.2.2.1] 149 :: pt b2 #[.slice none 0 0] 149 :: hs) (fun s => s.1 <= 7 /\ Own s.2.2.2 s.2.1 (voters c.toNat s.1).length s.2.2.1 3 1 (iv (voters c.toNat s.1))) (fun s => 7 - s.1) (0, none, 0, em) ⟨by decide, Own.nil _ _⟩ ⟨rfl, rfl, rfl, rfl, trivial⟩ rfl rfl ?_
  rintro ⟨k, aoV, cV, g⟩ ⟨hk, o⟩
  dsimp only at hk o ⊢
  have hvl := voters_len c.toNat k
  have hvs := voters_succ c.toNat k
  refine sq (rg ?_)
  refine cmpS hT 0 rfl fun b23 h23 => ?_
  refine fin hT 0 rfl (th (sq (ifP h23 rfl (fun e8 => ?_) (fun e8 => ?_))))
  ·have hk7 : k < 7 := by omega
   refine sk (th (sq (bk (sq (rg ?_)))))
   refine fin hT 2 rfl (th (sq (rg ?_)))
   refine ix1 hT 1 0 rfl rfl rfl x rfl fun a26 hc26 => ?_
   refine ld hT 0 rfl (In.cons3 hm) hc26 ?_
   refine shf hT 1 rfl (by omega) (.inr ⟨rfl, shrN c.toNat k hk7⟩) ?_
   refine ar hT 0 rfl (and1N _ (by have := Nat.div_le_self c.toNat (2 ^ k); have := c.toNat_lt; omega)) ?_
   refine cmpS hT 0 rfl fun b31 h31 => ?_
   refine fin hT 0 rfl (th (ifP h31 rfl (fun e10 => ?_) (fun e10 => ?_)))
   ·have e10' : c.toNat / 2 ^ k % 2 = 1 := by omega
    refine rg ?_
    rw [if_pos e10'] at hvs
    refine ldp hT 1 1 rfl rfl rfl ?_
    refine lit hT 1 #[.int .i64 (k : Nat)] rfl (by decide) (by kernel_rfl) fun b35 => ?_
    refine appI hT 0 1 (voters c.toNat k) (k : Nat) rfl rfl rfl o (.inr ⟨0, rfl⟩) (isS_pt rfl rfl) (by omega) fun ao36 c36 g36 o36 => ?_
    rw [<- hvs] at o36 ⊢
    refine stp hT 1 2 rfl rfl rfl rfl ?_
    refine fin hT 0 rfl (bl (th (WC.drop (rg ?_))))
    refine ar hT 0 rfl (i64w (by omega)) ?_
    refine fin hT 1 rfl ?_
    exact again (x := (k, aoV, cV, g)) (k + 1, ao36, c36, g36) ⟨rfl, rfl, rfl, rfl, trivial⟩ rfl rfl ⟨by omega, o36⟩ (by (try dsimp only); omega)
   ·have e10' : ¬ c.toNat / 2 ^ k % 2 = 1 := by omega
    refine sk (bl (th (rg ?_)))
    rw [if_neg e10', List.append_nil] at hvs
    refine ar hT 0 rfl (i64w (by omega)) ?_
    refine fin hT 1 rfl ?_
    exact again (x := (k, aoV, cV, g)) (k + 1, aoV, cV, g) ⟨rfl, rfl, rfl, rfl, trivial⟩ rfl (by rw [<- hvs]) ⟨by omega, by rw [hvs]; exact o⟩ (by (try dsimp only); omega)
  ·obtain rfl : k = 7 := by omega
   refine ex (xt (xt (xb (th (sq (rg ?_))))))
   refine ldS hT 0 1 rfl rfl (by kernel_rfl) ?_
   refine stS hT 0 2 rfl rfl (by kernel_rfl) rfl rfl ?_
   refine fin hT 1 rfl (th (rt ?_))
   refine WQ.perm (List.perm_middle (l₁ := [_, _])).symm (WQ.drop ?_)
   exact retcP 0 1 rfl rfl rfl rfl (by kernel_rfl) ⟨rfl, g, aoV, cV, rfl, by rw [hn]; rfl, by rw [hn]; exact o⟩
end Go.Proofs.YtejkjbkodcamoaaGreatDoor
namespace Go.Proofs.YtejkjbkodcamoaaGreatDoor
open Go.En
attribute [local irreducible] Code.wp wpList Calls
theorem heldC {w0 : World} {K hb : PH} {hs : List PH} (k : Int) (ao : Option Addr) (cap : Nat) (b : List UInt8) (hm : In K hs hb) (x : IsS hb ao b.length cap 1 (bv b)) (hl : b.length < 1099511627776) :
  Ct Tryz.prog w0 107 [.int .i64 k, .slice ao b.length cap] K hs (fun v K' hs' => K' = K /\ hs' = hs /\ ∃ t : Bool, v = .bool t /\ (t = true ↔ heldP k b)) := by
 refine enter Tryz.func107 (by kernel_rfl) rfl rfl rfl ?_
 refine sq (rg ?_)
 refine fin hT 1 rfl (th (sq (rg ?_)))
 refine fin hT 1 rfl (th (jn (σ := Int) (fun s => [(5, .int .i64 s)]) (fun s => hs) (fun s => (s = 0 ↔ heldP k b)) ?_ ?_))
 ·refine sq (rg ?_)
  refine fin hT 1 rfl (th (bk (sq (rg ?_))))
  refine cmpS hT 0 rfl fun b8 h8 => ?_
  refine fin hT 1 rfl (th (ifP h8 rfl (fun e2 => ?_) (fun e2 => ?_)))
  ·refine sq (rg ?_)
   refine cmpS hT 2 rfl fun b11 h11 => ?_
   refine fin hT 1 rfl (th (rt (rB (jr ?_))))
   exact ret1 rfl rfl ⟨rfl, rfl, b11, rfl, h11.trans ⟨fun h => .inl ⟨e2, List.eq_nil_of_length_eq_zero (by omega)⟩, fun h => by rcases h with ⟨_, h⟩ | ⟨h, _⟩ | ⟨h, _⟩ <;> first | (rw [h]; rfl) | (omega)⟩⟩
  ·refine sq (rg ?_)
   refine cmpS hT 0 rfl fun b13 h13 => ?_
   refine fin hT 1 rfl (th (ifP h13 rfl (fun e5 => ?_) (fun e5 => ?_)))
   ·refine rg ?_
    refine cl hT 1 rfl (getCmdC ao cap b hm x hl) ?_
    rintro v16 K16 hs16 ⟨rfl, rfl, rfl⟩
    refine fin hT 4 rfl (bl ?_)
    exact jx (ec (getCmd b)) ⟨fun h => .inr (.inl ⟨e5, ec_zero.1 h⟩), fun h => ec_zero.2 (by rcases h with ⟨h, _⟩ | ⟨_, h⟩ | ⟨h, _⟩ <;> first | exact h | (omega))⟩ ⟨rfl, trivial⟩ rfl rfl
   ·refine sq (rg ?_)
    refine cmpS hT 0 rfl fun b20 h20 => ?_
    refine fin hT 1 rfl (th (ifP h20 rfl (fun e7 => ?_) (fun e7 => ?_)))
    ·refine rg ?_
     refine cl hT 1 rfl (getConfC ao cap b hm x hl) ?_
     rintro v23 K23 hs23 ⟨rfl, g, aog, cg, rfl, rfl, og⟩
     refine fin hT 4 rfl (bl (WQ.drop ?_))
     exact jx (ec (getConf b)) ⟨fun h => .inr (.inr ⟨e7, ec_zero.1 h⟩), fun h => ec_zero.2 (by rcases h with ⟨h, _⟩ | ⟨h, _⟩ | ⟨_, h⟩ <;> first | exact h | (omega))⟩ ⟨rfl, trivial⟩ rfl rfl
    ·refine sq (rg ?_)
     refine fin hT 1 rfl (th (rt (rB (jr ?_))))
     exact ret1 rfl rfl ⟨rfl, rfl, false, rfl, ⟨fun h => by simp at h, fun h => by have := held_kind h; omega⟩⟩
 ·rintro s hsd
  refine sq (rg ?_)
  refine cmpS hT 1 rfl fun b27 h27 => ?_
  refine fin hT 1 rfl (th (rt ?_))
  exact ret1 rfl rfl ⟨rfl, rfl, b27, rfl, h27.trans hsd⟩
theorem putEnt_no {e : Ent} (h : ¬ e.ok) : putEnt e = none := if_neg h
theorem putEntC {w0 : World} {K hb : PH} {hs : List PH} (e : Ent) (ao : Option Addr) (cap : Nat) (h1 : e.idx <= mxU) (h2 : e.term <= mxU) (hm : In K hs hb) (x : IsS hb ao e.data.length cap 1 (bv e.data)) (hl : e.data.length < 1099511627776) :
  Ct Tryz.prog w0 73 [.agg (e.v ao cap)] K hs (fun v K' hs' => K' = K /\ OutB (putEnt e) hs v hs') := by
 have hmx : mxU = 18446744073709551615 := rfl
 refine enter Tryz.func73 (by kernel_rfl) rfl rfl rfl ?_
 refine sq (rg ?_)
 refine bx hT 0 rfl fun b1 => ?_
 refine fin hT 2 rfl (th (sq (sq (rg ?_))))
 refine ldp hT 1 0 rfl rfl rfl ?_
 refine cmpS hT 0 rfl fun b7 h7 => ?_
 refine' bjo hT 1 4 12 [7, 8] h7 rfl rfl rfl rfl rfl rfl rfl (fun _ => ?x2) (fun b12 h12 => ?_)
 case x2 =>
  refine ldp hT 1 0 rfl rfl rfl ?_
  refine cmpS hT 0 rfl fun b11 h11 => ?_
  exact fin hT 1 rfl (bjx h11 rfl rfl rfl)
 refine' bjo hT 1 7 20 [12, 13] h12 rfl rfl rfl rfl rfl rfl rfl (fun _ => ?x4) (fun b20 h20 => ?_)
 case x4 =>
  refine ldp hT 1 0 rfl rfl rfl ?_
  refine ldp hT 1 0 rfl rfl rfl ?_
  refine cl hT 0 rfl (heldC e.kind ao cap e.data (In.cons hm) x hl) ?_
  rintro v18 K18 hs18 ⟨rfl, rfl, b18, rfl, h18⟩
  refine cbS hT 0 _ rfl (bnot h18) fun b19 h19 => ?_
  exact fin hT 1 rfl (bjx h19 rfl rfl rfl)
 refine fin hT 0 rfl (th (ifP h20 rfl (fun e5 => ?_) (fun e5 => ?_)))
 ·refine sq (rg ?_)
  refine fin hT 2 rfl (th (rt (rT ?_)))
  refine WQ.drop (WQ.em ?_)
  exact ret2 rfl rfl rfl ⟨rfl, outN (putEnt_no fun h => e5.elim (fun h' => h'.elim (fun h' => h.1 (by omega)) (fun h' => h.2.1 (by omega))) (fun h' => h' h.2.2))⟩
 ·have hok : e.ok := ⟨fun h => e5 (.inl (.inl (by omega))), fun h => e5 (.inl (.inr (by omega))), Decidable.not_not.1 fun h => e5 (.inr h)⟩
  refine sk (th (WC.em (sq (rga [pt b1 (Value.agg (e.v ao cap)).cells 37] 7 [0, 2, 6, 8, 5, 11, 12] (by simp) (by kernel_rfl) (by kernel_rfl) ?_))))
  have hd := held_len hok.2.2
  have hkd := held_kind hok.2.2
  obtain ⟨k, hk⟩ : ∃ k : Nat, e.kind = (k : Nat) := Int.eq_ofNat_of_zero_le (show 0 <= e.kind by omega)
  have hu1 := uint_le10 (n := e.idx) (by omega)
  have hu2 := uint_le10 (n := e.term) (by omega)
  refine dldp hT (by kernel_rfl) 1 0 rfl rfl rfl ?_
  refine dldp hT (by kernel_rfl) 1 0 rfl rfl rfl ?_
  refine dact hT (by kernel_rfl) 0 rfl ?_
  refine cl hT 0 rfl (putUint none 0 [] e.idx (Own.nil _ _) (by omega) (by simp)) ?_
  rintro v23 K23 hs23 ⟨g23, rfl, rfl, ao23, c23, rfl, o23⟩
  refine dnex [pt b1 (Value.agg (e.v ao cap)).cells 37] (by simp) (by simp) rfl ?_
  refine dact hT (by kernel_rfl) 0 rfl ?_
  refine cl hT 0 rfl (putUint ao23 c23 _ e.term o23 (by omega) (by simp; omega)) ?_
  rintro v26 K26 hs26 ⟨g26, rfl, rfl, ao26, c26, rfl, o26⟩
  refine dnex [pt b1 (Value.agg (e.v ao cap)).cells 37] (by simp) (by simp) rfl ?_
  refine dend hT (by kernel_rfl) 1 rfl (th (sq (rga [pt b1 (Value.agg (e.v ao cap)).cells 37] 11 [0, 2, 4, 6, 12, 14, 9, 11, 17, 18, 20] (by simp) (by kernel_rfl) (by kernel_rfl) ?_)))
  refine dldp hT (by kernel_rfl) 2 0 rfl rfl rfl ?_
  refine dar hT (by kernel_rfl) 0 rfl (v' := .int .u8 ((k : Nat) : Int)) (by rw [hk, u8w (by omega)]) ?_
  refine dldp hT (by kernel_rfl) 1 0 rfl rfl rfl ?_
  refine dact hT (by kernel_rfl) 0 rfl ?_
  refine lit hT 0 #[.int .u8 ((k : Nat) : Int)] rfl (by decide) (by kernel_rfl) fun b31 => ?_
  refine dnex [pt b1 (Value.agg (e.v ao cap)).cells 37] (by simp) (by simp) rfl ?_
  refine dact hT (by kernel_rfl) 0 rfl ?_
  refine appB hT 0 1 _ [UInt8.ofNat k] rfl rfl rfl o26 (.inr ⟨0, rfl⟩) (isS_byte b31 k (by omega)) (by simp; omega) fun ao32 c32 g32 o32 => ?_
  refine dnex [pt b1 (Value.agg (e.v ao cap)).cells 37] (by simp) (by simp) rfl ?_
  refine dact hT (by kernel_rfl) 0 rfl ?_
  refine cl hT 0 rfl (Ct.at 1 rfl (putBytesC ao32 c32 _ ao cap e.data o32 (In.cons (In.cons hm)) x (by simp; omega) (by omega))) ?_
  rintro v35 K35 hs35 ⟨g35, rfl, rfl, ao35, c35, rfl, o35⟩
  refine dnex [pt b1 (Value.agg (e.v ao cap)).cells 37] (by simp) (by simp) rfl ?_
  refine dend hT (by kernel_rfl) 2 rfl (th (rt ?_))
  refine WQ.drop (WQ.perm (List.Perm.swap _ _ _) (WQ.drop ?_))
  exact ret2 rfl rfl rfl ⟨rfl, outS (by rw [putEnt, if_pos hok, Ent.bytes, hk]; simp) o35⟩
end Go.Proofs.YtejkjbkodcamoaaGreatDoor
namespace Go.Proofs.YtejkjbkodcamoaaGreatDoor
open Go.En
attribute [local irreducible] Code.wp wpList Calls
def OutE (o : Option Ent) (hs : List PH) (v : Value) (hs' : List PH) : Prop :=
 ∃ h ao c, hs' = h :: hs /\ v = .tuple #[.agg ((o.getD Ent.zero).v ao c), .int .i64 (ec o)] /\ Own h ao (o.getD Ent.zero).data.length c 5 1 (bv (o.getD Ent.zero).data)
theorem getEntC {w0 : World} {K hb : PH} {hs : List PH} (ao : Option Addr) (cap : Nat) (b : List UInt8) (hm : In K hs hb) (x : IsS hb ao b.length cap 1 (bv b)) (hl : b.length < 1099511627776) :
  Ct Tryz.prog w0 75 [.slice ao b.length cap] K hs (fun v K' hs' => K' = K /\ OutE (getEnt b) hs v hs') := by
 have hl1 := rUint_len mxU (b, 0)
 have hl2 := rUint_len mxU (rUint mxU (b, 0)).2
 have hl3 := rByte_len (rUint mxU (rUint mxU (b, 0)).2).2
 have hl4 := (rBytes_len 512 (rByte (rUint mxU (rUint mxU (b, 0)).2).2).2).1
 have hk256 := rByte_lt (rUint mxU (rUint mxU (b, 0)).2).2
 dsimp only at hl1
 have hgE : getEntR b = (⟨(rUint mxU (b, 0)).1, (rUint mxU (rUint mxU (b, 0)).2).1, ((rByte (rUint mxU (rUint mxU (b, 0)).2).2).1 : Nat), (rBytes 512 (rByte (rUint mxU (rUint mxU (b, 0)).2).2).2).1⟩, (rBytes 512 (rByte (rUint mxU (rUint mxU (b, 0)).2).2).2).2) := rfl
 refine enter Tryz.func75 (by kernel_rfl) rfl rfl rfl ?_
 refine sq (rg ?_)
 refine al hT 0 (.agg #[.int .u64 0, .int .u64 0, .int .i64 0, .slice none 0 0]) rfl (by kernel_rfl) fun b2 => ?_
 refine fin hT 1 rfl (th (sq (rg ?_)))
 refine cl hT 1 rfl (readC ao cap b (In.cons hm) x hl) ?_
 rintro v7 K7 hs7 ⟨rfl, rb, h, hb', rfl, rfl, rd⟩
 refine fin hT 1 rfl (th (sq (rg ?_)))
 refine cl hT 1 rfl (uintC (.inr ⟨0, rfl⟩) mxU (b, 0) hl rd) ?_
 rintro v9 K9 hs9 ⟨h1, rfl, rfl, rfl, rd1⟩
 refine cl hT 1 rfl (uintC (.inr ⟨0, rfl⟩) mxU _ (by omega) rd1) ?_
 rintro v11 K11 hs11 ⟨h2, rfl, rfl, rfl, rd2⟩
 refine cl hT 1 rfl (byteC (.inr ⟨0, rfl⟩) _ rd2) ?_
 rintro v13 K13 hs13 ⟨h3, rfl, rfl, rfl, rd3⟩
 refine ar hT 0 rfl (i64w (by omega)) ?_
 refine bd hT 0 (.agg ((Ent.mk (rUint mxU (b, 0)).1 (rUint mxU (rUint mxU (b, 0)).2).1 ((rByte (rUint mxU (rUint mxU (b, 0)).2).2).1 : Nat) []).v none 0)) rfl (fun w => by kernel_rfl) ?_
 refine al hT 0 (.agg #[.int .u64 0, .int .u64 0, .int .i64 0, .slice none 0 0]) rfl (by kernel_rfl) fun b5 => ?_
 refine stS hT 0 0 rfl rfl (by kernel_rfl) rfl rfl ?_
 refine fin hT 0 rfl (th (sq (rg ?_)))
 refine cl hT 1 rfl (Ct.atN 1 rfl (bytesC (.inr ⟨1, rfl⟩) 512 (by omega) _ (by omega) rd3)) ?_
 rintro v17 K17 hs17 ⟨h4, new, rfl, rfl, hx, aox, cx, rfl, rfl, ox, rd4⟩
 refine stp hT 1 1 rfl rfl rfl rfl ?_
 refine fin hT 0 rfl (th (sq (sq (rg ?_))))
 refine cl hT 1 rfl (Ct.keep 2 rfl (endC _ rd4)) ?_
 rintro v20 K20 hs20 ⟨rfl, rfl, rfl⟩
 refine cmpS hT 0 rfl fun b21 h21 => ?_
 refine' bjo hT 1 4 26 [21, 22] h21 rfl rfl rfl rfl rfl rfl rfl (fun _ => ?x2) (fun b26 h26 => ?_)
 case x2 =>
  refine ldp hT 1 1 rfl rfl rfl ?_
  refine cmpS hT 0 rfl fun b25 h25 => ?_
  exact fin hT 1 rfl (bjx h25 rfl rfl rfl)
 refine' bjo hT 1 4 31 [26, 27] h26 rfl rfl rfl rfl rfl rfl rfl (fun _ => ?x4) (fun b31 h31 => ?_)
 case x4 =>
  refine ldp hT 1 1 rfl rfl rfl ?_
  refine cmpS hT 0 rfl fun b30 h30 => ?_
  exact fin hT 1 rfl (bjx h30 rfl rfl rfl)
 refine' bjo hT 1 7 39 [31, 32] h31 rfl rfl rfl rfl rfl rfl rfl (fun _ => ?x6) (fun b39 h39 => ?_)
 case x6 =>
  refine ldp hT 1 1 rfl rfl rfl ?_
  refine ldp hT 1 1 rfl rfl rfl ?_
  refine cl hT 0 rfl (heldC _ aox cx _ (.inr ⟨0, rfl⟩) ox.isS (by omega)) ?_
  rintro v37 K37 hs37 ⟨rfl, rfl, b37, rfl, h37⟩
  refine cbS hT 0 _ rfl (bnot h37) fun b38 h38 => ?_
  exact fin hT 1 rfl (bjx h38 rfl rfl rfl)
 refine fin hT 0 rfl (th (ifP h39 rfl (fun e7 => ?_) (fun e7 => ?_)))
 ·have hn : getEnt b = none := by
   rw [getEnt, if_neg]
   rw [hgE]
   exact fun h => e7.elim (fun h' => h'.elim (fun h' => h'.elim (fun h' => h' h.1) (fun h' => h.2.1 (Int.ofNat_inj.1 h'))) (fun h' => h.2.2.1 (Int.ofNat_inj.1 h'))) (fun h' => h' h.2.2.2)
  refine sq (rg ?_)
  refine bd hT 0 (.agg (Ent.zero.v none 0)) rfl (fun w => by kernel_rfl) ?_
  refine stS hT 0 4 rfl rfl (by kernel_rfl) rfl rfl ?_
  refine fin hT 1 rfl (th (rt (rT ?_)))
  refine WQ.drop (WQ.drop (WQ.drop (WQ.drop (WQ.em (WQ.perm (List.Perm.swap _ _ _) ?_)))))
  exact retcP 0 1 rfl rfl rfl rfl (by kernel_rfl) ⟨rfl, em, none, 0, rfl, by rw [hn]; rfl, by rw [hn]; exact Own.nil _ _⟩
 ·have hn : getEnt b = some (getEntR b).1 := by
   rw [getEnt, if_pos]
   rw [hgE]
   exact ⟨Decidable.not_not.1 fun h => e7 (.inl (.inl (.inl h))), fun h => e7 (.inl (.inl (.inr (Int.ofNat_inj.2 h)))), fun h => e7 (.inl (.inr (Int.ofNat_inj.2 h))), Decidable.not_not.1 fun h => e7 (.inr h)⟩
  rw [hgE] at hn
  refine sk (th (sq (rg ?_)))
  refine ldS hT 0 1 rfl rfl (by kernel_rfl) ?_
  refine stS hT 0 4 rfl rfl (by kernel_rfl) rfl rfl ?_
  refine fin hT 1 rfl (th (rt ?_))
  refine WQ.perm (List.perm_middle (l₁ := [_, _, _, _])).symm (WQ.drop (WQ.drop (WQ.drop ?_)))
  exact retcP 0 1 rfl rfl rfl rfl (by kernel_rfl) ⟨rfl, hx, aox, cx, rfl, by rw [hn]; rfl, by rw [hn]; exact ox⟩
end Go.Proofs.YtejkjbkodcamoaaGreatDoor
end
section
namespace Go.Proofs.YtejkjbkodcamoaaGreatDoor
open Go.En
attribute [local irreducible] Code.wp wpList Calls
structure MA where
 ae : Option Addr
 ce : Nat
 av : Option Addr
 cv : Nat
 ad : Option Addr
 cd : Nat
def mv (m : Msg) (p : MA) : Array Value := #[.int .i64 m.kind, .int .i64 m.frm, .int .i64 m.to, .int .u64 (m.term : Nat), .int .u64 (m.idx : Nat), .int .u64 (m.lt : Nat), .int .u64 (m.com : Nat), .int .u64 (m.rnd : Nat), .bool m.good,
 .slice p.ae m.ents.length p.ce, .int .i64 m.off, .int .i64 m.whole, .slice p.av m.vot.length p.cv, .slice p.ad m.data.length p.cd]
def EntC (H : PH) (cs : List Value) (e : Ent) : Prop := ∃ ao cap, cs = (e.v ao cap).toList /\ IsS H ao e.data.length cap 1 (bv e.data)
def EntsS (H : PH) (ao : Option Addr) (cap : Nat) (es : List Ent) : Prop := ∃ css : List (List Value), IsS H ao es.length cap 4 css.flatten /\ All2 (EntC H) css es
def MsgS (H : PH) (m : Msg) (p : MA) : Prop := EntsS H p.ae p.ce m.ents /\ IsS H p.av m.vot.length p.cv 1 (iv m.vot) /\ IsS H p.ad m.data.length p.cd 1 (bv m.data)
theorem EntC.le {H H' : PH} (l : Le H H') {cs : List Value} {e : Ent} (h : EntC H cs e) : EntC H' cs e := by
 obtain ⟨ao, cap, h1, h2⟩ := h
 exact ⟨ao, cap, h1, h2.le l⟩
theorem All2.imp {α : Type} {R R' : List Value -> α -> Prop} (h : ∀ c x, R c x -> R' c x) : ∀ {cs : List (List Value)} {xs : List α}, All2 R cs xs -> All2 R' cs xs
 | [], [], _ => trivial
 | _ :: _, _ :: _, g => ⟨h _ _ g.1, All2.imp h g.2⟩
 | [], _ :: _, g => g.elim
 | _ :: _, [], g => g.elim
theorem EntsS.le {H H' : PH} (l : Le H H') {ao : Option Addr} {cap : Nat} {es : List Ent} (h : EntsS H ao cap es) : EntsS H' ao cap es := by
 obtain ⟨css, h1, h2⟩ := h
 exact ⟨css, h1.le l, All2.imp (fun _ _ => EntC.le l) h2⟩
theorem EntsS.nil (H : PH) (ao : Option Addr) (cap : Nat) : EntsS H ao cap [] := ⟨[], IsS.nil _ _ _ _, trivial⟩
theorem MsgS.le {H H' : PH} (l : Le H H') {m : Msg} {p : MA} (h : MsgS H m p) : MsgS H' m p := ⟨h.1.le l, h.2.1.le l, h.2.2.le l⟩
def Ptr (b : Nat) : Value := .pointer (some ⟨b, 0, none⟩)
def PutR (f : Fld) (m : Msg) (bs : List UInt8) (R : List PH) (K : PH) : Value -> PH -> List PH -> Prop := fun v K' hs' =>
 K' = K /\ ∃ h' ao' c' out, ∃ t : Bool, hs' = h' :: R /\ v = .tuple #[.slice ao' out.length c', .bool t] /\ (t = true ↔ f.pok m) /\ (t = true -> out = bs ++ f.pby m) /\ Own h' ao' out.length c' 5 1 (bv out)
def ClrR (f : Fld) (m : Msg) (mb : Nat) (R : List PH) (K : PH) : Value -> PH -> List PH -> Prop := fun v K' hs' =>
 K' = K /\ ∃ p', hs' = pt mb (mv (f.clr m) p') 42 :: R /\ MsgS K (f.clr m) p'
def GetR (f : Fld) (s : Rd) (m : Msg) (p : MA) (rb mb : Nat) (hb : PH) (R : List PH) (K : PH) : Value -> PH -> List PH -> Prop := fun v K' hs' =>
 Le K K' /\ ∃ h' p', hs' = h' :: pt mb (mv (f.get s m).2 p') 42 :: R /\ IsRd rb hb (f.get s m).1 h' /\ MsgS K' (f.get s m).2 p' /\ (f ≠ .ents -> p'.ae = p.ae /\ p'.ce = p.ce)
def Sel (w0 : World) (g off : Nat) : Prop := ∀ (mb : Nat) (K : PH) (hs : List PH), Ct Tryz.prog w0 g [Ptr mb] K hs (fun v K' hs' => K' = K /\ hs' = hs /\ v = .pointer (some ⟨mb, off, none⟩))
theorem sel_index {w0 : World} : Sel w0 40 4 := by
 intro mb K hs
 refine enter Tryz.func40 (by kernel_rfl) rfl rfl rfl ?_
 refine sq (rg ?_)
 refine fin hT 1 rfl (th (sq (rg ?_)))
 refine fin hT 4 rfl (th (rt ?_))
 exact ret1 rfl rfl ⟨rfl, rfl, rfl⟩
theorem sel_logTerm {w0 : World} : Sel w0 41 5 := by
 intro mb K hs
 refine enter Tryz.func41 (by kernel_rfl) rfl rfl rfl ?_
 refine sq (rg ?_)
 refine fin hT 1 rfl (th (sq (rg ?_)))
 refine fin hT 4 rfl (th (rt ?_))
 exact ret1 rfl rfl ⟨rfl, rfl, rfl⟩
theorem sel_commit {w0 : World} : Sel w0 43 6 := by
 intro mb K hs
 refine enter Tryz.func43 (by kernel_rfl) rfl rfl rfl ?_
 refine sq (rg ?_)
 refine fin hT 1 rfl (th (sq (rg ?_)))
 refine fin hT 4 rfl (th (rt ?_))
 exact ret1 rfl rfl ⟨rfl, rfl, rfl⟩
theorem sel_round {w0 : World} : Sel w0 44 7 := by
 intro mb K hs
 refine enter Tryz.func44 (by kernel_rfl) rfl rfl rfl ?_
 refine sq (rg ?_)
 refine fin hT 1 rfl (th (sq (rg ?_)))
 refine fin hT 4 rfl (th (rt ?_))
 exact ret1 rfl rfl ⟨rfl, rfl, rfl⟩
theorem sel_offset {w0 : World} : Sel w0 47 10 := by
 intro mb K hs
 refine enter Tryz.func47 (by kernel_rfl) rfl rfl rfl ?_
 refine sq (rg ?_)
 refine fin hT 1 rfl (th (sq (rg ?_)))
 refine fin hT 4 rfl (th (rt ?_))
 exact ret1 rfl rfl ⟨rfl, rfl, rfl⟩
theorem sel_whole {w0 : World} : Sel w0 48 11 := by
 intro mb K hs
 refine enter Tryz.func48 (by kernel_rfl) rfl rfl rfl ?_
 refine sq (rg ?_)
 refine fin hT 1 rfl (th (sq (rg ?_)))
 refine fin hT 4 rfl (th (rt ?_))
 exact ret1 rfl rfl ⟨rfl, rfl, rfl⟩
section
variable {w0 : World} {K h : PH} {R : List PH} {g off cb mb : Nat}
abbrev capC (ty g : Nat) : Obj := .cells #[.func (.func g) #[] #[]] ty (0, 0)
theorem cap_cell {K : PH} {cb ty g : Nat} (h : K cb = some (capC ty g)) : Cell K ⟨cb, 0, none⟩ (.func (.func g) #[] #[]) := ⟨rfl, _, _, _, h, rfl⟩
theorem numPut (m : Msg) (p : MA) (ao : Option Addr) (c1 : Nat) (bs : List UInt8) (o : Own h ao bs.length c1 5 1 (bv bs)) (hb : bs.length < 68719476736) (hs : Sel w0 g off) (hc : K cb = some (capC 108 g)) (n : Nat) (hn : n <= mxU) (hv : (mv m p)[off]? = some (.int .u64 (n : Nat))) :
  Ct Tryz.prog w0 66 [.slice ao bs.length c1, Ptr mb, Ptr cb] K (h :: pt mb (mv m p) 42 :: R)
   (fun v K' hs' => K' = K /\ ∃ h' ao' c', hs' = h' :: pt mb (mv m p) 42 :: R /\ v = .tuple #[.slice ao' (bs ++ uint n).length c', .bool true] /\ Own h' ao' (bs ++ uint n).length c' 5 1 (bv (bs ++ uint n))) := by
 have hmx : mxU = 18446744073709551615 := rfl
 refine enter Tryz.func66 (by kernel_rfl) rfl rfl rfl ?_
 refine sq (rg ?_)
 refine fin hT 2 rfl (th (sq (rg ?_)))
 refine ld hT 1 rfl (.inl rfl) (cap_cell hc) ?_
 refine cl hT 1 rfl (hs mb _ _) ?_
 rintro v10 K10 hs10 ⟨rfl, rfl, rfl⟩
 refine ldp hT 1 1 rfl rfl hv ?_
 refine cl hT 0 rfl (putUint ao c1 bs n o (by omega) (by omega)) ?_
 rintro v13 K13 hs13 ⟨g13, rfl, rfl, ao13, c13, rfl, o13⟩
 refine fin hT 2 rfl (th (rt ?_))
 exact ret2 rfl rfl rfl ⟨rfl, g13, ao13, c13, rfl, rfl, o13⟩
theorem u64of_wrap (x : Int) : Value.int .u64 (IntKind.u64.wrap x) = .int .u64 ((u64of x : Nat) : Int) := by
 simp [IntKind.wrap, IntKind.bits, IntKind.signed, u64of]
 omega
theorem u64of_lt (x : Int) : u64of x < 18446744073709551616 := by unfold u64of; omega
theorem placePut (m : Msg) (p : MA) (ao : Option Addr) (c1 : Nat) (bs : List UInt8) (o : Own h ao bs.length c1 5 1 (bv bs)) (hb : bs.length < 68719476736) (hs : Sel w0 g off) (hc : K cb = some (capC 111 g)) (n : Int) (hv : (mv m p)[off]? = some (.int .i64 n)) :
  Ct Tryz.prog w0 77 [.slice ao bs.length c1, Ptr mb, Ptr cb] K (h :: pt mb (mv m p) 42 :: R)
   (fun v K' hs' => K' = K /\ ∃ h' ao' c', ∃ t : Bool, hs' = h' :: pt mb (mv m p) 42 :: R /\ v = .tuple #[.slice ao' (bs ++ uint (u64of n)).length c', .bool t] /\ (t = true ↔ 0 <= n /\ n <= 2097152) /\ Own h' ao' (bs ++ uint (u64of n)).length c' 5 1 (bv (bs ++ uint (u64of n)))) := by
 refine enter Tryz.func77 (by kernel_rfl) rfl rfl rfl ?_
 refine sq (rg ?_)
 refine fin hT 2 rfl (th (sq (rg ?_)))
 refine ld hT 0 rfl (.inl rfl) (cap_cell hc) ?_
 refine cl hT 1 rfl (hs mb _ _) ?_
 rintro v10 K10 hs10 ⟨rfl, rfl, rfl⟩
 refine ldp hT 1 1 rfl rfl hv ?_
 refine fin hT 1 rfl (th (sq (rg ?_)))
 refine ar hT 2 rfl (u64of_wrap n) ?_
 refine cl hT 0 rfl (putUint ao c1 bs (u64of n) o (u64of_lt n) (by omega)) ?_
 rintro v16 K16 hs16 ⟨g13, rfl, rfl, ao13, c13, rfl, o13⟩
 refine cmpS hT 1 rfl fun b18 h18 => ?_
 refine' bja hT 1 3 22 [18, 19] h18 rfl rfl rfl rfl rfl rfl rfl (fun _ => ?x2) (fun b22 h22 => ?_)
 case x2 =>
  refine cmpS hT 1 rfl fun b21 h21 => ?_
  exact fin hT 1 rfl (bjx h21 rfl rfl rfl)
 refine fin hT 2 rfl (th (rt ?_))
 exact ret2 rfl rfl rfl ⟨rfl, g13, ao13, c13, b22, rfl, rfl, h22, o13⟩
theorem numClr (c : Array Value) (hs : Sel w0 g off) (hc : K cb = some (capC 108 g)) (u : Value) (hu : c[off]? = some u) :
  Ct Tryz.prog w0 68 [Ptr mb, Ptr cb] K (pt mb c 42 :: R)
   (fun v K' hs' => K' = K /\ hs' = pt mb (c.setIfInBounds off (.int .u64 0)) 42 :: R) := by
 refine enter Tryz.func68 (by kernel_rfl) rfl rfl rfl ?_
 refine rg ?_
 refine ld hT 0 rfl (.inl rfl) (cap_cell hc) ?_
 refine cl hT 1 rfl (hs mb _ _) ?_
 rintro v5 K5 hs5 ⟨rfl, rfl, rfl⟩
 refine stp hT 1 0 rfl rfl hu rfl ?_
 refine fin hT 0 rfl ?_
 exact end0 rfl ⟨rfl, rfl⟩
theorem placeClr (c : Array Value) (hs : Sel w0 g off) (hc : K cb = some (capC 111 g)) (u : Value) (hu : c[off]? = some u) :
  Ct Tryz.prog w0 79 [Ptr mb, Ptr cb] K (pt mb c 42 :: R)
   (fun v K' hs' => K' = K /\ hs' = pt mb (c.setIfInBounds off (.int .i64 0)) 42 :: R) := by
 refine enter Tryz.func79 (by kernel_rfl) rfl rfl rfl ?_
 refine rg ?_
 refine ld hT 0 rfl (.inl rfl) (cap_cell hc) ?_
 refine cl hT 1 rfl (hs mb _ _) ?_
 rintro v5 K5 hs5 ⟨rfl, rfl, rfl⟩
 refine stp hT 1 0 rfl rfl hu rfl ?_
 refine fin hT 0 rfl ?_
 exact end0 rfl ⟨rfl, rfl⟩
theorem numGet {c : Array Value} {rb : Nat} {hb : PH} (hi : In K (pt mb c 42 :: R) hb) (s : Rd) (hl : s.1.length < 1099511627776) (rd : IsRd rb hb s h) (hs : Sel w0 g off) (hc : K cb = some (capC 108 g)) (u : Value) (hu : c[off]? = some u) :
  Ct Tryz.prog w0 67 [Ptr rb, Ptr mb, Ptr cb] K (h :: pt mb c 42 :: R)
   (fun v K' hs' => K' = K /\ ∃ h', hs' = h' :: pt mb (c.setIfInBounds off (.int .u64 ((rUint mxU s).1 : Nat))) 42 :: R /\ IsRd rb hb (rUint mxU s).2 h') := by
 refine enter Tryz.func67 (by kernel_rfl) rfl rfl rfl ?_
 refine rg ?_
 refine ld hT 0 rfl (.inl rfl) (cap_cell hc) ?_
 refine cl hT 1 rfl (hs mb _ _) ?_
 rintro v7 K7 hs7 ⟨rfl, rfl, rfl⟩
 refine cl hT 1 rfl (uintC hi mxU s hl rd) ?_
 rintro v9 K9 hs9 ⟨h9, rfl, rfl, rfl, rd9⟩
 refine stp hT 1 1 rfl rfl hu rfl ?_
 refine fin hT 0 rfl ?_
 exact end0 rfl ⟨rfl, h9, rfl, rd9⟩
theorem placeGet {c : Array Value} {rb : Nat} {hb : PH} (hi : In K (pt mb c 42 :: R) hb) (s : Rd) (hl : s.1.length < 1099511627776) (rd : IsRd rb hb s h) (hs : Sel w0 g off) (hc : K cb = some (capC 111 g)) (u : Value) (hu : c[off]? = some u) :
  Ct Tryz.prog w0 78 [Ptr rb, Ptr mb, Ptr cb] K (h :: pt mb c 42 :: R)
   (fun v K' hs' => K' = K /\ ∃ h', hs' = h' :: pt mb (c.setIfInBounds off (.int .i64 ((rUint 2097152 s).1 : Nat))) 42 :: R /\ IsRd rb hb (rUint 2097152 s).2 h') := by
 have hle := rUint_le 2097152 s
 refine enter Tryz.func78 (by kernel_rfl) rfl rfl rfl ?_
 refine rg ?_
 refine ld hT 0 rfl (.inl rfl) (cap_cell hc) ?_
 refine cl hT 1 rfl (hs mb _ _) ?_
 rintro v7 K7 hs7 ⟨rfl, rfl, rfl⟩
 refine cl hT 1 rfl (uintC hi 2097152 s hl rd) ?_
 rintro v9 K9 hs9 ⟨h9, rfl, rfl, rfl, rd9⟩
 refine ar hT 0 rfl (i64w (by omega)) ?_
 refine stp hT 1 1 rfl rfl hu rfl ?_
 refine fin hT 0 rfl ?_
 exact end0 rfl ⟨rfl, h9, rfl, rd9⟩
theorem goodPut (m : Msg) (p : MA) (ao : Option Addr) (c1 : Nat) (bs : List UInt8) (o : Own h ao bs.length c1 5 1 (bv bs)) (hb : bs.length < 68719476736) :
  Ct Tryz.prog w0 69 [.slice ao bs.length c1, Ptr mb] K (h :: pt mb (mv m p) 42 :: R) (PutR .good m bs (pt mb (mv m p) 42 :: R) K) := by
 refine enter Tryz.func69 (by kernel_rfl) rfl rfl rfl ?_
 refine sq (rg ?_)
 refine fin hT 2 rfl (th (sq (sq (rg ?_))))
 refine ldp hT 3 1 rfl rfl rfl ?_
 refine nmS fun b9 h9 => ?_
 refine fin hT 0 rfl (th (ifP h9 rfl (fun e1 => ?_) (fun e1 => ?_)))
 ·refine sq (rg ?_)
  refine lit hT 1 #[.int .u8 ((1 : Nat) : Int)] rfl (by decide) (by kernel_rfl) fun b11 => ?_
  refine appB hT 0 1 bs [1] rfl rfl rfl o (.inr ⟨0, rfl⟩) (isS_byte b11 1 (by decide)) (by simp; omega) fun ao12 c12 g12 o12 => ?_
  refine fin hT 2 rfl (th (rt (rT ?_)))
  refine WQ.drop ?_
  exact ret2 rfl rfl rfl ⟨rfl, g12, ao12, c12, _, true, rfl, rfl, by simp [Fld.pok], fun _ => by rw [Fld.pby, if_pos e1], o12⟩
 ·refine sk (th (sq (rg ?_)))
  refine lit hT 1 #[.int .u8 ((0 : Nat) : Int)] rfl (by decide) (by kernel_rfl) fun b14 => ?_
  refine appB hT 0 1 bs [0] rfl rfl rfl o (.inr ⟨0, rfl⟩) (isS_byte b14 0 (by decide)) (by simp; omega) fun ao15 c15 g15 o15 => ?_
  refine fin hT 2 rfl (th (rt ?_))
  refine WQ.drop ?_
  exact ret2 rfl rfl rfl ⟨rfl, g15, ao15, c15, _, true, rfl, rfl, by simp [Fld.pok], fun _ => by rw [Fld.pby, if_neg e1], o15⟩
theorem getGoodT {rb : Nat} {hb h : PH} {s0 : Rd} {m : Msg} (e : (1 : Int) < ((rByte s0).1 : Nat)) (r : IsRd rb hb (rFail 170 (rByte s0).2) h) : IsRd rb hb ((Fld.good).get s0 m).1 h := by
 have : 1 < (rByte s0).1 := by omega
 simp only [Fld.get]
 rw [if_pos this]
 exact r
theorem getGoodF {rb : Nat} {hb h : PH} {s0 : Rd} {m : Msg} (e : ¬ (1 : Int) < ((rByte s0).1 : Nat)) (r : IsRd rb hb (rByte s0).2 h) : IsRd rb hb ((Fld.good).get s0 m).1 h := by
 have : ¬ 1 < (rByte s0).1 := by omega
 simp only [Fld.get]
 rw [if_neg this]
 exact r
theorem goodGet {rb : Nat} {hb : PH} (m : Msg) (p : MA) (hi : In K (pt mb (mv m p) 42 :: R) hb) (s0 : Rd) (rd : IsRd rb hb s0 h) (hS : MsgS K m p) :
  Ct Tryz.prog w0 70 [Ptr rb, Ptr mb] K (h :: pt mb (mv m p) 42 :: R) (GetR .good s0 m p rb mb hb R K) := by
 refine enter Tryz.func70 (by kernel_rfl) rfl rfl rfl ?_
 refine sq (rg ?_)
 refine cl hT 1 rfl (byteC hi s0 rd) ?_
 rintro v6 K6 hs6 ⟨h6, rfl, rfl, rfl, rd6⟩
 refine fin hT 1 rfl (th (jn (σ := PH) (fun s => [(1, Ptr mb), (4, .int .u8 ((rByte s0).1 : Nat))]) (fun s => s :: pt mb (mv m p) 42 :: R) (fun s => IsRd rb hb ((Fld.good).get s0 m).1 s) ?_ ?_))
 ·refine sq (rg ?_)
  refine cmpS hT 1 rfl fun b8 h8 => ?_
  refine fin hT 0 rfl (th (ifP h8 rfl (fun e2 => ?_) (fun e2 => ?_)))
  ·refine rg ?_
   refine cl hT 1 rfl (failC (rByte s0).2 170 rd6) ?_
   rintro v10 K10 hs10 ⟨h10, rfl, rfl, rfl, rd10⟩
   refine fin hT 0 rfl ?_
   exact jx h10 (getGoodT e2 rd10) ⟨rfl, rfl, trivial⟩ rfl rfl
  ·refine sk ?_
   exact jx h6 (getGoodF e2 rd6) ⟨rfl, rfl, trivial⟩ rfl rfl
 ·rintro h6 rd6
  refine rg ?_
  refine cmpS hT 2 rfl fun b13 h13 => ?_
  have hb13 : b13 = ((Fld.good).get s0 m).2.good := by
   have : b13 = true ↔ (rByte s0).1 = 1 := h13.trans ⟨fun h => by omega, fun h => by omega⟩
   simp only [Fld.get]
   cases b13 <;> simp_all
  subst hb13
  refine stp hT 2 1 rfl rfl rfl rfl ?_
  refine fin hT 0 rfl ?_
  exact end0 rfl ⟨Le.refl _, h6, p, rfl, rd6, hS, fun _ => ⟨rfl, rfl⟩⟩
end
end Go.Proofs.YtejkjbkodcamoaaGreatDoor
namespace Go.Proofs.YtejkjbkodcamoaaGreatDoor
open Go.En
attribute [local irreducible] Code.wp wpList Calls
theorem putR_no {f : Fld} {m : Msg} {bs : List UInt8} {R : List PH} {K : PH} (h : ¬ f.pok m) : PutR f m bs R K (.tuple #[.slice none 0 0, .bool false]) K (em :: R) :=
 ⟨rfl, em, none, 0, [], false, rfl, rfl, ⟨fun h => (by cases h), fun h' => absurd h' h⟩, (fun h => by cases h), Own.nil _ _⟩
theorem EntsS.get {H : PH} {e0 : Ent} : ∀ {css : List (List Value)} {es : List Ent} {i : Nat}, All2 (EntC H) css es -> i < es.length ->
  ∃ ae ce, IsS H ae (es.getD i e0).data.length ce 1 (bv (es.getD i e0).data) /\ ∀ (j : Nat) v, ((es.getD i e0).v ae ce).toList[j]? = some v -> css.flatten[i * 4 + j]? = some v
 | [], [], i, _, h => by simp at h
 | [], _ :: _, _, g, _ => g.elim
 | _ :: _, [], _, g, _ => g.elim
 | c :: css, e :: es, 0, g, h => by
  obtain ⟨⟨ae, ce, rfl, x⟩, _⟩ := g
  refine ⟨ae, ce, by simpa using x, fun j v hv => ?_⟩
  have hj : j < 4 := by have := (List.getElem?_eq_some_iff.1 hv).1; simpa [Ent.v] using this
  simp only [List.getD_cons_zero] at hv
  rw [List.flatten_cons, Nat.zero_mul, Nat.zero_add, List.getElem?_append_left (by simpa [Ent.v] using hj)]
  exact hv
 | c :: css, e :: es, i + 1, g, h => by
  obtain ⟨ae, ce, x, hx⟩ := EntsS.get (e0 := e0) (i := i) g.2 (by simpa using h)
  obtain ⟨⟨ae', ce', rfl, _⟩, _⟩ := g
  refine ⟨ae, ce, by simpa using x, fun j v hv => ?_⟩
  have := hx j v (by simpa using hv)
  rw [List.flatten_cons, List.getElem?_append_right (by simp [Ent.v]; omega)]
  rw [show (i + 1) * 4 + j - (e.v ae' ce').toList.length = i * 4 + j from by simp [Ent.v]; omega]
  exact this
theorem entsOK_split (a : Nat) : ∀ (l r : List Ent) (i : Nat), entsOK a i (l ++ r) ↔ entsOK a i l /\ entsOK a (i + l.length) r
 | [], r, i => by simp [entsOK]
 | e :: l, r, i => by
  show (e.ok /\ e.idx = (a + i + 1) % 18446744073709551616 /\ a <= e.idx /\ entsOK a (i + 1) (l ++ r)) ↔ (e.ok /\ e.idx = (a + i + 1) % 18446744073709551616 /\ a <= e.idx /\ entsOK a (i + 1) l) /\ entsOK a (i + (l.length + 1)) r
  rw [entsOK_split a l r (i + 1), show i + 1 + l.length = i + (l.length + 1) from by omega]
  simp only [and_assoc]
theorem entsBytes_append : ∀ l r : List Ent, entsBytes (l ++ r) = entsBytes l ++ entsBytes r
 | [], r => rfl
 | e :: l, r => by simp [entsBytes, entsBytes_append l r]
theorem entsBytes_len (a : Nat) : ∀ (l : List Ent) (i : Nat), entsOK a i l -> (∀ e ∈ l, e.idx <= mxU /\ e.term <= mxU) -> (entsBytes l).length <= 260 * l.length
 | [], _, _, _ => by simp [entsBytes]
 | e :: l, i, h, hb => by
  obtain ⟨h1, _, _, h4⟩ := h
  have h5 := Ent.bytes_length e h1 (hb e (by simp)).1 (hb e (by simp)).2
  have h6 := entsBytes_len a l (i + 1) h4 (fun x hx => hb x (by simp [hx]))
  have h7 := uint_le10 (n := e.bytes.length) (by omega)
  simp only [entsBytes, putBytes, List.length_append, List.length_cons]
  omega
theorem getD_take_succ (l : List Ent) (i : Nat) (h : i < l.length) (d : Ent) : l.take (i + 1) = l.take i ++ [l.getD i d] := by
 rw [take_succ_get l i h]; simp [List.getD, h]
theorem entsOK_at {a : Nat} {l : List Ent} {i : Nat} (h : i < l.length) (d : Ent) (hok : entsOK a 0 l) : (l.getD i d).ok /\ (l.getD i d).idx = (a + i + 1) % 18446744073709551616 /\ a <= (l.getD i d).idx := by
 have h1 := (entsOK_split a (l.take i) (l.drop i) 0).1 (by rw [List.take_append_drop]; exact hok)
 have h2 := h1.2
 rw [List.drop_eq_getElem_cons h] at h2
 have hl : (l.take i).length = i := by simp; omega
 obtain ⟨g1, g2, g3, _⟩ := h2
 rw [hl, Nat.zero_add] at g2
 have e : l.getD i d = l[i] := by simp [List.getD, h]
 rw [e]
 exact ⟨g1, g2, g3⟩
theorem entsOK_take_succ {a : Nat} {l : List Ent} {i : Nat} (h : i < l.length) (d : Ent) (h0 : entsOK a 0 (l.take i)) (h1 : (l.getD i d).ok) (h2 : (l.getD i d).idx = (a + i + 1) % 18446744073709551616) (h3 : a <= (l.getD i d).idx) : entsOK a 0 (l.take (i + 1)) := by
 rw [getD_take_succ l i h d, entsOK_split]
 have hl : (l.take i).length = i := by simp; omega
 exact ⟨h0, h1, by rw [hl, Nat.zero_add]; exact h2, h3, trivial⟩
section
variable {w0 : World} {K h : PH} {R : List PH} {mb : Nat}
theorem goodClr (m : Msg) (p : MA) (hS : MsgS K m p) : Ct Tryz.prog w0 71 [Ptr mb] K (pt mb (mv m p) 42 :: R) (ClrR .good m mb R K) := by
 refine enter Tryz.func71 (by kernel_rfl) rfl rfl rfl ?_
 refine rg ?_
 refine stp hT 3 0 rfl rfl rfl rfl ?_
 refine fin hT 0 rfl ?_
 exact end0 rfl ⟨rfl, p, rfl, hS⟩
theorem entsClr (m : Msg) (p : MA) (hS : MsgS K m p) : Ct Tryz.prog w0 76 [Ptr mb] K (pt mb (mv m p) 42 :: R) (ClrR .ents m mb R K) := by
 refine enter Tryz.func76 (by kernel_rfl) rfl rfl rfl ?_
 refine rg ?_
 refine stp hT 3 0 rfl rfl rfl rfl ?_
 refine fin hT 0 rfl ?_
 exact end0 rfl ⟨rfl, { p with ae := none, ce := 0 }, rfl, EntsS.nil _ _ _, hS.2⟩
theorem votClr (m : Msg) (p : MA) (hS : MsgS K m p) : Ct Tryz.prog w0 84 [Ptr mb] K (pt mb (mv m p) 42 :: R) (ClrR .vot m mb R K) := by
 refine enter Tryz.func84 (by kernel_rfl) rfl rfl rfl ?_
 refine rg ?_
 refine stp hT 3 0 rfl rfl rfl rfl ?_
 refine fin hT 0 rfl ?_
 exact end0 rfl ⟨rfl, { p with av := none, cv := 0 }, rfl, hS.1, IsS.nil _ _ _ _, hS.2.2⟩
theorem dataClr (m : Msg) (p : MA) (hS : MsgS K m p) : Ct Tryz.prog w0 87 [Ptr mb] K (pt mb (mv m p) 42 :: R) (ClrR .data m mb R K) := by
 refine enter Tryz.func87 (by kernel_rfl) rfl rfl rfl ?_
 refine rg ?_
 refine stp hT 3 0 rfl rfl rfl rfl ?_
 refine fin hT 0 rfl ?_
 exact end0 rfl ⟨rfl, { p with ad := none, cd := 0 }, rfl, hS.1, hS.2.1, IsS.nil _ _ _ _⟩
theorem ob_conf_len (l : List Int) : (ob (putConf l)).length <= 1 := by
 unfold putConf
 split <;> simp [ob]
theorem votPut (m : Msg) (p : MA) (ao : Option Addr) (c1 : Nat) (bs : List UInt8) (o : Own h ao bs.length c1 5 1 (bv bs)) (hb : bs.length < 68719476736) (hS : MsgS K m p) (hbd : m.bd) :
  Ct Tryz.prog w0 80 [.slice ao bs.length c1, Ptr mb] K (h :: pt mb (mv m p) 42 :: R) (PutR .vot m bs (pt mb (mv m p) 42 :: R) K) := by
 have hcl := ob_conf_len m.vot
 have hvl := hbd.votL
 refine enter Tryz.func80 (by kernel_rfl) rfl rfl rfl ?_
 refine sq (rg ?_)
 refine fin hT 2 rfl (th (sq (rg ?_)))
 refine ldp hT 3 1 rfl rfl rfl ?_
 refine bd hT 0 (.agg #[.slice p.av m.vot.length p.cv]) rfl (fun w => by kernel_rfl) ?_
 refine cl hT 0 rfl (putConfC p.av p.cv m.vot (.inl rfl) hS.2.1 (by omega)) ?_
 rintro v14 K14 hs14 ⟨rfl, g, aog, cg, rfl, rfl, og⟩
 refine fin hT 5 rfl (th (sq (rg ?_)))
 refine appB hT 2 1 bs (ob (putConf m.vot)) rfl rfl rfl o (.inr ⟨0, rfl⟩) og.isS (by omega) fun ao19 c19 g19 o19 => ?_
 refine cmpS hT 1 rfl fun b21 h21 => ?_
 refine fin hT 2 rfl (th (rt ?_))
 refine WQ.drop ?_
 exact ret2 rfl rfl rfl ⟨rfl, g19, ao19, c19, _, b21, rfl, rfl, h21.trans ec_zero, fun _ => rfl, o19⟩
theorem votGet {rb : Nat} {hb : PH} (m : Msg) (p : MA) (hi : In K (pt mb (mv m p) 42 :: R) hb) (s : Rd) (rd : IsRd rb hb s h) (hS : MsgS K m p) :
  Ct Tryz.prog w0 82 [Ptr rb, Ptr mb] K (h :: pt mb (mv m p) 42 :: R) (GetR .vot s m p rb mb hb R K) := by
 have hk := rByte_lt s
 refine enter Tryz.func82 (by kernel_rfl) rfl rfl rfl ?_
 refine sq (rg ?_)
 refine cl hT 1 rfl (byteC hi s rd) ?_
 rintro v8 K8 hs8 ⟨h6, rfl, rfl, rfl, rd6⟩
 refine lit hT 0 #[.int .u8 ((rByte s).1 : Nat)] rfl (by decide) (by kernel_rfl) fun b9 => ?_
 refine cl hT 0 rfl (getConfC (some ⟨b9, 0, none⟩) 1 [UInt8.ofNat (rByte s).1] (.inr ⟨0, rfl⟩) (isS_byte b9 _ hk) (by simp)) ?_
 rintro v10 K10 hs10 ⟨rfl, gv, aov, cv, rfl, rfl, ov⟩
 refine al hT 3 (.agg #[.slice none 0 0]) rfl (by kernel_rfl) fun b4 => ?_
 refine stS hT 0 0 rfl rfl (by kernel_rfl) rfl rfl ?_
 refine fin hT 1 rfl (th (sq (rg ?_)))
 refine cl hT 2 rfl (Ct.at 3 rfl (failC (rByte s).2 _ rd6)) ?_
 rintro v15 K15 hs15 ⟨h15, rfl, rfl, rfl, rd15⟩
 refine fin hT 0 rfl (th (rg ?_))
 refine ldp hT 2 0 rfl rfl rfl ?_
 refine stp hT 2 4 rfl rfl rfl rfl ?_
 refine fin hT 0 rfl ?_
 refine WQ.drop (WQ.frz fun K' le1 le2 => WQ.drop ?_)
 exact end0 rfl ⟨le1, h15, { p with av := aov, cv := cv }, rfl, rd15, ⟨(hS.le le1).1, ov.isS.le le2, (hS.le le1).2.2⟩, fun _ => ⟨rfl, rfl⟩⟩
theorem dataPut (m : Msg) (p : MA) (ao : Option Addr) (c1 : Nat) (bs : List UInt8) (o : Own h ao bs.length c1 5 1 (bv bs)) (hb : bs.length < 68719476736) (hS : MsgS K m p) (hbd : m.bd) :
  Ct Tryz.prog w0 85 [.slice ao bs.length c1, Ptr mb] K (h :: pt mb (mv m p) 42 :: R) (PutR .data m bs (pt mb (mv m p) 42 :: R) K) := by
 have hdl := hbd.dataL
 refine enter Tryz.func85 (by kernel_rfl) rfl rfl rfl ?_
 refine sq (rg ?_)
 refine fin hT 2 rfl (th (sq (rga [pt mb (mv m p) 42] 31 [0, 2, 4, 6, 8, 12, 14, 16, 18, 20, 22, 11, 24, 26, 28, 30, 32, 34, 36, 38, 40, 42, 44, 46, 48, 50, 52, 54, 56, 58, 60] (by simp) (by kernel_rfl) (by kernel_rfl) ?_)))
 refine dldp hT (by kernel_rfl) 4 0 rfl rfl rfl ?_
 refine dldp hT (by kernel_rfl) 3 0 rfl rfl rfl ?_
 refine dcmp hT (by kernel_rfl) 1 ((m.data.length : Int) <= 256) rfl (by simp) (fun h1 => ?_) (fun h1 => ?_)
 ·refine dact hT (by kernel_rfl) 0 rfl ?_
  refine cl hT 0 rfl (putBytesC ao c1 bs p.ad p.cd m.data o (.inl rfl) hS.2.2 (by omega) (by omega)) ?_
  rintro v11 K11 hs11 ⟨g11, rfl, rfl, ao11, c11, rfl, o11⟩
  refine dnex [pt mb (mv m p) 42] (by simp) (by simp) rfl ?_
  refine dldp hT (by kernel_rfl) 4 0 rfl rfl rfl ?_
  refine dldp hT (by kernel_rfl) 3 0 rfl rfl rfl ?_
  refine dldp hT (by kernel_rfl) 3 0 rfl rfl rfl ?_
  refine dar hT (by kernel_rfl) 1 rfl rfl ?_
  refine dcbS hT (by kernel_rfl) 0 (m.off <= IntKind.i64.wrap (m.whole - m.data.length)) rfl (by simp) fun b33 h33 => ?_
  refine dend hT (by kernel_rfl) 3 rfl (th (rt ?_))
  exact ret2 rfl rfl rfl ⟨rfl, g11, ao11, c11, _, b33, rfl, rfl, h33.trans ⟨fun h => ⟨by omega, h⟩, fun h => h.2⟩, fun _ => rfl, o11⟩
 ·refine dact hT (by kernel_rfl) 0 rfl ?_
  refine cl hT 0 rfl (putBytesC ao c1 bs p.ad p.cd m.data o (.inl rfl) hS.2.2 (by omega) (by omega)) ?_
  rintro v11 K11 hs11 ⟨g11, rfl, rfl, ao11, c11, rfl, o11⟩
  refine dnex [pt mb (mv m p) 42] (by simp) (by simp) rfl ?_
  refine dend hT (by kernel_rfl) 19 rfl (th (rt ?_))
  exact ret2 rfl rfl rfl ⟨rfl, g11, ao11, c11, _, false, rfl, rfl, ⟨fun h => (by cases h), fun h => absurd h.1 (by omega)⟩, fun _ => rfl, o11⟩
theorem dataGet {rb : Nat} {hb : PH} (m : Msg) (p : MA) (hi : In K (pt mb (mv m p) 42 :: R) hb) (s : Rd) (hl : s.1.length < 1099511627776) (rd : IsRd rb hb s h) (hS : MsgS K m p) :
  Ct Tryz.prog w0 86 [Ptr rb, Ptr mb] K (h :: pt mb (mv m p) 42 :: R) (GetR .data s m p rb mb hb R K) := by
 refine enter Tryz.func86 (by kernel_rfl) rfl rfl rfl ?_
 refine rg ?_
 refine cl hT 2 rfl (bytesC hi 256 (by omega) s hl rd) ?_
 rintro v6 K6 hs6 ⟨h4, new, rfl, rfl, hx, aox, cx, rfl, rfl, ox, rd4⟩
 refine stp hT 2 2 rfl rfl rfl rfl ?_
 refine fin hT 0 rfl ?_
 refine WQ.frz fun K' le1 le2 => ?_
 exact end0 rfl ⟨le1, h4, { p with ad := aox, cd := cx }, rfl, rd4, ⟨(hS.le le1).1, (hS.le le1).2.1, ox.isS.le le2⟩, fun _ => ⟨rfl, rfl⟩⟩
theorem entsPut (m : Msg) (p : MA) (ao : Option Addr) (c1 : Nat) (bs : List UInt8) (o : Own h ao bs.length c1 5 1 (bv bs)) (hb : bs.length < 68719476736) (hS : MsgS K m p) (hbd : m.bd) :
  Ct Tryz.prog w0 72 [.slice ao bs.length c1, Ptr mb] K (h :: pt mb (mv m p) 42 :: R) (PutR .ents m bs (pt mb (mv m p) 42 :: R) K) := by
 have hel := hbd.entsL
 have hmx : mxU = 18446744073709551615 := rfl
 have hidx := hbd.idx
 have hu := uint_le10 (n := m.ents.length) (by omega)
 obtain ⟨⟨css, xE, hE⟩, hS2⟩ := hS
 refine enter Tryz.func72 (by kernel_rfl) rfl rfl rfl ?_
 refine sq (rg ?_)
 refine fin hT 2 rfl (th (sq (rg ?_)))
 refine ldp hT 4 1 rfl rfl rfl ?_
 refine ar hT 1 rfl (u64w (by omega)) ?_
 refine cl hT 0 rfl (putUint ao c1 bs m.ents.length o (by omega) (by omega)) ?_
 rintro v17 K17 hs17 ⟨g17, rfl, rfl, ao17, c17, rfl, o17⟩
 refine fin hT 1 rfl (th (sq (sq (rg ?_))))
 refine ldp hT 3 1 rfl rfl rfl ?_
 refine fin hT 2 rfl (th (bk ?_))
 refine loop (σ := Nat × Option Addr × Nat × PH) (fun s => [(0, .slice s.2.1 (bs ++ uint m.ents.length ++ entsBytes (m.ents.take s.1)).length s.2.2.1), (1, Ptr mb), (21, .slice p.ae m.ents.length p.ce), (22, .int .i64 (m.ents.length : Nat)), (23, .int .i64 (s.1 : Nat))]) (fun _ => K17) (fun s => s.2.2.2 :: pt mb (mv m p) 42 :: R) (fun s => s.1 <= m.ents.length /\ entsOK m.idx 0 (m.ents.take s.1) /\ Own s.2.2.2 s.2.1 (bs ++ uint m.ents.length ++ entsBytes (m.ents.take s.1)).length s.2.2.1 5 1 (bv (bs ++ uint m.ents.length ++ entsBytes (m.ents.take s.1)))) (fun s => m.ents.length - s.1) (0, ao17, c17, g17) ⟨Nat.zero_le _, trivial, by simpa [entsBytes] using o17⟩ (by simp only [entsBytes, List.take_zero, List.append_nil]; exact ⟨rfl, rfl, rfl, rfl, rfl, trivial⟩) rfl rfl ?_
 rintro ⟨i, ao, c1, h⟩ ⟨hi, hok, o⟩
 dsimp only at hi hok o ⊢
 refine sq (rg ?_)
 refine cmpS hT 0 rfl fun b24 h24 => ?_
 have hbl := entsBytes_len m.idx _ 0 hok (fun e he => ⟨(hbd.ents e (List.mem_of_mem_take he)).1, (hbd.ents e (List.mem_of_mem_take he)).2.1⟩)
 have htl : (m.ents.take i).length <= m.ents.length := by simp; omega
 have hlen : (bs ++ uint m.ents.length ++ entsBytes (m.ents.take i)).length < 137438953472 := by simp only [List.length_append]; omega
 refine fin hT 0 rfl (th (sq (ifP h24 rfl (fun e2 => ?_) (fun e2 => ?_))))
 ·have hin : i < m.ents.length := by omega
  refine sk (th (sq (bk (sq (rg ?_)))))
  obtain ⟨ae, ce, xd, hcell⟩ := EntsS.get (e0 := Ent.zero) hE hin
  have hge : m.ents.getD i Ent.zero ∈ m.ents := by simp [List.getD, hin]
  have hbe := hbd.ents _ hge
  have htk := getD_take_succ m.ents i hin Ent.zero
  have hat := fun h => entsOK_at (a := m.idx) hin Ent.zero h
  have hsu := fun h1 h2 h3 => entsOK_take_succ (a := m.idx) hin Ent.zero hok h1 h2 h3
  generalize m.ents.getD i Ent.zero = e at xd hcell hge hbe htk hat hsu
  refine ixs hT 1 i rfl rfl xE hin (by decide) fun a26 ha26 => ?_
  refine lds hT 0 [.int .u64 (e.idx : Nat), .int .u64 (e.term : Nat), .int .i64 e.kind, .slice ae e.data.length ce] rfl (by kernel_rfl) (.inl rfl) (fun j v hv => ?_) ?_
  ·obtain ⟨a', q1, q2⟩ := xE.2.2 (i * 4 + j) v (hcell j v hv)
   rw [ha26] at q1
   cases q1
   rw [Deep.add_add]
   exact q2
  refine al hT 0 (.agg #[.int .u64 0, .int .u64 0, .int .i64 0, .slice none 0 0]) rfl (by kernel_rfl) fun b7 => ?_
  refine stS hT 1 0 rfl rfl (by kernel_rfl) rfl rfl ?_
  refine fin hT 0 rfl (th (sq (rg ?_)))
  refine ldS hT 0 0 rfl rfl (by kernel_rfl) ?_
  refine cl hT 0 rfl (putEntC e ae ce hbe.1 hbe.2.1 (.inl rfl) xd (by omega)) ?_
  rintro v30 K30 hs30 ⟨rfl, g, aog, cg, rfl, rfl, og⟩
  refine fin hT 5 rfl (th (jn (σ := Unit) (fun s => [(0, .slice ao (bs ++ uint m.ents.length ++ entsBytes (m.ents.take i)).length c1), (1, Ptr mb), (8, .slice aog (ob (putEnt e)).length cg), (21, .slice p.ae m.ents.length p.ce), (22, .int .i64 (m.ents.length : Nat)), (23, .int .i64 (i : Nat))]) (fun s => g :: pt b7 #[.int .u64 (e.idx : Nat), .int .u64 (e.term : Nat), .int .i64 e.kind, .slice ae e.data.length ce] 37 :: h :: pt mb (mv m p) 42 :: R) (fun s => e.ok /\ e.idx = (m.idx + i + 1) % 18446744073709551616 /\ m.idx <= e.idx) ?_ ?_))
  ·refine sq (rga [pt b7 #[.int .u64 (e.idx : Nat), .int .u64 (e.term : Nat), .int .i64 e.kind, .slice ae e.data.length ce] 37, pt mb (mv m p) 42] 24 [0, 2, 4, 6, 8, 10, 12, 14, 16, 18, 20, 22, 24, 26, 28, 30, 32, 34, 36, 38, 40, 42, 44, 46] (by simp) (by kernel_rfl) (by kernel_rfl) ?_)
   refine dcmp hT (by kernel_rfl) 1 (ec (putEnt e) ≠ 0) rfl (by simp) (fun h3 => ?_) (fun h3 => ?_)
   ·refine dend hT (by kernel_rfl) 22 rfl (th (ifT rfl (sq (rg ?_))))
    refine fin hT 2 rfl (th (rt (jr (rB (rT (rT (rB (rT ?_))))))))
    refine WQ.drop (WQ.drop (WQ.drop (WQ.em ?_)))
    exact ret2 rfl rfl rfl (putR_no fun hp => h3 (by rw [putEnt, if_pos (hat hp.1).1]; rfl))
   ·have heok : e.ok := Decidable.not_not.1 fun hn => h3 (by rw [putEnt, if_neg hn]; decide)
    refine dldp hT (by kernel_rfl) 2 0 rfl rfl rfl ?_
    refine dldp hT (by kernel_rfl) 3 1 rfl rfl rfl ?_
    refine dar hT (by kernel_rfl) 1 rfl (u64w (by omega)) ?_
    refine dar hT (by kernel_rfl) 0 rfl (v' := .int .u64 (((m.idx + i) % 18446744073709551616 : Nat) : Int)) (by rw [<- u64m]; rfl) ?_
    refine dar hT (by kernel_rfl) 0 rfl (v' := .int .u64 (((m.idx + i + 1) % 18446744073709551616 : Nat) : Int)) (by rw [show (m.idx + i + 1) % 18446744073709551616 = ((m.idx + i) % 18446744073709551616 + 1) % 18446744073709551616 from by omega, <- u64m]; rfl) ?_
    refine dcmp hT (by kernel_rfl) 0 (((e.idx : Nat) : Int) ≠ (((m.idx + i + 1) % 18446744073709551616 : Nat) : Int)) rfl (by simp) (fun h4 => ?_) (fun h4 => ?_)
    ·refine dend hT (by kernel_rfl) 10 rfl (th (ifT rfl (sq (rg ?_))))
     refine fin hT 2 rfl (th (rt (jr (rB (rT (rT (rB (rT ?_))))))))
     refine WQ.drop (WQ.drop (WQ.drop (WQ.em ?_)))
     exact ret2 rfl rfl rfl (putR_no fun hp => h4 (Int.ofNat_inj.2 (hat hp.1).2.1))
    ·refine dldp hT (by kernel_rfl) 3 0 rfl rfl rfl ?_
     refine dldp hT (by kernel_rfl) 3 1 rfl rfl rfl ?_
     refine dcbS hT (by kernel_rfl) 0 (((e.idx : Nat) : Int) < (m.idx : Nat)) rfl (by simp) fun b55 h55 => ?_
     refine dend hT (by kernel_rfl) 1 rfl (th (ifP h55 rfl (fun e5 => ?_) (fun e5 => ?_)))
     ·refine sq (rg ?_)
      refine fin hT 2 rfl (th (rt (jr (rB (rT (rT (rB (rT ?_))))))))
      refine WQ.drop (WQ.drop (WQ.drop (WQ.em ?_)))
      exact ret2 rfl rfl rfl (putR_no fun hp => absurd (hat hp.1).2.2 (by omega))
     ·refine sk ?_
      exact jx () ⟨heok, Int.ofNat_inj.1 (Decidable.not_not.1 h4), by omega⟩ ⟨rfl, rfl, rfl, rfl, rfl, rfl, trivial⟩ rfl rfl
  ·rintro _ ⟨heok, he2, he3⟩
   have hpe : ob (putEnt e) = e.bytes := by rw [putEnt, if_pos heok]; rfl
   rw [hpe] at og ⊢
   have hel2 := Ent.bytes_length e heok hbe.1 hbe.2.1
   refine rg ?_
   refine cl hT 2 rfl (Ct.at 2 rfl (putBytesC ao c1 _ aog cg e.bytes o (.inr ⟨0, rfl⟩) og.isS (by omega) (by omega))) ?_
   rintro v59 K59 hs59 ⟨g59, rfl, rfl, ao59, c59, rfl, o59⟩
   have ee : bs ++ uint m.ents.length ++ entsBytes (m.ents.take i) ++ putBytes e.bytes = bs ++ uint m.ents.length ++ entsBytes (m.ents.take (i + 1)) := by rw [htk, entsBytes_append]; simp [entsBytes]
   rw [ee] at o59 ⊢
   refine fin hT 1 rfl (bl (th (WC.drop (WC.drop (rg ?_)))))
   refine ar hT 0 rfl (i64w (by omega)) ?_
   refine fin hT 1 rfl ?_
   exact again (x := (i, ao, c1, h)) (i + 1, ao59, c59, g59) ⟨rfl, rfl, rfl, rfl, rfl, trivial⟩ rfl rfl ⟨by omega, hsu heok he2 he3, o59⟩ (by (try dsimp only); omega)
 ·obtain rfl : i = m.ents.length := by omega
  refine ex (xt (xt (xb (th (sq (rga [pt mb (mv m p) 42] 9 [0, 2, 4, 6, 8, 10, 12, 14, 16] (by simp) (by kernel_rfl) (by kernel_rfl) ?_))))))
  rw [List.take_of_length_le (Nat.le_refl _)] at o hok ⊢
  refine dldp hT (by kernel_rfl) 4 0 rfl rfl rfl ?_
  refine dcbS hT (by kernel_rfl) 1 ((m.ents.length : Int) <= 8) rfl (by simp) fun b67 h67 => ?_
  refine dend hT (by kernel_rfl) 2 rfl (th (rt ?_))
  exact ret2 rfl rfl rfl ⟨rfl, h, ao, c1, _, b67, rfl, rfl, h67.trans ⟨fun h => ⟨hok, by omega⟩, fun h => by have := h.2; omega⟩, fun _ => by simp [Fld.pby], o⟩
end
end Go.Proofs.YtejkjbkodcamoaaGreatDoor
namespace Go.Proofs.YtejkjbkodcamoaaGreatDoor
open Go.En
attribute [local irreducible] Code.wp wpList Calls
theorem All2.len {α : Type} {R : List Value -> α -> Prop} : ∀ {cs : List (List Value)} {xs : List α}, All2 R cs xs -> cs.length = xs.length
 | [], [], _ => rfl
 | _ :: _, _ :: _, g => by simp [All2.len g.2]
 | [], _ :: _, g => g.elim
 | _ :: _, [], g => g.elim
theorem entsGet {w0 : World} {K h : PH} {R : List PH} {mb : Nat} {rb ii : Nat} {hb : PH} (m : Msg) (p : MA) (h0 : m.ents = []) (hpe : p.ae = none) (hpc : p.ce = 0) (hR : R[ii]? = some hb) (s : Rd) (hl : s.1.length < 1099511627776) (rd : IsRd rb hb s h) (hS : MsgS K m p) :
  Ct Tryz.prog w0 74 [Ptr rb, Ptr mb] K (h :: pt mb (mv m p) 42 :: R) (GetR .ents s m p rb mb hb R K) := by
 obtain ⟨mk, mf, mt, mte, mi, ml, mc, mr, mg, me, mo, mw, mvo, md⟩ := m
 obtain ⟨pae, pce, pav, pcv, pad, pcd⟩ := p
 dsimp only at h0 hpe hpc
 subst h0 hpe hpc
 have hN := rUint_le 8 s
 have hlr := rUint_len 8 s
 refine enter Tryz.func74 (by kernel_rfl) rfl rfl rfl ?_
 refine sq (rg ?_)
 refine cl hT 1 rfl (uintC (.inr ⟨ii + 1, hR⟩) 8 s hl rd) ?_
 rintro v7 K7 hs7 ⟨h7, rfl, rfl, rfl, rd7⟩
 refine fin hT 1 rfl (th (bk (WC.em ?_)))
 refine loop (σ := Nat × Rd × List Ent × PH × PH × PH × Option Addr × Nat × List (List Value)) (fun s' => [(0, Ptr rb), (1, Ptr mb), (7, .int .u64 ((rUint 8 s).1 : Nat)), (8, .int .u64 (s'.1 : Nat))]) (fun s => s.2.2.2.1) (fun s => s.2.2.2.2.2.1 :: s.2.2.2.2.1 :: pt mb (mv ⟨mk, mf, mt, mte, mi, ml, mc, mr, mg, s.2.2.1, mo, mw, mvo, md⟩ ⟨s.2.2.2.2.2.2.1, s.2.2.2.2.2.2.2.1, pav, pcv, pad, pcd⟩) 42 :: R)
  (fun s' => Le K7 s'.2.2.2.1 /\ s'.1 <= (rUint 8 s).1 /\ getEnts ((rUint 8 s).1 - s'.1) s'.2.1 s'.2.2.1 = getEnts (rUint 8 s).1 (rUint 8 s).2 [] /\ IsRd rb hb s'.2.1 s'.2.2.2.2.1 /\ Own s'.2.2.2.2.2.1 s'.2.2.2.2.2.2.1 s'.2.2.1.length s'.2.2.2.2.2.2.2.1 37 4 s'.2.2.2.2.2.2.2.2.flatten /\ All2 (EntC s'.2.2.2.1) s'.2.2.2.2.2.2.2.2 s'.2.2.1 /\ s'.2.1.1.length < 1099511627776 /\ s'.2.2.1.length = s'.1) (fun s' => (rUint 8 s).1 - s'.1)
  (0, (rUint 8 s).2, [], K7, h7, em, none, 0, []) ⟨Le.refl _, Nat.zero_le _, rfl, rd7, Own.nil _ _, trivial, by dsimp only; omega, rfl⟩ ⟨rfl, rfl, rfl, rfl, trivial⟩ rfl rfl ?_
 rintro ⟨j, s', l, K', h, g, ao, cap, css⟩ ⟨hle, hj, hge, rd, o, hA, hsl, hll⟩
 dsimp only at hle hj hge rd o hA hsl hll ⊢
 refine sq (rg ?_)
 refine cmpS hT 0 rfl fun b9 h9 => ?_
 refine fin hT 0 rfl (th (sq (ifP h9 rfl (fun e2 => ?_) (fun e2 => ?_))))
 ·have hjN : j < (rUint 8 s).1 := by omega
  refine sk (th (sq (bk (sq (rg ?_)))))
  have hge2 : getEnts ((rUint 8 s).1 - (j + 1)) (rFail (ec (getEnt (rBytes 512 s').1)) (rBytes 512 s').2) (l ++ [(getEnt (rBytes 512 s').1).getD Ent.zero]) = getEnts (rUint 8 s).1 (rUint 8 s).2 [] := by
   rw [<- hge, show (rUint 8 s).1 - j = ((rUint 8 s).1 - (j + 1)) + 1 from by omega]
   rfl
  have hbl := rBytes_len 512 s'
  have hcl := All2.len hA
  refine cl hT 1 rfl (Ct.atN 1 rfl (bytesC (.inr ⟨ii + 2, hR⟩) 512 (by omega) s' hsl rd)) ?_
  rintro v12 K12 hs12 ⟨h4, new, rfl, rfl, hx, aox, cx, rfl, rfl, ox, rd4⟩
  refine cl hT 0 rfl (getEntC aox cx (rBytes 512 s').1 (.inr ⟨0, rfl⟩) ox.isS (by omega)) ?_
  rintro v13 K13 hs13 ⟨rfl, ge, aoe, ce, rfl, rfl, oe⟩
  generalize hee : (getEnt (rBytes 512 s').1).getD Ent.zero = e at oe hge2 ⊢
  refine al hT 3 (.agg #[.int .u64 0, .int .u64 0, .int .i64 0, .slice none 0 0]) rfl (by kernel_rfl) fun b4 => ?_
  refine stS hT 0 0 rfl rfl (by kernel_rfl) rfl rfl ?_
  refine fin hT 1 rfl (th (sq (rg ?_)))
  refine cl hT 2 rfl (Ct.at 4 rfl (failC (rBytes 512 s').2 _ rd4)) ?_
  rintro v18 K18 hs18 ⟨h5, rfl, rfl, rfl, rd5⟩
  refine fin hT 0 rfl (th (rga [pt b4 (e.v aoe ce) 37, pt mb (mv ⟨mk, mf, mt, mte, mi, ml, mc, mr, mg, l, mo, mw, mvo, md⟩ ⟨ao, cap, pav, pcv, pad, pcd⟩) 42] 10 [0, 2, 4, 6, 8, 10, 13, 15, 16, 18, 21] (by simp) (by kernel_rfl) (by kernel_rfl) ?_))
  refine dldpw hT (by kernel_rfl) 4 1 rfl (by kernel_rfl) rfl rfl ?_
  refine dldS hT (by kernel_rfl) 0 0 rfl (by kernel_rfl) rfl (by kernel_rfl) ?_
  refine dact hT (by kernel_rfl) 0 rfl ?_
  refine lit hT 0 (e.v aoe ce) rfl (by decide) (by kernel_rfl) fun b25 => ?_
  refine dnex [pt b4 (e.v aoe ce) 37, pt mb (mv ⟨mk, mf, mt, mte, mi, ml, mc, mr, mg, l, mo, mw, mvo, md⟩ ⟨ao, cap, pav, pcv, pad, pcd⟩) 42] (by simp) (by simp) rfl ?_
  refine dact hT (by kernel_rfl) 0 rfl ?_
  refine app hT 0 4 rfl rfl o (.inr ⟨0, rfl⟩) (Own.ofPt (b := b25) (c := e.v aoe ce) (e := 37) (n := 1) (size := 4) rfl (by simp [maxLen])).isS rfl (by decide) (by simp [Ent.v]; exact ⟨rfl, rfl, rfl, rfl⟩) (by dsimp only; omega) (by simp only [maxLen]; omega) fun ao26 c26 g26 o26 => ?_
  refine dnex [pt b4 (e.v aoe ce) 37, pt mb (mv ⟨mk, mf, mt, mte, mi, ml, mc, mr, mg, l, mo, mw, mvo, md⟩ ⟨ao, cap, pav, pcv, pad, pcd⟩) 42] (by simp) (by simp) rfl ?_
  refine dact hT (by kernel_rfl) 2 rfl ?_
  refine stp hT 0 6 rfl rfl rfl rfl ?_
  refine dnext (.inl rfl) ?_
  refine dend hT (by kernel_rfl) 0 rfl (bl (WQ.drop (WQ.drop (WQ.frz fun K2 le1 le2 => WQ.drop (th (rg ?_))))))
  have ecss : css.flatten ++ (e.v aoe ce).toList = (css ++ [(e.v aoe ce).toList]).flatten := by simp
  have elen : l.length + 1 = (l ++ [e]).length := by simp
  rw [ecss, elen] at o26
  refine ar hT 0 rfl (u64w (by omega)) ?_
  refine fin hT 1 rfl ?_
  exact again (x := (j, s', l, K18, h, g, ao, cap, css)) (j + 1, rFail (ec (getEnt (rBytes 512 s').1)) (rBytes 512 s').2, l ++ [e], K2, h5, g26, ao26, c26, css ++ [(e.v aoe ce).toList]) ⟨rfl, rfl, rfl, rfl, trivial⟩ rfl (congrArg (fun k : Nat => g26 :: h5 :: pt mb ((mv ⟨mk, mf, mt, mte, mi, ml, mc, mr, mg, [], mo, mw, mvo, md⟩ ⟨ao26, c26, pav, pcv, pad, pcd⟩).setIfInBounds 9 (.slice ao26 k c26)) 42 :: R) elen) ⟨hle.trans le1, by omega, hge2, rd5, o26, All2.snoc ⟨aoe, ce, rfl, oe.isS.le le2⟩ (All2.imp (fun _ _ => EntC.le le1) hA), by simp only [rFail]; omega, by simp; omega⟩ (by (try dsimp only); omega)
 ·obtain rfl : j = (rUint 8 s).1 := by omega
  refine ex (xt (xt (xb ?_)))
  rw [Nat.sub_self] at hge
  have hfin : (s', l) = getEnts (rUint 8 s).1 (rUint 8 s).2 [] := hge
  refine WQ.frz fun K2 le1 le2 => ?_
  exact end0 rfl ⟨hle.trans le1, h, ⟨ao, cap, pav, pcv, pad, pcd⟩, by simp only [Fld.get]; rw [<- hfin], by simp only [Fld.get]; rw [<- hfin]; exact rd, by simp only [Fld.get]; rw [<- hfin]; exact ⟨⟨css, o.isS.le le2, All2.imp (fun _ _ => EntC.le le1) hA⟩, (hS.le (hle.trans le1)).2⟩, fun h => absurd rfl h⟩
end Go.Proofs.YtejkjbkodcamoaaGreatDoor
end
section
namespace Go.Proofs.YtejkjbkodcamoaaGreatDoor
open Go.En Go.ChangeShapes Go.WideShapes Go.ChangeAt Go.RowKit Go.Deep
set_option maxRecDepth 100000
section opens
variable {H : Type} {enc : TypeId × Value -> H} {W : World}
theorem sumM_one {α : Type} : ∀ xs : List α, sumM (fun _ => 1) xs = xs.length
 | [] => rfl
 | x :: r => by rw [sumM, sumM_one r, List.length_cons]; omega
theorem sumM_ge {α : Type} (m : α -> Nat) (hm : ∀ x, 0 < m x) : ∀ xs : List α, xs.length <= sumM m xs
 | [] => Nat.zero_le _
 | x :: r => by have := sumM_ge m hm r; have := hm x; simp only [sumM, List.length_cons]; omega
theorem ri_u64 {cs : List Value} {n : Int} (h : RI .u64 cs n) : cs = [.int .u64 (n.toNat : Nat)] /\ n.toNat <= mxU := by
 obtain ⟨rfl, hw⟩ := h
 have h2 : 0 <= n /\ n <= 18446744073709551615 := by simpa [Lit.wf, IntKind.min, IntKind.max, IntKind.signed, IntKind.bits] using hw
 have hmx : mxU = 18446744073709551615 := rfl
 refine ⟨?_, by omega⟩
 rw [Int.toNat_of_nonneg h2.1]
theorem ri_i64 {cs : List Value} {n : Int} (h : RI .i64 cs n) : cs = [.int .i64 n] /\ -9223372036854775808 <= n /\ n <= 9223372036854775807 := by
 obtain ⟨rfl, hw⟩ := h
 exact ⟨rfl, by simpa [Lit.wf, IntKind.min, IntKind.max, IntKind.signed, IntKind.bits] using hw⟩
abbrev RCmd := RP (RI .i64) (RP (RI .u64) (RP (RI .u64) (RP RS (RP (RI .i64) R0))))
abbrev mCmd (x : Int × Int × Int × List UInt8 × Int × Unit) : Nat := 1 + (1 + (1 + (x.2.2.2.1.length + 1 + (1 + 0)))) + 1
theorem cmdOpens : Opens enc Tryz.prog W 31 5 RCmd mCmd := by
 refine Opens.struct Tryz.underlying31 (by kernel_rfl) ?_
 exact OpensF.cons (off := 0) (sz1 := 1) (sz2 := 4) rfl (Opens.int Tryz.underlying3 (by kernel_rfl)) (OpensF.cons (off := 1) (sz1 := 1) (sz2 := 3) rfl (Opens.int Tryz.underlying23 (by kernel_rfl)) (OpensF.cons (off := 2) (sz1 := 1) (sz2 := 2) rfl (Opens.int Tryz.underlying23 (by kernel_rfl))
  (OpensF.cons (off := 3) (sz1 := 1) (sz2 := 1) rfl (Opens.str Tryz.underlying9 (by kernel_rfl)) (OpensF.cons (off := 4) (sz1 := 1) (sz2 := 0) rfl (Opens.int Tryz.underlying3 (by kernel_rfl)) OpensF.nil))))
end opens
end Go.Proofs.YtejkjbkodcamoaaGreatDoor
end
section
namespace Go.En
structure Wko {α : Type} (lt : α -> α -> Bool) : Prop where
 irr : ∀ a, lt a a = false
 tr : ∀ a b c, lt a b = true -> lt b c = true -> lt a c = true
 ng : ∀ a b c, lt a b = false -> lt b c = false -> lt a c = false
def eqv {α : Type} (lt : α -> α -> Bool) (k x : α) : Bool := !lt k x && !lt x k
theorem eqv_lt {α : Type} {lt : α -> α -> Bool} (h : Wko lt) {k x y : α} (hl : lt x y = true) : ¬ (eqv lt k x = true /\ eqv lt k y = true) := by
 rintro ⟨h1, h2⟩
 simp only [eqv, Bool.and_eq_true, Bool.not_eq_true'] at h1 h2
 have := h.ng x k y h1.2 h2.1
 rw [this] at hl
 exact Bool.noConfusion hl
structure SegT {α : Type} (lt : α -> α -> Bool) (a b : Nat) (xs ys : List α) : Prop where
 len : ys.length = xs.length
 pre : ys.take a = xs.take a
 post : ys.drop b = xs.drop b
 fil : ∀ k, ys.filter (eqv lt k) = xs.filter (eqv lt k)
theorem SegT.refl {α : Type} (lt : α -> α -> Bool) (a b : Nat) (xs : List α) : SegT lt a b xs xs := ⟨rfl, rfl, rfl, fun _ => rfl⟩
theorem SegT.trans {α : Type} {lt : α -> α -> Bool} {a b : Nat} {xs ys zs : List α} (h : SegT lt a b xs ys) (g : SegT lt a b ys zs) : SegT lt a b xs zs :=
 ⟨g.len.trans h.len, g.pre.trans h.pre, g.post.trans h.post, fun k => (g.fil k).trans (h.fil k)⟩
theorem SegT.wide {α : Type} {lt : α -> α -> Bool} {a b c d : Nat} {xs ys : List α} (h : SegT lt a b xs ys) (h1 : c <= a) (h2 : b <= d) : SegT lt c d xs ys := by
 refine ⟨h.len, ?_, ?_, h.fil⟩
 ·have e : ∀ l : List α, l.take c = (l.take a).take c := fun l => by rw [List.take_take, Nat.min_eq_left h1]
  rw [e ys, e xs, h.pre]
 ·have e : ∀ l : List α, l.drop d = (l.drop b).drop (d - b) := fun l => by rw [List.drop_drop, Nat.add_sub_cancel' h2]
  rw [e ys, e xs, h.post]
theorem fil_rot {α : Type} {lt : α -> α -> Bool} (h : Wko lt) (k : α) (A B : List α) (hA : ∀ x ∈ A, ∀ y ∈ B, lt y x = true) : (B ++ A).filter (eqv lt k) = (A ++ B).filter (eqv lt k) := by
 rw [List.filter_append, List.filter_append]
 by_cases e : A.filter (eqv lt k) = []
 ·rw [e, List.append_nil, List.nil_append]
 ·obtain ⟨x, hx⟩ := List.exists_mem_of_ne_nil _ e
  rw [List.mem_filter] at hx
  have e2 : B.filter (eqv lt k) = [] := by
   rw [List.filter_eq_nil_iff]
   intro y hy hk
   exact eqv_lt h (hA x hx.1 y hy) ⟨hk, hx.2⟩
  rw [e2, List.append_nil, List.nil_append]
theorem SegT.rot {α : Type} {lt : α -> α -> Bool} (h : Wko lt) (P A B Q : List α) (hA : ∀ x ∈ A, ∀ y ∈ B, lt y x = true) :
  SegT lt P.length (P.length + (A.length + B.length)) (P ++ (A ++ B ++ Q)) (P ++ (B ++ A ++ Q)) := by
 refine ⟨by simp only [List.length_append]; omega, by rw [List.take_left, List.take_left], ?_, fun k => ?_⟩
 ·rw [<- List.append_assoc P (B ++ A) Q, <- List.append_assoc P (A ++ B) Q, List.drop_left' (by simp only [List.length_append]; omega), List.drop_left' (by simp only [List.length_append])]
 ·rw [List.filter_append, List.filter_append (l₁ := P), List.filter_append (l₁ := B ++ A), List.filter_append (l₁ := A ++ B), fil_rot h k A B hA]
def SrtT {α : Type} (lt : α -> α -> Bool) (a b : Nat) (xs : List α) : Prop := ∀ i j x y, a <= i -> i < j -> j < b -> xs[i]? = some x -> xs[j]? = some y -> lt y x = false
theorem SegT.out {α : Type} {lt : α -> α -> Bool} {a b : Nat} {xs ys : List α} (h : SegT lt a b xs ys) {i : Nat} (hi : i < a \/ b <= i) : ys[i]? = xs[i]? := by
 rcases hi with hi | hi
 ·have e : ∀ l : List α, l[i]? = (l.take a)[i]? := fun l => by rw [List.getElem?_take_of_lt hi]
  rw [e ys, e xs, h.pre]
 ·have e : ∀ l : List α, l[i]? = (l.drop b)[i - b]? := fun l => by rw [List.getElem?_drop, Nat.add_sub_cancel' hi]
  rw [e ys, e xs, h.post]
theorem seg_split {α : Type} (l : List α) {a b : Nat} (h : a <= b) : l = l.take a ++ ((l.drop a).take (b - a) ++ l.drop b) := by
 have e : l.drop b = (l.drop a).drop (b - a) := by rw [List.drop_drop, Nat.add_sub_cancel' h]
 rw [e, List.take_append_drop, List.take_append_drop]
theorem SegT.seg {α : Type} {lt : α -> α -> Bool} {a b : Nat} {xs ys : List α} (h : SegT lt a b xs ys) (hab : a <= b) (k : α) :
  ((ys.drop a).take (b - a)).filter (eqv lt k) = ((xs.drop a).take (b - a)).filter (eqv lt k) := by
 have e := h.fil k
 rw [seg_split ys hab, seg_split xs hab, List.filter_append, List.filter_append, List.filter_append, List.filter_append, h.pre, h.post] at e
 exact List.append_cancel_right (List.append_cancel_left e)
theorem seg_mem {α : Type} {l : List α} {a b : Nat} {x : α} : x ∈ (l.drop a).take (b - a) ↔ ∃ i, a <= i /\ i < b /\ l[i]? = some x := by
 rw [List.mem_iff_getElem?]
 constructor
 ·rintro ⟨i, hi⟩
  have hlt : i < b - a := by
   rcases Nat.lt_or_ge i (b - a) with g | g
   ·exact g
   ·rw [List.getElem?_take_eq_none g] at hi; exact absurd hi (by simp)
  rw [List.getElem?_take_of_lt hlt, List.getElem?_drop] at hi
  exact ⟨a + i, by omega, by omega, hi⟩
 ·rintro ⟨i, h1, h2, h3⟩
  refine ⟨i - a, ?_⟩
  rw [List.getElem?_take_of_lt (by omega), List.getElem?_drop, Nat.add_sub_cancel' h1]
  exact h3
theorem SegT.mem {α : Type} {lt : α -> α -> Bool} (w : Wko lt) {a b : Nat} {xs ys : List α} (h : SegT lt a b xs ys) {i : Nat} {y : α} (h1 : a <= i) (h2 : i < b) (h3 : ys[i]? = some y) :
  ∃ j, a <= j /\ j < b /\ xs[j]? = some y := by
 have hm : y ∈ ((ys.drop a).take (b - a)).filter (eqv lt y) := by
  rw [List.mem_filter]
  exact ⟨seg_mem.2 ⟨i, h1, h2, h3⟩, by simp [eqv, w.irr]⟩
 rw [h.seg (by omega), List.mem_filter] at hm
 exact seg_mem.1 hm.1
theorem SrtT.same {α : Type} {lt : α -> α -> Bool} {a b : Nat} {xs ys : List α} (h : SrtT lt a b xs) (he : ∀ p, a <= p -> p < b -> ys[p]? = xs[p]?) : SrtT lt a b ys := fun i j x y h1 h2 h3 h4 h5 =>
 h i j x y h1 h2 h3 (by rw [<- he i h1 (by omega)]; exact h4) (by rw [<- he j (by omega) h3]; exact h5)
def CrsT {α : Type} (lt : α -> α -> Bool) (a m b : Nat) (xs : List α) : Prop := ∀ i j x y, a <= i -> i < m -> m <= j -> j < b -> xs[i]? = some x -> xs[j]? = some y -> lt y x = false
theorem CrsT.left {α : Type} {lt : α -> α -> Bool} (w : Wko lt) {a m b : Nat} {xs ys : List α} (h : CrsT lt a m b xs) (g : SegT lt a m xs ys) : CrsT lt a m b ys := fun i j x y h1 h2 h3 h4 h5 h6 => by
 obtain ⟨q, q1, q2, q3⟩ := g.mem w h1 h2 h5
 exact h q j x y q1 q2 h3 h4 q3 (by rw [<- g.out (.inr h3)]; exact h6)
theorem CrsT.right {α : Type} {lt : α -> α -> Bool} (w : Wko lt) {a m b : Nat} {xs ys : List α} (h : CrsT lt a m b xs) (g : SegT lt m b xs ys) : CrsT lt a m b ys := fun i j x y h1 h2 h3 h4 h5 h6 => by
 obtain ⟨q, q1, q2, q3⟩ := g.mem w h3 h4 h6
 exact h i q x y h1 h2 q1 q2 (by rw [<- g.out (.inl h2)]; exact h5) q3
theorem SrtT.join {α : Type} {lt : α -> α -> Bool} {a m b : Nat} {xs : List α} (h : SrtT lt a m xs) (g : SrtT lt m b xs) (c : CrsT lt a m b xs) : SrtT lt a b xs := fun i j x y h1 h2 h3 h4 h5 => by
 by_cases e : j < m
 ·exact h i j x y h1 h2 e h4 h5
 ·by_cases e2 : m <= i
  ·exact g i j x y e2 h2 h3 h4 h5
  ·exact c i j x y h1 (by omega) (by omega) h3 h4 h5
theorem both_srt {α : Type} {lt : α -> α -> Bool} (w : Wko lt) {a m b : Nat} {xs ys zs : List α} (c : CrsT lt a m b xs) (h1 : SegT lt a m xs ys) (s1 : SrtT lt a m ys) (h2 : SegT lt m b ys zs) (s2 : SrtT lt m b zs) (ham : a <= m) (hmb : m <= b) :
  SegT lt a b xs zs /\ SrtT lt a b zs :=
 ⟨(h1.wide (Nat.le_refl _) hmb).trans (h2.wide ham (Nat.le_refl _)), (s1.same fun p p1 p2 => h2.out (.inl p2)).join s2 ((c.left w h1).right w h2)⟩
end Go.En
end
section
namespace Go.En
def rotL {α : Type} (s m e : Nat) (xs : List α) : List α := xs.take s ++ ((xs.drop m).take (e - m) ++ (xs.drop s).take (m - s) ++ xs.drop e)
theorem rotL_len {α : Type} {s m e : Nat} {xs : List α} (h1 : s <= m) (h2 : m <= e) (h3 : e <= xs.length) : (rotL s m e xs).length = xs.length := by
 simp only [rotL, List.length_append, List.length_take, List.length_drop]; omega
theorem rotL_lo {α : Type} {s m e : Nat} {xs : List α} (h1 : s <= m) (h2 : m <= e) (h3 : e <= xs.length) {i : Nat} (hi : i < s) : (rotL s m e xs)[i]? = xs[i]? := by
 rw [rotL, List.getElem?_append_left (by simp only [List.length_take]; omega), List.getElem?_take_of_lt hi]
theorem rotL_b {α : Type} {s m e : Nat} {xs : List α} (h1 : s <= m) (h2 : m <= e) (h3 : e <= xs.length) {i : Nat} (hi : s <= i) (hj : i < s + (e - m)) : (rotL s m e xs)[i]? = xs[m + (i - s)]? := by
 rw [rotL, List.getElem?_append_right (by simp only [List.length_take]; omega), List.append_assoc, List.getElem?_append_left (by simp only [List.length_take, List.length_drop]; omega)]
 rw [List.length_take, Nat.min_eq_left (by omega), List.getElem?_take_of_lt (by omega), List.getElem?_drop]
theorem rotL_a {α : Type} {s m e : Nat} {xs : List α} (h1 : s <= m) (h2 : m <= e) (h3 : e <= xs.length) {i : Nat} (hi : s + (e - m) <= i) (hj : i < e) : (rotL s m e xs)[i]? = xs[i - (e - m)]? := by
 have e1 : (xs.take s).length = s := by rw [List.length_take]; omega
 have e2 : ((xs.drop m).take (e - m)).length = e - m := by rw [List.length_take, List.length_drop]; omega
 rw [rotL, List.getElem?_append_right (by omega), List.append_assoc, List.getElem?_append_right (by omega), List.getElem?_append_left (by simp only [List.length_take, List.length_drop]; omega)]
 rw [e1, e2, List.getElem?_take_of_lt (by omega), List.getElem?_drop]
 congr 1; omega
theorem rotL_hi {α : Type} {s m e : Nat} {xs : List α} (h1 : s <= m) (h2 : m <= e) (h3 : e <= xs.length) {i : Nat} (hi : e <= i) : (rotL s m e xs)[i]? = xs[i]? := by
 have e1 : (xs.take s).length = s := by rw [List.length_take]; omega
 have e2 : ((xs.drop m).take (e - m) ++ (xs.drop s).take (m - s)).length = e - s := by simp only [List.length_append, List.length_take, List.length_drop]; omega
 rw [rotL, List.getElem?_append_right (by omega), List.getElem?_append_right (by omega), List.getElem?_drop]
 congr 1; omega
theorem rotL_seg {α : Type} {lt : α -> α -> Bool} (w : Wko lt) {s m e : Nat} {xs : List α} (h1 : s <= m) (h2 : m <= e) (h3 : e <= xs.length)
  (h : ∀ i j x y, s <= i -> i < m -> m <= j -> j < e -> xs[i]? = some x -> xs[j]? = some y -> lt y x = true) : SegT lt s e xs (rotL s m e xs) := by
 have e0 : xs = xs.take s ++ ((xs.drop s).take (m - s) ++ (xs.drop m).take (e - m) ++ xs.drop e) := by
  have g1 := seg_split xs h1
  have g2 : xs.drop m = (xs.drop m).take (e - m) ++ xs.drop e := by
   have : xs.drop e = (xs.drop m).drop (e - m) := by rw [List.drop_drop, Nat.add_sub_cancel' h2]
   rw [this, List.take_append_drop]
  rw [List.append_assoc, <- g2]; exact g1
 have g := SegT.rot w (xs.take s) ((xs.drop s).take (m - s)) ((xs.drop m).take (e - m)) (xs.drop e) (fun x hx y hy => by
  obtain ⟨i, i1, i2, i3⟩ := seg_mem.1 hx
  obtain ⟨j, j1, j2, j3⟩ := seg_mem.1 hy
  exact h i j x y i1 i2 j1 j2 i3 j3)
 rw [<- e0] at g
 have l1 : (xs.take s).length = s := by rw [List.length_take]; omega
 have l2 : ((xs.drop s).take (m - s)).length = m - s := by rw [List.length_take, List.length_drop]; omega
 have l3 : ((xs.drop m).take (e - m)).length = e - m := by rw [List.length_take, List.length_drop]; omega
 rw [l1, l2, l3, show s + (m - s + (e - m)) = e by omega] at g
 exact g
structure SymF {α : Type} (lt : α -> α -> Bool) (a m b s : Nat) (xs : List α) : Prop where
 am : a < m
 mb : m < b
 len : b <= xs.length
 l1 : SrtT lt a m xs
 l2 : SrtT lt m b xs
 lo : (if (a + b) / 2 < m then (a + b) / 2 + m - b else a) <= s
 hi : s <= (if (a + b) / 2 < m then (a + b) / 2 else m)
 left : (if (a + b) / 2 < m then (a + b) / 2 + m - b else a) < s -> ∀ x y, xs[s - 1]? = some x -> xs[(a + b) / 2 + m - s]? = some y -> lt y x = false
 right : s < (if (a + b) / 2 < m then (a + b) / 2 else m) -> ∀ x y, xs[s]? = some x -> xs[(a + b) / 2 + m - 1 - s]? = some y -> lt y x = true
theorem SymF.bds {α : Type} {lt : α -> α -> Bool} {a m b s : Nat} {xs : List α} (h : SymF lt a m b s xs) :
  a <= s /\ s <= m /\ s <= (a + b) / 2 /\ m <= (a + b) / 2 + m - s /\ (a + b) / 2 <= (a + b) / 2 + m - s /\ (a + b) / 2 + m - s <= b /\ s + ((a + b) / 2 + m - s - m) = (a + b) / 2 := by
 have := h.am; have := h.mb; have h1 := h.lo; have h2 := h.hi
 split at h1 <;> split at h2 <;> omega
theorem SymF.cross {α : Type} {lt : α -> α -> Bool} (w : Wko lt) {a m b s : Nat} {xs : List α} (h : SymF lt a m b s xs) :
  ∀ i j x y, s <= i -> i < m -> m <= j -> j < (a + b) / 2 + m - s -> xs[i]? = some x -> xs[j]? = some y -> lt y x = true := by
 intro i j x y i1 i2 j1 j2 hx hy
 have B := h.bds
 have := h.am; have := h.mb; have hl := h.len
 have hs : s < (if (a + b) / 2 < m then (a + b) / 2 else m) := by split <;> omega
 obtain ⟨x0, hx0⟩ : ∃ x0, xs[s]? = some x0 := ⟨_, List.getElem?_eq_getElem (by omega)⟩
 obtain ⟨y0, hy0⟩ : ∃ y0, xs[(a + b) / 2 + m - 1 - s]? = some y0 := ⟨_, List.getElem?_eq_getElem (by omega)⟩
 have h0 := h.right hs x0 y0 hx0 hy0
 have hx1 : lt x x0 = false := by
  by_cases e : s = i
  ·subst e; rw [hx] at hx0; cases hx0; exact w.irr _
  ·exact h.l1 s i x0 x (by omega) (by omega) i2 hx0 hx
 have hy1 : lt y0 y = false := by
  by_cases e : j = (a + b) / 2 + m - 1 - s
  ·subst e; rw [hy] at hy0; cases hy0; exact w.irr _
  ·exact h.l2 j _ y y0 j1 (by omega) (by omega) hy hy0
 cases g : lt y x with
 | true => rfl
 | false => rw [w.ng y0 x x0 (w.ng y0 y x hy1 g) hx1] at h0; exact Bool.noConfusion h0
theorem SymF.far {α : Type} {lt : α -> α -> Bool} (w : Wko lt) {a m b s : Nat} {xs : List α} (h : SymF lt a m b s xs) :
  ∀ i j x y, a <= i -> i < s -> (a + b) / 2 + m - s <= j -> j < b -> xs[i]? = some x -> xs[j]? = some y -> lt y x = false := by
 intro i j x y i1 i2 j1 j2 hx hy
 have B := h.bds
 have := h.am; have := h.mb; have hl := h.len
 have hs : (if (a + b) / 2 < m then (a + b) / 2 + m - b else a) < s := by split <;> omega
 obtain ⟨x0, hx0⟩ : ∃ x0, xs[s - 1]? = some x0 := ⟨_, List.getElem?_eq_getElem (by omega)⟩
 obtain ⟨y0, hy0⟩ : ∃ y0, xs[(a + b) / 2 + m - s]? = some y0 := ⟨_, List.getElem?_eq_getElem (by omega)⟩
 have h0 := h.left hs x0 y0 hx0 hy0
 have hx1 : lt x0 x = false := by
  by_cases e : i = s - 1
  ·subst e; rw [hx] at hx0; cases hx0; exact w.irr _
  ·exact h.l1 i (s - 1) x x0 i1 (by omega) (by omega) hx hx0
 have hy1 : lt y y0 = false := by
  by_cases e : j = (a + b) / 2 + m - s
  ·subst e; rw [hy] at hy0; cases hy0; exact w.irr _
  ·exact h.l2 _ j y0 y (by omega) (by omega) j2 hy0 hy
 exact w.ng y x0 x (w.ng y y0 x0 hy1 h0) hx1
theorem SymF.rot {α : Type} {lt : α -> α -> Bool} (w : Wko lt) {a m b s : Nat} {xs : List α} (h : SymF lt a m b s xs) :
  SegT lt a b xs (rotL s m ((a + b) / 2 + m - s) xs) /\ SrtT lt a s (rotL s m ((a + b) / 2 + m - s) xs) /\ SrtT lt s ((a + b) / 2) (rotL s m ((a + b) / 2 + m - s) xs) /\
  SrtT lt ((a + b) / 2) ((a + b) / 2 + m - s) (rotL s m ((a + b) / 2 + m - s) xs) /\ SrtT lt ((a + b) / 2 + m - s) b (rotL s m ((a + b) / 2 + m - s) xs) /\ CrsT lt a ((a + b) / 2) b (rotL s m ((a + b) / 2 + m - s) xs) := by
 have hc := h.cross w
 have hf := h.far w
 obtain ⟨b1, b2, b3, b4, b5, b6, b7⟩ := h.bds
 have := h.am; have := h.mb; have hl := h.len
 have s1 := h.l1
 have s2 := h.l2
 generalize he : (a + b) / 2 + m - s = e at *
 generalize hd : (a + b) / 2 = d at *
 have r1 : ∀ i, i < s -> (rotL s m e xs)[i]? = xs[i]? := fun i hi => rotL_lo b2 b4 (by omega) hi
 have r2 : ∀ i, s <= i -> i < d -> (rotL s m e xs)[i]? = xs[m + (i - s)]? := fun i hi hj => rotL_b b2 b4 (by omega) hi (by omega)
 have r3 : ∀ i, d <= i -> i < e -> (rotL s m e xs)[i]? = xs[i - (e - m)]? := fun i hi hj => rotL_a b2 b4 (by omega) (by omega) hj
 have r4 : ∀ i, e <= i -> (rotL s m e xs)[i]? = xs[i]? := fun i hi => rotL_hi b2 b4 (by omega) hi
 refine ⟨(rotL_seg w b2 b4 (by omega) hc).wide b1 b6, ?_, ?_, ?_, ?_, ?_⟩
 ·intro i j x y h1 h2 h3 hx hy
  rw [r1 _ (by omega)] at hx hy
  exact s1 i j x y h1 h2 (by omega) hx hy
 ·intro i j x y h1 h2 h3 hx hy
  rw [r2 _ (by omega) (by omega)] at hx hy
  exact s2 _ _ x y (by omega) (by omega) (by omega) hx hy
 ·intro i j x y h1 h2 h3 hx hy
  rw [r3 _ (by omega) (by omega)] at hx hy
  exact s1 _ _ x y (by omega) (by omega) (by omega) hx hy
 ·intro i j x y h1 h2 h3 hx hy
  rw [r4 _ (by omega)] at hx hy
  exact s2 _ _ x y (by omega) (by omega) (by omega) hx hy
 ·intro i j x y h1 h2 h3 h4 hx hy
  by_cases e1 : i < s
  ·rw [r1 _ e1] at hx
   by_cases e2 : j < e
   ·rw [r3 _ h3 e2] at hy
    exact s1 _ _ x y h1 (by omega) (by omega) hx hy
   ·rw [r4 _ (by omega)] at hy
    exact hf i j x y h1 e1 (by omega) h4 hx hy
  ·rw [r2 _ (by omega) h2] at hx
   by_cases e2 : j < e
   ·rw [r3 _ h3 e2] at hy
    have g := hc _ _ y x (by omega) (by omega) (by omega) (by omega) hy hx
    cases g2 : lt y x with
    | false => rfl
    | true => have g3 := w.tr _ _ _ g g2; rw [w.irr] at g3; exact Bool.noConfusion g3
   ·rw [r4 _ (by omega)] at hy
    exact s2 _ _ x y (by omega) (by omega) h4 hx hy
end Go.En
end
section
namespace Go.En
def rotI (s m e i : Nat) : Nat := if i < s then i else if i < s + (e - m) then m + (i - s) else if i < e then i - (e - m) else i
theorem rotL_at {α : Type} {s m e : Nat} {xs : List α} (h1 : s <= m) (h2 : m <= e) (h3 : e <= xs.length) (i : Nat) : (rotL s m e xs)[i]? = xs[rotI s m e i]? := by
 unfold rotI
 split
 ·exact rotL_lo h1 h2 h3 (by omega)
 ·split
  ·exact rotL_b h1 h2 h3 (by omega) (by omega)
  ·split
   ·exact rotL_a h1 h2 h3 (by omega) (by omega)
   ·exact rotL_hi h1 h2 h3 (by omega)
def swE {α : Type} (i j : Nat) (xs : List α) : List α := match xs[i]?, xs[j]? with
 | some x, some y => (xs.set i y).set j x
 | _, _ => xs
theorem swE_len {α : Type} (i j : Nat) (xs : List α) : (swE i j xs).length = xs.length := by
 unfold swE; split <;> simp
theorem swE_at {α : Type} {i j : Nat} {xs : List α} (hi : i < xs.length) (hj : j < xs.length) (k : Nat) : (swE i j xs)[k]? = if k = j then xs[i]? else if k = i then xs[j]? else xs[k]? := by
 have e1 := List.getElem?_eq_getElem hi
 have e2 := List.getElem?_eq_getElem hj
 simp only [swE, e1, e2]
 by_cases h1 : k = j
 ·subst h1; rw [if_pos rfl, List.getElem?_set_self (by simp; omega)]
 ·rw [if_neg h1, List.getElem?_set_ne (by omega)]
  by_cases h2 : k = i
  ·subst h2; rw [if_pos rfl, List.getElem?_set_self (by omega)]
  ·rw [if_neg h2, List.getElem?_set_ne (by omega)]
def swR {α : Type} (p q : Nat) : Nat -> List α -> List α
 | 0, xs => xs
 | n + 1, xs => swE (p + n) (q + n) (swR p q n xs)
theorem swR_len {α : Type} (p q n : Nat) (xs : List α) : (swR p q n xs).length = xs.length := by
 induction n with
 | zero => rfl
 | succ n ih => rw [swR, swE_len, ih]
def swI (p q n i : Nat) : Nat := if p <= i /\ i < p + n then q + (i - p) else if q <= i /\ i < q + n then p + (i - q) else i
theorem swR_at {α : Type} {p q n : Nat} {xs : List α} (h1 : p + n <= q) (h2 : q + n <= xs.length) (i : Nat) : (swR p q n xs)[i]? = xs[swI p q n i]? := by
 induction n generalizing i with
 | zero =>
  have : swI p q 0 i = i := by unfold swI; rw [if_neg (by omega), if_neg (by omega)]
  rw [this]; rfl
 | succ n ih =>
  rw [swR, swE_at (by rw [swR_len]; omega) (by rw [swR_len]; omega), ih (by omega) (by omega), ih (by omega) (by omega), ih (by omega) (by omega)]
  unfold swI
  by_cases a1 : i = q + n
  ·rw [if_pos a1]; congr 1; repeat' split
   all_goals omega
  ·rw [if_neg a1]
   by_cases a2 : i = p + n
   ·rw [if_pos a2]; congr 1; repeat' split
    all_goals omega
   ·rw [if_neg a2]; congr 1; repeat' split
    all_goals omega
theorem rot_more {α : Type} {m i j : Nat} {xs : List α} (hi : i <= m) (hj : 0 < j) (hij : j < i) (hl : m + j <= xs.length) :
  rotL (m - (i - j)) m (m + j) (swR (m - i) m j xs) = rotL (m - i) m (m + j) xs := by
 refine List.ext_getElem? fun k => ?_
 rw [rotL_at (by omega) (by omega) (by rw [swR_len]; omega), rotL_at (by omega) (by omega) hl, swR_at (by omega) (by omega)]
 congr 1
 unfold swI rotI
 repeat' split
 all_goals omega
theorem rot_less {α : Type} {m i j : Nat} {xs : List α} (hi : i <= m) (h0 : 0 < i) (hij : i < j) (hl : m + j <= xs.length) :
  rotL (m - i) m (m + (j - i)) (swR (m - i) (m + j - i) i xs) = rotL (m - i) m (m + j) xs := by
 refine List.ext_getElem? fun k => ?_
 rw [rotL_at (by omega) (by omega) (by rw [swR_len]; omega), rotL_at (by omega) (by omega) hl, swR_at (by omega) (by omega)]
 congr 1
 unfold swI rotI
 repeat' split
 all_goals omega
theorem rot_even {α : Type} {m i : Nat} {xs : List α} (hi : i <= m) (hl : m + i <= xs.length) : swR (m - i) m i xs = rotL (m - i) m (m + i) xs := by
 refine List.ext_getElem? fun k => ?_
 rw [rotL_at (by omega) (by omega) hl, swR_at (by omega) (by omega)]
 congr 1
 unfold swI rotI
 repeat' split
 all_goals omega
theorem rot_up {α : Type} {a k : Nat} {xs : List α} (h1 : a <= k) (hl : k + 2 <= xs.length) : swE k (k + 1) (rotL a (a + 1) (k + 1) xs) = rotL a (a + 1) (k + 2) xs := by
 have e := rotL_len (s := a) (m := a + 1) (e := k + 1) (xs := xs) (by omega) (by omega) (by omega)
 refine List.ext_getElem? fun i => ?_
 rw [swE_at (by omega) (by omega), rotL_at (by omega) (by omega) (by omega), rotL_at (by omega) (by omega) (by omega), rotL_at (by omega) (by omega) (by omega), rotL_at (by omega) (by omega) (by omega)]
 unfold rotI
 by_cases a1 : i = k + 1
 ·rw [if_pos a1]; congr 1; repeat' split
  all_goals omega
 ·rw [if_neg a1]
  by_cases a2 : i = k
  ·rw [if_pos a2]; congr 1; repeat' split
   all_goals omega
  ·rw [if_neg a2]; congr 1; repeat' split
   all_goals omega
theorem rot_down {α : Type} {m k : Nat} {xs : List α} (h1 : k < m) (hl : m + 1 <= xs.length) : swE (k + 1) k (rotL (k + 1) m (m + 1) xs) = rotL k m (m + 1) xs := by
 have e := rotL_len (s := k + 1) (m := m) (e := m + 1) (xs := xs) (by omega) (by omega) (by omega)
 refine List.ext_getElem? fun i => ?_
 rw [swE_at (by omega) (by omega), rotL_at (by omega) (by omega) (by omega), rotL_at (by omega) (by omega) (by omega), rotL_at (by omega) (by omega) (by omega), rotL_at (by omega) (by omega) (by omega)]
 unfold rotI
 by_cases a1 : i = k
 ·rw [if_pos a1]; congr 1; repeat' split
  all_goals omega
 ·rw [if_neg a1]
  by_cases a2 : i = k + 1
  ·rw [if_pos a2]; congr 1; repeat' split
   all_goals omega
  ·rw [if_neg a2]; congr 1; repeat' split
   all_goals omega
theorem rotL_nil {α : Type} {s e : Nat} {xs : List α} (h : s <= e) (hl : e <= xs.length) : rotL s s e xs = xs /\ rotL s e e xs = xs := by
 constructor
 all_goals
  refine List.ext_getElem? fun i => ?_
  rw [rotL_at (by omega) (by omega) (by omega)]
  congr 1
  unfold rotI
  repeat' split
  all_goals omega
end Go.En
end
section
namespace Go.En
theorem one_r {α : Type} {lt : α -> α -> Bool} (w : Wko lt) {a m i : Nat} {xs : List α} (h1 : a <= i) (h2 : i <= m) (hl : m + 1 <= xs.length) (hs : SrtT lt a m xs)
  (hR : i < m -> ∀ x y, xs[i]? = some x -> xs[m]? = some y -> lt y x = true) (hL : a < i -> ∀ x y, xs[i - 1]? = some x -> xs[m]? = some y -> lt y x = false) :
  SegT lt a (m + 1) xs (rotL i m (m + 1) xs) /\ SrtT lt a (m + 1) (rotL i m (m + 1) xs) := by
 obtain ⟨z, hz⟩ : ∃ z, xs[m]? = some z := ⟨_, List.getElem?_eq_getElem (by omega)⟩
 have up : ∀ p x, i <= p -> p < m -> xs[p]? = some x -> lt z x = true := fun p x p1 p2 hx => by
  obtain ⟨x0, hx0⟩ : ∃ x0, xs[i]? = some x0 := ⟨_, List.getElem?_eq_getElem (by omega)⟩
  have g := hR (by omega) x0 z hx0 hz
  have g1 : lt x x0 = false := by
   by_cases e : i = p
   ·subst e; rw [hx] at hx0; cases hx0; exact w.irr _
   ·exact hs i p x0 x h1 (by omega) p2 hx0 hx
  cases g2 : lt z x with
  | true => rfl
  | false => rw [w.ng z x x0 g2 g1] at g; exact Bool.noConfusion g
 have dn : ∀ p x, a <= p -> p < i -> xs[p]? = some x -> lt z x = false := fun p x p1 p2 hx => by
  obtain ⟨x0, hx0⟩ : ∃ x0, xs[i - 1]? = some x0 := ⟨_, List.getElem?_eq_getElem (by omega)⟩
  have g := hL (by omega) x0 z hx0 hz
  have g1 : lt x0 x = false := by
   by_cases e : p = i - 1
   ·subst e; rw [hx] at hx0; cases hx0; exact w.irr _
   ·exact hs p (i - 1) x x0 p1 (by omega) (by omega) hx hx0
  exact w.ng z x0 x g g1
 refine ⟨(rotL_seg w h2 (by omega) hl fun p q x y p1 p2 q1 q2 hx hy => ?_).wide h1 (Nat.le_refl _), ?_⟩
 ·have : q = m := by omega
  subst this
  rw [hz] at hy; cases hy
  exact up p x p1 p2 hx
 ·intro p q x y p1 pq q2 hx hy
  by_cases c1 : q < i
  ·rw [rotL_lo h2 (by omega) hl (by omega)] at hx hy
   exact hs p q x y p1 pq (by omega) hx hy
  ·by_cases c2 : q = i
   ·subst c2
    rw [rotL_lo h2 (by omega) hl pq] at hx
    rw [rotL_b h2 (by omega) hl (by omega) (by omega), Nat.sub_self, Nat.add_zero, hz] at hy
    cases hy
    exact dn p x p1 pq hx
   ·rw [rotL_a h2 (by omega) hl (by omega) (by omega), show m + 1 - m = 1 by omega] at hy
    by_cases c3 : p < i
    ·rw [rotL_lo h2 (by omega) hl c3] at hx
     exact hs p (q - 1) x y p1 (by omega) (by omega) hx hy
    ·by_cases c4 : p = i
     ·subst c4
      rw [rotL_b h2 (by omega) hl (by omega) (by omega), Nat.sub_self, Nat.add_zero, hz] at hx
      cases hx
      have g := up (q - 1) y (by omega) (by omega) hy
      cases g2 : lt y z with
      | false => rfl
      | true => have g3 := w.tr _ _ _ g g2; rw [w.irr] at g3; exact Bool.noConfusion g3
     ·rw [rotL_a h2 (by omega) hl (by omega) (by omega), show m + 1 - m = 1 by omega] at hx
      exact hs (p - 1) (q - 1) x y (by omega) (by omega) (by omega) hx hy
theorem one_l {α : Type} {lt : α -> α -> Bool} (w : Wko lt) {a b i : Nat} {xs : List α} (h1 : a + 1 <= i) (h2 : i <= b) (hl : b <= xs.length) (hs : SrtT lt (a + 1) b xs)
  (hL : a + 1 < i -> ∀ x y, xs[a]? = some x -> xs[i - 1]? = some y -> lt y x = true) (hR : i < b -> ∀ x y, xs[a]? = some x -> xs[i]? = some y -> lt y x = false) :
  SegT lt a b xs (rotL a (a + 1) i xs) /\ SrtT lt a b (rotL a (a + 1) i xs) := by
 obtain ⟨z, hz⟩ : ∃ z, xs[a]? = some z := ⟨_, List.getElem?_eq_getElem (by omega)⟩
 have dn : ∀ p x, a + 1 <= p -> p < i -> xs[p]? = some x -> lt x z = true := fun p x p1 p2 hx => by
  obtain ⟨x0, hx0⟩ : ∃ x0, xs[i - 1]? = some x0 := ⟨_, List.getElem?_eq_getElem (by omega)⟩
  have g := hL (by omega) z x0 hz hx0
  have g1 : lt x0 x = false := by
   by_cases e : p = i - 1
   ·subst e; rw [hx] at hx0; cases hx0; exact w.irr _
   ·exact hs p (i - 1) x x0 p1 (by omega) (by omega) hx hx0
  cases g2 : lt x z with
  | true => rfl
  | false => rw [w.ng x0 x z g1 g2] at g; exact Bool.noConfusion g
 have up : ∀ p x, i <= p -> p < b -> xs[p]? = some x -> lt x z = false := fun p x p1 p2 hx => by
  obtain ⟨x0, hx0⟩ : ∃ x0, xs[i]? = some x0 := ⟨_, List.getElem?_eq_getElem (by omega)⟩
  have g := hR (by omega) z x0 hz hx0
  have g1 : lt x x0 = false := by
   by_cases e : i = p
   ·subst e; rw [hx] at hx0; cases hx0; exact w.irr _
   ·exact hs i p x0 x (by omega) (by omega) p2 hx0 hx
  exact w.ng x x0 z g1 g
 refine ⟨(rotL_seg w (by omega) h1 (by omega) fun p q x y p1 p2 q1 q2 hx hy => ?_).wide (Nat.le_refl _) h2, ?_⟩
 ·have : p = a := by omega
  subst this
  rw [hz] at hx; cases hx
  exact dn q y q1 q2 hy
 ·have lo : ∀ p, a <= p -> p < i - 1 -> (rotL a (a + 1) i xs)[p]? = xs[p + 1]? := fun p p1 p2 => by
   rw [rotL_b (by omega) h1 (by omega) p1 (by omega)]; congr 1; omega
  have md : (rotL a (a + 1) i xs)[i - 1]? = some z := by
   rw [rotL_a (by omega) h1 (by omega) (by omega) (by omega), <- hz]; congr 1; omega
  have hi : ∀ p, i <= p -> (rotL a (a + 1) i xs)[p]? = xs[p]? := fun p p1 => rotL_hi (by omega) h1 (by omega) p1
  intro p q x y p1 pq q2 hx hy
  by_cases c1 : p < i - 1
  ·rw [lo p p1 c1] at hx
   by_cases c2 : q < i - 1
   ·rw [lo q (by omega) c2] at hy
    exact hs _ _ x y (by omega) (by omega) (by omega) hx hy
   ·by_cases c3 : q = i - 1
    ·subst c3
     rw [md] at hy; cases hy
     have g := dn _ x (by omega) (by omega) hx
     cases g2 : lt z x with
     | false => rfl
     | true => have g3 := w.tr _ _ _ g g2; rw [w.irr] at g3; exact Bool.noConfusion g3
    ·rw [hi q (by omega)] at hy
     exact hs _ _ x y (by omega) (by omega) q2 hx hy
  ·rw [hi q (by omega)] at hy
   by_cases c3 : p = i - 1
   ·subst c3
    rw [md] at hx; cases hx
    exact up q y (by omega) q2 hy
   ·rw [hi p (by omega)] at hx
    exact hs _ _ x y (by omega) pq q2 hx hy
end Go.En
end
section
namespace Go.En
theorem SrtT.pw {α : Type} {lt : α -> α -> Bool} {xs : List α} (h : SrtT lt 0 xs.length xs) : xs.Pairwise fun x y => lt y x = false := by
 rw [List.pairwise_iff_getElem]
 intro i j hi hj hij
 exact h i j _ _ (Nat.zero_le _) hij hj (List.getElem?_eq_getElem hi) (List.getElem?_eq_getElem hj)
def lstT {α : Type} (lt : α -> α -> Bool) : List α -> List α
 | [] => []
 | [x] => [x]
 | x :: y :: t => if eqv lt x y then lstT lt (y :: t) else x :: lstT lt (y :: t)
theorem lstT_mem {α : Type} {lt : α -> α -> Bool} : ∀ (l : List α) (x : α), x ∈ lstT lt l -> x ∈ l
 | [], x, h => h
 | [y], x, h => h
 | a :: y :: t, x, h => by
  rw [lstT] at h
  split at h
  ·exact List.mem_cons_of_mem _ (lstT_mem (y :: t) x h)
  ·rcases List.mem_cons.1 h with e | e
   ·rw [e]; exact List.mem_cons_self
   ·exact List.mem_cons_of_mem _ (lstT_mem (y :: t) x e)
theorem eqv_tr {α : Type} {lt : α -> α -> Bool} (w : Wko lt) {k x y : α} (h : eqv lt x y = true) : eqv lt k x = eqv lt k y := by
 simp only [eqv, Bool.and_eq_true, Bool.not_eq_true'] at h
 have e1 : lt k x = lt k y := by
  cases g : lt k y with
  | false => exact w.ng _ _ _ g h.2
  | true => cases g2 : lt k x with
   | true => rfl
   | false => rw [w.ng _ _ _ g2 h.1] at g; exact Bool.noConfusion g
 have e2 : lt x k = lt y k := by
  cases g : lt y k with
  | false => exact w.ng _ _ _ h.1 g
  | true => cases g2 : lt x k with
   | true => rfl
   | false => rw [w.ng _ _ _ h.2 g2] at g; exact Bool.noConfusion g
 rw [eqv, eqv, e1, e2]
theorem lstT_rise {α : Type} {lt : α -> α -> Bool} (w : Wko lt) : ∀ (l : List α), (l.Pairwise fun x y => lt y x = false) -> (lstT lt l).Pairwise fun x y => lt x y = true
 | [], _ => List.Pairwise.nil
 | [x], _ => List.pairwise_singleton _ _
 | x :: y :: t, h => by
  have h1 := List.pairwise_cons.1 h
  rw [lstT]
  split
  ·exact lstT_rise w (y :: t) h1.2
  ·rename_i e
   refine List.pairwise_cons.2 ⟨fun z hz => ?_, lstT_rise w (y :: t) h1.2⟩
   have hz1 := lstT_mem _ _ hz
   have exy : lt x y = true := by
    cases g : lt x y with
    | true => rfl
    | false => exact absurd (by simp only [eqv, g, h1.1 y List.mem_cons_self]; rfl) e
   have hzy : lt z y = false := by
    rcases List.mem_cons.1 hz1 with q | q
    ·rw [q]; exact w.irr _
    ·exact (List.pairwise_cons.1 h1.2).1 z q
   cases g : lt x z with
   | true => rfl
   | false => rw [w.ng _ _ _ g hzy] at exy; exact Bool.noConfusion exy
theorem lstT_fil {α : Type} {lt : α -> α -> Bool} (w : Wko lt) (k : α) : ∀ (l : List α), (l.Pairwise fun x y => lt y x = false) -> (lstT lt l).filter (eqv lt k) = ((l.filter (eqv lt k)).getLast?).toList
 | [], _ => rfl
 | [x], _ => by
  rw [lstT]
  by_cases e : eqv lt k x = true
  ·rw [List.filter_cons_of_pos e]; rfl
  ·rw [List.filter_cons_of_neg e]; rfl
 | x :: y :: t, h => by
  have h1 := List.pairwise_cons.1 h
  have ih := lstT_fil w k (y :: t) h1.2
  rw [lstT]
  split
  ·rename_i e
   rw [ih]
   by_cases g : eqv lt k x = true
   ·have gy : eqv lt k y = true := by rw [<- eqv_tr w e]; exact g
    rw [List.filter_cons_of_pos g, List.filter_cons_of_pos gy]
    simp only [List.getLast?_cons_cons]
   ·rw [List.filter_cons_of_neg g]
  ·rename_i e
   by_cases g : eqv lt k x = true
   ·have e0 : (y :: t).filter (eqv lt k) = [] := by
     rw [List.filter_eq_nil_iff]
     intro z hz gz
     have hz0 := (lstT_rise w (x :: y :: t) h)
     rw [lstT, if_neg e] at hz0
     have exy : lt x y = true := by
      cases q : lt x y with
      | true => rfl
      | false => exact absurd (by simp only [eqv, q, h1.1 y List.mem_cons_self]; rfl) e
     have hzy : lt z y = false := by
      rcases List.mem_cons.1 hz with q | q
      ·rw [q]; exact w.irr _
      ·exact (List.pairwise_cons.1 h1.2).1 z q
     have exz : lt x z = true := by
      cases q : lt x z with
      | true => rfl
      | false => rw [w.ng _ _ _ q hzy] at exy; exact Bool.noConfusion exy
     exact eqv_lt w exz ⟨g, gz⟩
    rw [e0] at ih
    rw [List.filter_cons_of_pos g, List.filter_cons_of_pos g, ih, e0]; rfl
   ·rw [List.filter_cons_of_neg g, List.filter_cons_of_neg g, ih]
end Go.En
end
section
namespace Go.En
attribute [local irreducible] Code.wp wpList Calls
section rules
variable {P : Program} {T : Tab} {w0 : World} {ops : Array Oper} {Q : Exit -> Act -> World -> Prop} {rest rest' : List Oper} {n : Nat} {l l' : Sl} {K : PH} {hs : List PH}
def siAt (T : Tab) (ops : Array Oper) (n k : Nat) (rest : List Oper) (l : Sl) : Option (Nat × ByteArray × Int × List Oper × Sl) :=
 match opAt T ops n k rest l with
 | some (o, r, l') => match o.dst, o.op with
  | some d, .index t x i => match Nat.blt d n, asc T.kinds t, ev l' x, ev l' i with
   | true, some .str, some (.string s), some (.int _ j) => some (d, s, j, r, l')
   | _, _, _, _ => none
  | _, _ => none
 | _ => none
theorem fits_str {d : TypeDesc} (h : UK.fits .str d = true) : d = .string := by cases d <;> simp [UK.fits] at h ⊢
theorem six (hT : TabOK P T) (k : Nat) {d : Nat} {i : Int} (xs : List UInt8) (j : Nat) {b : UInt8} {s : ByteArray}
  (h0 : siAt T ops n k rest l = some (d, s, i, rest', l')) (hs1 : s = ⟨xs.toArray⟩) (hj : i = (j : Int)) (hb' : xs[j]? = some b)
  (hk : WL P w0 ops Q rest' n ((d, .int .u8 ((b.toNat : Nat) : Int)) :: l') K hs) : WL P w0 ops Q rest n l K hs := by
 unfold siAt at h0
 split at h0
 ·rename_i o r l2 ho
  split at h0
  ·rename_i d' t x' i' hd hop
   split at h0
   ·rename_i s' kk jj hb hsi hx hi
    simp only [Option.some.injEq, Prod.mk.injEq] at h0
    obtain ⟨rfl, rfl, rfl, rfl, rfl⟩ := h0
    subst hj hs1
    obtain ⟨dd, g1, g2⟩ := hT.kind hsi
    obtain rfl := fits_str g2
    refine WL.at' hT ho fun hg => WL.val (R := fun u K' hs' => u = .int .u8 ((b.toNat : Nat) : Int) /\ K' = K /\ hs' = hs) hd hb hg (fun A w ha hw => ⟨_, w, K, hs, ?_, hw, rfl, rfl, rfl⟩) ?_
    ·have h2 : (⟨xs.toArray⟩ : ByteArray)[j]? = some b := by
      obtain ⟨hlt, he⟩ := List.getElem?_eq_some_iff.1 hb'
      have hsz : j < (⟨xs.toArray⟩ : ByteArray).size := by simpa [ByteArray.size] using hlt
      rw [getElem?_pos _ j hsz]
      simpa [ByteArray.getElem_eq_getElem_data] using he
     simp only [execOp, hop, ha.ev hx, ha.ev hi]
     simp [Instr.index, asIntOf, run_underlying g1, h2]
    ·rintro u K' hs' ⟨rfl, rfl, rfl⟩
     exact hk
   ·simp at h0
  ·simp at h0
 ·simp at h0
def ssAt2 (T : Tab) (ops : Array Oper) (n k : Nat) (rest : List Oper) (l : Sl) : Option (Nat × ByteArray × Option Int × Option Int × List Oper × Sl) :=
 match opAt T ops n k rest l with
 | some (o, r, l') => match o.dst, o.op with
  | some d, .slice t x (some lo) none none => match Nat.blt d n, asc T.kinds t, ev l' x, ev l' lo with
   | true, some .str, some (.string s), some (.int _ i) => some (d, s, some i, none, r, l')
   | _, _, _, _ => none
  | some d, .slice t x (some lo) (some hi) none => match Nat.blt d n, asc T.kinds t, ev l' x, ev l' lo, ev l' hi with
   | true, some .str, some (.string s), some (.int _ i), some (.int _ j) => some (d, s, some i, some j, r, l')
   | _, _, _, _, _ => none
  | _, _ => none
 | _ => none
theorem ext_str (xs : List UInt8) (L H : Nat) (h1 : L <= H) (h2 : H <= xs.length) : Value.string ((⟨xs.toArray⟩ : ByteArray).extract L H) = str ((xs.drop L).take (H - L)) := by
 unfold str
 congr 1
 apply ByteArray.ext
 simp [ByteArray.data_extract]
theorem ssl (hT : TabOK P T) (k : Nat) {d : Nat} {lo hi : Option Int} (xs : List UInt8) (L H : Nat) {s : ByteArray}
  (h0 : ssAt2 T ops n k rest l = some (d, s, lo, hi, rest', l')) (hs1 : s = ⟨xs.toArray⟩) (hL : lo = some (L : Int)) (hH : hi.getD xs.length = (H : Int)) (h1 : L <= H) (h2 : H <= xs.length)
  (hk : WL P w0 ops Q rest' n ((d, str ((xs.drop L).take (H - L))) :: l') K hs) : WL P w0 ops Q rest n l K hs := by
 have hsz : (⟨xs.toArray⟩ : ByteArray).size = xs.length := by simp [ByteArray.size]
 have he := ext_str xs L H h1 h2
 unfold ssAt2 at h0
 split at h0
 ·rename_i o r l2 ho
  split at h0
  ·rename_i d' t x' lo' hd hop
   split at h0
   ·rename_i s' kk ii hb hsi hx hi
    simp only [Option.some.injEq, Prod.mk.injEq] at h0
    obtain ⟨rfl, rfl, rfl, rfl, rfl, rfl⟩ := h0
    simp only [Option.some.injEq] at hL
    simp only [Option.getD_none] at hH
    subst hs1 hL
    obtain ⟨dd, g1, g2⟩ := hT.kind hsi
    obtain rfl := fits_str g2
    refine WL.at' hT ho fun hg => WL.val (R := fun u K' hs' => u = str ((xs.drop L).take (H - L)) /\ K' = K /\ hs' = hs) hd hb hg (fun A w ha hw => ⟨_, w, K, hs, ?_, hw, he, rfl, rfl⟩) ?_
    ·have h3 : H = xs.length := by omega
     subst h3
     have h4 : ((L : Nat) : Int) <= ((xs.length : Nat) : Int) := by omega
     simp only [execOp, hop, ha.ev hx]
     simp [Instr.sliceAt, Instr.slice, Instr.sliceBounds, Instr.sliceBound, asIntOf, run_underlying g1, hsz, ha.ev hi, h1]
    ·rintro u K' hs' ⟨rfl, rfl, rfl⟩
     exact hk
   ·simp at h0
  ·rename_i d' t x' lo' hi' hd hop
   split at h0
   ·rename_i s' kk ii kk2 jj hb hsi hx hi1 hi2
    simp only [Option.some.injEq, Prod.mk.injEq] at h0
    obtain ⟨rfl, rfl, rfl, rfl, rfl, rfl⟩ := h0
    simp only [Option.some.injEq] at hL
    simp only [Option.getD_some] at hH
    subst hs1 hL hH
    obtain ⟨dd, g1, g2⟩ := hT.kind hsi
    obtain rfl := fits_str g2
    refine WL.at' hT ho fun hg => WL.val (R := fun u K' hs' => u = str ((xs.drop L).take (H - L)) /\ K' = K /\ hs' = hs) hd hb hg (fun A w ha hw => ⟨_, w, K, hs, ?_, hw, he, rfl, rfl⟩) ?_
    ·simp only [execOp, hop, ha.ev hx]
     simp [Instr.sliceAt, Instr.slice, Instr.sliceBounds, Instr.sliceBound, asIntOf, run_underlying g1, hsz, ha.ev hi1, ha.ev hi2, h1, h2]
    ·rintro u K' hs' ⟨rfl, rfl, rfl⟩
     exact hk
   ·simp at h0
  ·simp at h0
 ·simp at h0
def iaAt (T : Tab) (ops : Array Oper) (n k : Nat) (rest : List Oper) (l : Sl) : Option (Nat × Nat × Addr × Int × List Oper × Sl) :=
 match opAt T ops n k rest l with
 | some (o, r, l') => match o.dst, o.op with
  | some d, .indexAddr t x i => match Nat.blt d n, ev l' x, ev l' i with
   | true, some (.pointer (some a)), some (.int _ j) => some (d, t, a, j, r, l')
   | _, _, _ => none
  | _, _ => none
 | _ => none
theorem ixa (hT : TabOK P T) (k : Nat) {d t len e sz : Nat} {a : Addr} {i : Int} (j : Nat) (h0 : iaAt T ops n k rest l = some (d, t, a, i, rest', l')) (hu : P.underlying t = some (.array len e)) (he : (P.info? e).map (·.size) = some sz) (hj : i = (j : Int)) (hjn : j < len)
  (hk : WL P w0 ops Q rest' n ((d, .pointer (some (a.add (j * sz)))) :: l') K hs) : WL P w0 ops Q rest n l K hs := by
 unfold iaAt at h0
 split at h0
 ·rename_i o r l2 ho
  split at h0
  ·rename_i d' t x' i' hd hop
   split at h0
   ·rename_i a' kk jj hb hx hi
    simp only [Option.some.injEq, Prod.mk.injEq] at h0
    obtain ⟨rfl, rfl, rfl, rfl, rfl, rfl⟩ := h0
    subst hj
    cases hii : P.info? e with
    | none => rw [hii] at he; cases he
    | some ii =>
     rw [hii] at he
     have hsz : ii.size = sz := by simpa using he
     refine WL.at' hT ho fun hg => WL.val (R := fun u K' hs' => u = .pointer (some (a'.add (j * sz))) /\ K' = K /\ hs' = hs) hd hb hg (fun A w ha hw => ⟨_, w, K, hs, ?_, hw, rfl, rfl, rfl⟩) ?_
     ·simp only [execOp, hop, ha.ev hx, ha.ev hi]
      simp [Instr.indexAt, Instr.sureAddr, asIntOf, run_underlying hu, sizeOf, typeInfo, hii, hsz, hjn]
     ·rintro u K' hs' ⟨rfl, rfl, rfl⟩
      exact hk
   ·simp at h0
  ·simp at h0
 ·simp at h0
end rules
end Go.En
namespace Go.En
attribute [local irreducible] Code.wp wpList Calls
section make
variable {P : Program} {T : Tab} {w0 : World} {ops : Array Oper} {Q : Exit -> Act -> World -> Prop} {rest rest' : List Oper} {n : Nat} {l l' : Sl} {K : PH} {hs : List PH}
def mslAt (T : Tab) (ops : Array Oper) (n k : Nat) (rest : List Oper) (l : Sl) : Option (Nat × SlI × Int × Int × List Oper × Sl) :=
 match opAt T ops n k rest l with
 | some (o, r, l') => match o.dst, o.op with
  | some d, .makeSlice t x y => match Nat.blt d n, asc T.sls t, ev l' x, ev l' y with
   | true, some si, some (.int .i64 i), some (.int .i64 j) => some (d, si, i, j, r, l')
   | _, _, _, _ => none
  | _, _ => none
 | _ => none
theorem mks (hT : TabOK P T) (k : Nat) {d : Nat} {si : SlI} {i j : Int} (N : Nat) (z : Value) (h0 : mslAt T ops n k rest l = some (d, si, i, j, rest', l')) (hi : i = (N : Int)) (hj : j = (N : Int)) (hz : (si.size, si.zero.cells) = (1, #[z])) (hr : N * si.bytes <= roomBytes) (hN0 : 0 < N) (hN : N <= 16777216) (hb2 : si.bytes <= 1024)
  (hk : ∀ b, Own (pt b (Array.replicate N z) si.elem) (some ⟨b, 0, none⟩) N N si.elem 1 (List.replicate N z) -> WL P w0 ops Q rest' n ((d, .slice (some ⟨b, 0, none⟩) N N) :: l') K (pt b (Array.replicate N z) si.elem :: hs)) : WL P w0 ops Q rest n l K hs := by
 simp only [Prod.mk.injEq] at hz
 obtain ⟨z1, z2⟩ := hz
 unfold mslAt at h0
 split at h0
 ·rename_i o r l2 ho
  split at h0
  ·rename_i d' t x y hd hop
   split at h0
   ·rename_i si' ii jj hb hsi hx hy
    simp only [Option.some.injEq, Prod.mk.injEq] at h0
    obtain ⟨rfl, rfl, rfl, rfl, rfl, rfl⟩ := h0
    subst hi hj
    obtain ⟨h1, im, h2, h3, h4, h5⟩ := hT.sl hsi
    refine WL.at' hT ho fun hg => WL.val (R := fun u K' hs' => ∃ b, u = .slice (some ⟨b, 0, none⟩) N N /\ K' = K /\ hs' = pt b (Array.replicate N z) si'.elem :: hs) hd hb hg
     (fun A w ha hw => ⟨.slice (some ⟨w.heap.size, 0, none⟩) N N, _, K, _, ?_, hw.alloc _, w.heap.size, rfl, rfl, rfl⟩) ?_
    ·have e1 : IntKind.i64.wrap ((N : Nat) : Int) = (N : Int) := by simp [IntKind.wrap, IntKind.bits, IntKind.signed]; omega
     simp only [execOp, hop, ha.ev hx, ha.ev hy]
     rw [h5.symm] at hr hb2
     have hm : im.bytes * N <= 1024 * 16777216 := Nat.mul_le_mul hb2 hN
     have c2 : ¬ (281474976710656 : Int) < (im.bytes : Int) * (N : Int) := by
      have : ((im.bytes * N : Nat) : Int) = (im.bytes : Int) * (N : Int) := by push_cast; rfl
      omega
     have c1 : ¬ ((N : Nat) : Int) < 0 := by omega
     have c3 : ¬ roomBytes < N * im.bytes := by omega
     have hz : N ≠ 0 := by omega
     have hz2 : (Array.map (fun x => [z][x % 1]?.getD default) (Array.range N)) = Array.replicate N z := by
      apply Array.ext
      ·simp
      ·intro i h1 h2; simp [Nat.mod_one]
     simp [Instr.makeSlice, asInt, asIntOf, run_underlying h1, sizeOf, typeInfo, h2, h4, e1, z1, c1, c2, c3, askRoom, newRow, zeroValue, h3, z2, hz, hz2, pt]
    ·rintro u K' hs' ⟨b, rfl, rfl, rfl⟩
     exact hk b (by simpa using Own.ofPt (b := b) (c := Array.replicate N z) (e := si'.elem) (n := N) (size := 1) (by simp) (by simp only [maxLen]; omega))
   ·simp at h0
  ·simp at h0
 ·simp at h0
end make
end Go.En
namespace Go.En
attribute [local irreducible] Code.wp wpList Calls
section three
variable {P : Program} {T : Tab} {w0 : World} {ops : Array Oper} {Q : Exit -> Act -> World -> Prop} {rest rest' : List Oper} {n : Nat} {l l' : Sl} {K : PH} {hs : List PH}
end three
end Go.En
namespace Go.En
attribute [local irreducible] Code.wp wpList Calls
section openx
variable {P : Program} {T : Tab} {w0 : World} {ops : Array Oper} {Q : Exit -> Act -> World -> Prop} {plan plan' : List Nat} {z : Nat} {listed listed' : Array Bool} {n : Nat} {l l' : Sl} {K K0 : PH} {hs A : List PH}
end openx
end Go.En
namespace Go.En
attribute [local irreducible] Code.wp wpList Calls
section clear
variable {P : Program} {T : Tab} {w0 : World} {ops : Array Oper} {Q : Exit -> Act -> World -> Prop} {rest rest' : List Oper} {n : Nat} {l l' : Sl} {K : PH} {hs : List PH}
end clear
end Go.En
end
section
namespace Go.En
def fz (r : Option Nat) : Fence := { fn := fun _ => True, depth := none, alive := false, round := r }
def wd (ds : List Deferred) (a : Act) : Act := { a with defers := ds }
def adj (ds : List Deferred) (Q : Exit -> Act -> World -> Prop) : Exit -> Act -> World -> Prop
 | .outgrown, _, _ => False
 | e, a, w => a.defers = [] /\ Q e (wd ds a) w
def WX (P : Program) (w0 : World) (r : Option Nat) (ds : List Deferred) (c : Code) (Q : Exit -> Act -> World -> Prop) (n : Nat) (l : Sl) (K : PH) (hs : List PH) : Prop :=
 ∀ a w, Ag n l a -> Sat w0 w K hs -> c.wpIn (fz r) 0 P Q (wd ds a) w
def WQX (ds : List Deferred) (w0 : World) (Q : Exit -> Act -> World -> Prop) (e : Exit) (n : Nat) (l : Sl) (K : PH) (hs : List PH) : Prop :=
 ∀ a w, Ag n l a -> Sat w0 w K hs -> Q e (wd ds a) w
def WLI (P : Program) (w0 : World) (r : Option Nat) (ds : List Deferred) (ops : Array Oper) (Q : Exit -> Act -> World -> Prop) (rest : List Oper) (n : Nat) (l : Sl) (K : PH) (hs : List PH) : Prop :=
 ∀ a w, Ag n l a -> Sat w0 w K hs -> wpListIn (fz r) 0 P ops Q rest (wd ds a) w
theorem wd_put (ds : List Deferred) (a : Act) (d : Option Tmp) (v : Value) : wd ds (a.put d v) = (wd ds a).put d v := by cases d <;> rfl
theorem calls_fz {r : Option Nat} {P : Program} {f : FuncId} {args : Array Value} {w : World} {R : Ending -> World -> Prop} (h : Calls P f args w R) : CallsIn (fz r) 0 P f args w R := by
 have h1 : CallsIn Fence.wide 0 P f args w R := callsIn_wide.2 h
 cases r with
 | none => exact h1
 | some l => exact h1
theorem rows_fz {r : Option Nat} {P : Program} {row : String} {args : Array Value} {w : World} {R : Value -> World -> Prop} (h : Rows P row args w R) : RowsIn (fz r) 0 P row args w R :=
 fun c cs _ => let ⟨v, w', hr, s⟩ := h c cs; ⟨v, w', hr, (stepsIn_wide.2 s : StepsIn (Machine.fenced P Fence.wide) P _ _)⟩
theorem adj_d {ds : List Deferred} {Q : Exit -> Act -> World -> Prop} {e : Exit} {a : Act} {w : World} (h : adj ds Q e a w) : a.defers = [] := by cases e <;> first | exact h.1 | exact h.elim
theorem put_d (a : Act) (d : Option Tmp) (v : Value) : (a.put d v).defers = a.defers := by cases d <;> rfl
theorem upon_d {P : Program} {o : Oper} {a : Act} {N : Act -> World -> Prop} {Q : Exit -> Act -> World -> Prop} (hN : ∀ a w, N a w -> a.defers = []) (hQ : ∀ e a w, Q e a w -> a.defers = []) (hg : ∀ a w, ¬ Q .outgrown a w) {x : Result Next} (h : o.upon P a N Q x) : a.defers = [] := by
 cases x with
 | ok n w' =>
  cases n <;> simp only [Oper.upon] at h <;> first
   | exact (put_d _ _ _).symm.trans (hN _ _ h)
   | exact h.elim
   | (
     have := hN _ _ h
     rw [put_d] at this
     cases this)
   | (
     obtain ⟨v, w1, hR, _⟩ := h default []
     exact (put_d _ _ _).symm.trans (hN _ _ hR))
   | (
     obtain ⟨e, w1, fr, hR, _⟩ := h []
     cases e with
     | returned v => exact (put_d _ _ _).symm.trans (hN _ _ hR)
     | panicked c => exact hQ _ _ _ hR
     | outgrown => obtain ⟨a1, w1, hh⟩ := hR; exact (hg _ _ hh).elim)
 | halt x w' =>
  cases x <;> simp only [Oper.upon] at h <;> first
   | exact h.elim
   | exact hQ _ _ _ h
theorem upon_fz {r : Option Nat} {P : Program} {o : Oper} {a : Act} {ds : List Deferred} {N N' : Act -> World -> Prop} {Q Q' : Exit -> Act -> World -> Prop} (hd : ∀ a w, N a w -> a.defers = []) (hN : ∀ a w, N a w -> N' (wd ds a) w) (hQ : ∀ c w, Q (.panic c) a w -> Q' (.panic c) (wd ds a) w)
  (hg : ∀ a w, ¬ Q .outgrown a w) {x : Result Next} (h : o.upon P a N Q x) : o.uponIn (fz r) 0 P (wd ds a) N' Q' x := by
 cases x with
 | ok n w' =>
  cases n <;> simp only [Oper.upon] at h <;> first
   | (simp only [Oper.uponIn, <- wd_put]; exact hN _ _ h)
   | exact h.elim
   | (
     have := hd _ _ h
     rw [put_d] at this
     cases this)
   | (
     refine ⟨by simp [fz], (rows_fz h).mono fun v w'' he => ?_⟩
     simp only [<- wd_put]; exact hN _ _ he)
   | (
     refine ⟨by simp [fz], (calls_fz h).mono fun e w'' he => ?_⟩
     cases e with
     | returned v => simp only [<- wd_put]; exact hN _ _ he
     | panicked c => exact hQ _ _ he
     | outgrown => obtain ⟨a1, w1, hh⟩ := he; exact (hg _ _ hh).elim)
 | halt x w' =>
  cases x <;> simp only [Oper.upon] at h ⊢ <;> first
   | exact h.elim
   | exact hQ _ _ h
theorem wpList_d {P : Program} {ops : Array Oper} {ds : List Deferred} {Q : Exit -> Act -> World -> Prop} : ∀ (rest : List Oper) (a : Act) (w : World), wpList P ops (adj ds Q) rest a w -> a.defers = []
 | [], a, w, h => adj_d h
 | o :: rest, a, w, h => by
  unfold wpList at h
  split at h
  ·rcases h with h | ⟨_, a1, w1, h⟩
   ·exact upon_d (Q := adj ds Q) (fun a w => wpList_d rest a w) (fun e a w h => adj_d h) (fun a w h => h) h
   ·exact h.elim
  ·exact (put_d _ _ _).symm.trans (wpList_d rest _ _ h)
theorem wp_nodefer {P : Program} {o : Oper} {a : Act} {w : World} {N : Act -> World -> Prop} {Q : Exit -> Act -> World -> Prop} (hN : ∀ a w, N a w -> a.defers = []) (h : o.wp P a w N Q) {c : Call} (hc : o.op = .defer c) : ∃ v w', (resolve a.eval c o.type).run P w = .halt v w' := by
 unfold Oper.wp at h
 simp only [execOp, hc] at h
 rw [Sem.run_bind] at h
 cases e : (resolve a.eval c o.type).run P w with
 | ok x w1 =>
  rw [e] at h
  simp only [Result.andThen, Sem.run_pure, Oper.upon] at h
  have := hN _ _ h
  rw [put_d] at this
  cases this
 | halt v w1 => exact ⟨v, w1, rfl⟩
theorem wpIn_fz {r : Option Nat} {P : Program} {o : Oper} {a : Act} {w : World} {ds : List Deferred} {N N' : Act -> World -> Prop} {Q Q' : Exit -> Act -> World -> Prop} (hd : ∀ a w, N a w -> a.defers = []) (hN : ∀ a w, N a w -> N' (wd ds a) w) (hQ : ∀ c w, Q (.panic c) a w -> Q' (.panic c) (wd ds a) w)
  (hg : ∀ a w, ¬ Q .outgrown a w) (h : o.wp P a w N Q) : o.wpIn (fz r) 0 P (wd ds a) w N' Q' := by
 refine ⟨fun _ _ => trivial, ?_⟩
 have h1 := upon_fz (r := r) hd hN hQ hg h
 by_cases hc : ∃ c, o.op = .defer c
 ·obtain ⟨c, hc⟩ := hc
  obtain ⟨v, w1, he⟩ := wp_nodefer hd h hc
  have e1 : (execOp a.eval o).run P w = .halt v w1 := by simp only [execOp, hc]; rw [Sem.run_bind, he]; rfl
  rw [e1] at h1
  have e2 : (o.semAt (fz r).round (wd ds a).eval).run P w = .halt v w1 := by
   cases r with
   | none => exact e1
   | some l =>
    simp only [Oper.semAt, fz, hc]
    rw [Sem.run_bind]
    show Result.andThen ((resolve a.eval c o.type).run P w) _ = _
    rw [he]; rfl
  rw [e2]; exact h1
 ·have e2 : o.semAt (fz r).round (wd ds a).eval = execOp a.eval o := Oper.semAt_eq _ _ _ (fun c hh => hc ⟨c, hh⟩)
  rw [e2]; exact h1
theorem list_fz2 {r : Option Nat} {P : Program} {ops : Array Oper} {ds : List Deferred} {Q Q' : Exit -> Act -> World -> Prop} (rest2 : List Oper) (hn : ∀ a w, Q .normal (wd ds a) w -> wpListIn (fz r) 0 P ops Q' rest2 (wd ds a) w) (hp : ∀ c a w, Q (.panic c) (wd ds a) w -> Q' (.panic c) (wd ds a) w) : ∀ (rest : List Oper) (a : Act) (w : World), wpList P ops (adj ds Q) rest a w -> wpListIn (fz r) 0 P ops Q' (rest ++ rest2) (wd ds a) w
 | [], a, w, h => hn a w h.2
 | o :: rest, a, w, h => by
  unfold wpList at h
  rw [List.cons_append]
  unfold wpListIn
  show if Region.wanted o (yielded ops a.tmps) = true then _ else _
  split at h
  ·rename_i hw
   rw [if_pos hw]
   rcases h with h | ⟨_, a1, w1, h⟩
   ·exact wpIn_fz (fun a w => wpList_d rest a w) (fun a w => list_fz2 rest2 hn hp rest a w) (fun c w h => hp c a w h.2) (fun a w h => h) h
   ·exact h.elim
  ·rename_i hw
   rw [if_neg hw]
   exact ⟨fun _ _ => trivial, by rw [<- wd_put]; exact list_fz2 rest2 hn hp rest _ w h⟩
theorem list_fz {r : Option Nat} {P : Program} {ops : Array Oper} {ds : List Deferred} {Q : Exit -> Act -> World -> Prop} (rest : List Oper) (a : Act) (w : World) (h : wpList P ops (adj ds Q) rest a w) : wpListIn (fz r) 0 P ops Q rest (wd ds a) w := by
 have := list_fz2 (r := r) (ds := ds) (Q := Q) (Q' := Q) (P := P) (ops := ops) [] (fun a w h => h) (fun c a w h => h) rest a w h
 rwa [List.append_nil] at this
theorem adj_out {ds : List Deferred} {Q : Exit -> Act -> World -> Prop} (e : Exit) (a : Act) (w : World) (h : adj ds Q e a w) : Q e (wd ds a) w := by cases e <;> first | exact h.2 | exact h.elim
theorem tr_d {P : Program} {md : Region.Mode} {ops : Array Oper} {q : Act -> World -> Prop} {S : Array Bool -> World -> Prop} (hq : ∀ a w, q a w -> a.defers = []) : ∀ (f : Nat) (L : Array Bool) (a : Act) (w : World), tr P md ops q S f L a w -> a.defers = []
 | 0, _, a, w, h => hq _ _ h.2
 | f + 1, L, a, w, h => by
  cases e : Region.ready md ops L with
  | nil => exact hq _ _ (h.1 e)
  | cons i rs =>
   have h1 := h.2 i (by rw [e]; simp)
   unfold wpOp at h1
   split at h1
   ·exact tr_d hq f _ _ _ h1.2
   ·split at h1
    ·rcases h1 with h1 | ⟨_, a1, w1, h1⟩
     ·exact upon_d (fun a w h => tr_d hq f _ _ _ h.2) (fun e a w h => by cases e <;> first | exact hq _ _ h | exact h.elim) (fun a w h => h) h1
     ·exact h1.elim
    ·exact (put_d _ _ _).symm.trans (tr_d hq f _ _ _ h1.2)
theorem tr_fz {r : Option Nat} {P : Program} {md : Region.Mode} {ops : Array Oper} {ds : List Deferred} {q : Act -> World -> Prop} {S : Array Bool -> World -> Prop} {Q : Exit -> Act -> World -> Prop} (hd : ∀ a w, q a w -> a.defers = []) (hq : ∀ a w, q a w -> Q .normal (wd ds a) w) :
  ∀ (f : Nat) (L : Array Bool) (a : Act) (w : World), tr P md ops q S f L a w -> wpAnyIn (fz r) 0 P md ops Q f L (wd ds a) w
 | 0, _, a, w, h => ⟨h.1, hq _ _ h.2⟩
 | f + 1, L, a, w, h => by
  refine ⟨fun h0 => hq _ _ (h.1 h0), fun i hi => ?_⟩
  have h1 := h.2 i hi
  unfold wpOp at h1
  unfold wpOpIn
  split at h1
  ·rename_i e; simp only [e]; exact tr_fz hd hq f _ _ _ h1.2
  ·rename_i o e
   simp only [e]
   split at h1
   ·rename_i hw
    rw [if_pos (show Region.wanted o (yielded ops (wd ds a).tmps) = true from hw)]
    rcases h1 with h1 | ⟨_, a1, w1, h1⟩
    ·exact wpIn_fz (fun a w h => tr_d hd f _ _ _ h.2) (fun a w h => tr_fz hd hq f _ _ _ h.2) (fun c w h => h.elim) (fun a w h => h) h1
    ·exact h1.elim
   ·rename_i hw
    rw [if_neg (show ¬ Region.wanted o (yielded ops (wd ds a).tmps) = true from hw)]
    exact ⟨fun _ _ => trivial, by rw [<- wd_put]; exact tr_fz hd hq f _ _ _ h1.2⟩
section code
variable {P : Program} {w0 : World} {r : Option Nat} {ds : List Deferred} {Q : Exit -> Act -> World -> Prop} {n : Nat} {l : Sl} {K : PH} {hs : List PH}
theorem sqX {x y : Code} (h : WX P w0 r ds x (Exit.then (y.wpIn (fz r) 0 P Q) Q) n l K hs) : WX P w0 r ds (.seq x y) Q n l K hs :=
 fun a w ha hw => wpIn_seq (h a w ha hw)
theorem rgX {id : Nat} {o : List Oper} (h : WL P w0 o.toArray (adj ds Q) o n l K hs) : WX P w0 r ds (.region id o.toArray false) Q n l K hs :=
 fun a w ha hw => wpIn_region_lit (list_fz o a w (h a w ha hw))
theorem bkX {id : Nat} {c : Code} (h : WX P w0 r ds c (Exit.inBlock id Q) n l K hs) : WX P w0 r ds (.block id c) Q n l K hs :=
 fun a w ha hw => wpIn_block (h a w ha hw)
theorem exX {id : Nat} (h : WQX ds w0 Q (.exit id) n l K hs) : WX P w0 r ds (.exit id) Q n l K hs :=
 fun a w ha hw => wpIn_exit (h a w ha hw)
theorem rtX (h : WQX ds w0 Q .ret n l K hs) : WX P w0 r ds .ret Q n l K hs :=
 fun a w ha hw => wpIn_ret (h a w ha hw)
theorem skX (h : WQX ds w0 Q .normal n l K hs) : WX P w0 r ds .skip Q n l K hs :=
 fun a w ha hw => wpIn_skip (h a w ha hw)
theorem evX {n : Nat} {l : Sl} {a : Act} (h : Ag n l a) {x : Operand} {v : Value} (hx : ev l x = some v) : (wd ds a).eval x = v := h.ev hx
theorem ifTX {c : Operand} {x y : Code} (hc : ev l c = some (.bool true)) (h : WX P w0 r ds x Q n l K hs) : WX P w0 r ds (.cond c x y) Q n l K hs :=
 fun a w ha hw => wpIn_cond_true (evX ha hc) (h a w ha hw)
theorem ifFX {c : Operand} {x y : Code} (hc : ev l c = some (.bool false)) (h : WX P w0 r ds y Q n l K hs) : WX P w0 r ds (.cond c x y) Q n l K hs :=
 fun a w ha hw => wpIn_cond_false (evX ha hc) (h a w ha hw)
theorem ifBX {c : Operand} {x y : Code} {b : Bool} (hc : ev l c = some (.bool b)) (h : b = true -> WX P w0 r ds x Q n l K hs) (h' : b = false -> WX P w0 r ds y Q n l K hs) : WX P w0 r ds (.cond c x y) Q n l K hs :=
 fun a w ha hw => wpIn_cond_split (evX ha hc) (fun e => h e a w ha hw) (fun e => h' e a w ha hw)
theorem ifPX {c : Operand} {x y : Code} {b : Bool} {p : Prop} (hb : b = true ↔ p) (hc : ev l c = some (.bool b)) (h : p -> WX P w0 r ds x Q n l K hs) (h' : ¬ p -> WX P w0 r ds y Q n l K hs) : WX P w0 r ds (.cond c x y) Q n l K hs :=
 ifBX hc (fun e => h (hb.1 e)) (fun e => h' (fun hp => by rw [hb.2 hp] at e; cases e))
theorem nxX (h : WQX ds w0 Q .normal n l K hs) : WQ w0 (adj ds Q) .normal n l K hs := fun a w ha hw => ⟨ha.defers, h a w ha hw⟩
theorem thX {y : Code} {Q' : Exit -> Act -> World -> Prop} (h : WX P w0 r ds y Q n l K hs) : WQX ds w0 (Exit.then (y.wpIn (fz r) 0 P Q) Q') .normal n l K hs := h
theorem blX {id : Nat} (h : WQX ds w0 Q .normal n l K hs) : WQX ds w0 (Exit.inBlock id Q) .normal n l K hs := h
theorem xtX {id : Nat} {N : Act -> World -> Prop} (h : WQX ds w0 Q (.exit id) n l K hs) : WQX ds w0 (Exit.then N Q) (.exit id) n l K hs := h
theorem xbX {id : Nat} (h : WQX ds w0 Q .normal n l K hs) : WQX ds w0 (Exit.inBlock id Q) (.exit id) n l K hs := fun a w ha hw => by
 simpa [Exit.inBlock] using h a w ha hw
theorem rTX {N : Act -> World -> Prop} (h : WQX ds w0 Q .ret n l K hs) : WQX ds w0 (Exit.then N Q) .ret n l K hs := h
theorem rBX {id : Nat} (h : WQX ds w0 Q .ret n l K hs) : WQX ds w0 (Exit.inBlock id Q) .ret n l K hs := h
theorem loopX {σ : Type} {body : Code} (F : σ -> Sl) (HK : σ -> PH) (H : σ -> List PH) (J : σ -> Prop) (μ : σ -> Nat) (x0 : σ) (h0 : J x0) (hF : Sub l (F x0)) (hK : K = HK x0) (hH : hs = H x0)
  (round : ∀ x, J x -> WX P w0 r ds body (Exit.then (fun a w => ∃ x', J x' /\ μ x' < μ x /\ (∃ a', a = wd ds a' /\ Ag n (F x') a') /\ Sat w0 w (HK x') (H x')) Q) n (F x) (HK x) (H x)) :
  WX P w0 r ds (.loop body) Q n l K hs := fun a w ha hw => by
 subst hK
 subst hH
 refine wpIn_loop_ghost (fun m a w => ∃ x, J x /\ μ x = m /\ (∃ a', a = wd ds a' /\ Ag n (F x) a') /\ Sat w0 w (HK x) (H x)) (μ x0) ⟨x0, h0, rfl, ⟨a, rfl, ha.sub hF⟩, hw⟩ ?_
 rintro m a w ⟨x, hJ, rfl, ⟨a', rfl, hA⟩, hS⟩
 refine wpIn_mono (round x hJ a' w hA hS) ?_
 intro e a' w' hq
 cases e with
 | normal =>
  obtain ⟨x', h1, h2, h3, h4⟩ := hq
  exact ⟨μ x', h2, x', h1, rfl, h3, h4⟩
 | exit id => exact hq
 | goto l => exact hq
 | ret => exact hq
 | panic ch => exact hq
 | outgrown => exact hq
theorem againX {σ : Type} {F : σ -> Sl} {HK : σ -> PH} {H : σ -> List PH} {J : σ -> Prop} {μ : σ -> Nat} {x : σ} {Q' : Exit -> Act -> World -> Prop} (x' : σ) (hF : Sub l (F x')) (hK : K = HK x') (hH : hs = H x')
  (h1 : J x') (h2 : μ x' < μ x) : WQX ds w0 (Exit.then (fun a w => ∃ x', J x' /\ μ x' < μ x /\ (∃ a', a = wd ds a' /\ Ag n (F x') a') /\ Sat w0 w (HK x') (H x')) Q') .normal n l K hs := fun a w ha hw => by
 subst hK
 subst hH
 exact ⟨x', h1, h2, ⟨a, rfl, ha.sub hF⟩, hw⟩
theorem rgaX {id : Nat} {o : List Oper} (A : List PH) (z : Nat) (plan : List Nat) (hA : ∀ h ∈ A, h ∈ hs) (hm : P.follows .mixedOrders = true) (hp : (planOK .any o.toArray plan (Array.replicate o.toArray.size false) && Nat.beq plan.length o.toArray.size) = true)
  (h : WA P w0 o.toArray (adj ds Q) K A z plan (Array.replicate o.toArray.size false) n l K hs) : WX P w0 r ds (.region id o.toArray true) Q n l K hs := by
 intro a w ha hw
 simp only [Bool.and_eq_true] at hp
 refine wpIn_region_any hm ?_
 have hlen : plan.length = o.toArray.size := Nat.eq_of_beq_eq_true hp.2
 have hw' : Sat w0 { w with drawn := w.drawn + 1 } K hs := hw.drew
 have hc : Closed .any o.toArray (Array.replicate o.toArray.size false) := by
  refine ⟨by simp, ?_⟩
  intro j oj hj hl
  have : (Array.replicate o.toArray.size false).getD j false = false := getD_replicate_false _ _
  rw [this] at hl
  cases hl
 have hh := h hp.1 hc a { w with drawn := w.drawn + 1 } ha hw' (fun _ => HasL.ofMem hw' hA)
 rw [hlen] at hh
 exact tr_fz (fun a w h => adj_d h) (fun a w h => adj_out .normal a w h) _ _ _ _ hh
end code
def mkd (D : Nat) : Deferred := { target := .collected D, args := #[] }
def dfr (D : Nat) : PH := sg D (.deferred (some []))
theorem Sat.putObj {w0 w : World} {K : PH} {hs : List PH} (s : Sat w0 w K hs) {i b : Nat} {o : Obj} (hi : hs[i]? = some (sg b o)) (o' : Obj) : Sat w0 (w.putObj b o') K (hs.set i (sg b o')) := by
 have hb : w.heap[b]? = some o := s.own i _ hi b _ (by simp)
 refine s.upd hi rfl rfl rfl (by simp) ?_ ?_ ?_
 ·intro x u hx
  simp only [sg] at hx
  split at hx
  ·rename_i e; subst e; cases hx; exact World.putObj_heap_same (lt_of_some hb)
  ·cases hx
 ·intro x hx hn
  simp only [sg] at hn
  split at hn
  ·cases hn
  ·rename_i e; exact World.putObj_heap_other e
 ·intro x u hx hn
  simp only [sg] at hx hn
  split at hx
  ·rename_i e; rw [if_pos e] at hn; cases hn
  ·cases hx
theorem Sat.dropLast {w0 w : World} {K x : PH} {hs : List PH} (s : Sat w0 w K (hs ++ [x])) : Sat w0 w K hs := (s.perm (List.perm_append_singleton x hs)).dropHead
theorem Sat.putLast {w0 w : World} {K : PH} {hs : List PH} {b : Nat} {o : Obj} (s : Sat w0 w K (hs ++ [sg b o])) (o' : Obj) : Sat w0 (w.putObj b o') K (hs ++ [sg b o']) := by
 have := s.putObj (i := hs.length) (b := b) (o := o) (by simp) o'
 rwa [List.set_append_right _ _ (Nat.le_refl _), Nat.sub_self, List.set_cons_zero] at this
theorem Sat.last {w0 w : World} {K : PH} {hs : List PH} {b : Nat} {o : Obj} (s : Sat w0 w K (hs ++ [sg b o])) : w.heap[b]? = some o := s.own hs.length (sg b o) (by simp) b o (by simp)
theorem enterX {P : Program} {w0 : World} {f : FuncId} {fn : Func} {c : Code} {n : Nat} {args : List Value} {K : PH} {hs : List PH} {R : Value -> PH -> List PH -> Prop}
  (hf : P.funcs[f]? = some fn) (hcal : callable P f = true) (hb : fn.body = some c) (hn : fn.ntmps = n) (hl : Nat.ble args.length n = true)
  (h : WX P w0 none [] c (bodyPostM (fz none) 0 P fn (endR w0 R)) n (params 0 args) K hs) : Ct P w0 f args K hs R := by
 refine ⟨hcal, fun w hw => callsIn_wide.1 (callsIn_of_wp_marks (F := fz none) (n := 0) hf hb trivial (h { tmps := args.toArray ++ Array.replicate (fn.ntmps - args.toArray.size) undef, defers := [] } w ⟨?_, rfl, ?_⟩ hw))⟩
 ·have := Nat.le_of_ble_eq_true hl
  simp [hn]
  omega
 ·intro t v ht
  obtain ⟨h1, h2⟩ := look_params args 0 t v ht
  have h3 : args[t]? = some v := by simpa using h2
  have h4 : t < args.length := (List.getElem?_eq_some_iff.1 h3).1
  have h5 : args[t] = v := by rw [List.getElem?_eq_getElem h4] at h3; exact Option.some.inj h3
  simp [Array.getElem?_append, h4, h5]
section ret
variable {P : Program} {w0 : World} {fn : Func} {R : Value -> PH -> List PH -> Prop} {n : Nat} {l : Sl} {K : PH} {hs hs' : List PH} {v x y : Value}
theorem retsX {e : Exit} (he : e = .ret \/ e = .normal) (hres : ∀ a w, Ag n l a -> Sat w0 w K hs -> (results fn a.tmps).run P w = .ok v w) (h : R v K hs) : WQX [] w0 (bodyPostM (fz none) 0 P fn (endR w0 R)) e n l K hs := by
 intro a w ha hw
 rcases he with rfl | rfl <;> exact ⟨v, hres a w ha hw, v, K, hs, rfl, h, hw⟩
theorem retmX {e : Exit} (D : Nat) (hh : hs = hs' ++ [dfr D]) (he : e = .ret \/ e = .normal) (hres : ∀ a w, Ag n l a -> Sat w0 w K hs' -> (results fn a.tmps).run P w = .ok v w) (h : R v K hs') : WQX [mkd D] w0 (bodyPostM (fz none) 0 P fn (endR w0 R)) e n l K hs := by
 subst hh
 intro a w ha hw
 have h1 : Sat w0 (w.putObj D (.deferred none)) K hs' := (hw.putLast (.deferred none)).dropLast
 have h2 := run_takeDeferred (P := P) (hw.last)
 rcases he with rfl | rfl <;> exact ⟨by simp, .inl ⟨D, _, rfl, h2, v, hres a _ ha h1, v, K, hs', rfl, h, h1⟩⟩
theorem res0 (hr : fn.results = #[]) {a : Act} {w : World} : (results fn a.tmps).run P w = .ok (.tuple #[]) w := results_none hr _ _ _
theorem res1 {t : Nat} (hr : fn.results = #[.tmp t]) (hv : look l t = some v) {a : Act} (ha : Ag n l a) {w : World} : (results fn a.tmps).run P w = .ok v w := by
 have := results_tmp hr a.tmps P w
 rw [this]; simp [ha.slot t v hv]
theorem ret0X (hr : fn.results = #[]) (h : R (.tuple #[]) K hs) : WQX [] w0 (bodyPostM (fz none) 0 P fn (endR w0 R)) .ret n l K hs := retsX (.inl rfl) (fun _ _ _ _ => res0 hr) h
theorem end0X (hr : fn.results = #[]) (h : R (.tuple #[]) K hs) : WQX [] w0 (bodyPostM (fz none) 0 P fn (endR w0 R)) .normal n l K hs := retsX (.inr rfl) (fun _ _ _ _ => res0 hr) h
theorem ret1X {t : Nat} (hr : fn.results = #[.tmp t]) (hv : look l t = some v) (h : R v K hs) : WQX [] w0 (bodyPostM (fz none) 0 P fn (endR w0 R)) .ret n l K hs := retsX (.inl rfl) (fun _ _ ha _ => res1 hr hv ha) h
theorem ret1M (D : Nat) (hh : hs = hs' ++ [dfr D]) {t : Nat} (hr : fn.results = #[.tmp t]) (hv : look l t = some v) (h : R v K hs') : WQX [mkd D] w0 (bodyPostM (fz none) 0 P fn (endR w0 R)) .ret n l K hs := retmX D hh (.inl rfl) (fun _ _ ha _ => res1 hr hv ha) h
end ret
def YCt (P : Program) (w0 : World) (L : Nat) (vs : List Value) (K : PH) (hs : List PH) (R : Value -> PH -> List PH -> Prop) : Prop := ∀ w, Sat w0 w K hs -> ∃ fn tmps assign body, (Instr.yield L vs.toArray).run P w = .ok (.round L fn tmps assign body) w /\ RoundIn (fz none) 0 P L fn tmps assign body w (endR w0 R)
def ItCt (P : Program) (w0 : World) (f : Nat) (cap : List Value) (xs : List (List Value)) (Rd : PH -> List PH -> Prop) : Prop :=
 ∀ (L : Nat) (St : Nat -> PH -> List PH -> Prop) (Sp : PH -> List PH -> Prop), (∀ i K hs, St i K hs -> Rd K hs) ->
  (∀ i vs K hs, xs[i]? = some vs -> St i K hs -> YCt P w0 L vs K hs (fun v K' hs' => (v = .bool true /\ St (i + 1) K' hs') \/ (v = .bool false /\ Sp K' hs'))) ->
  ∀ K hs, St 0 K hs -> Ct P w0 f (.func (.yield L) #[] #[] :: cap) K hs (fun _ K' hs' => St xs.length K' hs' \/ Sp K' hs')
section it
variable {P : Program} {T : Tab} {w0 : World} {r : Option Nat} {ds : List Deferred} {ops : Array Oper} {Q : Exit -> Act -> World -> Prop} {rest rest' : List Oper} {n : Nat} {l : Sl} {K : PH} {hs : List PH}
theorem rgI {id : Nat} {o : List Oper} (h : WLI P w0 r ds o.toArray Q o n l K hs) : WX P w0 r ds (.region id o.toArray false) Q n l K hs := fun a w ha hw => wpIn_region_lit (h a w ha hw)
theorem WLI.fin (h : WL P w0 ops (adj ds Q) rest n l K hs) : WLI P w0 r ds ops Q rest n l K hs := fun a w ha hw => list_fz rest a w (h a w ha hw)
def cutQ (P : Program) (r : Option Nat) (ops : Array Oper) (Q : Exit -> Act -> World -> Prop) (rest2 : List Oper) : Exit -> Act -> World -> Prop
 | .normal, a, w => wpListIn (fz r) 0 P ops Q rest2 a w
 | _, _, _ => False
theorem WLI.cut (k : Nat) (h : WL P w0 ops (adj ds (cutQ P r ops Q (rest.drop k))) (rest.take k) n l K hs) : WLI P w0 r ds ops Q rest n l K hs := fun a w ha hw => by
 have := list_fz2 (r := r) (Q := cutQ P r ops Q (rest.drop k)) (Q' := Q) (rest.drop k) (fun a w h => h) (fun c a w h => h.elim) (rest.take k) a w (h a w ha hw)
 rwa [List.take_append_drop] at this
theorem cutX {rest2 : List Oper} (h : WLI P w0 r ds ops Q rest2 n l K hs) : WQ w0 (adj ds (cutQ P r ops Q rest2)) .normal n l K hs := fun a w ha hw => ⟨ha.defers, h a w ha hw⟩
def yAt (ops : Array Oper) (n : Nat) (rest : List Oper) (l : Sl) : Option (Nat × Nat × List Value × List Oper) :=
 match rest with
 | o :: r => match gOK ops l o.guard, o.dst, o.op with
  | some true, some d, .call { callee := .value f, args, .. } => match Nat.blt d n, ev l f, args.toList.mapM (ev l) with
   | true, some (.func (.yield L) first captured), some vs => match first.toList with
    | [] => some (d, L, vs, r)
    | _ => none
   | _, _, _ => none
  | _, _, _ => none
 | [] => none
theorem yld {d L : Nat} {vs : List Value} {R : Value -> PH -> List PH -> Prop} (h0 : yAt ops n rest l = some (d, L, vs, rest')) (hc : YCt P w0 L vs K hs R) (hk : ∀ v K' hs', R v K' hs' -> WLI P w0 r ds ops Q rest' n ((d, v) :: l) K' hs') : WLI P w0 r ds ops Q rest n l K hs := by
 unfold yAt at h0
 split at h0
 ·rename_i o rr
  split at h0
  ·rename_i d' f args ats hg hd hop
   split at h0
   ·rename_i L' first captured vs' hb hf hvs
    split at h0
    ·rename_i hfi
     simp only [Option.some.injEq, Prod.mk.injEq] at h0
     obtain ⟨rfl, rfl, rfl, rfl⟩ := h0
     have hfi' : first = #[] := by cases first; simp_all
     subst hfi'
     intro a w ha hw
     have h1 := gOK_wanted ha hg
     have h6 := ev_map ha _ _ hvs
     have h7 : args.map a.eval = vs'.toArray := by
      apply Array.ext'
      simpa using h6
     obtain ⟨fn, tmps, assign, body, hy, hR⟩ := hc w hw
     unfold wpListIn
     rw [if_pos (show Region.wanted o (yielded ops (wd ds a).tmps) = true from h1)]
     refine ⟨fun _ _ => trivial, ?_⟩
     have e1 : o.semAt (fz r).round (wd ds a).eval = execOp a.eval o := Oper.semAt_eq _ _ _ (fun c hh => by rw [hop] at hh; cases hh)
     have e2 : (execOp a.eval o).run P w = .ok (.round L' fn tmps assign body) w := by
      simp only [execOp, hop]
      simp [resolve, h7, ha.ev hf, Deferred.ofValue, invoke, hy]
     rw [e1, e2]
     refine ⟨by simp [fz], RoundIn.mono (R := endR w0 R) hR fun e w' he => ?_⟩
     obtain ⟨v, K', hs', rfl, hr, hs2⟩ := he
     simp only [<- wd_put, hd]
     exact hk v K' hs' hr _ w' (ha.put hb) hs2
    ·simp at h0
   ·simp at h0
  ·simp at h0
 ·simp at h0
def prm : List Nat -> List Value -> Sl -> Sl
 | t :: ts, v :: vs, l => prm ts vs ((t, v) :: l)
 | _, _, l => l
theorem Ag.prm : ∀ (ts : List Nat) (vs : List Value) {l : Sl} {a : Act} (h : Ag n l a) (ht : ∀ t ∈ ts, t < n), Ag n (prm ts vs l) { tmps := (ts.zip vs).foldl (fun tmps (x : Nat × Value) => tmps.setIfInBounds x.1 x.2) a.tmps, defers := [] }
 | [], vs, l, a, h, _ => ⟨by simpa using h.size, rfl, by simpa [En.prm] using h.slot⟩
 | t :: ts, [], l, a, h, _ => ⟨by simpa using h.size, rfl, by simpa [En.prm] using h.slot⟩
 | t :: ts, v :: vs, l, a, h, ht => by
  have h1 := h.put (d := t) (v := v) (Nat.ble_eq_true_of_le (ht t (by simp)))
  have h2 := Ag.prm ts vs h1 (fun x hx => ht x (by simp [hx]))
  simpa [En.prm, Act.put] using h2
def rQ (w0 : World) (St : Nat -> PH -> List PH -> Prop) (Jm : Code -> PH -> List PH -> Prop) (t u : PH) (i : Nat) : Exit -> Act -> World -> Prop
 | .normal, _, w => ∃ K hs, Sat w0 w K (hs ++ [t, u]) /\ St (i + 1) K hs
 | .ret, _, w => ∃ K hs, Sat w0 w K (hs ++ [t, u]) /\ Jm .ret K hs
 | .exit id, _, w => ∃ K hs, Sat w0 w K (hs ++ [t, u]) /\ Jm (.exit id) K hs
 | _, _, _ => False
def aQ (P : Program) (w0 : World) (L n : Nat) (body : Code) (St : Nat -> PH -> List PH -> Prop) (Jm : Code -> PH -> List PH -> Prop) (t u : PH) (i : Nat) (a : Act) (w : World) : Prop :=
 ∃ l' K' hs', Ag n l' a /\ Sat w0 w K' (hs' ++ [t, u]) /\ ∀ u, WX P w0 (some L) [] body (rQ w0 St Jm t u i) n l' K' (hs' ++ [t, u])
theorem wd_nil {n : Nat} {l : Sl} {a : Act} (h : Ag n l a) : wd [] a = a := by cases a; have := h.defers; simp only at this; subst this; rfl
theorem asgX {L : Nat} {body : Code} {St : Nat -> PH -> List PH -> Prop} {Jm : Code -> PH -> List PH -> Prop} {t u : PH} {i : Nat} {hs' : List PH} (hh : hs = hs' ++ [t, u]) (h : ∀ u, WX P w0 (some L) [] body (rQ w0 St Jm t u i) n l K (hs' ++ [t, u])) :
  WQX [] w0 (Exit.then (aQ P w0 L n body St Jm t u i) (fun _ _ _ => False)) .normal n l K hs := fun a w ha hw => by
 subst hh
 rw [wd_nil ha]
 exact ⟨l, K, hs', ha, hw, h⟩
theorem rndX {St : Nat -> PH -> List PH -> Prop} {Jm : Code -> PH -> List PH -> Prop} {t u : PH} {i : Nat} {hs' : List PH} (hh : hs = hs' ++ [t, u]) (h : St (i + 1) K hs') : WQX [] w0 (rQ w0 St Jm t u i) .normal n l K hs := fun a w ha hw => by
 subst hh
 exact ⟨K, hs', hw, h⟩
theorem jmpR {St : Nat -> PH -> List PH -> Prop} {Jm : Code -> PH -> List PH -> Prop} {t u : PH} {i : Nat} {hs' : List PH} (hh : hs = hs' ++ [t, u]) (h : Jm .ret K hs') : WQX [] w0 (rQ w0 St Jm t u i) .ret n l K hs := fun a w ha hw => by
 subst hh
 exact ⟨K, hs', hw, h⟩
theorem app2 {α : Type} (hs : List α) (t u : α) : hs ++ [t, u] = (hs ++ [t]) ++ [u] := by simp
theorem rgf {g : Operand} {ps : Array Tmp} {assign body : Code} {f : Nat} (cap : List Value) (xs : List (List Value)) (Rd : PH -> List PH -> Prop) (hg : ev l g = some (.func (.func f) #[] cap.toArray)) (it : ItCt P w0 f cap xs Rd) (hcal : callable P f = true)
  (hps : ∀ vs ∈ xs, vs.length = ps.size) (hpn : (ps.toList.all fun t => Nat.blt t n) = true) (St : Nat -> PH -> List PH -> Prop) (Jm : Code -> PH -> List PH -> Prop) (h0 : St 0 K hs) (hRd : ∀ i K hs t u, St i K hs -> Rd K (hs ++ [t, u]))
  (round : ∀ L i vs K hs t u, xs[i]? = some vs -> St i K hs -> WX P w0 (some L) [] assign (Exit.then (aQ P w0 L n body St Jm t u i) (fun _ _ _ => False)) n (prm ps.toList vs l) K (hs ++ [t, u]))
  (done : ∀ D K' hs', St xs.length K' hs' -> WQX (mkd D :: ds) w0 Q .normal n l K' (hs' ++ [dfr D]))
  (stop : ∀ D c K' hs', Jm c K' hs' -> WX P w0 none (mkd D :: ds) c Q n l K' (hs' ++ [dfr D])) : WX P w0 none ds (.rangeFunc g ps assign body) Q n l K hs := by
 intro a w ha hw
 refine wpIn_rangeFunc ?_
 intro fn _
 obtain ⟨rec, hrec⟩ : ∃ rec : LoopState -> Option Code -> Loop, rec = fun st pe => { state := st, pending := pe, fn, tmps := a.tmps, params := ps, assign, body, defers := w.heap.size } := ⟨_, rfl⟩
 obtain ⟨D, hD⟩ : ∃ D, D = w.heap.size := ⟨_, rfl⟩
 obtain ⟨W1, hW1⟩ : ∃ W1, (w.alloc (.deferred (some []))).alloc (.loop (rec .ready none)) = W1 := ⟨_, rfl⟩
 have hS1 : Sat w0 W1 K (hs ++ [dfr D, sg (D + 1) (.loop (rec .ready none))]) := by
  have h1 := (hw.alloc (.deferred (some []))).alloc (.loop (rec .ready none))
  rw [World.size_alloc, <- hD, hW1] at h1
  refine h1.perm ?_
  rw [app2]
  exact ((List.perm_append_singleton _ _).symm.cons _).trans (List.perm_append_singleton _ _).symm
 refine ⟨D + 1, [mkd D], W1, { target := .fn (.func f) cap.toArray, args := #[.func (.yield (D + 1)) #[] #[]] }, W1, f, #[.func (.yield (D + 1)) #[] #[]] ++ cap.toArray, W1, ?_, ?_, ?_, ?_, fun h => by simp [fz] at h, ?_⟩
 ·rw [<- hW1, hrec, hD]; exact run_enterLoop_outer _ _ _ _ _
 ·simp only [resolve, evX ha hg]
  simp [Deferred.ofValue]
  rfl
 ·intro f' _; trivial
 ·have hcal' := hcal
  unfold callable at hcal'
  cases hfn : P.funcs[f]? with
  | none => simp [hfn] at hcal'
  | some fn =>
   simp only [hfn, Bool.and_eq_true, Bool.not_eq_true'] at hcal'
   have hbn : ¬ fn.body = none := fun e => by simp [e] at hcal'
   have hnm : ¬ fn.name = "runtime.NumGoroutine" := by simpa using hcal'.2
   simp [invoke, callFunc, hfn, hbn, hnm]
 ·have hargs : (#[Value.func (.yield (D + 1)) #[] #[]] ++ cap.toArray : Array Value) = (Value.func (.yield (D + 1)) #[] #[] :: cap).toArray := by simp
  rw [hargs]
  have key := it (D + 1) (fun i K hs => ∃ hs', hs = hs' ++ [dfr D, sg (D + 1) (.loop (rec .ready none))] /\ St i K hs') (fun K hs => ∃ c hs', hs = hs' ++ [dfr D, sg (D + 1) (.loop (rec .done (some c)))] /\ Jm c K hs')
   (by rintro i K hs ⟨hs', rfl, h⟩; exact hRd i K hs' _ _ h) ?_ K _ ⟨hs, rfl, h0⟩
  ·refine (callsIn_wide.2 (key.2 _ hS1)).mono ?_
   rintro e w2 ⟨v, K2, hs2, rfl, hh, hw2⟩
   rcases hh with ⟨hs', rfl, hst⟩ | ⟨c, hs', rfl, hjm⟩
   ·rw [app2] at hw2
    have h1 := run_endLoop (P := P) hw2.last (by rw [hrec]; simp)
    rw [hrec] at h1
    exact ⟨none, _, h1, done D K2 hs' hst a _ ha (hw2.putLast _).dropLast⟩
   ·rw [app2] at hw2
    have h1 := run_endLoop (P := P) hw2.last (by rw [hrec]; simp)
    rw [hrec] at h1
    exact ⟨some c, _, h1, stop D c K2 hs' hjm a _ ha (hw2.putLast _).dropLast⟩
  ·rintro i vs K1 hs1 hvs ⟨hs', rfl, hst⟩ w1 hw1
   have hl1 : w1.heap[D + 1]? = some (.loop (rec .ready none)) := by rw [app2] at hw1; exact hw1.last
   have hsz : vs.toArray.size = (rec .ready none).params.size := by rw [hrec]; simpa using hps vs (List.mem_of_getElem? hvs)
   have hy := run_yield (P := P) hl1 hsz
   refine ⟨_, _, _, _, hy, roundIn_of_wpIn (F := fz none) trivial ?_⟩
   have hA : Ag n (prm ps.toList vs l) { tmps := ((rec .ready none).params.zip vs.toArray).foldl (fun tmps (t, a) => tmps.setIfInBounds t a) (rec .ready none).tmps, defers := [] } := by
    have h1 := Ag.prm ps.toList vs ha (fun t ht => Nat.le_of_ble_eq_true (List.all_eq_true.1 hpn t ht))
    rw [hrec]
    have e1 : (ps.zip vs.toArray).foldl (fun tmps (x : Nat × Value) => tmps.setIfInBounds x.1 x.2) a.tmps = (ps.toList.zip vs).foldl (fun tmps (x : Nat × Value) => tmps.setIfInBounds x.1 x.2) a.tmps := by
     rw [<- Array.foldl_toList]; simp
    show Ag n _ { tmps := (ps.zip vs.toArray).foldl (fun tmps (x : Nat × Value) => tmps.setIfInBounds x.1 x.2) a.tmps, defers := [] }
    rw [e1]; exact h1
   have h2 := round (D + 1) i vs K1 hs' (dfr D) (sg (D + 1) (.loop (rec .ready none))) hvs hst _ w1 hA hw1
   rw [hrec] at h2 ⊢
   refine wpIn_mono h2 ?_
   intro e a3 w3 hq
   cases e with
   | normal =>
    obtain ⟨l', K', hs3, hA3, hS3, hb⟩ := hq
    rw [app2] at hS3
    refine ⟨_, run_beginRound hS3.last rfl, ?_⟩
    have hS4 := hS3.putLast (.loop { rec .ready none with state := .busy })
    rw [hrec] at hS4
    have h5 := hb _ a3 _ hA3 (by rw [app2]; exact hS4)
    rw [wd_nil hA3] at h5
    refine wpIn_mono h5 ?_
    intro e a4 w4 hq4
    cases e with
    | normal =>
     obtain ⟨K5, hs5, hS5, hst5⟩ := hq4
     rw [app2] at hS5
     refine ⟨_, _, run_endRound none hS5.last, _, K5, _, rfl, .inl ⟨rfl, hs5, rfl, hst5⟩, ?_⟩
     rw [app2]; exact hS5.putLast _
    | ret =>
     obtain ⟨K5, hs5, hS5, hst5⟩ := hq4
     rw [app2] at hS5
     refine ⟨_, _, run_endRound (some .ret) hS5.last, _, K5, _, rfl, .inr ⟨rfl, .ret, hs5, rfl, hst5⟩, ?_⟩
     rw [app2]; exact hS5.putLast _
    | exit id =>
     obtain ⟨K5, hs5, hS5, hst5⟩ := hq4
     rw [app2] at hS5
     refine ⟨_, _, run_endRound (some (.exit id)) hS5.last, _, K5, _, rfl, .inr ⟨rfl, .exit id, hs5, rfl, hst5⟩, ?_⟩
     rw [app2]; exact hS5.putLast _
    | goto l => exact hq4.elim
    | panic ch => exact hq4.elim
    | outgrown => exact hq4.elim
   | exit id => exact hq.elim
   | goto l => exact hq.elim
   | ret => exact hq.elim
   | panic ch => exact hq.elim
   | outgrown => exact hq.elim
end it
end Go.En
end
section
namespace Go.En
attribute [local irreducible] Code.wp wpList Calls
def fk {κ : Type} [DecidableEq κ] (k : κ) : List (κ × Value) -> Nat -> Option (Nat × Value)
 | [], _ => none
 | (k', v) :: m, i => if k = k' then some (i, v) else fk k m (i + 1)
structure KeyOK (P : Program) (kt : Nat) {κ : Type} [DecidableEq κ] (enc : κ -> Value) : Prop where
 chk : ∀ e k w, (Instr.checkKey e 10000 kt (enc k)).run P w = .ok () w
 fnd : ∀ (k : κ) (es : List MapEntry) (m : List (κ × Value)) w, es.map (fun e => (e.key, e.val)) = m.map (fun x => (enc x.1, x.2)) -> (Instr.findKey kt (enc k) es).run P w = .ok (fk k m 0) w
 sam : ∀ k, Instr.sameBits 10000 (enc k) (enc k) = true
theorem fndNow {P : Program} {kt : Nat} {d : TypeDesc} {κ : Type} [DecidableEq κ] {enc : κ -> Value} (h : ∀ a b, Instr.sameNow d (enc a) (enc b) = some (decide (a = b))) (k : κ) : ∀ (es : List MapEntry) (m : List (κ × Value)) (i : Nat),
  es.map (fun e => (e.key, e.val)) = m.map (fun x => (enc x.1, x.2)) -> Instr.findNow d (enc k) es i = some (fk k m i)
 | [], [], i, _ => rfl
 | [], _ :: _, i, h0 => by simp at h0
 | _ :: _, [], i, h0 => by simp at h0
 | e :: es, (k', v) :: m, i, h0 => by
  simp only [List.map_cons, List.cons.injEq, Prod.mk.injEq] at h0
  obtain ⟨⟨h1, h2⟩, h3⟩ := h0
  simp only [Instr.findNow, h1, h, fk]
  by_cases hk : k = k'
  ·simp [hk, h2]
  ·simp [hk, fndNow (P := P) (kt := kt) h k es m (i + 1) h3]
theorem KeyOK.ofNow {P : Program} {kt : Nat} {d : TypeDesc} {κ : Type} [DecidableEq κ] {enc : κ -> Value} (hu : P.underlying kt = some d) (h : ∀ a b, Instr.sameNow d (enc a) (enc b) = some (decide (a = b)))
  (hc : ∀ e k w, (Instr.checkKey e 10000 kt (enc k)).run P w = .ok () w) (hs : ∀ k, Instr.sameBits 10000 (enc k) (enc k) = true) : KeyOK P kt enc :=
 ⟨hc, fun k es m w h0 => by unfold Instr.findKey; rw [Sem.run_bind, run_underlying hu]; simp [Result.andThen, fndNow (P := P) (kt := kt) h k es m 0 h0], hs⟩
theorem keyInt {P : Program} {kt : Nat} {kk : IntKind} (hu : P.underlying kt = some (.int kk)) : KeyOK P kt (κ := Int) (fun n => .int kk n) :=
 KeyOK.ofNow hu (fun a b => by simp only [Instr.sameNow, if_true]; rfl) (fun e k w => by
  rw [show (10000 : Nat) = 9999 + 1 from rfl]
  unfold Instr.checkKey
  rw [Sem.run_bind, run_underlying hu]
  rfl) (fun k => by simp [Instr.sameBits])
theorem fndAsk {P : Program} {kt : Nat} {κ : Type} [DecidableEq κ] {enc : κ -> Value} (h : ∀ a b w, (Op.equal kt (enc a) (enc b)).run P w = .ok (decide (a = b)) w) (k : κ) (w : World) : ∀ (es : List MapEntry) (m : List (κ × Value)) (i : Nat),
  es.map (fun e => (e.key, e.val)) = m.map (fun x => (enc x.1, x.2)) -> (Instr.findAsking kt (enc k) es i).run P w = .ok (fk k m i) w
 | [], [], i, _ => rfl
 | [], _ :: _, i, h0 => by simp at h0
 | _ :: _, [], i, h0 => by simp at h0
 | e :: es, (k', v) :: m, i, h0 => by
  simp only [List.map_cons, List.cons.injEq, Prod.mk.injEq] at h0
  obtain ⟨⟨h1, h2⟩, h3⟩ := h0
  simp only [Instr.findAsking, h1]
  rw [Sem.run_bind, h]
  simp only [Result.andThen, fk]
  by_cases hk : k = k'
  ·simp [hk, h2]
  ·simp [hk, fndAsk h k w es m (i + 1) h3]
theorem KeyOK.ofAgg {P : Program} {kt : Nat} {d : TypeDesc} {κ : Type} [DecidableEq κ] {enc : κ -> Value} (hu : P.underlying kt = some d) (hn : ∀ a b, Instr.sameNow d (enc a) (enc b) = none) (h : ∀ a b w, (Op.equal kt (enc a) (enc b)).run P w = .ok (decide (a = b)) w)
  (hc : ∀ e k w, (Instr.checkKey e 10000 kt (enc k)).run P w = .ok () w) (hs : ∀ k, Instr.sameBits 10000 (enc k) (enc k) = true) : KeyOK P kt enc :=
 ⟨hc, fun k es m w h0 => by
  unfold Instr.findKey
  rw [Sem.run_bind, run_underlying hu]
  simp only [Result.andThen]
  cases es with
  | nil =>
   cases m with
   | nil => rfl
   | cons x m => simp at h0
  | cons e es =>
   have e1 : Instr.findNow d (enc k) (e :: es) 0 = none := by
    cases m with
    | nil => simp at h0
    | cons x m =>
     simp only [List.map_cons, List.cons.injEq, Prod.mk.injEq] at h0
     simp [Instr.findNow, h0.1.1, hn]
   simp only [e1]
   exact fndAsk h k w _ m 0 h0, hs⟩
def MpO {κ ν : Type} (enc : κ -> Value) (encv : ν -> Value) (h : PH) (b : Nat) (m : List (κ × ν)) : Prop :=
 ∃ es clock, h = sg b (.map es clock) /\ es.toList.map (fun e => (e.key, e.val)) = m.map (fun x => (enc x.1, encv x.2)) /\ (es.toList.map (·.born)).Pairwise (· < ·) /\ ∀ e ∈ es.toList, e.born < clock
def mget {κ ν : Type} [DecidableEq κ] (k : κ) : List (κ × ν) -> Option ν
 | [] => none
 | (k', v) :: m => if k = k' then some v else mget k m
def mset {κ ν : Type} [DecidableEq κ] (k : κ) (v : ν) : List (κ × ν) -> List (κ × ν)
 | [] => [(k, v)]
 | (k', v') :: m => if k = k' then (k, v) :: m else (k', v') :: mset k v m
theorem mget_mset {κ ν : Type} [DecidableEq κ] (k j : κ) (v : ν) : ∀ m : List (κ × ν), mget j (mset k v m) = if j = k then some v else mget j m
 | [] => by simp [mset, mget]
 | (k', v') :: m => by
  have ih := mget_mset k j v m
  by_cases h : k = k'
  ·subst h
   by_cases hj : j = k <;> simp [mset, mget, hj]
  ·by_cases hj : j = k'
   ·subst hj
    have : ¬ j = k := fun e => h e.symm
    simp [mset, mget, h, this]
   ·simp [mset, mget, h, hj, ih]
theorem mget_none {κ ν : Type} [DecidableEq κ] {k : κ} : ∀ {m : List (κ × ν)}, mget k m = none ↔ k ∉ m.map (·.1)
 | [] => by simp [mget]
 | (k', v') :: m => by
  have ih := mget_none (k := k) (m := m)
  by_cases h : k = k' <;> simp_all [mget]
theorem fk_get {κ ν : Type} [DecidableEq κ] {encv : ν -> Value} (k : κ) : ∀ (m : List (κ × ν)) (i : Nat), (fk k (m.map fun x => (x.1, encv x.2)) i).map (·.2) = (mget k m).map encv
 | [], i => rfl
 | (k', v) :: m, i => by
  by_cases h : k = k'
  ·simp [fk, mget, h]
  ·simp [fk, mget, h, fk_get k m (i + 1)]
theorem fk_shift {κ : Type} [DecidableEq κ] (k : κ) : ∀ (m : List (κ × Value)) (i : Nat), fk k m i = (fk k m 0).map fun x => (i + x.1, x.2)
 | [], i => rfl
 | (k', v) :: m, i => by
  by_cases h : k = k'
  ·simp [fk, h]
  ·simp only [fk, h, if_false]
   rw [fk_shift k m (i + 1), fk_shift k m (0 + 1)]
   cases fk k m 0 with
   | none => rfl
   | some x => simp; omega
theorem MpO.empty {κ ν : Type} {enc : κ -> Value} {encv : ν -> Value} (b c : Nat) : MpO (κ := κ) (ν := ν) enc encv (sg b (.map #[] c)) b [] := ⟨#[], c, rfl, rfl, by simp, by simp⟩
section look
variable {κ ν : Type} [DecidableEq κ] {enc : κ -> Value} {encv : ν -> Value} {P : Program} {h : PH} {b : Nat} {m : List (κ × ν)}
def lkV (ok : Bool) (v : Value) (is : Bool) : Value := cond ok (.tuple #[v, .bool is]) v
theorem MpO.map (hm : MpO enc encv h b m) : ∃ es clock, h = sg b (.map es clock) /\ es.toList.map (fun e => (e.key, e.val)) = (m.map fun x => (x.1, encv x.2)).map (fun x => (enc x.1, x.2)) := by
 obtain ⟨es, c, h1, h2, _⟩ := hm
 exact ⟨es, c, h1, by rw [h2]; simp⟩
theorem run_getMap {w : World} {es : Array MapEntry} {c : Nat} (h : w.heap[b]? = some (.map es c)) : (getObj b).run P w = .ok (.map es c) w := by simp [getObj, Sem.run, h]
theorem run_lookup {t kt et : Nat} {z : Value} (hu : P.underlying t = some (.map kt et)) (hK : KeyOK P kt enc) (hz : (P.info? et).bind (·.zero) = some z) (hm : MpO enc encv h b m) {w : World} (hw : ∀ b o, h b = some o -> w.heap[b]? = some o) (k : κ) (ok : Bool) :
  (Instr.lookup t (.map (some b)) (enc k) ok).run P w = .ok (lkV ok (match mget k m with | some v => encv v | none => z) (mget k m).isSome) w := by
 obtain ⟨es, c, rfl, h2⟩ := hm.map
 have hb := hw b (.map es c) (by simp)
 have hf := hK.fnd k es.toList _ w h2
 have hg := fk_get (encv := encv) k m 0
 obtain ⟨i, hi, hz'⟩ := Option.bind_eq_some_iff.1 hz
 unfold Instr.lookup
 simp only [Sem.run_bind, run_underlying hu, Result.andThen, run_getMap hb, Sem.run_pure, hK.chk, hf]
 cases e : fk k (m.map fun x => (x.1, encv x.2)) 0 with
 | none =>
  rw [e] at hg
  have hn : mget k m = none := by cases h3 : mget k m with | none => rfl | some v => simp [h3] at hg
  simp only [hn]
  have : (zeroValue et).run P w = .ok z w := by simp [zeroValue, typeInfo, hi, hz']
  rw [Sem.run_bind, this]
  cases ok <;> rfl
 | some x =>
  rw [e] at hg
  obtain ⟨v, hv, hx⟩ : ∃ v, mget k m = some v /\ x.2 = encv v := by
   cases h3 : mget k m with
   | none => simp [h3] at hg
   | some v => simp [h3] at hg; exact ⟨v, rfl, hg⟩
  simp only [hv, hx]
  cases ok <;> rfl
def eset (k v : Value) (c : Nat) : Option (Nat × Value) -> List MapEntry -> List MapEntry
 | some (i, _), es => es.modify i fun e => { e with key := k, val := v }
 | none, es => es ++ [{ key := k, val := v, born := c }]
theorem eset_map (k : κ) (v : ν) (c : Nat) : ∀ (es : List MapEntry) (m : List (κ × ν)), es.map (fun e => (e.key, e.val)) = m.map (fun x => (enc x.1, encv x.2)) ->
  (eset (enc k) (encv v) c (fk k (m.map fun x => (x.1, encv x.2)) 0) es).map (fun e => (e.key, e.val)) = (mset k v m).map (fun x => (enc x.1, encv x.2))
 | [], [], _ => rfl
 | [], _ :: _, h0 => by simp at h0
 | _ :: _, [], h0 => by simp at h0
 | e :: es, (k', v') :: m, h0 => by
  simp only [List.map_cons, List.cons.injEq, Prod.mk.injEq] at h0
  obtain ⟨⟨h1, h2⟩, h3⟩ := h0
  have ih := eset_map k v c es m h3
  by_cases hk : k = k'
  ·simp [fk, mset, hk, eset, h3]
  ·simp only [List.map_cons, fk, mset, hk, if_false]
   rw [fk_shift]
   cases hf : fk k (m.map fun x => (x.1, encv x.2)) 0 with
   | none =>
    rw [hf] at ih
    simp only [eset, Option.map_none] at ih ⊢
    rw [List.cons_append, List.map_cons, ih, h1, h2]
   | some x =>
    rw [hf] at ih
    obtain ⟨i, x⟩ := x
    simp only [eset, Option.map_some] at ih ⊢
    rw [show 0 + 1 + i = i + 1 from by omega, List.modify_succ_cons, List.map_cons, ih, h1, h2]
theorem eset_born (k v : Value) (c : Nat) (f : Option (Nat × Value)) (es : List MapEntry) (h : (es.map (·.born)).Pairwise (· < ·)) (hc : ∀ e ∈ es, e.born < c) :
  ((eset k v c f es).map (·.born)).Pairwise (· < ·) /\ ∀ e ∈ eset k v c f es, e.born < (match f with | some _ => c | none => c + 1) := by
 cases f with
 | none =>
  refine ⟨?_, ?_⟩
  ·simp only [eset, List.map_append, List.map_cons, List.map_nil]
   rw [List.pairwise_append]
   refine ⟨h, by simp, ?_⟩
   intro a ha b hb
   simp only [List.mem_singleton] at hb
   obtain ⟨e, he, rfl⟩ := List.mem_map.1 ha
   subst hb
   exact hc e he
  ·intro e he
   simp only [eset, List.mem_append, List.mem_singleton] at he
   rcases he with he | rfl
   ·have := hc e he
    show e.born < c + 1
    omega
   ·show c < c + 1
    omega
 | some x =>
  obtain ⟨i, x⟩ := x
  have e1 : (es.modify i fun e => { e with key := k, val := v }).map (·.born) = es.map (·.born) := by
   clear h hc
   induction es generalizing i with
   | nil => simp
   | cons e es ih =>
    cases i with
    | zero => simp
    | succ i => simp [ih]
  refine ⟨by simp only [eset]; rw [e1]; exact h, ?_⟩
  intro e he
  simp only [eset] at he
  have : e.born ∈ (es.modify i fun e => { e with key := k, val := v }).map (·.born) := List.mem_map.2 ⟨e, he, rfl⟩
  rw [e1] at this
  obtain ⟨e', he', hb⟩ := List.mem_map.1 this
  rw [<- hb]; exact hc e' he'
theorem fk_key {es : List MapEntry} {m : List (κ × Value)} (k : κ) {i : Nat} {v : Value} (h0 : es.map (fun e => (e.key, e.val)) = m.map (fun x => (enc x.1, x.2))) (hf : fk k m 0 = some (i, v)) : (es[i]?).map (·.key) = some (enc k) := by
 induction m generalizing es i v with
 | nil => simp [fk] at hf
 | cons x m ih =>
  obtain ⟨k', v'⟩ := x
  cases es with
  | nil => simp at h0
  | cons e es =>
   simp only [List.map_cons, List.cons.injEq, Prod.mk.injEq] at h0
   obtain ⟨⟨h1, h2⟩, h3⟩ := h0
   by_cases hk : k = k'
   ·simp only [fk, hk, if_true, Option.some.injEq, Prod.mk.injEq] at hf
    obtain ⟨rfl, rfl⟩ := hf
    simp [h1, hk]
   ·simp only [fk, hk, if_false] at hf
    rw [fk_shift] at hf
    cases hf2 : fk k m 0 with
    | none => simp [hf2] at hf
    | some y =>
     rw [hf2] at hf
     simp only [Option.map_some, Option.some.injEq, Prod.mk.injEq] at hf
     obtain ⟨rfl, rfl⟩ := hf
     have := ih (i := y.1) (v := y.2) h3 hf2
     rw [show 0 + 1 + y.1 = y.1 + 1 from by omega]
     simpa using this
theorem run_mapUpdate {w0 : World} {K : PH} {hs : List PH} {t kt et i : Nat} (hu : P.underlying t = some (.map kt et)) (hK : KeyOK P kt enc) (hm : MpO enc encv h b m) {w : World} (s : Sat w0 w K hs) (hi : hs[i]? = some h) (k : κ) (v : ν) :
  ∃ h' w', MpO enc encv h' b (mset k v m) /\ (Instr.mapUpdate t (.map (some b)) (enc k) (encv v)).run P w = .ok () w' /\ Sat w0 w' K (hs.set i h') := by
 obtain ⟨es, c, rfl, h2, h3, h4⟩ := hm
 have h2' : es.toList.map (fun e => (e.key, e.val)) = (m.map fun x => (x.1, encv x.2)).map (fun x => (enc x.1, x.2)) := by rw [h2]; simp
 have hb : w.heap[b]? = some (.map es c) := s.own i _ hi b _ (by simp)
 have hf := hK.fnd k es.toList _ w h2'
 have e1 := eset_map (enc := enc) (encv := encv) k v c es.toList m h2
 have e2 := eset_born (enc k) (encv v) c (fk k (m.map fun x => (x.1, encv x.2)) 0) es.toList h3 h4
 have hset : ∀ o : Obj, (setObj b o).run P w = .ok () (w.putObj b o) := fun o => by simp [setObj, Sem.run, hb, World.putObj]
 unfold Instr.mapUpdate
 simp only [Sem.run_bind, run_underlying hu, Result.andThen, run_getMap hb, Sem.run_pure, hK.chk, hf]
 cases hk : fk k (m.map fun x => (x.1, encv x.2)) 0 with
 | none =>
  rw [hk] at e1 e2
  simp only [eset] at e1 e2
  refine ⟨sg b (.map (es.push { key := enc k, val := encv v, born := c }) (c + 1)), _, ⟨_, _, rfl, by rw [Array.toList_push]; exact e1, by rw [Array.toList_push]; exact e2.1, by rw [Array.toList_push]; exact e2.2⟩, hset _, s.putObj hi _⟩
 | some x =>
  obtain ⟨j, x⟩ := x
  rw [hk] at e1 e2
  simp only [eset] at e1 e2
  have hkey := fk_key (enc := enc) k h2' hk
  have hkey' : ((es[j]?).map (·.key)).getD (enc k) = enc k := by rw [<- Array.getElem?_toList, hkey]; rfl
  have hst : (Instr.keyThatStays (enc k) (enc k)).run P w = .ok (enc k) w := by unfold Instr.keyThatStays; simp [hK.sam]
  refine ⟨sg b (.map (es.modify j fun e => { e with key := enc k, val := encv v }) c), w.putObj b (.map (es.modify j fun e => { e with key := enc k, val := encv v }) c), ⟨_, _, rfl, by rw [Array.toList_modify]; exact e1, by rw [Array.toList_modify]; exact e2.1, by rw [Array.toList_modify]; exact e2.2⟩, ?_, s.putObj hi _⟩
  simp only [hkey', Sem.run_bind, hst, Result.andThen]
  exact hset _
theorem run_maplen {t kt et ty : Nat} (hu : P.underlying t = some (.map kt et)) (hm : MpO enc encv h b m) {w : World} (hw : ∀ b o, h b = some o -> w.heap[b]? = some o) : (Builtin.len_ #[t] ty #[.map (some b)]).run P w = .ok (.int .i64 m.length) w := by
 obtain ⟨es, c, rfl, h2, _⟩ := hm
 have hb := hw b (.map es c) (by simp)
 have hl : es.size = m.length := by have := congrArg List.length h2; simpa using this
 unfold Builtin.len_
 simp [Sem.run_bind, run_underlying hu, Result.andThen, run_getMap hb, hl, goInt]
end look
section rules
variable {P : Program} {T : Tab} {w0 : World} {ops : Array Oper} {Q : Exit -> Act -> World -> Prop} {rest rest' : List Oper} {n : Nat} {l l' : Sl} {K : PH} {hs : List PH}
variable {κ ν : Type} [DecidableEq κ] {enc : κ -> Value} {encv : ν -> Value} {h : PH} {b : Nat} {m : List (κ × ν)}
theorem opr (hT : TabOK P T) (k : Nat) {d : Nat} {o : Oper} {v : Value} (h0 : ovAt T ops n k rest l = some (d, o, rest', l')) (hv : ∀ a w, Ag n l' a -> Sat w0 w K hs -> (execOp a.eval o).run P w = .ok (.value v) w)
  (hk : WL P w0 ops Q rest' n ((d, v) :: l') K hs) : WL P w0 ops Q rest n l K hs := by
 unfold ovAt at h0
 split at h0
 ·rename_i o' r l2 ho
  split at h0
  ·rename_i d' hd
   cases hb : Nat.blt d' n with
   | false => simp [hb] at h0
   | true =>
    simp only [hb, cond_true, Option.some.injEq, Prod.mk.injEq] at h0
    obtain ⟨rfl, rfl, rfl, rfl⟩ := h0
    exact WL.at' hT ho fun hg => WL.val (R := fun u K' hs' => u = v /\ K' = K /\ hs' = hs) hd hb hg (fun A w ha hw => ⟨v, w, K, hs, hv A w ha hw, hw, rfl, rfl, rfl⟩) (fun u K' hs' ⟨h1, h2, h3⟩ => by subst h1; subst h2; subst h3; exact hk)
  ·simp at h0
 ·simp at h0
def osAt (T : Tab) (ops : Array Oper) (n k : Nat) (rest : List Oper) (l : Sl) : Option (Oper × List Oper × Sl) :=
 match opAt T ops n k rest l with
 | some (o, r, l') => match o.dst with
  | none => some (o, r, l')
  | some _ => none
 | none => none
theorem opu (hT : TabOK P T) (k : Nat) {o : Oper} {R : PH -> List PH -> Prop} (h0 : osAt T ops n k rest l = some (o, rest', l')) (hv : ∀ a w, Ag n l' a -> Sat w0 w K hs -> ∃ w' K' hs', (execOp a.eval o).run P w = .ok .skip w' /\ Sat w0 w' K' hs' /\ R K' hs')
  (hk : ∀ K' hs', R K' hs' -> WL P w0 ops Q rest' n l' K' hs') : WL P w0 ops Q rest n l K hs := by
 unfold osAt at h0
 split at h0
 ·rename_i o' r l2 ho
  split at h0
  ·rename_i hd
   simp only [Option.some.injEq, Prod.mk.injEq] at h0
   obtain ⟨rfl, rfl, rfl⟩ := h0
   refine WL.at' hT ho fun hg => ?_
   intro a w ha hw
   obtain ⟨w', K', hs', hrun, hw', hR⟩ := hv a w ha hw
   have h1 := gOK_wanted ha hg
   unfold wpList
   rw [if_pos h1]
   refine .inl ?_
   unfold Oper.wp
   rw [hrun]
   simp only [Oper.upon, hd, Act.put]
   exact hk K' hs' hR _ _ ha hw'
  ·simp at h0
 ·simp at h0
theorem opa (hT : TabOK P T) (k : Nat) {d : Nat} {o : Oper} {R : Value -> PH -> List PH -> Prop} (h0 : ovAt T ops n k rest l = some (d, o, rest', l')) (hv : ∀ a w, Ag n l' a -> Sat w0 w K hs -> ∃ v w' K' hs', (execOp a.eval o).run P w = .ok (.value v) w' /\ Sat w0 w' K' hs' /\ R v K' hs')
  (hk : ∀ v K' hs', R v K' hs' -> WL P w0 ops Q rest' n ((d, v) :: l') K' hs') : WL P w0 ops Q rest n l K hs := by
 unfold ovAt at h0
 split at h0
 ·rename_i o' r l2 ho
  split at h0
  ·rename_i d' hd
   cases hb : Nat.blt d' n with
   | false => simp [hb] at h0
   | true =>
    simp only [hb, cond_true, Option.some.injEq, Prod.mk.injEq] at h0
    obtain ⟨rfl, rfl, rfl, rfl⟩ := h0
    exact WL.at' hT ho fun hg => WL.val hd hb hg hv hk
  ·simp at h0
 ·simp at h0
theorem Sat.inn {w : World} (s : Sat w0 w K hs) (hm : In K hs h) : ∀ b o, h b = some o -> w.heap[b]? = some o := fun b o hb => s.block hm hb
def mkmAt (T : Tab) (ops : Array Oper) (n k : Nat) (rest : List Oper) (l : Sl) : Option (Nat × Oper × List Oper × Sl) :=
 match ovAt T ops n k rest l with
 | some (d, o, r, l') => match o.op with
  | .makeMap _ none => some (d, o, r, l')
  | _ => none
 | none => none
theorem mkmAt_spec {k d : Nat} {o : Oper} (h : mkmAt T ops n k rest l = some (d, o, rest', l')) : ovAt T ops n k rest l = some (d, o, rest', l') /\ ∃ t, o.op = .makeMap t none := by
 unfold mkmAt at h
 split at h
 ·rename_i d' o' r l2 ho
  split at h
  ·rename_i t hop
   simp only [Option.some.injEq, Prod.mk.injEq] at h
   obtain ⟨rfl, rfl, rfl, rfl⟩ := h
   exact ⟨ho, t, hop⟩
  ·simp at h
 ·simp at h
theorem mkm (hT : TabOK P T) (k : Nat) {d : Nat} {o : Oper} (h0 : mkmAt T ops n k rest l = some (d, o, rest', l')) (hk : ∀ b, WL P w0 ops Q rest' n ((d, .map (some b)) :: l') K (sg b (.map #[] 0) :: hs)) : WL P w0 ops Q rest n l K hs := by
 obtain ⟨h1, t, hop⟩ := mkmAt_spec h0
 refine opa hT k (R := fun v K' hs' => ∃ b, v = .map (some b) /\ K' = K /\ hs' = sg b (.map #[] 0) :: hs) h1 (fun a w ha hw => ⟨.map (some w.heap.size), w.alloc (.map #[] 0), K, _, ?_, hw.alloc _, w.heap.size, rfl, rfl, rfl⟩) ?_
 ·simp only [execOp, hop]
  simp [Instr.makeMap]
 ·rintro v K' hs' ⟨b, rfl, rfl, rfl⟩
  exact hk b
def lkAt (T : Tab) (ops : Array Oper) (n k : Nat) (rest : List Oper) (l : Sl) : Option (Nat × Oper × Nat × Value × Value × Bool × List Oper × Sl) :=
 match ovAt T ops n k rest l with
 | some (d, o, r, l') => match o.op with
  | .lookup t x y ok => match ev l' x, ev l' y with
   | some u, some v => some (d, o, t, u, v, ok, r, l')
   | _, _ => none
  | _ => none
 | none => none
theorem lkAt_spec {k d t : Nat} {o : Oper} {u v : Value} {ok : Bool} (h : lkAt T ops n k rest l = some (d, o, t, u, v, ok, rest', l')) : ovAt T ops n k rest l = some (d, o, rest', l') /\ ∃ x y, o.op = .lookup t x y ok /\ ev l' x = some u /\ ev l' y = some v := by
 unfold lkAt at h
 split at h
 ·rename_i d' o' r l2 ho
  split at h
  ·rename_i t' x y ok' hop
   split at h
   ·rename_i u' v' hx hy
    simp only [Option.some.injEq, Prod.mk.injEq] at h
    obtain ⟨rfl, rfl, rfl, rfl, rfl, rfl, rfl, rfl⟩ := h
    exact ⟨ho, x, y, hop, hx, hy⟩
   ·simp at h
  ·simp at h
 ·simp at h
theorem lku (hT : TabOK P T) (k : Nat) {d t kt et : Nat} {o : Oper} {z v : Value} {ok : Bool} (j : κ) (h0 : lkAt T ops n k rest l = some (d, o, t, .map (some b), v, ok, rest', l')) (hu : P.underlying t = some (.map kt et)) (hz : (P.info? et).bind (·.zero) = some z) (hK : KeyOK P kt enc) (hv : v = enc j) (hin : In K hs h) (hm : MpO enc encv h b m)
  (hk : WL P w0 ops Q rest' n ((d, lkV ok (match mget j m with | some v => encv v | none => z) (mget j m).isSome) :: l') K hs) : WL P w0 ops Q rest n l K hs := by
 obtain ⟨h1, x, y, hop, hx, hy⟩ := lkAt_spec h0
 subst hv
 refine opr hT k h1 (fun a w ha hw => ?_) hk
 have := run_lookup (P := P) hu hK hz hm (hw.inn hin) j ok
 simp only [execOp, hop, ha.ev hx, ha.ev hy]
 simp [this]
def muAt (T : Tab) (ops : Array Oper) (n k : Nat) (rest : List Oper) (l : Sl) : Option (Oper × Nat × Value × Value × Value × List Oper × Sl) :=
 match osAt T ops n k rest l with
 | some (o, r, l') => match o.op with
  | .mapUpdate t x y z => match ev l' x, ev l' y, ev l' z with
   | some u, some v, some w => some (o, t, u, v, w, r, l')
   | _, _, _ => none
  | .insert t x y z => match ev l' x, ev l' y, ev l' z with
   | some u, some v, some w => some (o, t, u, v, w, r, l')
   | _, _, _ => none
  | _ => none
 | none => none
theorem muAt_spec {k t : Nat} {o : Oper} {u v y : Value} (h : muAt T ops n k rest l = some (o, t, u, v, y, rest', l')) : osAt T ops n k rest l = some (o, rest', l') /\ ∀ a, Ag n l' a -> execOp a.eval o = (do Instr.mapUpdate t u v y; pure .skip) := by
 unfold muAt at h
 split at h
 ·rename_i o' r l2 ho
  split at h
  ·rename_i t' x1 x2 x3 hop
   split at h
   ·rename_i u' v' y' h1 h2 h3
    simp only [Option.some.injEq, Prod.mk.injEq] at h
    obtain ⟨rfl, rfl, rfl, rfl, rfl, rfl, rfl⟩ := h
    exact ⟨ho, fun a ha => by simp only [execOp, hop, ha.ev h1, ha.ev h2, ha.ev h3]⟩
   ·simp at h
  ·rename_i t' x1 x2 x3 hop
   split at h
   ·rename_i u' v' y' h1 h2 h3
    simp only [Option.some.injEq, Prod.mk.injEq] at h
    obtain ⟨rfl, rfl, rfl, rfl, rfl, rfl, rfl⟩ := h
    exact ⟨ho, fun a ha => by simp only [execOp, hop, ha.ev h1, ha.ev h2, ha.ev h3]⟩
   ·simp at h
  ·simp at h
 ·simp at h
theorem mpu (hT : TabOK P T) (k i : Nat) {t kt et : Nat} {o : Oper} {v y : Value} (j : κ) (x : ν) (h0 : muAt T ops n k rest l = some (o, t, .map (some b), v, y, rest', l')) (hi : hs[i]? = some h) (hu : P.underlying t = some (.map kt et)) (hK : KeyOK P kt enc) (hv : v = enc j) (hy : y = encv x) (hm : MpO enc encv h b m)
  (hk : ∀ h', MpO enc encv h' b (mset j x m) -> WL P w0 ops Q rest' n l' K (hs.set i h')) : WL P w0 ops Q rest n l K hs := by
 obtain ⟨h1, h2⟩ := muAt_spec h0
 subst hv hy
 refine opu hT k (R := fun K' hs' => ∃ h', MpO enc encv h' b (mset j x m) /\ K' = K /\ hs' = hs.set i h') h1 (fun a w ha hw => ?_) ?_
 ·obtain ⟨h', w', g1, g2, g3⟩ := run_mapUpdate (P := P) (t := t) (et := et) (i := i) hu hK hm hw hi j x
  refine ⟨w', K, _, ?_, g3, h', g1, rfl, rfl⟩
  rw [h2 a ha, Sem.run_bind, g2]
  rfl
 ·rintro K' hs' ⟨h', g1, rfl, rfl⟩
  exact hk h' g1
def mlAt (T : Tab) (ops : Array Oper) (n k : Nat) (rest : List Oper) (l : Sl) : Option (Nat × Oper × Nat × Value × List Oper × Sl) :=
 match ovAt T ops n k rest l with
 | some (d, o, r, l') => match o.op with
  | .call { callee := .builtin .len, args, argTypes } => match args.toList, argTypes.toList with
   | [x], [t] => match ev l' x with
    | some u => some (d, o, t, u, r, l')
    | none => none
   | _, _ => none
  | _ => none
 | none => none
theorem mln (hT : TabOK P T) (k : Nat) {d t kt et : Nat} {o : Oper} (h0 : mlAt T ops n k rest l = some (d, o, t, .map (some b), rest', l')) (hu : P.underlying t = some (.map kt et)) (hin : In K hs h) (hm : MpO enc encv h b m)
  (hk : WL P w0 ops Q rest' n ((d, .int .i64 m.length) :: l') K hs) : WL P w0 ops Q rest n l K hs := by
 unfold mlAt at h0
 split at h0
 ·rename_i d' o' r l2 ho
  split at h0
  ·rename_i args argTypes hop
   split at h0
   ·rename_i x t' e1 e2
    split at h0
    ·rename_i u hx
     simp only [Option.some.injEq, Prod.mk.injEq] at h0
     obtain ⟨rfl, rfl, rfl, rfl, rfl, rfl⟩ := h0
     have a1' : args = #[x] := by cases args; simp_all
     have a2' : argTypes = #[t'] := by cases argTypes; simp_all
     subst a1' a2'
     refine opr hT k ho (fun a w ha hw => ?_) hk
     have := run_maplen (P := P) (ty := o'.type) (encv := encv) hu hm (hw.inn hin)
     simp only [execOp, hop]
     simp [resolve, invoke, builtin, ha.ev hx, this]
    ·simp at h0
   ·simp at h0
  ·simp at h0
 ·simp at h0
end rules
section opn
variable {P : Program} {T : Tab} {w0 : World} {ops : Array Oper} {Q : Exit -> Act -> World -> Prop} {plan plan' : List Nat} {z : Nat} {listed listed' : Array Bool} {n : Nat} {l l' : Sl} {K K0 : PH} {hs A : List PH}
variable {κ ν : Type} [DecidableEq κ] {enc : κ -> Value} {encv : ν -> Value} {h : PH} {b : Nat} {m : List (κ × ν)}
def dlkAt (T : Tab) (ops : Array Oper) (n z k : Nat) (plan : List Nat) (L : Array Bool) (l : Sl) : Option (Nat × Oper × List Nat × Array Bool × Sl) :=
 match headAt T ops n z k plan L l with
 | some (p, o, r, L', l') => match Nat.beq (p % 2) 0, Nat.beq (p / 2) z, cond (Nat.blt z ops.size) (Region.waitsFor .any ops z (p / 2)) true, gOK ops l' o.guard, o.dst with
  | true, false, true, some true, some d => match Nat.blt d n with
   | true => some (d, o, r, L'.setIfInBounds (p / 2) true, l')
   | false => none
  | _, _, _, _, _ => none
 | none => none
theorem dopr (hT : TabOK P T) (hsel : Region.noSelect ops = true) (k : Nat) {d : Nat} {o : Oper} {v : Value} (h0 : dlkAt T ops n z k plan listed l = some (d, o, plan', listed', l')) (hv : ∀ a w, Ag n l' a -> HasL K0 A w -> (execOp a.eval o).run P w = .ok (.value v) w)
  (hk : WA P w0 ops Q K0 A z plan' listed' n ((d, v) :: l') K hs) : WA P w0 ops Q K0 A z plan listed n l K hs := by
 unfold dlkAt at h0
 split at h0
 ·rename_i p o r L' l2 hh
  split at h0
  ·rename_i dd hp hz hwf hg hd
   split at h0
   ·rename_i hb
    simp only [Option.some.injEq, Prod.mk.injEq] at h0
    obtain ⟨rfl, rfl, rfl, rfl, rfl⟩ := h0
    obtain ⟨g1, g2⟩ := headAt_spec hh
    refine WA.pures hT hsel k g1 ?_
    have hp2 : p = 2 * (p / 2) := by have := Nat.eq_of_beq_eq_true hp; omega
    rw [hp2]
    refine WA.look g2 hsel hz hd hb (fun A' ha => .inl ⟨gOK_wanted ha hg, fun w hw => ?_⟩) hk
    obtain ⟨L, hcl, hun, hst⟩ := hw
    exact hv A' w ha (hst (closed_waits hcl hun hwf))
   ·simp at h0
  ·simp at h0
 ·simp at h0
theorem HasL.inn {w : World} (s : HasL K A w) (hm : In K A h) : ∀ b o, h b = some o -> w.heap[b]? = some o := by
 rcases hm with rfl | ⟨i, hi⟩
 ·exact s.1
 ·exact s.2 h (List.mem_of_getElem? hi)
def dluAt (T : Tab) (ops : Array Oper) (n z k : Nat) (plan : List Nat) (L : Array Bool) (l : Sl) : Option (Nat × Oper × Nat × Value × Value × Bool × List Nat × Array Bool × Sl) :=
 match dlkAt T ops n z k plan L l with
 | some (d, o, r, L', l') => match o.op with
  | .lookup t x y ok => match ev l' x, ev l' y with
   | some u, some v => some (d, o, t, u, v, ok, r, L', l')
   | _, _ => none
  | _ => none
 | none => none
theorem dlku (hT : TabOK P T) (hsel : Region.noSelect ops = true) (k : Nat) {d t kt et : Nat} {o : Oper} {zv v : Value} {ok : Bool} (j : κ) (h0 : dluAt T ops n z k plan listed l = some (d, o, t, .map (some b), v, ok, plan', listed', l')) (hu : P.underlying t = some (.map kt et)) (hz : (P.info? et).bind (·.zero) = some zv) (hK : KeyOK P kt enc) (hv : v = enc j) (hin : In K0 A h) (hm : MpO enc encv h b m)
  (hk : WA P w0 ops Q K0 A z plan' listed' n ((d, lkV ok (match mget j m with | some v => encv v | none => zv) (mget j m).isSome) :: l') K hs) : WA P w0 ops Q K0 A z plan listed n l K hs := by
 unfold dluAt at h0
 split at h0
 ·rename_i d' o' r L' l2 ho
  split at h0
  ·rename_i t' x y ok' hop
   split at h0
   ·rename_i u' v' hx hy
    simp only [Option.some.injEq, Prod.mk.injEq] at h0
    obtain ⟨rfl, rfl, rfl, rfl, rfl, rfl, rfl, rfl, rfl⟩ := h0
    subst hv
    refine dopr hT hsel k ho (fun a w ha hw => ?_) hk
    have := run_lookup (P := P) hu hK hz hm (hw.inn hin) j ok'
    simp only [execOp, hop, ha.ev hx, ha.ev hy]
    simp [this]
   ·simp at h0
  ·simp at h0
 ·simp at h0
end opn
end Go.En
end
section
namespace Go.En
attribute [local irreducible] Code.wp wpList Calls
theorem IsS.pre {h : PH} {ao : Option Addr} {n cap size : Nat} {xs : List Value} (x : IsS h ao n cap size xs) (m : Nat) (hm : m <= n) : IsS h ao m cap size (xs.take (m * size)) := by
 obtain ⟨h1, h2, h3⟩ := x
 have : m * size <= n * size := Nat.mul_le_mul_right _ hm
 refine ⟨by simp; omega, by omega, fun j u hu => ?_⟩
 have hj : j < m * size := by
  have := (List.getElem?_eq_some_iff.1 hu).1
  simp at this
  omega
 rw [List.getElem?_take_of_lt hj] at hu
 exact h3 j u hu
section rules
variable {P : Program} {T : Tab} {w0 : World} {ops : Array Oper} {Q : Exit -> Act -> World -> Prop} {rest rest' : List Oper} {n : Nat} {l l' : Sl} {K : PH} {hs : List PH}
def b2At (T : Tab) (ops : Array Oper) (n k : Nat) (rest : List Oper) (l : Sl) : Option (Nat × Oper × Builtin × Nat × Nat × Value × Value × List Oper × Sl) :=
 match ovAt T ops n k rest l with
 | some (d, o, r, l') => match o.op with
  | .call { callee := .builtin b, args, argTypes } => match args.toList, argTypes.toList with
   | [x, y], [t, u] => match ev l' x, ev l' y with
    | some vx, some vy => some (d, o, b, t, u, vx, vy, r, l')
    | _, _ => none
   | _, _ => none
  | _ => none
 | none => none
theorem b2At_spec {k d t u : Nat} {o : Oper} {b : Builtin} {vx vy : Value} (h : b2At T ops n k rest l = some (d, o, b, t, u, vx, vy, rest', l')) :
  ovAt T ops n k rest l = some (d, o, rest', l') /\ ∀ a w, Ag n l' a -> ∃ cs, (execOp a.eval o).run P w = (builtin b #[t, u] o.type cs #[vx, vy]).run P w := by
 unfold b2At at h
 split at h
 ·rename_i d' o' r l2 ho
  split at h
  ·rename_i b' args argTypes hop
   split at h
   ·rename_i x y t' u' e1 e2
    split at h
    ·rename_i vx' vy' hx hy
     simp only [Option.some.injEq, Prod.mk.injEq] at h
     obtain ⟨rfl, rfl, rfl, rfl, rfl, rfl, rfl, rfl, rfl⟩ := h
     have a1' : args = #[x, y] := by cases args; simp_all
     have a2' : argTypes = #[t', u'] := by cases argTypes; simp_all
     subst a1' a2'
     refine ⟨ho, fun a w ha => ⟨#[x, y].map fun | .const _ => true | _ => false, ?_⟩⟩
     simp only [execOp, hop]
     simp [resolve, invoke, ha.ev hx, ha.ev hy]
     cases x <;> cases y <;> rfl
    ·simp at h
   ·simp at h
  ·simp at h
 ·simp at h
theorem cpy (hT : TabOK P T) (k i : Nat) {d t u b off ty nd cd ns csrc : Nat} {o : Oper} {si : SlI} {aos : Option Addr} {h2 : PH} {c : Array Value} {xs : List Value} (m : Nat)
  (h0 : b2At T ops n k rest l = some (d, o, .copy, t, u, .slice (some ⟨b, off, none⟩) nd cd, .slice aos ns csrc, rest', l')) (hsi : asc T.sls t = some si) (hi : hs[i]? = some (pt b c ty)) (hin : In K hs h2) (x : IsS h2 aos ns csrc si.size xs)
  (hm : m = min ns nd) (h1 : ∀ u ∈ xs.take (m * si.size), u.oneCell' = true) (hf : off + m * si.size <= c.size)
  (hk : WL P w0 ops Q rest' n ((d, .int .i64 (m : Int)) :: l') K (hs.set i (pt b (c.toList.take off ++ xs.take (m * si.size) ++ c.toList.drop (off + m * si.size)).toArray ty))) : WL P w0 ops Q rest n l K hs := by
 obtain ⟨ho, hex⟩ := b2At_spec h0
 refine opa hT k (R := fun v K' hs' => v = .int .i64 (m : Int) /\ K' = K /\ hs' = hs.set i (pt b (c.toList.take off ++ xs.take (m * si.size) ++ c.toList.drop (off + m * si.size)).toArray ty)) ho (fun a w ha hw => ?_) ?_
 ·obtain ⟨cs, he⟩ := hex a w ha
  obtain ⟨g1, ii, g2, g3, g4, g5⟩ := hT.sl hsi
  have hb : w.heap[b]? = some (.cells c ty (0, 0)) := hw.own i _ hi b _ (by simp)
  have x2 := x.pre m (by omega)
  have hfc : (Builtin.firstCells si.size m (.slice aos ns csrc)).run P w = .ok (xs.take (m * si.size)).toArray w := by
   have := run_firstCells_isS (P := P) hw hin x2
   cases aos <;> exact this
  have hlen : (xs.take (m * si.size)).length = m * si.size := x2.1
  have hst := run_storeCells_at P b off ty (xs.take (m * si.size)) 0 c w hb (by rw [hlen]; simpa using hf) (by intro u hu; exact h1 u hu)
  simp only [Nat.add_zero, hlen] at hst
  refine ⟨_, _, K, _, ?_, hw.setRow hi _, rfl, rfl, rfl⟩
  rw [he]
  simp only [builtin]
  simp [Builtin.copy_, run_underlying g1, Builtin.lenOf, <- hm, sizeOf, typeInfo, g2, g4, hfc, hst, goInt]
 ·rintro v K' hs' ⟨rfl, rfl, rfl⟩
  exact hk
theorem slx (hT : TabOK P T) (k : Nat) {d : Nat} {si : SlI} {ao : Option Addr} {n1 c1 : Nat} {lo hi : Option Int} (L N : Nat)
  (h0 : slAt T ops n k rest l = some (d, si, (ao, n1, c1), lo, hi, rest', l')) (hL : lo.getD 0 = (L : Int)) (hH : hi.getD n1 = ((L + N : Nat) : Int)) (hN : L + N <= c1)
  (hk : WL P w0 ops Q rest' n ((d, .slice (cutA ao c1 L si.size) N (c1 - L)) :: l') K hs) : WL P w0 ops Q rest n l K hs := by
 obtain ⟨o, ho, hd, hb, hrun⟩ := slAt_run (P := P) hT L (L + N) h0 hL hH (by omega) hN
 refine WL.at' hT ho fun hg => WL.val (R := fun u K' hs' => u = .slice (cutA ao c1 L si.size) N (c1 - L) /\ K' = K /\ hs' = hs) hd hb hg (fun A w ha hw => ⟨_, w, K, hs, hrun A w ha, hw, ?_, rfl, rfl⟩) ?_
 ·rw [Nat.add_sub_cancel_left]
 ·rintro u K' hs' ⟨rfl, rfl, rfl⟩
  exact hk
theorem cutA_lt {g off c L size : Nat} (h : L < c) : cutA (some ⟨g, off, none⟩) c L size = some ⟨g, off + L * size, none⟩ := by
 rw [cutA, if_neg (by omega)]
 simp [add_mk]
theorem cutA_0 {ao : Option Addr} {c size : Nat} : cutA ao c 0 size = ao := by
 unfold cutA
 split
 ·rfl
 ·cases ao with
  | none => rfl
  | some a => simp [Addr.add]
end rules
section ext
variable {P : Program} {T : Tab} {w0 : World} {ops : Array Oper} {Q : Exit -> Act -> World -> Prop} {rest rest' : List Oper} {n : Nat} {l l' : Sl} {K : PH} {hs : List PH}
theorem clx (hT : TabOK P T) (k : Nat) {d g : Nat} {vs : List Value} {fn : Func} {e : Array Value -> Sem Value} {v : Value} (h0 : clAt T ops n k rest l = some (d, g, vs, rest', l')) (hf : P.funcs[g]? = some fn) (hname : (fn.name == "runtime.NumGoroutine") = false)
  (hb : fn.body.isNone = true) (hn : Extern.findNext fn = none) (he : Extern.find fn = some e) (hv : ∀ w, Sat w0 w K hs -> (e vs.toArray).run P w = .ok v w)
  (hk : WL P w0 ops Q rest' n ((d, v) :: l') K hs) : WL P w0 ops Q rest n l K hs := by
 unfold clAt at h0
 split at h0
 ·rename_i o r l2 ho
  split at h0
  ·rename_i d' f args ats hd hop
   split at h0
   ·rename_i g' first captured vs' hb' hf' hvs
    simp only [Option.some.injEq, Prod.mk.injEq] at h0
    obtain ⟨rfl, rfl, rfl, rfl, rfl⟩ := h0
    refine WL.at' hT ho fun hg => WL.val (R := fun u K' hs' => u = v /\ K' = K /\ hs' = hs) hd hb' hg (fun A w ha hw => ⟨v, w, K, hs, ?_, hw, rfl, rfl, rfl⟩) (fun u K' hs' ⟨h1, h2, h3⟩ => by subst h1; subst h2; subst h3; exact hk)
    have h6 := ev_map ha _ _ hvs
    have h7 : args.map A.eval = vs'.toArray := by
     apply Array.ext'
     simpa using h6
    have h8 := run_callFunc_extern (P := P) hf hname hb hn he (first.toList ++ (vs' ++ captured.toList)).toArray w
    rw [hv w hw] at h8
    have h9 : (first.toList ++ (vs' ++ captured.toList)).toArray = first ++ (vs'.toArray ++ captured) := by
     apply Array.ext'; simp
    rw [h9] at h8
    simp only [execOp, hop]
    simp [resolve, h7, ha.ev hf', Deferred.ofValue, invoke, h8, Result.andThen]
   ·simp at h0
  ·simp at h0
 ·simp at h0
end ext
section three
variable {P : Program} {T : Tab} {w0 : World} {ops : Array Oper} {Q : Exit -> Act -> World -> Prop} {rest rest' : List Oper} {n : Nat} {l l' : Sl} {K : PH} {hs : List PH}
end three
section openc
variable {P : Program} {T : Tab} {w0 : World} {ops : Array Oper} {Q : Exit -> Act -> World -> Prop} {plan plan' : List Nat} {z : Nat} {listed listed' : Array Bool} {n : Nat} {l l' : Sl} {K K0 : PH} {hs A : List PH}
end openc
end Go.En
end
section
namespace Go.En
def Al2 {α : Type} (R : List Value -> α -> Prop) : List (List Value) -> List α -> Prop
 | [], [] => True
 | c :: cs, x :: xs => R c x /\ Al2 R cs xs
 | _, _ => False
section al
variable {α : Type} {R R' : List Value -> α -> Prop}
theorem Al2.imp (h : ∀ c x, R c x -> R' c x) : ∀ {cs : List (List Value)} {xs : List α}, Al2 R cs xs -> Al2 R' cs xs
 | [], [], _ => trivial
 | _ :: _, _ :: _, g => ⟨h _ _ g.1, Al2.imp h g.2⟩
 | [], _ :: _, g => g.elim
 | _ :: _, [], g => g.elim
theorem Al2.len : ∀ {cs : List (List Value)} {xs : List α}, Al2 R cs xs -> cs.length = xs.length
 | [], [], _ => rfl
 | _ :: _, _ :: _, g => by simp [Al2.len g.2]
 | [], _ :: _, g => g.elim
 | _ :: _, [], g => g.elim
theorem Al2.get : ∀ {cs : List (List Value)} {xs : List α} {i : Nat} {x : α}, Al2 R cs xs -> xs[i]? = some x -> ∃ c, cs[i]? = some c /\ R c x
 | [], [], i, x, _, h => by simp at h
 | c :: cs, y :: xs, 0, x, g, h => by simp at h; subst h; exact ⟨c, by simp, g.1⟩
 | c :: cs, y :: xs, i + 1, x, g, h => by
  obtain ⟨d, h1, h2⟩ := Al2.get (i := i) g.2 (by simpa using h)
  exact ⟨d, by simpa using h1, h2⟩
 | [], _ :: _, _, _, g, _ => g.elim
 | _ :: _, [], _, _, g, _ => g.elim
theorem Al2.append : ∀ {cs ds : List (List Value)} {xs ys : List α}, Al2 R cs xs -> Al2 R ds ys -> Al2 R (cs ++ ds) (xs ++ ys)
 | [], _, [], _, _, h => h
 | _ :: _, _, _ :: _, _, g, h => ⟨g.1, Al2.append g.2 h⟩
 | [], _, _ :: _, _, g, _ => g.elim
 | _ :: _, _, [], _, g, _ => g.elim
theorem Al2.drop : ∀ (k : Nat) {cs : List (List Value)} {xs : List α}, Al2 R cs xs -> Al2 R (cs.drop k) (xs.drop k)
 | 0, _, _, h => h
 | k + 1, [], [], _ => trivial
 | k + 1, _ :: _, _ :: _, g => Al2.drop k g.2
 | k + 1, [], _ :: _, g => g.elim
 | k + 1, _ :: _, [], g => g.elim
theorem Al2.take : ∀ (k : Nat) {cs : List (List Value)} {xs : List α}, Al2 R cs xs -> Al2 R (cs.take k) (xs.take k)
 | 0, _, _, _ => trivial
 | k + 1, [], [], _ => trivial
 | k + 1, _ :: _, _ :: _, g => ⟨g.1, Al2.take k g.2⟩
 | k + 1, [], _ :: _, g => g.elim
 | k + 1, _ :: _, [], g => g.elim
theorem Al2.set {c : List Value} {y : α} (hc : R c y) : ∀ (k : Nat) {cs : List (List Value)} {xs : List α}, Al2 R cs xs -> Al2 R (cs.set k c) (xs.set k y)
 | _, [], [], _ => trivial
 | 0, _ :: _, _ :: _, g => ⟨hc, g.2⟩
 | k + 1, _ :: _, _ :: _, g => ⟨g.1, Al2.set hc k g.2⟩
 | _, [], _ :: _, g => g.elim
 | _, _ :: _, [], g => g.elim
theorem flat_get {size : Nat} : ∀ {cs : List (List Value)} {i : Nat} {c : List Value}, (∀ d ∈ cs, d.length = size) -> cs[i]? = some c -> ∀ (j : Nat) v, c[j]? = some v -> cs.flatten[i * size + j]? = some v
 | [], i, c, _, h, _, _, _ => by simp at h
 | d :: cs, 0, c, hl, h, j, v, hv => by
  simp at h; subst h
  have hj := (List.getElem?_eq_some_iff.1 hv).1
  rw [List.flatten_cons, Nat.zero_mul, Nat.zero_add, List.getElem?_append_left hj]; exact hv
 | d :: cs, i + 1, c, hl, h, j, v, hv => by
  have hd := hl d (by simp)
  rw [List.flatten_cons, Nat.succ_mul, show i * size + size + j = d.length + (i * size + j) from by omega, List.getElem?_append_right (by omega), Nat.add_sub_cancel_left]
  exact flat_get (fun x hx => hl x (by simp [hx])) (by simpa using h) j v hv
theorem flat_len {size : Nat} : ∀ {cs : List (List Value)}, (∀ d ∈ cs, d.length = size) -> cs.flatten.length = cs.length * size
 | [], _ => by simp
 | d :: cs, h => by rw [List.flatten_cons, List.length_append, h d (by simp), flat_len (fun x hx => h x (by simp [hx])), List.length_cons, Nat.succ_mul]; omega
theorem flat_drop {size : Nat} : ∀ (k : Nat) {cs : List (List Value)}, (∀ d ∈ cs, d.length = size) -> cs.flatten.drop (k * size) = (cs.drop k).flatten
 | 0, cs, _ => by simp
 | k + 1, [], _ => by simp
 | k + 1, d :: cs, h => by
  rw [List.flatten_cons, Nat.succ_mul, show k * size + size = d.length + k * size from by rw [h d (by simp)]; omega, <- List.drop_drop, List.drop_left, flat_drop k (fun x hx => h x (by simp [hx]))]
  simp
theorem flat_take {size : Nat} : ∀ (k : Nat) {cs : List (List Value)}, (∀ d ∈ cs, d.length = size) -> cs.flatten.take (k * size) = (cs.take k).flatten
 | 0, cs, _ => by simp
 | k + 1, [], _ => by simp
 | k + 1, d :: cs, h => by
  rw [List.flatten_cons, Nat.succ_mul, show k * size + size = d.length + k * size from by rw [h d (by simp)]; omega, List.take_append]
  rw [List.take_of_length_le (by omega), Nat.add_sub_cancel_left, flat_take k (fun x hx => h x (by simp [hx]))]
  simp
def SlS (size : Nat) (R : List Value -> α -> Prop) (H : PH) (ao : Option Addr) (n cap : Nat) (xs : List α) : Prop :=
 ∃ css : List (List Value), n = xs.length /\ IsS H ao n cap size css.flatten /\ Al2 R css xs /\ ∀ d ∈ css, d.length = size
theorem SlS.le {size : Nat} {H H' : PH} {ao : Option Addr} {n cap : Nat} {xs : List α} (h : SlS size R H ao n cap xs) (l : Le H H') (hR : ∀ c x, R c x -> R' c x) : SlS size R' H' ao n cap xs := by
 obtain ⟨css, h1, h2, h3, h4⟩ := h
 exact ⟨css, h1, h2.le l, h3.imp hR, h4⟩
theorem SlS.nil (size : Nat) (H : PH) (ao : Option Addr) (cap : Nat) : SlS size R H ao 0 cap [] := ⟨[], rfl, IsS.nil H ao cap size, trivial, by simp⟩
theorem SlS.cells {size : Nat} {H : PH} {a : Addr} {n cap i : Nat} {xs : List α} {x : α} (h : SlS size R H (some a) n cap xs) (hx : xs[i]? = some x) : ∃ c, R c x /\ c.length = size /\ ∀ (j : Nat) v, c[j]? = some v -> Cell H ((a.add (i * size)).add j) v := by
 obtain ⟨css, h1, h2, h3, h4⟩ := h
 obtain ⟨c, hc, hr⟩ := h3.get hx
 refine ⟨c, hr, h4 c (List.mem_of_getElem? hc), fun j v hv => ?_⟩
 obtain ⟨a', e, hcell⟩ := h2.2.2 _ v (flat_get h4 hc j v hv)
 cases e
 obtain ⟨b, o, sp⟩ := a
 have hsp := hcell.1
 have e2 : ((⟨b, o, sp⟩ : Addr).add (i * size)).add j = (⟨b, o, sp⟩ : Addr).add (i * size + j) := by
  unfold Addr.add at hsp ⊢
  by_cases h0 : i * size = 0
  ·simp [h0]
  ·by_cases h1 : j = 0
   ·subst h1; simp [h0]
   ·simp [h0, h1, Nat.add_assoc]
 rw [e2]; exact hcell
theorem SlS.isS {size : Nat} {H : PH} {ao : Option Addr} {n cap : Nat} {xs : List α} (h : SlS size R H ao n cap xs) : ∃ vs, IsS H ao n cap size vs := by
 obtain ⟨css, _, h2, _⟩ := h
 exact ⟨_, h2⟩
theorem SlS.len {size : Nat} {H : PH} {ao : Option Addr} {n cap : Nat} {xs : List α} (h : SlS size R H ao n cap xs) : n = xs.length := by
 obtain ⟨css, h1, _⟩ := h
 exact h1
theorem SlS.addr {size : Nat} {H : PH} {ao : Option Addr} {n cap : Nat} {xs : List α} (h : SlS size R H ao n cap xs) (hn : 0 < n) (hs : 0 < size) : ∃ a, ao = some a := by
 obtain ⟨css, _, h2, _⟩ := h
 exact h2.addr hn hs
theorem SlS.cut {size : Nat} {H : PH} {ao : Option Addr} {n cap : Nat} {xs : List α} (h : SlS size R H ao n cap xs) (L : Nat) (hL : L <= n) : SlS size R H (cutA ao cap L size) (n - L) (cap - L) (xs.drop L) := by
 obtain ⟨css, h1, h2, h3, h4⟩ := h
 have hl : css.length = n := by rw [h3.len, h1]
 refine ⟨css.drop L, by simp [h1], h2.cut L (n - L) (by omega) ?_, h3.drop L, fun d hd => h4 d (List.mem_of_mem_drop hd)⟩
 rw [flat_drop L h4]
 exact List.take_of_length_le (by rw [flat_len (fun d hd => h4 d (List.mem_of_mem_drop hd))]; simp [hl])
def SlO (size e : Nat) (R : List Value -> α -> Prop) (h : PH) (ao : Option Addr) (n cap : Nat) (xs : List α) : Prop :=
 ∃ css : List (List Value), n = xs.length /\ Own h ao n cap e size css.flatten /\ Al2 R css xs /\ ∀ d ∈ css, d.length = size
theorem SlO.nil (size e : Nat) : SlO size e R em none 0 0 [] := ⟨[], rfl, Own.nil e size, trivial, by simp⟩
theorem SlO.slS {size e : Nat} {h : PH} {ao : Option Addr} {n cap : Nat} {xs : List α} (x : SlO size e R h ao n cap xs) : SlS size R h ao n cap xs := by
 obtain ⟨css, h1, h2, h3, h4⟩ := x
 exact ⟨css, h1, h2.isS, h3, h4⟩
theorem SlO.imp {size e : Nat} {h : PH} {ao : Option Addr} {n cap : Nat} {xs : List α} (hR : ∀ c x, R c x -> R' c x) (x : SlO size e R h ao n cap xs) : SlO size e R' h ao n cap xs := by
 obtain ⟨css, h1, h2, h3, h4⟩ := x
 exact ⟨css, h1, h2, h3.imp hR, h4⟩
theorem SlO.len {size e : Nat} {h : PH} {ao : Option Addr} {n cap : Nat} {xs : List α} (x : SlO size e R h ao n cap xs) : n = xs.length := by
 obtain ⟨css, h1, _⟩ := x
 exact h1
end al
section app
variable {P : Program} {T : Tab} {w0 : World} {ops : Array Oper} {Q : Exit -> Act -> World -> Prop} {rest rest' : List Oper} {n : Nat} {l l' : Sl} {K : PH} {hs : List PH} {α : Type} {R : List Value -> α -> Prop}
theorem appS (hT : TabOK P T) (k i : Nat) {d : Nat} {si : SlI} {ao : Option Addr} {n1 c1 b : Nat} {h : PH} {xs : List α} (c : List Value) (x : α) (h0 : apAt T ops n k rest l = some (d, si, (ao, n1, c1), (some ⟨b, 0, none⟩, 1, 1), rest', l'))
  (h2 : hs[0]? = some (pt b c.toArray si.elem)) (hi : hs[i]? = some h) (o : SlO si.size si.elem R h ao n1 c1 xs) (hc : R c x) (hl : c.length = si.size) (h1 : ∀ u ∈ c, u.oneCell' = true) (hz : si.zero.cells.size = si.size) (hsz : 0 < si.size) (hb : (n1 + 1) * si.bytes <= 140737488355328) (h63 : n1 + 1 <= maxLen)
  (hk : ∀ ao' cap' h', SlO si.size si.elem R h' ao' (n1 + 1) cap' (xs ++ [x]) -> WL P w0 ops Q rest' n ((d, .slice ao' (n1 + 1) cap') :: l') K (hs.set i h')) : WL P w0 ops Q rest n l K hs := by
 obtain ⟨css, q1, q2, q3, q4⟩ := o
 have xv : IsS (pt b c.toArray si.elem) (some ⟨b, 0, none⟩) 1 1 si.size c := by
  simpa using (Own.ofPt (b := b) (c := c.toArray) (e := si.elem) (n := 1) (size := si.size) (by simpa using hl) (by simp [maxLen])).isS
 refine app hT k i h0 hi q2 (.inr ⟨0, h2⟩) xv hz hsz h1 hb h63 fun ao' cap' h' o' => ?_
 refine hk ao' cap' h' ⟨css ++ [c], by simp [q1], by simpa using o', q3.append ⟨hc, trivial⟩, ?_⟩
 intro d hd
 rcases List.mem_append.1 hd with h | h
 ·exact q4 d h
 ·simp at h; subst h; exact hl
end app
def uns : List PH -> PH
 | [] => em
 | h :: l => un h (uns l)
def Dj (h h' : PH) : Prop := ∀ b, h b = none \/ h' b = none
def Djs (l : List PH) : Prop := l.Pairwise Dj
theorem uns_some : ∀ {l : List PH} {b : Nat} {o : Obj}, uns l b = some o -> ∃ h ∈ l, h b = some o
 | [], b, o, h => by simp [uns, em] at h
 | x :: l, b, o, h => by
  simp only [uns, un] at h
  cases e : x b with
  | some o' => rw [e] at h; simp only [Option.some.injEq] at h; subst h; exact ⟨x, by simp, e⟩
  | none =>
   rw [e] at h
   obtain ⟨y, h1, h2⟩ := uns_some h
   exact ⟨y, by simp [h1], h2⟩
theorem uns_of : ∀ {l : List PH} (d : Djs l) {h : PH} (hm : h ∈ l) {b : Nat} {o : Obj}, h b = some o -> uns l b = some o
 | [], _, _, hm, _, _, _ => by cases hm
 | x :: l, d, h, hm, b, o, hb => by
  simp only [uns, un]
  rcases List.mem_cons.1 hm with rfl | hm
  ·rw [hb]
  ·have h1 := (List.pairwise_cons.1 d).1 h hm b
   cases e : x b with
   | none => exact uns_of (List.pairwise_cons.1 d).2 hm hb
   | some o' =>
    rcases h1 with h1 | h1
    ·rw [e] at h1; cases h1
    ·rw [hb] at h1; cases h1
theorem uns_none {l : List PH} {b : Nat} (h : ∀ x ∈ l, x b = none) : uns l b = none := by
 cases e : uns l b with
 | none => rfl
 | some o => obtain ⟨x, h1, h2⟩ := uns_some e; rw [h x h1] at h2; cases h2
theorem Sat.split {w0 w : World} {K : PH} {l hs : List PH} (s : Sat w0 w K (uns l :: hs)) (d : Djs l) : Sat w0 w K (l ++ hs) := by
 rw [Sat.iff] at s ⊢
 obtain ⟨⟨h1, h2, h3, h4, h5, h6⟩, h7⟩ := s
 rw [List.pairwise_cons] at h7
 refine ⟨⟨h1, h2, h3, h4, h5, fun h hm b o hb => ?_⟩, ?_⟩
 ·rcases List.mem_append.1 hm with hm | hm
  ·exact h6 (uns l) (by simp) b o (uns_of d hm hb)
  ·exact h6 h (by simp [hm]) b o hb
 ·rw [List.pairwise_append]
  refine ⟨d, h7.2, fun x hx y hy b => ?_⟩
  cases e : x b with
  | none => exact .inl rfl
  | some o =>
   rcases h7.1 y hy b with h | h
   ·rw [uns_of d hx e] at h; cases h
   ·exact .inr h
theorem Sat.join {w0 w : World} {K : PH} (l : List PH) {hs : List PH} (s : Sat w0 w K (l ++ hs)) : Djs l /\ Sat w0 w K (uns l :: hs) := by
 rw [Sat.iff] at s ⊢
 obtain ⟨⟨h1, h2, h3, h4, h5, h6⟩, h7⟩ := s
 rw [List.pairwise_append] at h7
 obtain ⟨d, h8, h9⟩ := h7
 refine ⟨d, ⟨h1, h2, h3, h4, h5, fun h hm b o hb => ?_⟩, ?_⟩
 ·rcases List.mem_cons.1 hm with rfl | hm
  ·obtain ⟨x, g1, g2⟩ := uns_some hb
   exact h6 x (by simp [g1]) b o g2
  ·exact h6 h (by simp [hm]) b o hb
 ·rw [List.pairwise_cons]
  refine ⟨fun y hy b => ?_, h8⟩
  cases e : y b with
  | none => exact .inr rfl
  | some o =>
   refine .inl (uns_none fun x hx => ?_)
   rcases h9 x hx y hy b with h | h
   ·exact h
   ·rw [e] at h; cases h
section sj
variable {P : Program} {w0 : World} {ops : Array Oper} {Q : Exit -> Act -> World -> Prop} {rest : List Oper} {n : Nat} {l : Sl} {K : PH} {hs : List PH} {c : Code} {e : Exit} {r : Option Nat} {ds : List Deferred}
theorem WL.split {m : List PH} (d : Djs m) (hk : WL P w0 ops Q rest n l K (m ++ hs)) : WL P w0 ops Q rest n l K (uns m :: hs) := fun a w ha hw => hk a w ha (hw.split d)
theorem WC.split {m : List PH} (d : Djs m) (hk : WC P w0 c Q n l K (m ++ hs)) : WC P w0 c Q n l K (uns m :: hs) := fun a w ha hw => hk a w ha (hw.split d)
theorem WQ.split {m : List PH} (d : Djs m) (hk : WQ w0 Q e n l K (m ++ hs)) : WQ w0 Q e n l K (uns m :: hs) := fun a w ha hw => hk a w ha (hw.split d)
theorem WX.split {m : List PH} (d : Djs m) (hk : WX P w0 r ds c Q n l K (m ++ hs)) : WX P w0 r ds c Q n l K (uns m :: hs) := fun a w ha hw => hk a w ha (hw.split d)
theorem WL.join (m : List PH) (hk : Djs m -> WL P w0 ops Q rest n l K (uns m :: hs)) : WL P w0 ops Q rest n l K (m ++ hs) := fun a w ha hw => hk (hw.join m).1 a w ha (hw.join m).2
theorem WQX.join (m : List PH) (hk : Djs m -> WQX ds w0 Q e n l K (uns m :: hs)) : WQX ds w0 Q e n l K (m ++ hs) := fun a w ha hw => hk (hw.join m).1 a w ha (hw.join m).2
theorem WQX.drop {h : PH} (hk : WQX ds w0 Q e n l K hs) : WQX ds w0 Q e n l K (h :: hs) := fun a w ha hw => hk a w ha hw.dropHead
theorem WQX.drop1 {h x : PH} (hk : WQX ds w0 Q e n l K (h :: hs)) : WQX ds w0 Q e n l K (h :: x :: hs) := fun a w ha hw => hk a w ha (hw.perm (List.Perm.swap x h hs)).dropHead
theorem WQ.drop1 {h x : PH} (hk : WQ w0 Q e n l K (h :: hs)) : WQ w0 Q e n l K (h :: x :: hs) := fun a w ha hw => hk a w ha (hw.perm (List.Perm.swap x h hs)).dropHead
theorem WX.drop {h : PH} (hk : WX P w0 r ds c Q n l K hs) : WX P w0 r ds c Q n l K (h :: hs) := fun a w ha hw => hk a w ha hw.dropHead
theorem WQX.perm {hs' : List PH} (p : hs.Perm hs') (hk : WQX ds w0 Q e n l K hs') : WQX ds w0 Q e n l K hs := fun a w ha hw => hk a w ha (hw.perm p)
theorem WX.perm {hs' : List PH} (p : hs.Perm hs') (hk : WX P w0 r ds c Q n l K hs') : WX P w0 r ds c Q n l K hs := fun a w ha hw => hk a w ha (hw.perm p)
theorem WX.frz {h : PH} (hk : ∀ K', Le K K' -> Le h K' -> WX P w0 r ds c Q n l K' hs) : WX P w0 r ds c Q n l K (h :: hs) := fun a w ha hw => by
 obtain ⟨h1, h2, h3⟩ := hw.frz
 exact hk _ h1 h2 a w ha h3
theorem WX.em (hk : WX P w0 r ds c Q n l K (En.em :: hs)) : WX P w0 r ds c Q n l K hs := fun a w ha hw => hk a w ha hw.addEm
end sj
theorem dnexL {P : Program} {w0 : World} {ops : Array Oper} {Q : Exit -> Act -> World -> Prop} {plan : List Nat} {z : Nat} {n : Nat} {l : Sl} {K K0 : PH} {hs A : List PH} {L : Array Bool} (A' : List PH) (hA : ∀ h ∈ A', h ∈ hs) (hAA : ∀ h ∈ A, h ∈ A') (hK : Le K0 K) (hk : WA P w0 ops Q K A' z plan L n l K hs) :
  WL P w0 ops (fun e a w => planOK .any ops plan L = true -> Closed .any ops L -> aft P w0 ops Q K0 A z plan L e a w) [] n l K hs := by
 intro a w ha hw
 refine wpList_nil fun hp hc => ?_
 have up : ∀ L w, still z (HasL K A') L w -> still z (HasL K0 A) L w := fun L w h hz => ⟨fun b o hb => (h hz).1 b o (hK b o hb), fun x hx => (h hz).2 x (hAA x hx)⟩
 have hst : still z (HasL K A') L w := fun _ => HasL.ofMem hw hA
 exact ⟨up _ _ hst, tr_S up _ _ _ _ (hk hp hc a w ha hw hst)⟩
section dbd
variable {P : Program} {T : Tab} {w0 : World} {ops : Array Oper} {Q : Exit -> Act -> World -> Prop} {plan plan' : List Nat} {z : Nat} {listed listed' : Array Bool} {n : Nat} {l l' : Sl} {K K0 : PH} {hs A : List PH}
def dbdAt (T : Tab) (ops : Array Oper) (n z k : Nat) (plan : List Nat) (L : Array Bool) (l : Sl) : Option (Nat × Oper × Nat × List (Nat × Value) × List Nat × Array Bool × Sl) :=
 match dopAt T ops n z k plan L l with
 | some (d, o, r, L', l') => match o.op with
  | .build t parts => match parts.toList.mapM (fun x => (ev l' x.2).map (fun v => (x.1, v))) with
   | some vs => some (d, o, t, vs, r, L', l')
   | none => none
  | _ => none
 | none => none
theorem dbd (hT : TabOK P T) (hsel : Region.noSelect ops = true) (k : Nat) {d t : Nat} {o : Oper} {vs : List (Nat × Value)} (v : Value) (h0 : dbdAt T ops n z k plan listed l = some (d, o, t, vs, plan', listed', l')) (hv : ∀ w, (Instr.build t vs.toArray).run P w = .ok v w)
  (hk : WA P w0 ops Q K0 A z plan' listed' n ((d, v) :: l') K hs) : WA P w0 ops Q K0 A z plan listed n l K hs := by
 unfold dbdAt at h0
 split at h0
 ·rename_i d' o' r L' l2 hh
  split at h0
  ·rename_i t' parts hop
   split at h0
   ·rename_i vs' hvs
    simp only [Option.some.injEq, Prod.mk.injEq] at h0
    obtain ⟨rfl, rfl, rfl, rfl, rfl, rfl, rfl⟩ := h0
    refine dop hT hsel k hh (fun a w ha => ?_) hk
    have h6 := evs_map ha _ _ hvs
    have h7 : (parts.map fun x => (x.1, a.eval x.2)) = vs'.toArray := by
     apply Array.ext'
     simpa using h6
    simp only [execOp, hop]
    have h8 := hv w
    rw [<- h7] at h8
    simp [h8]
   ·simp at h0
  ·simp at h0
 ·simp at h0
end dbd
end Go.En
end
