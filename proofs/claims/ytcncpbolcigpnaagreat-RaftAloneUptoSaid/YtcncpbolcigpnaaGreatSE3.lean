/-
  Part 3 of what the proof needs (texts Tn To Tp Tq Tr Ts Kf Ek Wa Cp Ua Cw Ub Cr Cm Ck Du Dx Co Cn Cg Ms Na Ne Ni Nl Uc Ud Wb).
-/
import Derived.Test.YtcncpbolcigpnaaGreatSE2
set_option linter.unusedSectionVars false
set_option linter.unusedSimpArgs false
set_option linter.unusedVariables false
section
namespace Go.Proofs.YtcncpbolcigpnaaGreat
open Go.En
attribute [local irreducible] Code.wp wpList Calls
theorem pisC {w0 : World} {K : PH} {hs : List PH} (g cap : Nat) (pre post : List Value) (xs : List Nat) (a b : Nat) (hab : a < b) (hb : b <= xs.length) (hc : xs.length <= cap) (hl : xs.length <= 1099511627776) (hlo : LoB a b xs) :
  Ct Tryz.prog w0 132 [.slice (some ⟨g, pre.length, none⟩) xs.length cap, .int .i64 ((a : Nat) : Int), .int .i64 ((b : Nat) : Int)] K (pt g (uA pre xs post) 37 :: hs)
   (fun v K' hs' => K' = K /\ ∃ ys, ∃ t : Bool, hs' = pt g (uA pre ys post) 37 :: hs /\ v = .bool t /\ SegP a b xs ys /\ (t = true -> Srt a b ys)) := by
 refine enter Tryz.func132 (by kernel_rfl) rfl rfl rfl ?_
 refine sq (rg ?_)
 refine fin hT 1 rfl (th (sq (rg ?_)))
 refine ar hT 1 rfl (i64w (x := ((a + 1 : Nat) : Int)) (by omega)) ?_
 refine fin hT 1 rfl (th (sq (sq (rg ?_))))
 refine fin hT 1 rfl (th (bk ?_))
 refine loop (σ := Nat × Nat × List Nat) (fun s => [(0, .slice (some ⟨g, pre.length, none⟩) xs.length cap), (1, .int .i64 ((a : Nat) : Int)), (2, .int .i64 ((b : Nat) : Int)), (7, .int .i64 ((s.2.1 : Nat) : Int)), (8, .int .i64 ((s.1 : Nat) : Int))]) (fun _ => K) (fun s => pt g (uA pre s.2.2 post) 37 :: hs)
  (fun s => s.1 <= 5 /\ a + 1 <= s.2.1 /\ s.2.1 <= b /\ SegP a b xs s.2.2 /\ Srt a s.2.1 s.2.2) (fun s => 5 - s.1) (0, a + 1, xs) ⟨by omega, Nat.le_refl _, by dsimp only; omega, SegP.refl _ _ _, Srt.zero _ _⟩ ⟨rfl, rfl, rfl, rfl, rfl, trivial⟩ rfl rfl ?_
 rintro ⟨k, i0, ys⟩ ⟨hk, hi0, hi0b, hP, hS0⟩
 dsimp only at *
 have hyl : ys.length = xs.length := hP.len
 refine sq (sq (rg ?_))
 refine cmpS hT 1 rfl fun b14 h14 => ?_
 refine fin hT 0 rfl (th (ifP h14 rfl (fun e2 => ?_) (fun e2 => ?_)))
 ·refine sk (th (sq (bk (jn (σ := Nat) (fun i => [(0, .slice (some ⟨g, pre.length, none⟩) xs.length cap), (1, .int .i64 ((a : Nat) : Int)), (2, .int .i64 ((b : Nat) : Int)), (7, .int .i64 ((i : Nat) : Int)), (8, .int .i64 ((k : Nat) : Int))]) (fun _ => pt g (uA pre ys post) 37 :: hs) (fun i => a + 1 <= i /\ i <= b /\ Srt a i ys) ?_ ?_))))
  ·refine bk ?_
   refine loop (σ := Nat) (fun i => [(0, .slice (some ⟨g, pre.length, none⟩) xs.length cap), (1, .int .i64 ((a : Nat) : Int)), (2, .int .i64 ((b : Nat) : Int)), (7, .int .i64 ((i : Nat) : Int)), (8, .int .i64 ((k : Nat) : Int))]) (fun _ => K) (fun _ => pt g (uA pre ys post) 37 :: hs) (fun i => a + 1 <= i /\ i <= b /\ Srt a i ys) (fun i => b - i) i0 ⟨hi0, hi0b, hS0⟩ ⟨rfl, rfl, rfl, rfl, rfl, trivial⟩ rfl rfl ?_
   rintro i ⟨hi1, hi2, hS⟩
   refine sq (sq (rga [pt g (uA pre ys post) 37] 16 [0, 2, 4, 6, 8, 10, 12, 14, 16, 18, 20, 22, 24, 27, 28, 30] (by simp) (by kernel_rfl) (by kernel_rfl) ?_))
   refine dcmp hT (by kernel_rfl) 2 (i < b) rfl (by simp) (fun h3 => ?_) (fun h3 => ?_)
   ·refine dixs hT (by kernel_rfl) 3 i rfl rfl (by omega) ?_
    simp only [add_mk, Nat.mul_one]
    refine dldp hT (by kernel_rfl) 0 0 rfl rfl (uA_get (by omega)) ?_
    refine dar hT (by kernel_rfl) 2 rfl (v' := .int .i64 ((i - 1 : Nat) : Int)) (by rw [show ((i : Nat) : Int) - 1 = ((i - 1 : Nat) : Int) from by omega]; exact i64w (by omega)) ?_
    refine dixs hT (by kernel_rfl) 0 (i - 1) rfl rfl (by omega) ?_
    simp only [add_mk, Nat.mul_one]
    refine dldp hT (by kernel_rfl) 0 0 rfl rfl (uA_get (by omega)) ?_
    refine dact hT (by kernel_rfl) 0 rfl ?_
    refine cl hT 0 rfl (lessC (ys.getD i 0) (ys.getD (i - 1) 0)) ?_
    rintro v30 K30 hs30 ⟨rfl, rfl, rfl⟩
    refine dnex [pt g (uA pre ys post) 37] (by simp) (by simp) rfl ?_
    by_cases hlt : ys.getD i 0 < ys.getD (i - 1) 0
    ·rw [decide_eq_true hlt]
     refine dend hT (by kernel_rfl) 2 rfl (th (ifF rfl ?_))
     refine ex (xt (xt (xb ?_)))
     exact jx i ⟨hi1, hi2, hS⟩ ⟨rfl, rfl, rfl, rfl, rfl, trivial⟩ rfl rfl
    ·rw [decide_eq_false hlt]
     refine dend hT (by kernel_rfl) 2 rfl (th (ifT rfl ?_))
     refine sk (th (bk (rg ?_)))
     refine ar hT 1 rfl (i64w (x := ((i + 1 : Nat) : Int)) (by omega)) ?_
     refine fin hT 1 rfl (bl ?_)
     exact again (x := i) (i + 1) ⟨rfl, rfl, rfl, rfl, rfl, trivial⟩ rfl rfl ⟨by omega, by omega, hS.snoc (by omega) (Nat.le_of_not_lt hlt)⟩ (by omega)
   ·refine dact hT (by kernel_rfl) 10 rfl ?_
    refine WL.pures hT 1 rfl ?_
    refine dnex [pt g (uA pre ys post) 37] (by simp) (by simp) rfl ?_
    refine dend hT (by kernel_rfl) 2 rfl (th (ifF rfl ?_))
    refine ex (xt (xt (xb ?_)))
    exact jx i ⟨hi1, hi2, hS⟩ ⟨rfl, rfl, rfl, rfl, rfl, trivial⟩ rfl rfl
  ·rintro i ⟨hi1, hi2, hS⟩
   refine sq (sq (rg ?_))
   refine cmpS hT 2 rfl fun b37 h37 => ?_
   refine fin hT 0 rfl (th (ifP h37 rfl (fun e6 => ?_) (fun e6 => ?_)))
   ·obtain rfl : i = b := by omega
    refine sq (rg ?_)
    refine fin hT 1 rfl (th (rt (rT (rB (rT (rT (rB (rT ?_))))))))
    exact ret1 rfl rfl ⟨rfl, ys, true, rfl, rfl, hP, fun _ => hS⟩
   ·refine sk (th (sq (sq (rg ?_))))
    refine ar hT 2 rfl (i64w (by omega)) ?_
    refine cmpS hT 0 rfl fun b41 h41 => ?_
    refine fin hT 0 rfl (th (ifP h41 rfl (fun e8 => ?_) (fun e8 => ?_)))
    ·refine sq (rg ?_)
     refine fin hT 1 rfl (th (rt (rT (rB (rT (rT (rB (rT ?_))))))))
     exact ret1 rfl rfl ⟨rfl, ys, false, rfl, rfl, hP, fun h => by cases h⟩
    ·have hib : i < b := by omega
     have hgj : (uA pre ys post)[pre.length + i]? = some (.int .u64 ((ys.getD i 0 : Nat) : Int)) := uA_get (by omega)
     have hgj1 : (uA pre ys post)[pre.length + (i - 1)]? = some (.int .u64 ((ys.getD (i - 1) 0 : Nat) : Int)) := uA_get (by omega)
     have hgj2 : (uA pre (ys.set i (ys.getD (i - 1) 0)) post)[pre.length + (i - 1)]? = some (.int .u64 (((ys.set i (ys.getD (i - 1) 0)).getD (i - 1) 0 : Nat) : Int)) := uA_get (by rw [List.length_set]; omega)
     refine sk (th (sq (rga [pt g (uA pre ys post) 37] 15 [0, 2, 4, 6, 8, 10, 12, 14, 16, 18, 20, 22, 24, 26, 28, 31, 32, 35] (by simp) (by kernel_rfl) (by kernel_rfl) ?_)))
     refine dar hT (by kernel_rfl) 4 rfl (v' := .int .i64 ((i - 1 : Nat) : Int)) (by rw [show ((i : Nat) : Int) - 1 = ((i - 1 : Nat) : Int) from by omega]; exact i64w (by omega)) ?_
     refine dar hT (by kernel_rfl) 2 rfl (v' := .int .i64 ((i - 1 : Nat) : Int)) (by rw [show ((i : Nat) : Int) - 1 = ((i - 1 : Nat) : Int) from by omega]; exact i64w (by omega)) ?_
     refine dixs hT (by kernel_rfl) 0 (i - 1) rfl rfl (by omega) ?_
     simp only [add_mk, Nat.mul_one]
     refine dldpw hT (by kernel_rfl) 0 0 rfl (by kernel_rfl) rfl hgj1 ?_
     refine dixs hT (by kernel_rfl) 2 i rfl rfl (by omega) ?_
     simp only [add_mk, Nat.mul_one]
     refine dldpw hT (by kernel_rfl) 0 0 rfl (by kernel_rfl) rfl hgj ?_
     refine dixs hT (by kernel_rfl) 0 i rfl rfl (by omega) ?_
     simp only [add_mk, Nat.mul_one]
     refine dact hT (by kernel_rfl) 0 rfl ?_
     refine stp hT 0 0 rfl rfl hgj rfl ?_
     refine dnext (.inl (by kernel_rfl)) ?_
     refine dixs hT (by kernel_rfl) 0 (i - 1) rfl rfl (by omega) ?_
     simp only [add_mk, Nat.mul_one]
     refine dact hT (by kernel_rfl) 0 rfl ?_
     refine WL.hs (pt g (uA pre (ys.set i (ys.getD (i - 1) 0)) post) 37 :: hs) (congrArg (fun z => pt g z 37 :: hs) (uA_set (by omega))) ?_
     refine stp hT 0 0 rfl rfl hgj2 rfl ?_
     refine WL.hs (pt g (uA pre (swp i (i - 1) ys) post) 37 :: hs) (congrArg (fun z => pt g z 37 :: hs) (uA_set (by rw [List.length_set]; omega))) ?_
     refine dnext (.inl (by kernel_rfl)) ?_
     have hP1 : SegP a b xs (swp i (i - 1) ys) := hP.trans (SegP.swp ⟨by omega, by omega⟩ ⟨by omega, by omega⟩ (by omega))
     have hS1 : Srt a (i - 1) (swp i (i - 1) ys) := Srt.same (xs := ys) (fun p q p1 p2 p3 => hS p q p1 p2 (by omega)) fun p p1 p2 => by rw [swp_getD (by omega) (by omega), if_neg (by omega), if_neg (by omega)]
     refine dend hT (by kernel_rfl) 0 rfl (th (jn (σ := List Nat) (fun _ => [(0, .slice (some ⟨g, pre.length, none⟩) xs.length cap), (1, .int .i64 ((a : Nat) : Int)), (2, .int .i64 ((b : Nat) : Int)), (7, .int .i64 ((i : Nat) : Int)), (8, .int .i64 ((k : Nat) : Int))]) (fun zs => pt g (uA pre zs post) 37 :: hs) (fun zs => SegP a b xs zs /\ Srt a i zs) ?_ ?_))
     ·refine sq (rg ?_)
      refine ar hT 2 rfl (i64w (by omega)) ?_
      refine cmpS hT 0 rfl fun b61 h61 => ?_
      refine fin hT 0 rfl (th (ifP h61 rfl (fun e10 => ?_) (fun e10 => ?_)))
      ·refine sq (rg ?_)
       refine ar hT 1 rfl (v' := .int .i64 ((i - 1 : Nat) : Int)) (by rw [show ((i : Nat) : Int) - 1 = ((i - 1 : Nat) : Int) from by omega]; exact i64w (by omega)) ?_
       refine fin hT 1 rfl (th (bk ?_))
       refine loop (σ := Nat × List Nat) (fun s => [(0, .slice (some ⟨g, pre.length, none⟩) xs.length cap), (1, .int .i64 ((a : Nat) : Int)), (2, .int .i64 ((b : Nat) : Int)), (7, .int .i64 ((i : Nat) : Int)), (8, .int .i64 ((k : Nat) : Int)), (9, .int .i64 ((s.1 : Nat) : Int))]) (fun _ => K) (fun s => pt g (uA pre s.2 post) 37 :: hs)
        (fun s => a <= s.1 /\ s.1 <= i - 1 /\ SegP a b xs s.2 /\ InvI a (i - 1) s.1 s.2) (fun s => s.1) (i - 1, swp i (i - 1) ys) ⟨by dsimp only; omega, Nat.le_refl _, hP1, InvI.start hS1⟩ ⟨rfl, rfl, rfl, rfl, rfl, rfl, trivial⟩ rfl rfl ?_
       rintro ⟨j, zs⟩ ⟨hj1, hj2, hQ, hV⟩
       dsimp only at *
       have hzl : zs.length = xs.length := hQ.len
       have hlz := hlo.perm hQ hb
       refine sq (sq (rg ?_))
       refine cmpS hT 1 rfl fun b65 h65 => ?_
       refine fin hT 0 rfl (th (ifP h65 rfl (fun e12 => ?_) (fun e12 => ?_)))
       ·refine sk (th (sq (bk (sq (sq (rga [pt g (uA pre zs post) 37] 11 [0, 2, 4, 6, 8, 10, 12, 14, 16, 19, 20] (by simp) (by kernel_rfl) (by kernel_rfl) ?_))))))
        refine dixs hT (by kernel_rfl) 2 j rfl rfl (by omega) ?_
        simp only [add_mk, Nat.mul_one]
        refine dldp hT (by kernel_rfl) 0 0 rfl rfl (uA_get (by omega)) ?_
        refine dar hT (by kernel_rfl) 2 rfl (v' := .int .i64 ((j - 1 : Nat) : Int)) (by rw [show ((j : Nat) : Int) - 1 = ((j - 1 : Nat) : Int) from by omega]; exact i64w (by omega)) ?_
        refine dixs hT (by kernel_rfl) 0 (j - 1) rfl rfl (by omega) ?_
        simp only [add_mk, Nat.mul_one]
        refine dldp hT (by kernel_rfl) 0 0 rfl rfl (uA_get (by omega)) ?_
        refine dact hT (by kernel_rfl) 0 rfl ?_
        refine cl hT 0 rfl (lessC (zs.getD j 0) (zs.getD (j - 1) 0)) ?_
        rintro v30 K30 hs30 ⟨rfl, rfl, rfl⟩
        refine dnex [pt g (uA pre zs post) 37] (by simp) (by simp) rfl ?_
        by_cases hlt : zs.getD j 0 < zs.getD (j - 1) 0
        ·have hja : a < j := by
          rcases Nat.lt_or_ge a j with h | h
          ·exact h
          ·obtain rfl : j = a := by omega
           have := hlz (j - 1) j (by omega) (Nat.le_refl _) (by omega)
           omega
         rw [decide_eq_true hlt]
         refine dend hT (by kernel_rfl) 1 rfl (th (ifF rfl ?_))
         have hgj : (uA pre zs post)[pre.length + j]? = some (.int .u64 ((zs.getD j 0 : Nat) : Int)) := uA_get (by omega)
         have hgj1 : (uA pre zs post)[pre.length + (j - 1)]? = some (.int .u64 ((zs.getD (j - 1) 0 : Nat) : Int)) := uA_get (by omega)
         have hgj2 : (uA pre (zs.set j (zs.getD (j - 1) 0)) post)[pre.length + (j - 1)]? = some (.int .u64 (((zs.set j (zs.getD (j - 1) 0)).getD (j - 1) 0 : Nat) : Int)) := uA_get (by rw [List.length_set]; omega)
         refine sk (th (rga [pt g (uA pre zs post) 37] 15 [0, 2, 4, 6, 8, 10, 12, 14, 16, 18, 20, 22, 24, 26, 28, 31, 32, 35] (by simp) (by kernel_rfl) (by kernel_rfl) ?_))
         refine dar hT (by kernel_rfl) 4 rfl (v' := .int .i64 ((j - 1 : Nat) : Int)) (by rw [show ((j : Nat) : Int) - 1 = ((j - 1 : Nat) : Int) from by omega]; exact i64w (by omega)) ?_
         refine dar hT (by kernel_rfl) 2 rfl (v' := .int .i64 ((j - 1 : Nat) : Int)) (by rw [show ((j : Nat) : Int) - 1 = ((j - 1 : Nat) : Int) from by omega]; exact i64w (by omega)) ?_
         refine dixs hT (by kernel_rfl) 0 (j - 1) rfl rfl (by omega) ?_
         simp only [add_mk, Nat.mul_one]
         refine dldpw hT (by kernel_rfl) 0 0 rfl (by kernel_rfl) rfl hgj1 ?_
         refine dixs hT (by kernel_rfl) 2 j rfl rfl (by omega) ?_
         simp only [add_mk, Nat.mul_one]
         refine dldpw hT (by kernel_rfl) 0 0 rfl (by kernel_rfl) rfl hgj ?_
         refine dixs hT (by kernel_rfl) 0 j rfl rfl (by omega) ?_
         simp only [add_mk, Nat.mul_one]
         refine dact hT (by kernel_rfl) 0 rfl ?_
         refine stp hT 0 0 rfl rfl hgj rfl ?_
         refine dnext (.inl (by kernel_rfl)) ?_
         refine dixs hT (by kernel_rfl) 0 (j - 1) rfl rfl (by omega) ?_
         simp only [add_mk, Nat.mul_one]
         refine dact hT (by kernel_rfl) 0 rfl ?_
         refine WL.hs (pt g (uA pre (zs.set j (zs.getD (j - 1) 0)) post) 37 :: hs) (congrArg (fun z => pt g z 37 :: hs) (uA_set (by omega))) ?_
         refine stp hT 0 0 rfl rfl hgj2 rfl ?_
         refine WL.hs (pt g (uA pre (swp j (j - 1) zs) post) 37 :: hs) (congrArg (fun z => pt g z 37 :: hs) (uA_set (by rw [List.length_set]; omega))) ?_
         refine dnext (.inl (by kernel_rfl)) ?_
         refine dend hT (by kernel_rfl) 0 rfl (bl (th (rg ?_)))
         refine ar hT 1 rfl (v' := .int .i64 ((j - 1 : Nat) : Int)) (by rw [show ((j : Nat) : Int) - 1 = ((j - 1 : Nat) : Int) from by omega]; exact i64w (by omega)) ?_
         refine fin hT 1 rfl ?_
         exact again (x := (j, zs)) (j - 1, swp j (j - 1) zs) ⟨rfl, rfl, rfl, rfl, rfl, rfl, trivial⟩ rfl rfl ⟨by dsimp only; omega, by dsimp only; omega, hQ.trans (SegP.swp ⟨by omega, by omega⟩ ⟨by omega, by omega⟩ (by omega)), hV.swap hja hj2 (by omega) hlt⟩ (by dsimp only; omega)
        ·have hdone : Srt a i zs := by
          rw [show i = i - 1 + 1 from by omega]
          rcases Nat.lt_or_ge a j with h | h
          ·exact hV.stop h (by omega)
          ·obtain rfl : j = a := by omega
           exact hV.done
         rw [decide_eq_false hlt]
         refine dend hT (by kernel_rfl) 1 rfl (th (ifT rfl ?_))
         refine ex (xt (xn rfl (xt (xt (xb ?_)))))
         exact jx zs ⟨hQ, hdone⟩ ⟨rfl, rfl, rfl, rfl, rfl, trivial⟩ rfl rfl
       ·have hdone : Srt a i zs := by
         rw [show i = i - 1 + 1 from by omega]
         obtain rfl : j = a := by omega
         exact hV.done
        refine ex (xt (xt (xb ?_)))
        exact jx zs ⟨hQ, hdone⟩ ⟨rfl, rfl, rfl, rfl, rfl, trivial⟩ rfl rfl
      ·refine sk ?_
       exact jx _ ⟨hP1, Srt.one (by omega)⟩ ⟨rfl, rfl, rfl, rfl, rfl, trivial⟩ rfl rfl
     ·rintro zs ⟨hQ, hSz⟩
      have hzl0 : zs.length = xs.length := hQ.len
      clear hS1 hP1 hgj2 hgj1 hgj hS hS0 hP hyl
      refine sq (rg ?_)
      refine ar hT 2 rfl (i64w (by omega)) ?_
      refine cmpS hT 0 rfl fun b98 h98 => ?_
      refine fin hT 0 rfl (th (ifP h98 rfl (fun e15 => ?_) (fun e15 => ?_)))
      ·refine sq (rg ?_)
       refine ar hT 1 rfl (i64w (x := ((i + 1 : Nat) : Int)) (by omega)) ?_
       refine fin hT 1 rfl (th (bk ?_))
       refine loop (σ := Nat × List Nat) (fun s => [(0, .slice (some ⟨g, pre.length, none⟩) xs.length cap), (1, .int .i64 ((a : Nat) : Int)), (2, .int .i64 ((b : Nat) : Int)), (7, .int .i64 ((i : Nat) : Int)), (8, .int .i64 ((k : Nat) : Int)), (10, .int .i64 ((s.1 : Nat) : Int))]) (fun _ => K) (fun s => pt g (uA pre s.2 post) 37 :: hs)
        (fun s => i + 1 <= s.1 /\ s.1 <= b /\ SegP a b xs s.2 /\ Srt a i s.2) (fun s => b - s.1) (i + 1, zs) ⟨Nat.le_refl _, by dsimp only; omega, hQ, hSz⟩ ⟨rfl, rfl, rfl, rfl, rfl, rfl, trivial⟩ rfl rfl ?_
       clear hQ hSz hzl0
       rintro ⟨j, us⟩ ⟨hj1, hj2, hQ, hSz⟩
       dsimp only at *
       have hul : us.length = xs.length := hQ.len
       refine sq (sq (rg ?_))
       refine cmpS hT 2 rfl fun b103 h103 => ?_
       refine fin hT 0 rfl (th (ifP h103 rfl (fun e17 => ?_) (fun e17 => ?_)))
       ·refine sk (th (sq (bk (sq (sq (rga [pt g (uA pre us post) 37] 11 [0, 2, 4, 6, 8, 10, 12, 14, 16, 19, 20] (by simp) (by kernel_rfl) (by kernel_rfl) ?_))))))
        refine dixs hT (by kernel_rfl) 2 j rfl rfl (by omega) ?_
        simp only [add_mk, Nat.mul_one]
        refine dldp hT (by kernel_rfl) 0 0 rfl rfl (uA_get (by omega)) ?_
        refine dar hT (by kernel_rfl) 2 rfl (v' := .int .i64 ((j - 1 : Nat) : Int)) (by rw [show ((j : Nat) : Int) - 1 = ((j - 1 : Nat) : Int) from by omega]; exact i64w (by omega)) ?_
        refine dixs hT (by kernel_rfl) 0 (j - 1) rfl rfl (by omega) ?_
        simp only [add_mk, Nat.mul_one]
        refine dldp hT (by kernel_rfl) 0 0 rfl rfl (uA_get (by omega)) ?_
        refine dact hT (by kernel_rfl) 0 rfl ?_
        refine cl hT 0 rfl (lessC (us.getD j 0) (us.getD (j - 1) 0)) ?_
        rintro v30 K30 hs30 ⟨rfl, rfl, rfl⟩
        refine dnex [pt g (uA pre us post) 37] (by simp) (by simp) rfl ?_
        by_cases hlt : us.getD j 0 < us.getD (j - 1) 0
        ·rw [decide_eq_true hlt]
         refine dend hT (by kernel_rfl) 1 rfl (th (ifF rfl ?_))
         have hgj : (uA pre us post)[pre.length + j]? = some (.int .u64 ((us.getD j 0 : Nat) : Int)) := uA_get (by omega)
         have hgj1 : (uA pre us post)[pre.length + (j - 1)]? = some (.int .u64 ((us.getD (j - 1) 0 : Nat) : Int)) := uA_get (by omega)
         have hgj2 : (uA pre (us.set j (us.getD (j - 1) 0)) post)[pre.length + (j - 1)]? = some (.int .u64 (((us.set j (us.getD (j - 1) 0)).getD (j - 1) 0 : Nat) : Int)) := uA_get (by rw [List.length_set]; omega)
         refine sk (th (rga [pt g (uA pre us post) 37] 15 [0, 2, 4, 6, 8, 10, 12, 14, 16, 18, 20, 22, 24, 26, 28, 31, 32, 35] (by simp) (by kernel_rfl) (by kernel_rfl) ?_))
         refine dar hT (by kernel_rfl) 4 rfl (v' := .int .i64 ((j - 1 : Nat) : Int)) (by rw [show ((j : Nat) : Int) - 1 = ((j - 1 : Nat) : Int) from by omega]; exact i64w (by omega)) ?_
         refine dar hT (by kernel_rfl) 2 rfl (v' := .int .i64 ((j - 1 : Nat) : Int)) (by rw [show ((j : Nat) : Int) - 1 = ((j - 1 : Nat) : Int) from by omega]; exact i64w (by omega)) ?_
         refine dixs hT (by kernel_rfl) 0 (j - 1) rfl rfl (by omega) ?_
         simp only [add_mk, Nat.mul_one]
         refine dldpw hT (by kernel_rfl) 0 0 rfl (by kernel_rfl) rfl hgj1 ?_
         refine dixs hT (by kernel_rfl) 2 j rfl rfl (by omega) ?_
         simp only [add_mk, Nat.mul_one]
         refine dldpw hT (by kernel_rfl) 0 0 rfl (by kernel_rfl) rfl hgj ?_
         refine dixs hT (by kernel_rfl) 0 j rfl rfl (by omega) ?_
         simp only [add_mk, Nat.mul_one]
         refine dact hT (by kernel_rfl) 0 rfl ?_
         refine stp hT 0 0 rfl rfl hgj rfl ?_
         refine dnext (.inl (by kernel_rfl)) ?_
         refine dixs hT (by kernel_rfl) 0 (j - 1) rfl rfl (by omega) ?_
         simp only [add_mk, Nat.mul_one]
         refine dact hT (by kernel_rfl) 0 rfl ?_
         refine WL.hs (pt g (uA pre (us.set j (us.getD (j - 1) 0)) post) 37 :: hs) (congrArg (fun z => pt g z 37 :: hs) (uA_set (by omega))) ?_
         refine stp hT 0 0 rfl rfl hgj2 rfl ?_
         refine WL.hs (pt g (uA pre (swp j (j - 1) us) post) 37 :: hs) (congrArg (fun z => pt g z 37 :: hs) (uA_set (by rw [List.length_set]; omega))) ?_
         refine dnext (.inl (by kernel_rfl)) ?_
         refine dend hT (by kernel_rfl) 0 rfl (bl (th (rg ?_)))
         refine ar hT 1 rfl (i64w (x := ((j + 1 : Nat) : Int)) (by omega)) ?_
         refine fin hT 1 rfl ?_
         exact again (x := (j, us)) (j + 1, swp j (j - 1) us) ⟨rfl, rfl, rfl, rfl, rfl, rfl, trivial⟩ rfl rfl ⟨by dsimp only; omega, by dsimp only; omega, hQ.trans (SegP.swp ⟨by omega, by omega⟩ ⟨by omega, by omega⟩ (by omega)), hSz.same fun p p1 p2 => by rw [swp_getD (by omega) (by omega), if_neg (by omega), if_neg (by omega)]⟩ (by dsimp only; omega)
        ·rw [decide_eq_false hlt]
         refine dend hT (by kernel_rfl) 1 rfl (th (ifT rfl ?_))
         refine ex (xt (xn rfl (xt (xt (xb (bl (th (rg ?_))))))))
         refine ar hT 1 rfl (i64w (x := ((k + 1 : Nat) : Int)) (by omega)) ?_
         refine fin hT 1 rfl ?_
         exact again (x := (k, i0, ys)) (k + 1, i, us) ⟨rfl, rfl, rfl, rfl, rfl, trivial⟩ rfl rfl ⟨by dsimp only; omega, hi1, hi2, hQ, hSz⟩ (by dsimp only; omega)
       ·refine ex (xt (xt (xb (bl (th (rg ?_))))))
        refine ar hT 1 rfl (i64w (x := ((k + 1 : Nat) : Int)) (by omega)) ?_
        refine fin hT 1 rfl ?_
        exact again (x := (k, i0, ys)) (k + 1, i, us) ⟨rfl, rfl, rfl, rfl, rfl, trivial⟩ rfl rfl ⟨by dsimp only; omega, hi1, hi2, hQ, hSz⟩ (by dsimp only; omega)
      ·refine sk (bl (th (rg ?_)))
       refine ar hT 1 rfl (i64w (x := ((k + 1 : Nat) : Int)) (by omega)) ?_
       refine fin hT 1 rfl ?_
       exact again (x := (k, i0, ys)) (k + 1, i, zs) ⟨rfl, rfl, rfl, rfl, rfl, trivial⟩ rfl rfl ⟨by dsimp only; omega, hi1, hi2, hQ, hSz⟩ (by dsimp only; omega)
 ·refine ex (xt (xt (xb (th (sq (rg ?_))))))
  refine fin hT 1 rfl (th (rt ?_))
  exact ret1 rfl rfl ⟨rfl, ys, false, rfl, rfl, hP, fun h => by cases h⟩
end Go.Proofs.YtcncpbolcigpnaaGreat
end
section
namespace Go.En
theorem u64shr (m : Nat) (b : Int) (k : Nat) (hb : b = ((k : Nat) : Int)) (hk : k <= 64) : Value.int .u64 (((m : Nat) : Int).fdiv (2 ^ (min b.toNat IntKind.u64.bits))) = .int .u64 ((m / 2 ^ k : Nat) : Int) := by
 have e : min b.toNat IntKind.u64.bits = k := by
  have : IntKind.u64.bits = 64 := rfl
  omega
 rw [e]
 have h2 : ((2 : Int) ^ k) = ((2 ^ k : Nat) : Int) := by push_cast; rfl
 rw [h2, Int.fdiv_eq_ediv_of_nonneg _ (Int.natCast_nonneg _)]
 rfl
theorem u64any (x : Int) : ∃ m : Nat, m < 18446744073709551616 /\ Value.int .u64 (IntKind.u64.wrap x) = .int .u64 ((m : Nat) : Int) := by
 have e : IntKind.u64.wrap x = x % 18446744073709551616 := by simp [IntKind.wrap, IntKind.bits, IntKind.signed]
 refine ⟨(x % 18446744073709551616).toNat, by omega, ?_⟩
 rw [e, Int.toNat_of_nonneg (by omega)]
theorem u64andM (m n : Nat) (hm : m < 18446744073709551616) (hn : n <= 63) :
  Value.int .u64 (IntKind.u64.wrap (BitVec.ofInt 64 ((m : Nat) : Int) &&& BitVec.ofInt 64 ((2 ^ n - 1 : Nat) : Int)).toNat) = .int .u64 ((m % 2 ^ n : Nat) : Int) := by
 have hp : 2 ^ n < 18446744073709551616 := Nat.lt_of_le_of_lt (Nat.pow_le_pow_right (by decide) hn) (by decide)
 have h1 : m % 2 ^ n <= m := Nat.mod_le _ _
 rw [BitVec.toNat_and, BitVec.ofInt_natCast, BitVec.ofInt_natCast, BitVec.toNat_ofNat, BitVec.toNat_ofNat, Nat.mod_eq_of_lt (a := m) (by omega), Nat.mod_eq_of_lt (a := 2 ^ n - 1) (by omega), Nat.and_two_pow_sub_one_eq_mod, u64m, Nat.mod_eq_of_lt (by omega)]
def L8 : List UInt8 := (List.range 256).map fun b => if b = 0 then 0 else UInt8.ofNat (Nat.log2 b + 1)
theorem L8_get (b : Nat) (h : b < 256) : ∃ c : UInt8, L8[b]? = some c /\ c.toNat <= 8 /\ b < 2 ^ c.toNat /\ (0 < b -> 2 ^ c.toNat <= 2 * b) := by
 have hd : ∀ b : Fin 256, ((L8[b.1]?).map fun c => decide (c.toNat <= 8 /\ b.1 < 2 ^ c.toNat /\ (0 < b.1 -> 2 ^ c.toNat <= 2 * b.1))) = some true := by decide +kernel
 have := hd ⟨b, h⟩
 cases hc : L8[b]? with
 | none => rw [hc] at this; cases this
 | some c =>
  rw [hc] at this
  simp only [Option.map_some, Option.some.injEq] at this
  exact ⟨c, rfl, of_decide_eq_true this⟩
def LenI (x n y : Nat) : Prop := y * 2 ^ n <= x /\ x < (y + 1) * 2 ^ n /\ (0 < x -> 0 < y)
theorem LenI.start (x : Nat) : LenI x 0 x := ⟨by simp, by simp, id⟩
theorem LenI.up {x n y k : Nat} (h : LenI x n y) (hy : 2 ^ k <= y) : LenI x (n + k) (y / 2 ^ k) := by
 have hp : 0 < 2 ^ k := Nat.pow_pos (by decide)
 obtain ⟨h1, h2, h3⟩ := h
 have e : 2 ^ (n + k) = 2 ^ k * 2 ^ n := by rw [Nat.pow_add, Nat.mul_comm]
 refine ⟨?_, ?_, fun _ => Nat.div_pos hy hp⟩
 ·rw [e, <- Nat.mul_assoc]
  exact Nat.le_trans (Nat.mul_le_mul_right _ (Nat.div_mul_le_self y _)) h1
 ·rw [e, <- Nat.mul_assoc]
  refine Nat.lt_of_lt_of_le h2 (Nat.mul_le_mul_right _ ?_)
  have := Nat.lt_div_mul_add (a := y) hp
  rw [Nat.add_mul, Nat.one_mul]
  omega
theorem LenI.done {x n y c : Nat} (h : LenI x n y) (h1 : y < 2 ^ c) (h2 : 0 < y -> 2 ^ c <= 2 * y) : x < 2 ^ (n + c) /\ (0 < x -> 2 ^ (n + c) <= 2 * x) := by
 obtain ⟨g1, g2, g3⟩ := h
 have e : 2 ^ (n + c) = 2 ^ c * 2 ^ n := by rw [Nat.pow_add, Nat.mul_comm]
 refine ⟨?_, fun hx => ?_⟩
 ·rw [e]; exact Nat.lt_of_lt_of_le g2 (Nat.mul_le_mul_right _ h1)
 ·rw [e]
  refine Nat.le_trans (Nat.mul_le_mul_right _ (h2 (g3 hx))) ?_
  rw [Nat.mul_assoc]
  exact Nat.mul_le_mul_left _ g1
end Go.En
namespace Go.Proofs.YtcncpbolcigpnaaGreat
open Go.En
attribute [local irreducible] Code.wp wpList Calls
theorem len64C {w0 : World} {K : PH} {hs : List PH} (x : Nat) (hx : x < 18446744073709551616) : Ct Tryz.prog w0 137 [.int .u64 ((x : Nat) : Int)] K hs
  (fun v K' hs' => K' = K /\ hs' = hs /\ ∃ n : Nat, v = .int .i64 ((n : Nat) : Int) /\ n <= 64 /\ x < 2 ^ n /\ (0 < x -> 2 ^ n <= 2 * x)) := by
 refine enter Tryz.func137 (by kernel_rfl) rfl rfl rfl ?_
 refine sq (rg ?_)
 refine fin hT 1 rfl (th (jn (σ := Nat × Nat) (fun s => [(0, .int .u64 ((s.1 : Nat) : Int)), (2, .int .i64 ((s.2 : Nat) : Int))]) (fun _ => hs) (fun s => LenI x s.2 s.1 /\ s.1 < 4294967296 /\ s.2 <= 32) ?_ ?_))
 ·refine sq (rg ?_)
  refine cmpS hT 1 rfl fun b4 h4 => ?_
  refine fin hT 0 rfl (th (ifP h4 rfl (fun e2 => ?_) (fun e2 => ?_)))
  ·refine sq (rg ?_)
   refine ar hT 1 rfl (u64shr x _ 32 rfl (by omega)) ?_
   refine fin hT 1 rfl (th (rg ?_))
   refine fin hT 1 rfl ?_
   exact jx (x / 2 ^ 32, 32) ⟨by simpa using (LenI.start x).up (k := 32) (by omega), by dsimp only; omega, Nat.le_refl _⟩ ⟨rfl, rfl, trivial⟩ rfl rfl
  ·refine sk ?_
   exact jx (x, 0) ⟨LenI.start x, by dsimp only; omega, by dsimp only; omega⟩ ⟨rfl, rfl, trivial⟩ rfl rfl
 ·rintro ⟨y, n⟩ ⟨hL, hy, hn⟩
  dsimp only at *
  refine jn (σ := Nat × Nat) (fun s => [(0, .int .u64 ((s.1 : Nat) : Int)), (2, .int .i64 ((s.2 : Nat) : Int))]) (fun _ => hs) (fun s => LenI x s.2 s.1 /\ s.1 < 65536 /\ s.2 <= 48) ?_ ?_
  ·refine sq (rg ?_)
   refine cmpS hT 1 rfl fun b8 h8 => ?_
   refine fin hT 0 rfl (th (ifP h8 rfl (fun e4 => ?_) (fun e4 => ?_)))
   ·refine sq (rg ?_)
    refine ar hT 1 rfl (u64shr y _ 16 rfl (by omega)) ?_
    refine fin hT 1 rfl (th (rg ?_))
    refine ar hT 1 rfl (i64w (x := ((n + 16 : Nat) : Int)) (by omega)) ?_
    refine fin hT 1 rfl ?_
    exact jx (y / 2 ^ 16, n + 16) ⟨hL.up (by omega), by dsimp only; omega, by dsimp only; omega⟩ ⟨rfl, rfl, trivial⟩ rfl rfl
   ·refine sk ?_
    exact jx (y, n) ⟨hL, by dsimp only; omega, by dsimp only; omega⟩ ⟨rfl, rfl, trivial⟩ rfl rfl
  ·clear hL hy hn
   rintro ⟨y, n⟩ ⟨hL, hy, hn⟩
   dsimp only at *
   refine jn (σ := Nat × Nat) (fun s => [(0, .int .u64 ((s.1 : Nat) : Int)), (2, .int .i64 ((s.2 : Nat) : Int))]) (fun _ => hs) (fun s => LenI x s.2 s.1 /\ s.1 < 256 /\ s.2 <= 56) ?_ ?_
   ·refine sq (rg ?_)
    refine cmpS hT 1 rfl fun b14 h14 => ?_
    refine fin hT 0 rfl (th (ifP h14 rfl (fun e6 => ?_) (fun e6 => ?_)))
    ·refine sq (rg ?_)
     refine ar hT 1 rfl (u64shr y _ 8 rfl (by omega)) ?_
     refine fin hT 1 rfl (th (rg ?_))
     refine ar hT 1 rfl (i64w (x := ((n + 8 : Nat) : Int)) (by omega)) ?_
     refine fin hT 1 rfl ?_
     exact jx (y / 2 ^ 8, n + 8) ⟨hL.up (by omega), by dsimp only; omega, by dsimp only; omega⟩ ⟨rfl, rfl, trivial⟩ rfl rfl
    ·refine sk ?_
     exact jx (y, n) ⟨hL, by dsimp only; omega, by dsimp only; omega⟩ ⟨rfl, rfl, trivial⟩ rfl rfl
   ·clear hL hy hn
    rintro ⟨y, n⟩ ⟨hL, hy, hn⟩
    dsimp only at *
    obtain ⟨c, hc, hc8, hc1, hc2⟩ := L8_get y hy
    refine sq (rg ?_)
    refine ar hT 2 rfl (u8w (by omega)) ?_
    refine six hT 0 L8 y rfl (by kernel_rfl) rfl hc ?_
    refine ar hT 0 rfl (i64w (by omega)) ?_
    refine ar hT 0 rfl (i64w (x := ((n + c.toNat : Nat) : Int)) (by omega)) ?_
    refine fin hT 1 rfl (th (rt ?_))
    exact ret1 rfl rfl ⟨rfl, rfl, n + c.toNat, rfl, by omega, hL.done hc1 hc2⟩
theorem lenC {w0 : World} {K : PH} {hs : List PH} (x : Nat) (hx : x < 18446744073709551616) : Ct Tryz.prog w0 123 [.int .u64 ((x : Nat) : Int)] K hs
  (fun v K' hs' => K' = K /\ hs' = hs /\ ∃ n : Nat, v = .int .i64 ((n : Nat) : Int) /\ n <= 64 /\ x < 2 ^ n /\ (0 < x -> 2 ^ n <= 2 * x)) := by
 refine enter Tryz.func123 (by kernel_rfl) rfl rfl rfl ?_
 refine sq (rg ?_)
 refine fin hT 1 rfl (th (sq (ifF rfl (sk (th (sq (rg ?_)))))))
 refine cl hT 1 rfl (len64C x hx) ?_
 rintro v7 K7 hs7 ⟨rfl, rfl, n, rfl, h1, h2, h3⟩
 refine fin hT 1 rfl (th (rt ?_))
 exact ret1 rfl rfl ⟨rfl, rfl, n, rfl, h1, h2, h3⟩
theorem npC {w0 : World} {K : PH} {hs : List PH} (x : Nat) (hx : 0 < x /\ x <= 1099511627776) : Ct Tryz.prog w0 140 [.int .i64 ((x : Nat) : Int)] K hs
  (fun v K' hs' => K' = K /\ hs' = hs /\ ∃ n : Nat, v = .int .u64 ((2 ^ n : Nat) : Int) /\ n <= 41 /\ 2 ^ n <= 2 * x) := by
 refine enter Tryz.func140 (by kernel_rfl) rfl rfl rfl ?_
 refine sq (rg ?_)
 refine fin hT 1 rfl (th (sq (rg ?_)))
 refine ar hT 1 rfl (u64w (by omega)) ?_
 refine cl hT 0 rfl (lenC x (by omega)) ?_
 rintro v5 K5 hs5 ⟨rfl, rfl, n, rfl, h1, h2, h3⟩
 have h4 := h3 hx.1
 have h5 : n <= 41 := by
  rcases Nat.lt_or_ge 41 n with h | h
  ·have : 2 ^ 42 <= 2 ^ n := Nat.pow_le_pow_right (by decide) h
   omega
  ·exact h
 refine shf hT 0 rfl (by omega) (.inl ⟨rfl, (show Value.int .u64 (IntKind.u64.wrap ((1 : Int) * 2 ^ (min ((n : Nat) : Int).toNat IntKind.u64.bits))) = .int .u64 ((2 ^ n : Nat) : Int) from by
  have e : min ((n : Nat) : Int).toNat IntKind.u64.bits = n := by
   have : IntKind.u64.bits = 64 := rfl
   omega
  rw [e, Int.one_mul, show ((2 : Int) ^ n) = ((2 ^ n : Nat) : Int) from by push_cast; rfl]
  exact u64w (by omega))⟩) ?_
 refine fin hT 1 rfl (th (rt ?_))
 exact ret1 rfl rfl ⟨rfl, rfl, n, rfl, h5, h4⟩
theorem xorC {w0 : World} {K : PH} {hs : List PH} (r : Nat) (x : Int) : Ct Tryz.prog w0 141 [.pointer (some ⟨r, 0, none⟩)] K (pt r #[.int .u64 x] 210 :: hs)
  (fun v K' hs' => K' = K /\ ∃ m : Nat, m < 18446744073709551616 /\ hs' = pt r #[.int .u64 ((m : Nat) : Int)] 210 :: hs /\ v = .int .u64 ((m : Nat) : Int)) := by
 refine enter Tryz.func141 (by kernel_rfl) rfl rfl rfl ?_
 refine sq (rg ?_)
 refine fin hT 1 rfl (th (sq (rga [pt r #[.int .u64 x] 210] 9 [0, 2, 4, 6, 8, 10, 12, 14, 16, 19] (by simp) (by kernel_rfl) (by kernel_rfl) ?_)))
 refine dldpw hT (by kernel_rfl) 2 0 rfl (by kernel_rfl) rfl rfl ?_
 refine dldpw hT (by kernel_rfl) 2 0 rfl (by kernel_rfl) rfl rfl ?_
 refine dar hT (by kernel_rfl) 0 rfl rfl ?_
 refine dar hT (by kernel_rfl) 0 rfl rfl ?_
 refine dact hT (by kernel_rfl) 1 rfl ?_
 refine stp hT 0 0 rfl rfl rfl rfl ?_
 refine dnext (.inl (by kernel_rfl)) ?_
 obtain ⟨x1, hx1⟩ : ∃ x1, x1 = (IntKind.u64.wrap (BitVec.ofInt 64 x ^^^ BitVec.ofInt 64 (IntKind.u64.wrap (x * 2 ^ (min (13 : Int).toNat IntKind.u64.bits)))).toNat : Int) := ⟨_, rfl⟩
 refine dend hT (by kernel_rfl) 0 rfl (th (sq ?_))
 refine WC.perm (hs' := pt r #[.int .u64 x1] 210 :: hs) (by rw [hx1]; exact List.Perm.refl _) ?_
 refine rga [pt r #[.int .u64 x1] 210] 9 [0, 2, 4, 6, 8, 10, 12, 14, 16, 19] (by simp) (by kernel_rfl) (by kernel_rfl) ?_
 refine dldpw hT (by kernel_rfl) 2 0 rfl (by kernel_rfl) rfl rfl ?_
 refine dldpw hT (by kernel_rfl) 2 0 rfl (by kernel_rfl) rfl rfl ?_
 refine dar hT (by kernel_rfl) 0 rfl rfl ?_
 refine dar hT (by kernel_rfl) 0 rfl rfl ?_
 refine dact hT (by kernel_rfl) 1 rfl ?_
 refine stp hT 0 0 rfl rfl rfl rfl ?_
 refine dnext (.inl (by kernel_rfl)) ?_
 obtain ⟨x2, hx2⟩ : ∃ x2, x2 = (IntKind.u64.wrap (BitVec.ofInt 64 x1 ^^^ BitVec.ofInt 64 (x1.fdiv (2 ^ (min (7 : Int).toNat IntKind.u64.bits)))).toNat : Int) := ⟨_, rfl⟩
 refine dend hT (by kernel_rfl) 0 rfl (th (sq ?_))
 refine WC.perm (hs' := pt r #[.int .u64 x2] 210 :: hs) (by rw [hx2]; exact List.Perm.refl _) ?_
 refine rga [pt r #[.int .u64 x2] 210] 9 [0, 2, 4, 6, 8, 10, 12, 14, 16, 19] (by simp) (by kernel_rfl) (by kernel_rfl) ?_
 refine dldpw hT (by kernel_rfl) 2 0 rfl (by kernel_rfl) rfl rfl ?_
 refine dldpw hT (by kernel_rfl) 2 0 rfl (by kernel_rfl) rfl rfl ?_
 refine dar hT (by kernel_rfl) 0 rfl rfl ?_
 obtain ⟨m, hm, he⟩ := u64any (BitVec.ofInt 64 x2 ^^^ BitVec.ofInt 64 (IntKind.u64.wrap (x2 * 2 ^ (min (17 : Int).toNat IntKind.u64.bits)))).toNat
 refine dar hT (by kernel_rfl) 0 rfl he ?_
 refine dact hT (by kernel_rfl) 1 rfl ?_
 refine stp hT 0 0 rfl rfl rfl rfl ?_
 refine dnext (.inl (by kernel_rfl)) ?_
 refine dend hT (by kernel_rfl) 0 rfl (th (sq (rg ?_)))
 refine ldp hT 2 0 rfl rfl rfl ?_
 refine fin hT 1 rfl (th (rt ?_))
 exact ret1 rfl rfl ⟨rfl, m, hm, rfl, rfl⟩
end Go.Proofs.YtcncpbolcigpnaaGreat
end
section
namespace Go.Proofs.YtcncpbolcigpnaaGreat
open Go.En
attribute [local irreducible] Code.wp wpList Calls
theorem brkC {w0 : World} {K : PH} {hs : List PH} (g cap : Nat) (pre post : List Value) (xs : List Nat) (a b : Nat) (hab : a + 8 <= b) (hb : b <= xs.length) (hc : xs.length <= cap) (hl : xs.length <= 1099511627776) :
  Ct Tryz.prog w0 129 [.slice (some ⟨g, pre.length, none⟩) xs.length cap, .int .i64 ((a : Nat) : Int), .int .i64 ((b : Nat) : Int)] K (pt g (uA pre xs post) 37 :: hs)
   (fun v K' hs' => K' = K /\ ∃ ys, hs' = pt g (uA pre ys post) 37 :: hs /\ SegP a b xs ys) := by
 obtain ⟨n, hn⟩ : ∃ n, n = b - a := ⟨_, rfl⟩
 refine enter Tryz.func129 (by kernel_rfl) rfl rfl rfl ?_
 refine sq (rg ?_)
 refine ar hT 2 rfl (v' := .int .i64 ((n : Nat) : Int)) (by rw [show ((b : Nat) : Int) - ((a : Nat) : Int) = ((n : Nat) : Int) from by omega]; exact i64w (by omega)) ?_
 refine fin hT 1 rfl (th (sq (rg ?_)))
 refine cmpS hT 1 rfl fun b15 h15 => ?_
 refine fin hT 0 rfl (th (ifPT h15 (by omega) rfl ?_))
 refine sq (rg ?_)
 refine ar hT 1 rfl (u64w (by omega)) ?_
 refine al hT 0 (.int .u64 0) rfl (by kernel_rfl) fun r => ?_
 refine stp hT 0 0 rfl rfl rfl rfl ?_
 refine fin hT 0 rfl (th (sq (rg ?_)))
 refine cl hT 1 rfl (npC n (by omega)) ?_
 rintro v19 K19 hs19 ⟨rfl, rfl, w, rfl, hw, hw2⟩
 have hq1 : n / 4 * 2 + 1 < n := by omega
 have hq2 : 2 <= n / 4 := by omega
 refine fin hT 1 rfl (th (sq (rg ?_)))
 refine ar hT 2 rfl (quoN n 4 (by omega)) ?_
 refine ar hT 0 rfl (i64w (x := ((n / 4 * 2 : Nat) : Int)) (by omega)) ?_
 refine ar hT 0 rfl (i64w (x := ((a + n / 4 * 2 : Nat) : Int)) (by omega)) ?_
 refine ar hT 0 rfl (v' := .int .i64 ((a + n / 4 * 2 - 1 : Nat) : Int)) (by rw [show ((a + n / 4 * 2 : Nat) : Int) - 1 = ((a + n / 4 * 2 - 1 : Nat) : Int) from by omega]; exact i64w (by omega)) ?_
 refine fin hT 1 rfl (th (bk ?_))
 refine loop (σ := Nat × Nat × List Nat) (fun s => [(0, .slice (some ⟨g, pre.length, none⟩) xs.length cap), (1, .int .i64 ((a : Nat) : Int)), (6, .int .i64 ((n : Nat) : Int)), (7, .pointer (some ⟨r, 0, none⟩)), (8, .int .u64 ((2 ^ w : Nat) : Int)), (9, .int .i64 ((s.1 : Nat) : Int))]) (fun _ => K19) (fun s => pt r #[.int .u64 ((s.2.1 : Nat) : Int)] 210 :: pt g (uA pre s.2.2 post) 37 :: hs)
  (fun s => a <= s.1 /\ s.1 <= a + n / 4 * 2 + 2 /\ SegP a b xs s.2.2) (fun s => b - s.1) (a + n / 4 * 2 - 1, n, xs) ⟨by dsimp only; omega, by dsimp only; omega, SegP.refl _ _ _⟩ ⟨rfl, rfl, rfl, rfl, rfl, rfl, trivial⟩ rfl rfl ?_
 rintro ⟨i, m0, ys⟩ ⟨hi1, hi2, hP⟩
 dsimp only at *
 have hyl : ys.length = xs.length := hP.len
 refine sq (sq (rg ?_))
 refine ar hT 3 rfl (quoN n 4 (by omega)) ?_
 refine ar hT 0 rfl (i64w (x := ((n / 4 * 2 : Nat) : Int)) (by omega)) ?_
 refine ar hT 0 rfl (i64w (x := ((a + n / 4 * 2 : Nat) : Int)) (by omega)) ?_
 refine ar hT 0 rfl (i64w (x := ((a + n / 4 * 2 + 1 : Nat) : Int)) (by omega)) ?_
 refine cmpS hT 0 rfl fun b33 h33 => ?_
 refine fin hT 0 rfl (th (ifP h33 rfl (fun e4 => ?_) (fun e4 => ?_)))
 ·refine sk (th (sq (bk (sq (rg ?_)))))
  refine cl hT 0 rfl (xorC r ((m0 : Nat) : Int)) ?_
  rintro v36 K36 hs36 ⟨rfl, m, hm, rfl, rfl⟩
  have hwp : 0 < 2 ^ w := Nat.pow_pos (by decide)
  refine ar hT 1 rfl (v' := .int .u64 ((2 ^ w - 1 : Nat) : Int)) (by rw [show ((2 ^ w : Nat) : Int) - 1 = ((2 ^ w - 1 : Nat) : Int) from by omega]; exact u64w (by omega)) ?_
  refine ar hT 0 rfl (u64andM m w hm (by omega)) ?_
  have hmm : m % 2 ^ w < 2 ^ w := Nat.mod_lt _ hwp
  obtain ⟨o, ho⟩ : ∃ o, o = m % 2 ^ w := ⟨_, rfl⟩
  rw [<- ho] at hmm ⊢
  refine ar hT 0 rfl (i64w (x := ((o : Nat) : Int)) (by omega)) ?_
  refine fin hT 1 rfl (th (jn (σ := Nat) (fun o => [(0, .slice (some ⟨g, pre.length, none⟩) xs.length cap), (1, .int .i64 ((a : Nat) : Int)), (6, .int .i64 ((n : Nat) : Int)), (7, .pointer (some ⟨r, 0, none⟩)), (8, .int .u64 ((2 ^ w : Nat) : Int)), (9, .int .i64 ((i : Nat) : Int)), (10, .int .i64 ((o : Nat) : Int))]) (fun _ => pt r #[.int .u64 ((m : Nat) : Int)] 210 :: pt g (uA pre ys post) 37 :: hs) (fun o => o < n) ?_ ?_))
  ·refine sq (rg ?_)
   refine cmpS hT 2 rfl fun b43 h43 => ?_
   refine fin hT 0 rfl (th (ifP h43 rfl (fun e6 => ?_) (fun e6 => ?_)))
   ·refine rg ?_
    refine ar hT 2 rfl (v' := .int .i64 ((o - n : Nat) : Int)) (by rw [show ((o : Nat) : Int) - ((n : Nat) : Int) = ((o - n : Nat) : Int) from by omega]; exact i64w (by omega)) ?_
    refine fin hT 1 rfl ?_
    exact jx (o - n) (by omega) ⟨rfl, rfl, rfl, rfl, rfl, rfl, rfl, trivial⟩ rfl rfl
   ·refine sk ?_
    exact jx o (by omega) ⟨rfl, rfl, rfl, rfl, rfl, rfl, rfl, trivial⟩ rfl rfl
  ·clear ho hmm o
   intro o ho
   have hgi : (uA pre ys post)[pre.length + i]? = some (.int .u64 ((ys.getD i 0 : Nat) : Int)) := uA_get (by omega)
   have hgo : (uA pre ys post)[pre.length + (a + o)]? = some (.int .u64 ((ys.getD (a + o) 0 : Nat) : Int)) := uA_get (by omega)
   have hgo2 : (uA pre (ys.set i (ys.getD (a + o) 0)) post)[pre.length + (a + o)]? = some (.int .u64 (((ys.set i (ys.getD (a + o) 0)).getD (a + o) 0 : Nat) : Int)) := uA_get (by rw [List.length_set]; omega)
   refine rga [pt g (uA pre ys post) 37] 17 [0, 2, 4, 6, 8, 10, 12, 14, 16, 18, 20, 22, 24, 26, 28, 30, 32, 35, 36, 39] (by simp) (by kernel_rfl) (by kernel_rfl) ?_
   refine dar hT (by kernel_rfl) 5 rfl (i64w (x := ((a + o : Nat) : Int)) (by omega)) ?_
   refine dar hT (by kernel_rfl) 3 rfl (i64w (x := ((a + o : Nat) : Int)) (by omega)) ?_
   refine dixs hT (by kernel_rfl) 0 (a + o) rfl rfl (by omega) ?_
   simp only [add_mk, Nat.mul_one]
   refine dldpw hT (by kernel_rfl) 0 0 rfl (by kernel_rfl) rfl hgo ?_
   refine dixs hT (by kernel_rfl) 2 i rfl rfl (by omega) ?_
   simp only [add_mk, Nat.mul_one]
   refine dldpw hT (by kernel_rfl) 0 0 rfl (by kernel_rfl) rfl hgi ?_
   refine dixs hT (by kernel_rfl) 0 i rfl rfl (by omega) ?_
   simp only [add_mk, Nat.mul_one]
   refine dact hT (by kernel_rfl) 0 rfl ?_
   refine stp hT 0 1 rfl rfl hgi rfl ?_
   refine dnext (.inl (by kernel_rfl)) ?_
   refine dixs hT (by kernel_rfl) 0 (a + o) rfl rfl (by omega) ?_
   simp only [add_mk, Nat.mul_one]
   refine dact hT (by kernel_rfl) 0 rfl ?_
   refine WL.hs (pt r #[.int .u64 ((m : Nat) : Int)] 210 :: pt g (uA pre (ys.set i (ys.getD (a + o) 0)) post) 37 :: hs) (congrArg (fun z => pt r #[.int .u64 ((m : Nat) : Int)] 210 :: pt g z 37 :: hs) (uA_set (by omega))) ?_
   refine stp hT 0 1 rfl rfl hgo2 rfl ?_
   refine WL.hs (pt r #[.int .u64 ((m : Nat) : Int)] 210 :: pt g (uA pre (swp i (a + o) ys) post) 37 :: hs) (congrArg (fun z => pt r #[.int .u64 ((m : Nat) : Int)] 210 :: pt g z 37 :: hs) (uA_set (by rw [List.length_set]; omega))) ?_
   refine dnext (.inl (by kernel_rfl)) ?_
   refine dend hT (by kernel_rfl) 0 rfl (bl (th (rg ?_)))
   refine ar hT 1 rfl (i64w (x := ((i + 1 : Nat) : Int)) (by omega)) ?_
   refine fin hT 1 rfl ?_
   exact again (x := (i, m0, ys)) (i + 1, m, swp i (a + o) ys) ⟨rfl, rfl, rfl, rfl, rfl, rfl, trivial⟩ rfl rfl ⟨by dsimp only; omega, by dsimp only; omega, hP.trans (SegP.swp ⟨by omega, by omega⟩ ⟨by omega, by omega⟩ (by omega))⟩ (by dsimp only; omega)
 ·refine ex (xt (xt (xb ?_)))
  refine WQ.drop ?_
  exact end0 rfl ⟨rfl, ys, rfl, hP⟩
end Go.Proofs.YtcncpbolcigpnaaGreat
end
section
namespace Go.Proofs.YtcncpbolcigpnaaGreat
open Go.En
attribute [local irreducible] Code.wp wpList Calls
theorem pdqC (n : Nat) : ∀ {w0 : World} {K : PH} {hs : List PH} (g cap : Nat) (pre post : List Value) (xs : List Nat) (a b lim : Nat) (hab : a <= b) (hb : b <= xs.length) (hc : xs.length <= cap) (hl : xs.length <= 1099511627776) (hlim : lim <= 64) (hlo : LoB a b xs) (hn : b - a <= n),
  Ct Tryz.prog w0 122 [.slice (some ⟨g, pre.length, none⟩) xs.length cap, .int .i64 ((a : Nat) : Int), .int .i64 ((b : Nat) : Int), .int .i64 ((lim : Nat) : Int)] K (pt g (uA pre xs post) 37 :: hs)
   (fun v K' hs' => K' = K /\ ∃ ys, hs' = pt g (uA pre ys post) 37 :: hs /\ SegP a b xs ys /\ Srt a b ys) := by
 induction n using Nat.strongRecOn with
 | ind n ih =>
 intro w0 K hs g cap pre post xs a b lim hab hb hc hl hlim hlo hn
 refine enter Tryz.func122 (by kernel_rfl) rfl rfl rfl ?_
 refine sq (rg ?_)
 refine fin hT 1 rfl (th (sq (rg ?_)))
 refine fin hT 1 rfl (th (bk ?_))
 refine loop (σ := (Nat × Nat × Nat) × (Bool × Bool) × List Nat) (fun s => [(0, .slice (some ⟨g, pre.length, none⟩) xs.length cap), (1, .int .i64 ((s.1.1 : Nat) : Int)), (2, .int .i64 ((s.1.2.1 : Nat) : Int)), (3, .int .i64 ((s.1.2.2 : Nat) : Int)), (8, .bool s.2.1.1), (9, .bool s.2.1.2)]) (fun _ => K) (fun s => pt g (uA pre s.2.2 post) 37 :: hs)
  (fun s => s.1.2.2 <= 64 /\ a <= s.1.1 /\ s.1.2.1 <= b /\ s.1.1 <= s.1.2.1 /\ SegP a b xs s.2.2 /\ Rst a b s.1.1 s.1.2.1 s.2.2 /\ LoB s.1.1 s.1.2.1 s.2.2) (fun s => s.1.2.1 - s.1.1) ((a, b, lim), (true, true), xs) ⟨hlim, Nat.le_refl _, Nat.le_refl _, hab, SegP.refl _ _ _, Rst.self _ _ _, hlo⟩ ⟨rfl, rfl, rfl, rfl, rfl, rfl, trivial⟩ rfl rfl ?_
 rintro ⟨⟨c, d, lm⟩, ⟨wb, wp⟩, ys⟩ ⟨hlm, hac, hdb, hcd, hP, hR, hL⟩
 dsimp only at *
 have hyl : ys.length = xs.length := hP.len
 obtain ⟨n1, hn1⟩ : ∃ n1, n1 = d - c := ⟨_, rfl⟩
 refine bk (sq (rg ?_))
 refine ar hT 2 rfl (v' := .int .i64 ((n1 : Nat) : Int)) (by rw [show ((d : Nat) : Int) - ((c : Nat) : Int) = ((n1 : Nat) : Int) from by omega]; exact i64w (by omega)) ?_
 refine fin hT 1 rfl (th (sq (sq (rg ?_))))
 refine cmpS hT 1 rfl fun b23 h23 => ?_
 refine fin hT 0 rfl (th (ifP h23 rfl (fun e2 => ?_) (fun e2 => ?_)))
 ·refine sq (rg ?_)
  have hs1 := insC (w0 := w0) (K := K) (hs := hs) g cap pre post ys c d hcd (by omega) (by omega) (by omega)
  rw [hyl] at hs1
  refine cl hT 3 rfl hs1 ?_
  rintro v27 K27 hs27 ⟨rfl, zs, rfl, hQ, hS⟩
  refine fin hT 0 rfl (th (rt (rT (rB (rT (rB ?_))))))
  exact ret0 rfl ⟨rfl, zs, rfl, hP.trans (hQ.wide hac hdb), hR zs hQ hS⟩
 ·refine sk (th (sq (sq (rg ?_))))
  refine cmpS hT 1 rfl fun b29 h29 => ?_
  refine fin hT 0 rfl (th (ifP h29 rfl (fun e4 => ?_) (fun e4 => ?_)))
  ·refine sq (rg ?_)
   have hs1 := heapC (w0 := w0) (K := K) (hs := hs) g cap pre post ys c d (by omega) (by omega) (by omega) (by omega)
   rw [hyl] at hs1
   refine cl hT 3 rfl hs1 ?_
   rintro v33 K33 hs33 ⟨rfl, zs, rfl, hQ, hS⟩
   refine fin hT 0 rfl (th (rt (rT (rB (rT (rB ?_))))))
   exact ret0 rfl ⟨rfl, zs, rfl, hP.trans (hQ.wide hac hdb), hR zs hQ hS⟩
  ·refine sk (th (jn (σ := Nat × List Nat) (fun s => [(0, .slice (some ⟨g, pre.length, none⟩) xs.length cap), (1, .int .i64 ((c : Nat) : Int)), (2, .int .i64 ((d : Nat) : Int)), (3, .int .i64 ((s.1 : Nat) : Int)), (8, .bool wb), (9, .bool wp), (10, .int .i64 ((n1 : Nat) : Int))]) (fun s => pt g (uA pre s.2 post) 37 :: hs) (fun s => s.1 <= 64 /\ a <= c /\ d <= b /\ c <= d /\ SegP a b xs s.2 /\ Rst a b c d s.2 /\ LoB c d s.2) ?_ ?_))
   ·refine sq (rg ?_)
    cases wb with
    | false =>
     refine fin hT 2 rfl (th (ifT rfl ?_))
     refine sq (rg ?_)
     have hs1 := brkC (w0 := w0) (K := K) (hs := hs) g cap pre post ys c d (by omega) (by omega) (by omega) (by omega)
     rw [hyl] at hs1
     refine cl hT 3 rfl hs1 ?_
     rintro v39 K39 hs39 ⟨rfl, zs, rfl, hQ⟩
     refine fin hT 0 rfl (th (rg ?_))
     refine ar hT 1 rfl (v' := .int .i64 ((lm - 1 : Nat) : Int)) (by rw [show ((lm : Nat) : Int) - 1 = ((lm - 1 : Nat) : Int) from by omega]; exact i64w (by omega)) ?_
     refine fin hT 1 rfl ?_
     exact jx (lm - 1, zs) ⟨by dsimp only; omega, hac, hdb, hcd, hP.trans (hQ.wide hac hdb), hR.step hQ, hL.perm hQ (by omega)⟩ ⟨rfl, rfl, rfl, rfl, rfl, rfl, rfl, trivial⟩ rfl rfl
    | true =>
     refine fin hT 2 rfl (th (ifF rfl ?_))
     refine sk ?_
     exact jx (lm, ys) ⟨hlm, hac, hdb, hcd, hP, hR, hL⟩ ⟨rfl, rfl, rfl, rfl, rfl, rfl, rfl, trivial⟩ rfl rfl
   ·clear hP hR hL hyl
    clear ys hlm e4 h29 b29
    clear lm
    rintro ⟨lm, ys⟩ ⟨hlm, -, -, -, hP, hR, hL⟩
    dsimp only at *
    have hyl : ys.length = xs.length := hP.len
    refine sq (rg ?_)
    have hs1 := pivC (w0 := w0) (K := K) (hs := hs) g cap pre post ys c d (by omega) (by omega) (by omega) (by omega)
    rw [hyl] at hs1
    refine cl hT 3 rfl hs1 ?_
    rintro v46 K46 hs46 ⟨rfl, rfl, pv, h, rfl, hpv, hh⟩
    refine fin hT 5 rfl (th (jn (σ := (Nat × Nat) × List Nat) (fun s => [(0, .slice (some ⟨g, pre.length, none⟩) xs.length cap), (1, .int .i64 ((c : Nat) : Int)), (2, .int .i64 ((d : Nat) : Int)), (3, .int .i64 ((lm : Nat) : Int)), (8, .bool wb), (9, .bool wp), (10, .int .i64 ((n1 : Nat) : Int)), (11, .int .i64 ((s.1.1 : Nat) : Int)), (12, .int .i64 ((s.1.2 : Nat) : Int))]) (fun s => pt g (uA pre s.2 post) 37 :: hs) (fun s => (c <= s.1.1 /\ s.1.1 < d) /\ a <= c /\ d <= b /\ c <= d /\ SegP a b xs s.2 /\ Rst a b c d s.2 /\ LoB c d s.2) ?_ ?_))
    ·refine sq (rg ?_)
     refine cmpS hT 1 rfl fun b50 h50 => ?_
     refine fin hT 0 rfl (th (ifP h50 rfl (fun e7 => ?_) (fun e7 => ?_)))
     ·refine sq (rg ?_)
      have hs1 := revRC (w0 := w0) (K := K46) (hs := hs) g cap pre post ys c d (by omega) (by omega) (by omega) (by omega)
      rw [hyl] at hs1
      refine cl hT 3 rfl hs1 ?_
      rintro v54 K54 hs54 ⟨rfl, zs, rfl, hQ⟩
      refine fin hT 0 rfl (th (sq (rg ?_)))
      refine ar hT 1 rfl (i64w (by omega)) ?_
      refine ar hT 2 rfl (i64w (by omega)) ?_
      refine ar hT 0 rfl (v' := .int .i64 ((d - 1 - (pv - c) : Nat) : Int)) (by rw [show ((d : Nat) : Int) - 1 - (((pv : Nat) : Int) - ((c : Nat) : Int)) = ((d - 1 - (pv - c) : Nat) : Int) from by omega]; exact i64w (by omega)) ?_
      refine fin hT 1 rfl (th (rg ?_))
      refine fin hT 1 rfl ?_
      exact jx ((d - 1 - (pv - c), 1), zs) ⟨by dsimp only; omega, hac, hdb, hcd, hP.trans (hQ.wide hac hdb), hR.step hQ, hL.perm hQ (by omega)⟩ ⟨rfl, rfl, rfl, rfl, rfl, rfl, rfl, rfl, rfl, trivial⟩ rfl rfl
     ·refine sk ?_
      exact jx ((pv, h), ys) ⟨hpv, hac, hdb, hcd, hP, hR, hL⟩ ⟨rfl, rfl, rfl, rfl, rfl, rfl, rfl, rfl, rfl, trivial⟩ rfl rfl
    ·clear hs1 hP hR hL hyl hpv hh
     clear ys
     clear pv h
     rintro ⟨⟨pv, h⟩, ys⟩ ⟨hpv, -, -, -, hP, hR, hL⟩
     dsimp only at *
     have hyl : ys.length = xs.length := hP.len
     refine jn (σ := List Nat) (fun s => [(0, .slice (some ⟨g, pre.length, none⟩) xs.length cap), (1, .int .i64 ((c : Nat) : Int)), (2, .int .i64 ((d : Nat) : Int)), (3, .int .i64 ((lm : Nat) : Int)), (8, .bool wb), (9, .bool wp), (10, .int .i64 ((n1 : Nat) : Int)), (11, .int .i64 ((pv : Nat) : Int))]) (fun s => pt g (uA pre s post) 37 :: hs) (fun s => a <= c /\ d <= b /\ c <= d /\ SegP a b xs s /\ Rst a b c d s /\ LoB c d s) ?_ ?_
     ·refine sq (rg ?_)
      cases wb with
      | false =>
       refine fin hT 8 rfl (th (ifF rfl ?_))
       refine sk ?_
       exact jx ys ⟨hac, hdb, hcd, hP, hR, hL⟩ ⟨rfl, rfl, rfl, rfl, rfl, rfl, rfl, rfl, trivial⟩ rfl rfl
      | true =>
      cases wp with
      | false =>
       refine fin hT 8 rfl (th (ifF rfl ?_))
       refine sk ?_
       exact jx ys ⟨hac, hdb, hcd, hP, hR, hL⟩ ⟨rfl, rfl, rfl, rfl, rfl, rfl, rfl, rfl, trivial⟩ rfl rfl
      | true =>
       refine cmpS hT 6 rfl fun b67 h67 => ?_
       refine fin hT 1 rfl (th (ifP h67 rfl (fun h9 => ?_) (fun h9 => ?_)))
       ·refine sq (rg ?_)
        have hs1 := pisC (w0 := w0) (K := K46) (hs := hs) g cap pre post ys c d (by omega) (by omega) (by omega) (by omega) hL
        rw [hyl] at hs1
        refine cl hT 3 rfl hs1 ?_
        rintro v72 K72 hs72 ⟨rfl, zs, t, rfl, rfl, hQ, hS⟩
        refine fin hT 0 rfl (th (ifB rfl (fun e10 => ?_) (fun e10 => ?_)))
        ·refine rt (jr (rB (rT (rB ?_))))
         exact ret0 rfl ⟨rfl, zs, rfl, hP.trans (hQ.wide hac hdb), hR zs hQ (hS e10)⟩
        ·refine sk ?_
         exact jx zs ⟨hac, hdb, hcd, hP.trans (hQ.wide hac hdb), hR.step hQ, hL.perm hQ (by omega)⟩ ⟨rfl, rfl, rfl, rfl, rfl, rfl, rfl, rfl, trivial⟩ rfl rfl
       ·refine sk ?_
        exact jx ys ⟨hac, hdb, hcd, hP, hR, hL⟩ ⟨rfl, rfl, rfl, rfl, rfl, rfl, rfl, rfl, trivial⟩ rfl rfl
     ·clear hP hR hL hyl
      clear ys
      rintro ys ⟨-, -, -, hP, hR, hL⟩
      have hyl : ys.length = xs.length := hP.len
      refine jn (σ := Unit) (fun _ => [(0, .slice (some ⟨g, pre.length, none⟩) xs.length cap), (1, .int .i64 ((c : Nat) : Int)), (2, .int .i64 ((d : Nat) : Int)), (3, .int .i64 ((lm : Nat) : Int)), (8, .bool wb), (9, .bool wp), (10, .int .i64 ((n1 : Nat) : Int)), (11, .int .i64 ((pv : Nat) : Int))]) (fun _ => pt g (uA pre ys post) 37 :: hs) (fun _ => True) ?_ ?_
      ·refine sq (rga [pt g (uA pre ys post) 37] 15 [0, 2, 4, 6, 8, 10, 12, 14, 16, 18, 20, 22, 25, 26, 28] (by simp) (by kernel_rfl) (by kernel_rfl) ?_)
       refine dcmp hT (by kernel_rfl) 1 (0 < c) rfl (by simp) (fun h11 => ?_) (fun h11 => ?_)
       ·refine dar hT (by kernel_rfl) 3 rfl (v' := .int .i64 ((c - 1 : Nat) : Int)) (by rw [show ((c : Nat) : Int) - 1 = ((c - 1 : Nat) : Int) from by omega]; exact i64w (by omega)) ?_
        refine dixs hT (by kernel_rfl) 0 (c - 1) rfl rfl (by omega) ?_
        simp only [add_mk, Nat.mul_one]
        refine dldp hT (by kernel_rfl) 0 0 rfl rfl (uA_get (by omega)) ?_
        refine dixs hT (by kernel_rfl) 2 pv rfl rfl (by omega) ?_
        simp only [add_mk, Nat.mul_one]
        refine dldp hT (by kernel_rfl) 0 0 rfl rfl (uA_get (by omega)) ?_
        refine dact hT (by kernel_rfl) 0 rfl ?_
        refine cl hT 0 rfl (lessC (ys.getD (c - 1) 0) (ys.getD pv 0)) ?_
        rintro v85 K85 hs85 ⟨rfl, rfl, rfl⟩
        refine dnex [pt g (uA pre ys post) 37] (by simp) (by simp) rfl ?_
        by_cases hlt : ys.getD (c - 1) 0 < ys.getD pv 0
        ·rw [decide_eq_true hlt]
         refine dend hT (by kernel_rfl) 2 rfl (th (ifF rfl ?_))
         refine sk ?_
         exact jx () trivial ⟨rfl, rfl, rfl, rfl, rfl, rfl, rfl, rfl, trivial⟩ rfl rfl
        ·rw [decide_eq_false hlt]
         refine dend hT (by kernel_rfl) 2 rfl (th (ifT rfl ?_))
         refine sq (rg ?_)
         have hs1 := parEC (w0 := w0) (K := K85) (hs := hs) g cap pre post ys c d pv (by omega) hpv (by omega) (by omega) (by omega)
         rw [hyl] at hs1
         refine cl hT 4 rfl hs1 ?_
         rintro v92 K92 hs92 ⟨rfl, zs, i, rfl, rfl, hQ, hi1, hi2, hz1, hz2, hz3⟩
         have hzl : zs.length = ys.length := hQ.len
         obtain ⟨hR2, hL2⟩ := (hR.step hQ).equal h11 hi1 hi2 (by omega) (hL.perm hQ (by omega)) (by rw [hQ.outD (i := c - 1) (.inl (by omega)), hz3]; exact Nat.le_of_not_lt hlt) hz1 hz2
         refine fin hT 1 rfl (th (sq (rg ?_)))
         refine fin hT 2 rfl (th (ex (je (xb ?_))))
         exact again (x := ((c, d, lm), (wb, wp), zs)) ((i, d, lm), (wb, wp), zs) ⟨rfl, rfl, rfl, rfl, rfl, rfl, trivial⟩ rfl rfl ⟨hlm, by dsimp only; omega, hdb, hi2, hP.trans (hQ.wide hac hdb), hR2, hL2⟩ (by dsimp only; omega)
       ·refine dact hT (by kernel_rfl) 10 rfl ?_
        refine WL.pures hT 1 rfl ?_
        refine dnex [pt g (uA pre ys post) 37] (by simp) (by simp) rfl ?_
        refine dend hT (by kernel_rfl) 2 rfl (th (ifF rfl ?_))
        refine sk ?_
        exact jx () trivial ⟨rfl, rfl, rfl, rfl, rfl, rfl, rfl, rfl, trivial⟩ rfl rfl
      ·rintro - -
       refine sq (rg ?_)
       have hs1 := parC (w0 := w0) (K := K46) (hs := hs) g cap pre post ys c d pv (by omega) hpv (by omega) (by omega) (by omega)
       rw [hyl] at hs1
       refine cl hT 4 rfl hs1 ?_
       rintro v99 K99 hs99 ⟨rfl, zs, m, t, rfl, rfl, hQ, hA⟩
       have hm1 := hA.m1
       have hm2 := hA.m2
       have hzl : zs.length = xs.length := hQ.len.trans hyl
       have hLz := hL.perm hQ (by omega)
       have hPz := hP.trans (hQ.wide hac hdb)
       refine fin hT 5 rfl (th (sq (rg ?_)))
       refine fin hT 2 rfl (th (sq (rg ?_)))
       refine ar hT 2 rfl (v' := .int .i64 ((m - c : Nat) : Int)) (by rw [show ((m : Nat) : Int) - ((c : Nat) : Int) = ((m - c : Nat) : Int) from by omega]; exact i64w (by omega)) ?_
       refine ar hT 2 rfl (v' := .int .i64 ((d - m : Nat) : Int)) (by rw [show ((d : Nat) : Int) - ((m : Nat) : Int) = ((d - m : Nat) : Int) from by omega]; exact i64w (by omega)) ?_
       refine fin hT 2 rfl (th (sq (rg ?_)))
       refine ar hT 1 rfl (quoN n1 8 (by omega)) ?_
       refine fin hT 1 rfl (th (sq (rg ?_)))
       refine cmpS hT 2 rfl fun b113 h113 => ?_
       refine fin hT 0 rfl (th (ifP h113 rfl (fun e14 => ?_) (fun e14 => ?_)))
       ·refine sq (rg ?_)
        refine cmpS hT 2 rfl fun b116 h116 => ?_
        refine fin hT 1 rfl (th (sq (rg ?_)))
        have hs1 := ih (n - 1) (by omega) (w0 := w0) (K := K99) (hs := hs) g cap pre post zs c m lm hm1 (by omega) (by omega) (by omega) hlm (hLz.cut (by omega)) (by omega)
        rw [hzl] at hs1
        refine cl hT 4 rfl hs1 ?_
        rintro v121 K121 hs121 ⟨rfl, us, rfl, hU, hS⟩
        have hul : us.length = xs.length := hU.len.trans hzl
        refine fin hT 0 rfl (th (rg ?_))
        refine ar hT 1 rfl (i64w (x := ((m + 1 : Nat) : Int)) (by omega)) ?_
        refine fin hT 1 rfl (bl ?_)
        exact again (x := ((c, d, lm), (wb, wp), zs)) ((m + 1, d, lm), (b116, t), us) ⟨rfl, rfl, rfl, rfl, rfl, rfl, trivial⟩ rfl rfl ⟨hlm, by dsimp only; omega, hdb, hm2, hPz.trans (hU.wide hac (by omega)), (hR.step hQ).left hA (by omega) hU hS, (hA.left hU (by omega)).loB (hLz.perm (hU.wide (Nat.le_refl _) (by omega)) (by omega))⟩ (by dsimp only; omega)
       ·refine sq (rg ?_)
        refine cmpS hT 2 rfl fun b126 h126 => ?_
        refine fin hT 1 rfl (th (sq (rg ?_)))
        refine ar hT 2 rfl (i64w (x := ((m + 1 : Nat) : Int)) (by omega)) ?_
        have hs1 := ih (n - 1) (by omega) (w0 := w0) (K := K99) (hs := hs) g cap pre post zs (m + 1) d lm hm2 (by omega) (by omega) (by omega) hlm (hA.loB hLz) (by omega)
        rw [hzl] at hs1
        refine cl hT 2 rfl hs1 ?_
        rintro v132 K132 hs132 ⟨rfl, us, rfl, hU, hS⟩
        have hul : us.length = xs.length := hU.len.trans hzl
        refine fin hT 0 rfl (th (rg ?_))
        refine fin hT 2 rfl (bl ?_)
        exact again (x := ((c, d, lm), (wb, wp), zs)) ((c, m, lm), (b126, t), us) ⟨rfl, rfl, rfl, rfl, rfl, rfl, trivial⟩ rfl rfl ⟨hlm, hac, by dsimp only; omega, hm1, hPz.trans (hU.wide (by omega) hdb), (hR.step hQ).right hA (by omega) hU hS, (hLz.perm (hU.wide (by omega) (Nat.le_refl _)) (by omega)).cut (by dsimp only; omega)⟩ (by dsimp only; omega)
end Go.Proofs.YtcncpbolcigpnaaGreat
end
section
namespace Go.En
attribute [local irreducible] Code.wp wpList Calls
def todoL (l : List Int) (ks : List Int) : Nat := (l.filter fun x => decide (x ∉ ks)).length
theorem todoL_lt {ks : List Int} {k : Int} (hk : k ∉ ks) : ∀ {l : List Int}, k ∈ l -> todoL l (ks ++ [k]) < todoL l ks := by
 have hle : ∀ l : List Int, todoL l (ks ++ [k]) <= todoL l ks := fun l => by
  unfold todoL
  rw [<- List.countP_eq_length_filter, <- List.countP_eq_length_filter]
  exact List.countP_mono_left fun x _ hx => by simp at hx ⊢; exact hx.1
 intro l
 induction l with
 | nil => intro h; simp at h
 | cons x l ih =>
  intro h
  by_cases e : x = k
  ·subst e
   have := hle l
   unfold todoL at this ⊢
   rw [List.filter_cons_of_neg (by simp), List.filter_cons_of_pos (by simp [hk])]
   simp only [List.length_cons]
   omega
  ·have := ih (by rcases List.mem_cons.1 h with h | h; exact absurd h.symm e; exact h)
   unfold todoL at this ⊢
   by_cases hx : x ∈ ks
   ·rw [List.filter_cons_of_neg (by simp [hx]), List.filter_cons_of_neg (by simp [hx])]; exact this
   ·rw [List.filter_cons_of_pos (by simp [hx, e]), List.filter_cons_of_pos (by simp [hx])]
    simp only [List.length_cons]
    omega
abbrev KsOf {ν : Type} (m : List (Int × ν)) := {l : List Int // l.Nodup /\ ∀ k ∈ l, k ∈ m.map (·.1)}
def KsOf.add {ν : Type} {m : List (Int × ν)} (s : KsOf m) (k : Int) (h1 : k ∈ m.map (·.1)) (h2 : k ∉ s.1) : KsOf m := ⟨s.1 ++ [k], by
 refine List.nodup_append.2 ⟨s.2.1, by simp, ?_⟩
 intro a ha b hb
 simp only [List.mem_singleton] at hb
 subst hb
 intro e
 subst e
 exact h2 ha, fun j hj => by
 rcases List.mem_append.1 hj with hj | hj
 ·exact s.2.2 j hj
 ·simp only [List.mem_singleton] at hj; rw [hj]; exact h1⟩
theorem KsOf.len {ν : Type} {m : List (Int × ν)} (s : KsOf m) : s.1.length <= m.length := by
 have h := s.2.1.length_le_of_subset (l₂ := m.map (·.1)) (fun k hk => s.2.2 k hk)
 simpa using h
def stepN {ν : Type} (enc : Int -> Value) (m : List (Int × ν)) (s : KsOf m) (vs : List Value) (s' : KsOf m) : Prop := ∃ k h1 h2, vs = [enc k] /\ s' = s.add k h1 h2
def KsOf.nil {ν : Type} (m : List (Int × ν)) : KsOf m := ⟨[], by simp, by simp⟩
def overN {ν : Type} (m : List (Int × ν)) (s : KsOf m) : Prop := ∀ k ∈ m.map (·.1), k ∈ s.1
def KeyRd (hm : PH) (b1 bo : Nat) (K : PH) (hs : List PH) : Prop := (∃ h, In K hs h /\ Cell h ⟨b1, 0, none⟩ (.map (some bo))) /\ In K hs hm
theorem KsOf.perm {ν : Type} {m : List (Int × ν)} (hnd : (m.map (·.1)).Nodup) (s : KsOf m) (h : overN m s) : s.1.Perm (m.map (·.1)) :=
 (List.perm_ext_iff_of_nodup s.2.1 hnd).2 fun k => ⟨s.2.2 k, h k⟩
def ivu (ks : List Int) : List Value := ks.map fun k => Value.int .u64 k
end Go.En
namespace Go.Proofs.YtcncpbolcigpnaaGreat
open Go.En
attribute [local irreducible] Code.wp wpList Calls
theorem keysC {w0 : World} {K : PH} {hs : List PH} (bo : Nat) : Ct Tryz.prog w0 71 [.map (some bo)] K hs
  (fun v K' hs' => K' = K /\ ∃ b, hs' = pt b #[.map (some bo)] 91 :: hs /\ v = .func (.func 104) #[] #[.pointer (some ⟨b, 0, none⟩)]) := by
 refine enter Tryz.func71 (by kernel_rfl) rfl rfl rfl ?_
 refine sq (rg ?_)
 refine bx hT 0 rfl fun b1 => ?_
 refine fin hT 1 rfl (th (sq (rg ?_)))
 refine fin hT 2 rfl (th (rt ?_))
 exact ret1 rfl rfl ⟨rfl, b1, rfl, rfl⟩
theorem keysI {w0 : World} {ν : Type} (encv : ν -> Value) (hm : PH) (b1 bo : Nat) (m : List (Int × ν)) (hnd : (m.map (·.1)).Nodup) (hO : MpO encU encv hm bo m) :
  ItG Tryz.prog w0 104 [.pointer (some ⟨b1, 0, none⟩)] (stepN encU m) (overN m) (KsOf.nil m) (KeyRd hm b1 bo) := by
 intro L St Sp hRd hY K hs h0
 refine enterX Tryz.func104 (by kernel_rfl) rfl rfl rfl ?_
 obtain ⟨⟨h1, m1, c1⟩, m2⟩ := hRd _ K hs h0
 refine sqX (rgX ?_)
 refine ld hT 0 rfl m1 c1 ?_
 refine mrg hT 0 rfl Tryz.underlying91 m2 hO fun r hi hI0 => ?_
 refine fin hT 0 rfl (nxX (thX (bkX ?_)))
 refine loopX (σ := PH × KsOf m × PH × List PH) (fun _ => [(0, .func (.yield L) #[] #[]), (1, .pointer (some ⟨b1, 0, none⟩)), (5, .pointer (some ⟨r, 0, none⟩))]) (fun s => s.2.2.1) (fun s => s.1 :: s.2.2.2)
  (fun s => MpI encU encv hm s.1 bo r m s.2.1.1 /\ St s.2.1 s.2.2.1 s.2.2.2) (fun s => todoL (m.map (·.1)) s.2.1.1) (hi, KsOf.nil m, K, hs) ⟨hI0, h0⟩ ⟨rfl, rfl, rfl, trivial⟩ rfl rfl ?_
 rintro ⟨hi, ks, K, hs⟩ ⟨hI, hst⟩
 dsimp only at *
 obtain ⟨_, m2⟩ := hRd ks K hs hst
 refine sqX (rgX ?_)
 refine mnx hT 0 0 rfl m2.cons rfl hI hnd (fun k v hi' hmem hnk hS => ?_) (fun hall => ?_)
 ·have hkm : k ∈ m.map (·.1) := List.mem_map.2 ⟨_, hmem, rfl⟩
  refine fin hT 1 rfl (nxX (thX (sqX (ifTX rfl ?_))))
  refine skX (thX (bkX (sqX (rgX ?_))))
  refine men hT 0 rfl m2.cons (.inr ⟨0, rfl⟩) hS ?_
  refine fin hT 2 rfl (nxX (thX (sqX (rgI (WLI.cut 2 ?_)))))
  refine fin hT 2 rfl (cutX ?_)
  refine yld rfl ((hY ks [encU k] (ks.add k hkm hnk) K hs [hi'] ⟨k, hkm, hnk, rfl, rfl⟩ hst).perm (List.perm_append_singleton hi' hs).symm) ?_
  rintro v12 K12 hs12 ⟨hs1, rfl, ⟨rfl, hn⟩ | ⟨rfl, hp⟩⟩
  ·refine WLI.fin ?_
   refine fin hT 1 rfl (nxX (thX (ifFX rfl ?_)))
   refine skX (blX (WQX.perm (List.perm_append_singleton hi' hs1) ?_))
   exact againX (x := (hi, ks, K, hs)) (hi', ks.add k hkm hnk, K12, hs1) ⟨rfl, rfl, rfl, trivial⟩ rfl rfl ⟨hS.1, hn⟩ (todoL_lt hnk hkm)
  ·refine WLI.fin ?_
   refine fin hT 1 rfl (nxX (thX (ifTX rfl ?_)))
   refine rtX (rBX (rTX (rBX (WQX.perm (List.perm_append_singleton hi' hs1) (WQX.drop ?_)))))
   exact ret0X rfl (.inr hp)
 ·refine fin hT 1 rfl (nxX (thX (sqX (ifFX rfl ?_))))
  refine exX (xtX (xtX (xbX (WQX.drop ?_))))
  exact end0X rfl (.inl ⟨ks, fun k hk => by obtain ⟨x, hx, rfl⟩ := List.mem_map.1 hk; exact hall x hx, hst⟩)
theorem appSeqC {w0 : World} {ν : Type} {K : PH} {hs : List PH} (f : Nat) (cap : List Value) (m : List (Int × ν)) (Rd : PH -> List PH -> Prop) (it : ItG Tryz.prog w0 f cap (stepN encU m) (overN m) (KsOf.nil m) Rd) (hcal : callable Tryz.prog f = true)
  (hl : m.length <= 1000000000) (hR : ∀ x y fr, Rd K (x :: y :: (hs ++ fr))) :
  Ct Tryz.prog w0 121 [.slice none 0 0, .func (.func f) #[] cap.toArray] K hs
   (fun v K' hs' => K' = K /\ ∃ (s : KsOf m) (ao : Option Addr) (c : Nat) (g : PH), overN m s /\ hs' = g :: hs /\ v = .slice ao s.1.length c /\ Own g ao s.1.length c 37 1 (ivu s.1)) := by
 refine enterX Tryz.func121 (by kernel_rfl) rfl rfl rfl ?_
 refine sqX (rgX ?_)
 refine bx hT 0 rfl fun b2 => ?_
 refine fin hT 1 rfl (nxX (thX (sqX (sqX (rgX ?_)))))
 refine fin hT 1 rfl (nxX (thX (bkX (WX.em (WX.perm (List.Perm.swap _ _ _) ?_)))))
 refine rgG cap (stepN encU m) (overN m) (KsOf.nil m) Rd rfl it hcal (fun s vs s' h => by obtain ⟨k, _, _, rfl, _⟩ := h; rfl) rfl
  (fun s K' hs' => K' = K /\ ∃ ao c g, hs' = pt b2 #[.slice ao s.1.length c] 22 :: g :: hs /\ Own g ao s.1.length c 37 1 (ivu s.1))
  (fun _ _ _ => False) ⟨rfl, none, 0, em, rfl, Own.nil _ _⟩ (fun s K' hs' t u h => by obtain ⟨rfl, ao, c, g, rfl, _⟩ := h; exact hR _ _ _) ?_ ?_ ?_
 ·rintro L s vs s' K' hs' fr t u ⟨k, hk, hnk, rfl, rfl⟩ ⟨rfl, ao, c, g, rfl, o⟩
  have hlen := (s.add k hk hnk).len
  have hlen2 : (s.add k hk hnk).1.length = s.1.length + 1 := by simp [KsOf.add]
  refine rgX ?_
  refine fin hT 1 rfl (nxX (asgX (hs' := pt b2 #[.slice ao s.1.length c] 22 :: g :: (hs ++ fr)) (by simp) fun u => ?_))
  refine bkX (rgX ?_)
  refine ldp hT 0 0 rfl rfl rfl ?_
  refine lit hT 1 #[encU k] rfl (by decide) (by kernel_rfl) fun b10 => ?_
  refine app hT 0 2 rfl rfl o (.inr ⟨0, rfl⟩) (Own.ofPt rfl (by decide)).isS rfl (by decide) (by simp [encU, Value.oneCell']) (by show (s.1.length + 1) * 8 <= _; omega) (by simp only [maxLen]; omega) fun ao11 c11 g11 o11 => ?_
  refine stp hT 0 1 rfl rfl rfl rfl ?_
  refine fin hT 0 rfl (nxX (blX (WQX.drop (rndX (hs' := pt b2 #[.slice ao11 (s.1.length + 1) c11] 22 :: g11 :: (hs ++ fr)) rfl ?_))))
  refine ⟨pt b2 #[.slice ao11 (s.1.length + 1) c11] 22 :: g11 :: hs, rfl, rfl, ao11, c11, g11, by rw [hlen2], ?_⟩
  rw [hlen2]
  have : ivu (s.add k hk hnk).1 = ivu s.1 ++ [encU k] := by simp [KsOf.add, ivu, encU]
  rw [this]
  exact o11
 ·rintro D s K' hs' hov ⟨rfl, ao, c, g, rfl, o⟩
  refine id (blX (thX (sqX (rgX ?_))))
  refine ldp hT 0 0 rfl rfl rfl ?_
  refine fin hT 1 rfl (nxX (thX (rtX (WQX.drop ?_))))
  exact ret1M D (hs' := g :: hs) rfl rfl rfl ⟨rfl, s, ao, c, g, hov, rfl, rfl, o⟩
 ·rintro D c K hs hj
  exact hj.elim
end Go.Proofs.YtcncpbolcigpnaaGreat
end
section
namespace Go.En
def insI (x : Int) : List Int -> List Int
 | [] => [x]
 | y :: l => if x <= y then x :: y :: l else y :: insI x l
def srtI : List Int -> List Int
 | [] => []
 | x :: l => insI x (srtI l)
theorem insI_perm (x : Int) : ∀ l, (insI x l).Perm (x :: l)
 | [] => List.Perm.refl _
 | y :: l => by
  unfold insI
  split
  ·exact List.Perm.refl _
  ·exact ((insI_perm x l).cons y).trans (List.Perm.swap x y l)
theorem srtI_perm : ∀ l, (srtI l).Perm l
 | [] => List.Perm.refl _
 | x :: l => (insI_perm x _).trans ((srtI_perm l).cons x)
theorem insI_srt (x : Int) : ∀ {l}, l.Pairwise (· <= ·) -> (insI x l).Pairwise (· <= ·)
 | [], _ => by simp [insI]
 | y :: l, h => by
  unfold insI
  have h1 := List.pairwise_cons.1 h
  split
  ·rename_i hxy
   refine List.pairwise_cons.2 ⟨fun z hz => ?_, h⟩
   rcases List.mem_cons.1 hz with rfl | hz
   ·exact hxy
   ·exact Int.le_trans hxy (h1.1 z hz)
  ·rename_i hxy
   refine List.pairwise_cons.2 ⟨fun z hz => ?_, insI_srt x h1.2⟩
   rcases List.mem_cons.1 ((insI_perm x l).mem_iff.1 hz) with rfl | hz
   ·omega
   ·exact h1.1 z hz
theorem srtI_srt : ∀ l, (srtI l).Pairwise (· <= ·)
 | [] => List.Pairwise.nil
 | x :: l => insI_srt x (srtI_srt l)
theorem srtI_eq {l ys : List Int} (hp : ys.Perm l) (hs : ys.Pairwise (· <= ·)) : ys = srtI l :=
 List.Perm.eq_of_pairwise (le := (· <= ·)) (fun a b _ _ h1 h2 => Int.le_antisymm h1 h2) hs (srtI_srt l) (hp.trans (srtI_perm l).symm)
theorem Srt.pw {ys : List Nat} (h : Srt 0 ys.length ys) : (ys.map fun x => ((x : Nat) : Int)).Pairwise (· <= ·) := by
 rw [List.pairwise_map, List.pairwise_iff_getElem]
 intro i j hi hj hij
 have := h i j (Nat.zero_le _) hij hj
 rw [List.getD_eq_getElem?_getD, List.getD_eq_getElem?_getD, List.getElem?_eq_getElem hi, List.getElem?_eq_getElem hj] at this
 simp only [Option.getD_some] at this
 omega
theorem ivu_nat (ks : List Int) (h : ∀ k ∈ ks, 0 <= k) : ivu ks = uvv (ks.map Int.toNat) := by
 unfold ivu uvv
 rw [List.map_map]
 refine List.map_congr_left fun k hk => ?_
 have := h k hk
 simp only [Function.comp_apply]
 rw [Int.toNat_of_nonneg this]
theorem uvv_ivu (ys : List Nat) : uvv ys = ivu (ys.map fun x => ((x : Nat) : Int)) := by
 unfold ivu uvv
 rw [List.map_map]
 rfl
theorem nat_back (ks : List Int) (h : ∀ k ∈ ks, 0 <= k) : (ks.map Int.toNat).map (fun x => ((x : Nat) : Int)) = ks := by
 rw [List.map_map]
 conv => rhs; rw [<- List.map_id ks]
 refine List.map_congr_left fun k hk => ?_
 have := h k hk
 simp only [Function.comp_apply, id]
 rw [Int.toNat_of_nonneg this]
theorem Own.uA {g : PH} {ao : Option Addr} {c e : Nat} {xs : List Nat} (o : Own g ao xs.length c e 1 (uvv xs)) (hne : ao ≠ none) : ∃ b pre post, ao = some ⟨b, pre.length, none⟩ /\ g = pt b (uA pre xs post) e /\ xs.length <= c := by
 obtain ⟨h1, h2, h3, ⟨h4, _⟩ | ⟨b, off, cur, h4, h5, h6, h7⟩⟩ := o
 ·exact absurd h4 hne
 ·have hl : cur.toList.length = cur.size := Array.length_toList
  have hoff : off <= cur.toList.length := by rw [hl, h6]; omega
  refine ⟨b, cur.toList.take off, cur.toList.drop (off + xs.length), ?_, ?_, h2⟩
  ·rw [h4, List.length_take, Nat.min_eq_left hoff]
  ·rw [h5]
   congr 1
   unfold En.uA
   rw [Nat.mul_one] at h7
   rw [<- h7, List.append_assoc, <- List.drop_drop, List.take_append_drop, List.take_append_drop]
def areasL (D : Dk) : List Int := srtI (D.areas.map (·.1))
end Go.En
namespace Go.Proofs.YtcncpbolcigpnaaGreat
open Go.En
attribute [local irreducible] Code.wp wpList Calls
theorem collectC {w0 : World} {ν : Type} {K : PH} {hs : List PH} (f : Nat) (cap : List Value) (m : List (Int × ν)) (Rd : PH -> List PH -> Prop) (it : ItG Tryz.prog w0 f cap (stepN encU m) (overN m) (KsOf.nil m) Rd) (hcal : callable Tryz.prog f = true)
  (hl : m.length <= 1000000000) (hR : ∀ x y fr, Rd K (x :: y :: (hs ++ fr))) :
  Ct Tryz.prog w0 102 [.func (.func f) #[] cap.toArray] K hs
   (fun v K' hs' => K' = K /\ ∃ (s : KsOf m) (ao : Option Addr) (c : Nat) (g : PH), overN m s /\ hs' = g :: hs /\ v = .slice ao s.1.length c /\ Own g ao s.1.length c 37 1 (ivu s.1)) := by
 refine enter Tryz.func102 (by kernel_rfl) rfl rfl rfl ?_
 refine sq (rg ?_)
 refine fin hT 1 rfl (th (sq (rg ?_)))
 refine cl hT 1 rfl (appSeqC f cap m Rd it hcal hl hR) ?_
 rintro v4 K4 hs4 ⟨rfl, s, ao, c, g, h1, rfl, rfl, h4⟩
 refine fin hT 1 rfl (th (rt ?_))
 exact ret1 rfl rfl ⟨rfl, s, ao, c, g, h1, rfl, rfl, h4⟩
theorem sortC {w0 : World} {K : PH} {hs : List PH} (g cap : Nat) (pre post : List Value) (xs : List Nat) (hc : xs.length <= cap) (hl : xs.length <= 1099511627776) :
  Ct Tryz.prog w0 103 [.slice (some ⟨g, pre.length, none⟩) xs.length cap] K (pt g (uA pre xs post) 37 :: hs)
   (fun v K' hs' => K' = K /\ ∃ ys, hs' = pt g (uA pre ys post) 37 :: hs /\ SegP 0 xs.length xs ys /\ Srt 0 xs.length ys) := by
 refine enter Tryz.func103 (by kernel_rfl) rfl rfl rfl ?_
 refine sq (rg ?_)
 refine fin hT 3 rfl (th (rg ?_))
 refine ar hT 3 rfl (u64w (by omega)) ?_
 refine cl hT 0 rfl (lenC xs.length (by omega)) ?_
 rintro v9 K9 hs9 ⟨rfl, rfl, n, rfl, h1, -⟩
 have hs1 := pdqC xs.length (w0 := w0) (K := K9) (hs := hs) g cap pre post xs 0 xs.length n (Nat.zero_le _) (Nat.le_refl _) hc hl h1 (LoB.zero _ _) (by omega)
 refine cl hT 0 rfl hs1 ?_
 rintro v10 K10 hs10 ⟨rfl, ys, rfl, h2, h3⟩
 refine fin hT 0 rfl ?_
 exact end0 rfl ⟨rfl, ys, rfl, h2, h3⟩
theorem insNilC {w0 : World} {K : PH} {hs : List PH} : Ct Tryz.prog w0 127 [.slice none 0 0, .int .i64 0, .int .i64 0] K hs (fun v K' hs' => K' = K /\ hs' = hs) := by
 refine enter Tryz.func127 (by kernel_rfl) rfl rfl rfl ?_
 refine sq (rg ?_)
 refine ar hT 1 rfl (i64w (x := 1) (by omega)) ?_
 refine fin hT 1 rfl (th (bk ?_))
 refine loop (σ := Unit) (fun _ => [(2, .int .i64 0), (6, .int .i64 1)]) (fun _ => K) (fun _ => hs) (fun _ => True) (fun _ => 0) () trivial ⟨rfl, rfl, trivial⟩ rfl rfl ?_
 rintro - -
 refine sq (sq (rg ?_))
 refine cmpS hT 2 rfl fun b12 h12 => ?_
 refine fin hT 0 rfl (th (ifPF h12 (by omega) rfl ?_))
 refine ex (xt (xt (xb ?_)))
 exact end0 rfl ⟨rfl, rfl⟩
theorem sortNilC {w0 : World} {K : PH} {hs : List PH} : Ct Tryz.prog w0 103 [.slice none 0 0] K hs (fun v K' hs' => K' = K /\ hs' = hs) := by
 have pdqN : ∀ {w0 : World} {K : PH} {hs : List PH} (n : Nat), Ct Tryz.prog w0 122 [.slice none 0 0, .int .i64 0, .int .i64 0, .int .i64 ((n : Nat) : Int)] K hs (fun v K' hs' => K' = K /\ hs' = hs) := fun {w0 K hs} n => by
  refine enter Tryz.func122 (by kernel_rfl) rfl rfl rfl ?_
  refine sq (rg ?_)
  refine fin hT 1 rfl (th (sq (rg ?_)))
  refine fin hT 1 rfl (th (bk ?_))
  refine loop (σ := Unit) (fun _ => [(0, .slice none 0 0), (1, .int .i64 0), (2, .int .i64 0)]) (fun _ => K) (fun _ => hs) (fun _ => True) (fun _ => 0) () trivial ⟨rfl, rfl, rfl, trivial⟩ rfl rfl ?_
  rintro - -
  refine bk (sq (rg ?_))
  refine ar hT 2 rfl (i64w (x := 0) (by omega)) ?_
  refine fin hT 1 rfl (th (sq (sq (rg ?_))))
  refine cmpS hT 1 rfl fun b23 h23 => ?_
  refine fin hT 0 rfl (th (ifPT h23 (by omega) rfl ?_))
  refine sq (rg ?_)
  refine cl hT 3 rfl insNilC ?_
  rintro v27 K27 hs27 ⟨rfl, rfl⟩
  refine fin hT 0 rfl (th (rt (rT (rB (rT (rB ?_))))))
  exact ret0 rfl ⟨rfl, rfl⟩
 refine enter Tryz.func103 (by kernel_rfl) rfl rfl rfl ?_
 refine sq (rg ?_)
 refine fin hT 3 rfl (th (rg ?_))
 refine ar hT 3 rfl (u64w (x := 0) (by omega)) ?_
 refine cl hT 0 rfl (lenC 0 (by omega)) ?_
 rintro v9 K9 hs9 ⟨rfl, rfl, n, rfl, h1, -⟩
 refine cl hT 0 rfl (pdqN n) ?_
 rintro v10 K10 hs10 ⟨rfl, rfl⟩
 refine fin hT 0 rfl ?_
 exact end0 rfl ⟨rfl, rfl⟩
theorem sortedC {w0 : World} {ν : Type} {K : PH} {hs : List PH} (f : Nat) (cap : List Value) (m : List (Int × ν)) (hnd : (m.map (·.1)).Nodup) (h0 : ∀ k ∈ m.map (·.1), 0 <= k) (Rd : PH -> List PH -> Prop) (it : ItG Tryz.prog w0 f cap (stepN encU m) (overN m) (KsOf.nil m) Rd) (hcal : callable Tryz.prog f = true)
  (hl : m.length <= 1000000000) (hR : ∀ x y fr, Rd K (x :: y :: (hs ++ fr))) :
  Ct Tryz.prog w0 70 [.func (.func f) #[] cap.toArray] K hs
   (fun v K' hs' => Le K K' /\ hs' = hs /\ ∃ ao c, v = .slice ao m.length c /\ IsS K' ao m.length c 1 (ivu (srtI (m.map (·.1))))) := by
 refine enter Tryz.func70 (by kernel_rfl) rfl rfl rfl ?_
 refine sq (rg ?_)
 refine fin hT 1 rfl (th (sq (rg ?_)))
 refine cl hT 1 rfl (collectC f cap m Rd it hcal hl hR) ?_
 rintro v5 K5 hs5 ⟨rfl, s, ao, c, g, hov, rfl, rfl, o⟩
 have hp := s.perm hnd hov
 have hsl : s.1.length = m.length := by have := hp.length_eq; simpa using this
 have hs0 : ∀ k ∈ s.1, 0 <= k := fun k hk => h0 k (hp.mem_iff.1 hk)
 obtain ⟨xs, hxs⟩ : ∃ xs, xs = s.1.map Int.toNat := ⟨_, rfl⟩
 have hxl : xs.length = m.length := by rw [hxs]; simpa using hsl
 rw [hsl, ivu_nat s.1 hs0, <- hxs, <- hxl] at o
 rw [hsl, <- hxl]
 refine fin hT 1 rfl (th (sq (rg ?_)))
 cases ao with
 | none =>
  have hcz : xs.length = 0 /\ c = 0 := by
   obtain ⟨_, h2, _, ⟨_, h4, _⟩ | ⟨_, _, _, h4, _⟩⟩ := o
   ·omega
   ·cases h4
  obtain ⟨hz, rfl⟩ := hcz
  rw [hz]
  refine cl hT 1 rfl sortNilC ?_
  rintro v7 K7 hs7 ⟨rfl, rfl⟩
  refine fin hT 0 rfl (th (sq (rg ?_)))
  refine fin hT 2 rfl (th (rt (WQ.drop ?_)))
  refine ret1 rfl rfl ⟨Le.refl _, rfl, none, 0, rfl, ?_⟩
  have hm0 : m = [] := List.length_eq_zero_iff.1 (hxl.symm.trans hz)
  subst hm0
  exact IsS.nil _ _ _ _
 | some a =>
  obtain ⟨b, pre, post, ha, rfl, hc⟩ := o.uA (by simp)
  rw [ha]
  refine cl hT 1 rfl (sortC b c pre post xs hc (by omega)) ?_
  rintro v7 K7 hs7 ⟨rfl, ys, rfl, hQ, hS⟩
  refine fin hT 0 rfl (th (sq (rg ?_)))
  refine fin hT 2 rfl (th (rt (WQ.frz fun K' le1 le2 => ?_)))
  have hyl := hQ.len
  have hsort : (ys.map fun x => ((x : Nat) : Int)) = srtI (m.map (·.1)) := by
   refine srtI_eq ?_ ?_
   ·have h1 := hQ.perm.map (fun x : Nat => ((x : Nat) : Int))
    rw [hxs, nat_back s.1 hs0] at h1
    exact h1.trans hp
   ·rw [<- hyl] at hS; exact hS.pw
  refine ret1 rfl rfl ⟨le1, rfl, _, c, rfl, ?_⟩
  rw [<- hsort, <- uvv_ivu, <- hyl]
  exact (uA_isS (by omega)).le le2
theorem areasC {w0 : World} {K : PH} {hs m : List PH} (b : Nat) (D : Dk) (c : Nat) (o : D.Ok c) (hl : D.areas.length <= 1000000000) (h0 : ∀ k ∈ D.areas.map (·.1), 0 <= k) (hm : DskM K b D m) :
  Ct Tryz.prog w0 37 [.pointer (some ⟨b, 0, none⟩)] K (m ++ hs)
   (fun v K' hs' => Le K K' /\ hs' = m ++ hs /\ ∃ ao c, v = .slice ao (areasL D).length c /\ IsS K' ao (areasL D).length c 1 (ivu (areasL D))) := by
 obtain ⟨bo, ho, ins, rfl, hO, hI⟩ := hm
 have hk : (insO ins).map (·.1) = D.areas.map (·.1) := by rw [insO_keys, insKeys hI]
 have hlen : (insO ins).length = D.areas.length := by have := congrArg List.length hk; simpa using this
 refine enter Tryz.func37 (by kernel_rfl) rfl rfl rfl ?_
 refine sq (rg ?_)
 refine fin hT 1 rfl (th (sq (rg ?_)))
 refine ldp hT 3 0 rfl rfl rfl ?_
 refine cl hT 0 rfl (keysC bo) ?_
 rintro v7 K7 hs7 ⟨rfl, b1, rfl, rfl⟩
 refine cl hT 0 rfl (sortedC (m := insO ins) _ [.pointer (some ⟨b1, 0, none⟩)] (by rw [hk]; exact o.keys) (by rw [hk]; exact h0) (KeyRd ho b1 bo) (keysI encB ho b1 bo (insO ins) (by rw [hk]; exact o.keys) hO) (by kernel_rfl) (by omega)
  (fun x y fr => ⟨⟨_, .inr ⟨2, rfl⟩, Cell.pt rfl⟩, .inr ⟨4, rfl⟩⟩)) ?_
 rintro v8 K8 hs8 ⟨le, rfl, ao, cc, rfl, hx⟩
 refine fin hT 1 rfl (th (rt (WQ.drop ?_)))
 have e : areasL D = srtI ((insO ins).map (·.1)) := by unfold areasL; rw [hk]
 have e2 : (areasL D).length = (insO ins).length := by rw [e, (srtI_perm _).length_eq, List.length_map]
 exact ret1 rfl rfl ⟨le, rfl, ao, cc, by rw [e2], by rw [e2, e]; exact hx⟩
end Go.Proofs.YtcncpbolcigpnaaGreat
end
section
namespace Go.En
theorem Ct.bun {P : Program} {w0 : World} {f : FuncId} {args : List Value} {K : PH} {m hs : List PH} {R R' : Value -> PH -> List PH -> Prop} (d : Djs m) (c : Ct P w0 f args K (m ++ hs) R)
  (h : ∀ v K' hs', R v K' hs' -> ∃ m', hs' = m' ++ hs /\ (Djs m' -> R' v K' (uns m' :: hs))) : Ct P w0 f args K (uns m :: hs) R' :=
 ⟨c.1, fun w hw => (c.2 w (hw.split d)).mono fun e w' he => by
  obtain ⟨v, K', hs', rfl, hR, hS⟩ := he
  obtain ⟨m', rfl, h2⟩ := h v K' hs' hR
  obtain ⟨d', hS'⟩ := Sat.join m' hS
  exact ⟨v, K', _, rfl, h2 d', hS'⟩⟩
theorem Ct.fix2 {P : Program} {w0 : World} {f : FuncId} {args : List Value} {K : PH} {hs : List PH} {R R' : Value -> PH -> List PH -> Prop} (c : Ct P w0 f args K hs R)
  (h : ∀ w v K' hs', Sat w0 w K' hs' -> R v K' hs' -> ∃ K2 hs2, R' v K2 hs2 /\ Sat w0 w K2 hs2) : Ct P w0 f args K hs R' :=
 ⟨c.1, fun w hw => (c.2 w hw).mono fun e w' he => by
  obtain ⟨v, K', hs', rfl, hR, hS⟩ := he
  obtain ⟨K2, hs2, h1, h2⟩ := h w' v K' hs' hS hR
  exact ⟨v, K2, hs2, rfl, h1, h2⟩⟩
def totA (m : List (Int × Ar)) : Nat := (m.map fun x => x.2.length).sum
theorem totA_mset {a : Int} {l : Ar} : ∀ (m : List (Int × Ar)), totA (mset a l m) + ((mget a m).getD []).length = totA m + l.length
 | [] => by simp [mset, mget, totA]
 | (k, u) :: m => by
  by_cases e : a = k
  ·simp only [mset, mget, e, if_true, totA, List.map_cons, List.sum_cons, Option.getD_some]; omega
  ·have := totA_mset (a := a) (l := l) m
   simp only [mset, mget, e, if_false, totA, List.map_cons, List.sum_cons] at this ⊢; omega
theorem totA_mdel {a : Int} : ∀ (m : List (Int × Ar)), (m.map (·.1)).Nodup -> totA (mdel a m) + ((mget a m).getD []).length = totA m
 | [], _ => by simp [mdel, mget, totA]
 | (k, u) :: m, h => by
  simp only [List.map_cons, List.nodup_cons] at h
  by_cases e : a = k
  ·subst e
   have hn : mget a m = none := mget_none.2 h.1
   simp only [mdel, mget, if_true, totA, List.map_cons, List.sum_cons, Option.getD_some]
   first | omega | (rw [mdel_none hn]; omega)
  ·have := totA_mdel (a := a) m h.2
   simp only [mdel, mget, e, if_false, totA, List.map_cons, List.sum_cons] at this ⊢; omega
structure DOk (c : Nat) (D : Dk) : Prop where
 ok : D.Ok c
 ar : ∀ k ∈ D.areas.map (·.1), 0 <= k /\ k <= 18446744073709551615
 len : D.areas.length <= c
 cap : D.room + (totA D.areas : Int) <= 1073741824
theorem DOk.up {c d : Nat} {D : Dk} (o : DOk c D) (h : c <= d) : DOk d D := ⟨o.ok.up h, o.ar, by have := o.len; omega, o.cap⟩
theorem DOk.write {c : Nat} {D : Dk} (o : DOk c D) (a n : Int) (b : List UInt8) (ha : 0 <= a /\ a <= 18446744073709551615) : DOk (c + 1) (D.write a n b).1 := by
 refine ⟨o.ok.write a n b, ?_, ?_, ?_⟩
 ·unfold Dk.write
  split
  ·exact o.ar
  ·split
   ·exact o.ar
   ·split
    ·exact o.ar
    ·intro k hk
     obtain ⟨x, hx, rfl⟩ := List.mem_map.1 hk
     rcases mset_mem hx with rfl | hx
     ·exact ha
     ·exact o.ar _ (List.mem_map.2 ⟨x, hx, rfl⟩)
 ·have := o.len
  unfold Dk.write
  split
  ·dsimp only; omega
  ·split
   ·dsimp only; omega
   ·split
    ·dsimp only; omega
    ·show (mset a _ D.areas).length <= c + 1
     rw [mset_length]
     split <;> omega
 ·have hc := o.cap
  unfold Dk.write
  split
  ·exact hc
  ·split
   ·exact hc
   ·split
    ·exact hc
    ·show (D.laid a n b).room + (totA (D.laid a n b).areas : Int) <= _
     unfold Dk.laid
     dsimp only
     have h1 := totA_mset (a := a) (l := mset n (secW (D.sec a n) b) (D.ar a)) D.areas
     have h2 : ((mget a D.areas).getD []).length = (D.ar a).length := rfl
     have h3 := mset_length n (secW (D.sec a n) b) (D.ar a)
     have h4 : D.sec a n = mget n (D.ar a) := rfl
     rw [h4] at h1 h3 ⊢
     split at h3 <;> rename_i h5
     ·rw [if_pos h5]; omega
     ·rw [if_neg h5]; omega
theorem synA_keys (D : Dk) (a : Int) : (D.synA a).map (·.1) = D.areas.map (·.1) := by
 unfold Dk.synA
 cases hg : mget a D.areas with
 | none => rfl
 | some l =>
  rw [mset_keys, hg]
  rfl
theorem synA_tot (D : Dk) (a : Int) : totA (D.synA a) = totA D.areas := by
 unfold Dk.synA
 cases hg : mget a D.areas with
 | none => rfl
 | some l =>
  have := totA_mset (a := a) (l := l.map fun x => (x.1, secS x.2)) D.areas
  rw [hg] at this
  simp only [Option.getD_some, List.length_map] at this
  dsimp only
  omega
theorem DOk.sync {c : Nat} {D : Dk} (o : DOk c D) (a : Int) : DOk (c + 1) (D.sync a).1 := by
 refine ⟨o.ok.sync a, ?_, ?_, ?_⟩
 ·unfold Dk.sync
  split
  ·exact o.ar
  ·split
   ·exact o.ar
   ·show ∀ k ∈ (D.synA a).map (·.1), _
    rw [synA_keys]; exact o.ar
 ·have := o.len
  unfold Dk.sync
  split
  ·dsimp only; omega
  ·split
   ·show D.areas.length <= c + 1; omega
   ·have h := congrArg List.length (synA_keys D a)
    simp only [List.length_map] at h
    show (D.synA a).length <= c + 1
    omega
 ·have hc := o.cap
  unfold Dk.sync
  split
  ·exact hc
  ·split
   ·exact hc
   ·show D.room + (totA (D.synA a) : Int) <= _
    rw [synA_tot]; exact hc
theorem DOk.arLen {c : Nat} {D : Dk} (o : DOk c D) (a : Int) : ((D.ar a).length : Int) <= totA D.areas := by
 have h := totA_mdel (a := a) D.areas o.ok.keys
 have h2 : ((mget a D.areas).getD []).length = (D.ar a).length := rfl
 omega
theorem DOk.free {c : Nat} {D : Dk} (o : DOk c D) (a : Int) : DOk (c + 1) (D.free a).1 := by
 have hs := mdel_sub (k := a) D.areas
 have hc := o.cap
 refine ⟨o.ok.free a (by have := o.arLen a; omega), ?_, ?_, ?_⟩
 ·unfold Dk.free
  split
  ·exact o.ar
  ·split
   ·exact o.ar
   ·intro k hk
    obtain ⟨x, hx, rfl⟩ := List.mem_map.1 hk
    exact o.ar _ (List.mem_map.2 ⟨x, hs.subset hx, rfl⟩)
 ·have := o.len
  unfold Dk.free
  split
  ·dsimp only; omega
  ·split
   ·show D.areas.length <= c + 1; omega
   ·have := hs.length_le
    show (mdel a D.areas).length <= c + 1
    omega
 ·unfold Dk.free
  split
  ·exact hc
  ·split
   ·exact hc
   ·show D.room + ((D.ar a).length : Int) + (totA (mdel a D.areas) : Int) <= _
    have h := totA_mdel (a := a) D.areas o.ok.keys
    have h2 : ((mget a D.areas).getD []).length = (D.ar a).length := rfl
    omega
end Go.En
namespace Go.Proofs.YtcncpbolcigpnaaGreat
open Go.En
attribute [local irreducible] Code.wp wpList Calls
def DskH (K : PH) (b : Nat) (D : Dk) (h : PH) : Prop := ∃ m, h = uns m /\ Djs m /\ DskM K b D m
theorem DskH.le {K K' : PH} (l : Le K K') {b : Nat} {D : Dk} {h : PH} (x : DskH K b D h) : DskH K' b D h := let ⟨m, h1, h2, h3⟩ := x; ⟨m, h1, h2, h3.le l⟩
theorem newH {w0 : World} {K : PH} {hs : List PH} (r : Int) (hr : 0 <= r /\ r <= 1099511627776) : Ct Tryz.prog w0 15 [.int .i64 r] K hs
  (fun v K' hs' => K' = K /\ ∃ b h, hs' = h :: hs /\ DskH K b (dk0 r) h /\ v = .pointer (some ⟨b, 0, none⟩)) := by
 refine Ct.fix2 (newDC r hr) ?_
 rintro w v K' hs' hS ⟨rfl, b, m, rfl, hm, rfl⟩
 obtain ⟨d, hS'⟩ := Sat.join m hS
 exact ⟨K', _, ⟨rfl, b, uns m, rfl, ⟨m, rfl, d, hm⟩, rfl⟩, hS'⟩
theorem deadH {w0 : World} {K h : PH} {hs : List PH} (b : Nat) (D : Dk) (hm : DskH K b D h) : Ct Tryz.prog w0 64 [.pointer (some ⟨b, 0, none⟩)] K (h :: hs)
  (fun v K' hs' => K' = K /\ hs' = h :: hs /\ v = .bool D.dead) := by
 obtain ⟨m, rfl, d, hm⟩ := hm
 refine Ct.bun d (deadC b D hm) ?_
 rintro v K' hs' ⟨rfl, rfl, rfl⟩
 exact ⟨m, rfl, fun _ => ⟨rfl, rfl, rfl⟩⟩
theorem readH {w0 : World} {K h : PH} {hs : List PH} (b : Nat) (D : Dk) (c : Nat) (o : D.Ok c) (hc : c <= 1099511627) (hm : DskH K b D h) (area n : Int) :
  Ct Tryz.prog w0 69 [.pointer (some ⟨b, 0, none⟩), .int .u64 area, .int .i64 n] K (h :: hs)
   (fun v K' hs' => ∃ h', hs' = h' :: hs /\ h' = h /\ Le K K' /\ ((D.read area n = none /\ v = .tuple #[.slice none 0 0, .bool false]) \/
    ∃ bs ao cap, D.read area n = some bs /\ bs.length = 64 /\ v = .tuple #[.slice ao bs.length cap, .bool true] /\ IsS K' ao bs.length cap 1 (bv bs))) := by
 obtain ⟨m, rfl, d, hm⟩ := hm
 refine Ct.bun d (readDC b D c o hc hm area n) ?_
 rintro v K' hs' ⟨le, rfl, hR⟩
 exact ⟨m, rfl, fun _ => ⟨_, rfl, rfl, le, hR⟩⟩
theorem writeH {w0 : World} {K hv h : PH} {hs : List PH} (b : Nat) (D : Dk) (c : Nat) (o : D.Ok c) (hc : c <= 1099511627) (hm : DskH K b D h) (area n : Int) (ha : 0 <= area /\ area <= 18446744073709551615) (ao : Option Addr) (cap : Nat) (bs : List UInt8) (hin : In K hs hv) (x : IsS hv ao bs.length cap 1 (bv bs)) :
  Ct Tryz.prog w0 126 [.pointer (some ⟨b, 0, none⟩), .int .u64 area, .int .i64 n, .slice ao bs.length cap] K (h :: hs)
   (fun v K' hs' => ∃ h', hs' = h' :: hs /\ Le K K' /\ DskH K' b (D.write area n bs).1 h' /\ v = .int .i64 (D.write area n bs).2) := by
 obtain ⟨m, rfl, d, hm⟩ := hm
 refine Ct.bun d (writeC b D c o hc hm area n ha ao cap bs hin x) ?_
 rintro v K' hs' ⟨le, m', rfl, hm', rfl⟩
 exact ⟨m', rfl, fun d' => ⟨_, rfl, le, ⟨m', rfl, d', hm'⟩, rfl⟩⟩
theorem syncH {w0 : World} {K h : PH} {hs : List PH} (b : Nat) (D : Dk) (c : Nat) (o : D.Ok c) (hc : c <= 1099511627) (hm : DskH K b D h) (area : Int) :
  Ct Tryz.prog w0 109 [.pointer (some ⟨b, 0, none⟩), .int .u64 area] K (h :: hs)
   (fun v K' hs' => ∃ h', hs' = h' :: hs /\ K' = K /\ DskH K b (D.sync area).1 h' /\ v = .int .i64 (D.sync area).2) := by
 obtain ⟨m, rfl, d, hm⟩ := hm
 refine Ct.bun d (syncC b D c o hc hm area) ?_
 rintro v K' hs' ⟨rfl, m', rfl, hm', rfl⟩
 exact ⟨m', rfl, fun d' => ⟨_, rfl, rfl, ⟨m', rfl, d', hm'⟩, rfl⟩⟩
theorem freeH {w0 : World} {K h : PH} {hs : List PH} (b : Nat) (D : Dk) (c : Nat) (o : D.Ok c) (hc : c <= 1099511627) (hm : DskH K b D h) (area : Int) :
  Ct Tryz.prog w0 40 [.pointer (some ⟨b, 0, none⟩), .int .u64 area] K (h :: hs)
   (fun v K' hs' => ∃ h', hs' = h' :: hs /\ K' = K /\ DskH K b (D.free area).1 h' /\ v = .int .i64 (D.free area).2) := by
 obtain ⟨m, rfl, d, hm⟩ := hm
 refine Ct.bun d (freeC b D c o hc hm area) ?_
 rintro v K' hs' ⟨rfl, m', rfl, hm', rfl⟩
 exact ⟨m', rfl, fun d' => ⟨_, rfl, rfl, ⟨m', rfl, d', hm'⟩, rfl⟩⟩
theorem areasH {w0 : World} {K h : PH} {hs : List PH} (b : Nat) (D : Dk) (c : Nat) (o : DOk c D) (hc : c <= 1000000000) (hm : DskH K b D h) :
  Ct Tryz.prog w0 37 [.pointer (some ⟨b, 0, none⟩)] K (h :: hs)
   (fun v K' hs' => ∃ h', hs' = h' :: hs /\ h' = h /\ Le K K' /\ ∃ ao c, v = .slice ao (areasL D).length c /\ IsS K' ao (areasL D).length c 1 (ivu (areasL D))) := by
 obtain ⟨m, rfl, d, hm⟩ := hm
 refine Ct.bun d (areasC b D c o.ok (by have := o.len; omega) (fun k hk => (o.ar k hk).1) hm) ?_
 rintro v K' hs' ⟨le, rfl, hR⟩
 exact ⟨m, rfl, fun _ => ⟨_, rfl, rfl, le, hR⟩⟩
end Go.Proofs.YtcncpbolcigpnaaGreat
end
section
namespace Go.En
attribute [local irreducible] Code.wp wpList Calls
theorem Sat.loss {w0 w : World} {K : PH} {hs : List PH} (s : Sat w0 w K hs) (i : Nat) {h h' : PH} (hi : hs[i]? = some h) (hh : h' = h \/ h' = em) : Sat w0 w K (hs.set i h') := by
 rcases hh with rfl | rfl
 ·have : hs.set i h' = hs := by
   apply List.ext_getElem?
   intro j
   rw [List.getElem?_set]
   split
   ·rename_i e; subst e
    split
    ·exact hi.symm
    ·rename_i e; rw [List.getElem?_eq_none (by omega)]
   ·rfl
  rw [this]; exact s
 ·exact ((s.perm (perm_front hs i h hi)).dropHead.addEm).perm (perm_set hs i h em hi)
section loss
variable {P : Program} {T : Tab} {w0 : World} {ops : Array Oper} {Q : Exit -> Act -> World -> Prop} {rest : List Oper} {n : Nat} {l : Sl} {K : PH} {hs : List PH} {c : Code} {e : Exit}
theorem WC.loss (i : Nat) {h : PH} (h' : PH) (hi : hs[i]? = some h) (hh : h' = h \/ h' = En.em) (hk : WC P w0 c Q n l K (hs.set i h')) : WC P w0 c Q n l K hs := fun a w ha hw => hk a w ha (hw.loss i hi hh)
theorem WQ.loss (i : Nat) {h : PH} (h' : PH) (hi : hs[i]? = some h) (hh : h' = h \/ h' = En.em) (hk : WQ w0 Q e n l K (hs.set i h')) : WQ w0 Q e n l K hs := fun a w ha hw => hk a w ha (hw.loss i hi hh)
end loss
def OwnZ (h : PH) (ao : Option Addr) (n cap e size : Nat) (xs : List Value) : Prop := Own h ao n cap e size xs \/ (n = 0 /\ cap = 0 /\ xs = [] /\ h = em)
theorem OwnZ.nil (e size : Nat) : OwnZ em none 0 0 e size [] := .inl (Own.nil e size)
theorem OwnZ.isS {h : PH} {ao : Option Addr} {n cap e size : Nat} {xs : List Value} (o : OwnZ h ao n cap e size xs) : IsS h ao n cap size xs := by
 rcases o with o | ⟨rfl, rfl, rfl, rfl⟩
 ·exact o.isS
 ·exact IsS.nil _ _ _ _
theorem OwnZ.caps {h : PH} {ao : Option Addr} {n cap e size : Nat} {xs : List Value} (o : OwnZ h ao n cap e size xs) : n <= cap := o.isS.2.1
theorem OwnZ.cut {h : PH} {ao : Option Addr} {n cap e size : Nat} {xs ys : List Value} (o : OwnZ h ao n cap e size xs) (L N : Nat) (hN : L + N <= n) (hy : (xs.drop (L * size)).take (N * size) = ys) :
  ∃ h', (h' = h \/ h' = em) /\ OwnZ h' (cutA ao cap L size) N (cap - L) e size ys := by
 have hcap := o.caps
 rcases o with o | ⟨rfl, rfl, rfl, rfl⟩
 ·obtain ⟨h1, h2, h3, h4⟩ := o
  have hys : ys.length = N * size := by
   rw [<- hy, List.length_take, List.length_drop, h1]
   have : (L + N) * size <= n * size := Nat.mul_le_mul_right _ hN
   rw [Nat.add_mul] at this
   omega
  by_cases hL : L = cap
  ·subst hL
   obtain rfl : N = 0 := by omega
   refine ⟨em, .inr rfl, .inr ⟨rfl, by omega, ?_, rfl⟩⟩
   rw [Nat.zero_mul] at hys
   exact List.length_eq_zero_iff.1 hys
  ·rcases h4 with ⟨_, h5, _⟩ | ⟨g, off, cur, rfl, rfl, e3, e4⟩
   ·omega
   ·refine ⟨_, .inl rfl, .inl ⟨hys, by omega, by omega, .inr ⟨g, off + L * size, cur, cutA_lt (by omega), rfl, ?_, ?_⟩⟩⟩
    ·rw [e3]
     have : cap * size = L * size + (cap - L) * size := by rw [<- Nat.add_mul]; congr 1; omega
     omega
    ·rw [<- hy, <- e4, List.drop_take, List.take_take, List.drop_drop]
     have : N * size <= n * size - L * size := by
      have : (L + N) * size <= n * size := Nat.mul_le_mul_right _ hN
      rw [Nat.add_mul] at this
      omega
     rw [Nat.min_eq_left this]
 ·obtain rfl : L = 0 := by omega
  obtain rfl : N = 0 := by omega
  refine ⟨em, .inl rfl, .inr ⟨rfl, rfl, ?_, rfl⟩⟩
  rw [<- hy]; simp
section rules
variable {P : Program} {T : Tab} {w0 : World} {ops : Array Oper} {Q : Exit -> Act -> World -> Prop} {rest rest' : List Oper} {n : Nat} {l l' : Sl} {K : PH} {hs : List PH}
theorem appq (hT : TabOK P T) (k i : Nat) {d : Nat} {si : SlI} {ao ao2 : Option Addr} {n1 c1 n2 c2 : Nat} {h h2 : PH} {xs news : List Value} (h0 : apAt T ops n k rest l = some (d, si, (ao, n1, c1), (ao2, n2, c2), rest', l'))
  (hi : hs[i]? = some h) (o : OwnZ h ao n1 c1 si.elem si.size xs) (hm : In K hs h2) (x : IsS h2 ao2 n2 c2 si.size news) (hz : si.zero.cells.size = si.size) (hsz : 0 < si.size) (h1 : ∀ u ∈ news, u.oneCell' = true) (hn2 : 0 < n2)
  (hb : (n1 + n2) * si.bytes <= 140737488355328) (h63 : n1 + n2 <= maxLen)
  (hk : ∀ ao' cap' h', Own h' ao' (n1 + n2) cap' si.elem si.size (xs ++ news) -> WL P w0 ops Q rest' n ((d, .slice ao' (n1 + n2) cap') :: l') K (hs.set i h')) : WL P w0 ops Q rest n l K hs := by
 rcases o with o | ⟨rfl, rfl, rfl, rfl⟩
 ·exact app hT k i h0 hi o hm x hz hsz h1 hb h63 hk
 ·refine appf hT k h0 (.inl rfl) (IsS.nil _ _ _ _) (fun _ => rfl) hm x hz hsz (by omega) hb h63 fun ao' cap' h' o' => ?_
  have p : (h' :: hs).Perm (em :: hs.set i h') := ((perm_front hs i em hi).cons h').trans ((List.Perm.swap em h' _).trans ((perm_set hs i em h' hi).cons em))
  exact WL.perm p (WL.drop (hk ao' cap' h' o'))
end rules
def SlZ {α : Type} (size e : Nat) (R : List Value -> α -> Prop) (h : PH) (ao : Option Addr) (n cap : Nat) (xs : List α) : Prop :=
 ∃ css : List (List Value), n = xs.length /\ OwnZ h ao n cap e size css.flatten /\ Al2 R css xs /\ ∀ d ∈ css, d.length = size
section slz
variable {α : Type} {R R' : List Value -> α -> Prop} {size e : Nat} {h : PH} {ao : Option Addr} {n cap : Nat} {xs : List α}
theorem SlZ.nil (size e : Nat) : SlZ size e R em none 0 0 [] := ⟨[], rfl, OwnZ.nil e size, trivial, by simp⟩
theorem SlZ.slS (x : SlZ size e R h ao n cap xs) : SlS size R h ao n cap xs := by
 obtain ⟨css, h1, h2, h3, h4⟩ := x
 exact ⟨css, h1, h2.isS, h3, h4⟩
theorem SlZ.imp (hR : ∀ c x, R c x -> R' c x) (x : SlZ size e R h ao n cap xs) : SlZ size e R' h ao n cap xs := by
 obtain ⟨css, h1, h2, h3, h4⟩ := x
 exact ⟨css, h1, h2, h3.imp hR, h4⟩
theorem SlZ.len (x : SlZ size e R h ao n cap xs) : n = xs.length := let ⟨_, h1, _⟩ := x; h1
theorem SlZ.caps (x : SlZ size e R h ao n cap xs) : n <= cap := let ⟨_, _, h2, _⟩ := x; h2.caps
theorem SlZ.cut (x : SlZ size e R h ao n cap xs) (L N : Nat) (hN : L + N <= n) : ∃ h', (h' = h \/ h' = em) /\ SlZ size e R h' (cutA ao cap L size) N (cap - L) ((xs.drop L).take N) := by
 obtain ⟨css, h1, h2, h3, h4⟩ := x
 have hl : css.length = n := by rw [h3.len, h1]
 obtain ⟨h', g1, g2⟩ := h2.cut L N hN (ys := ((css.drop L).take N).flatten) (by rw [flat_drop L h4, flat_take N (fun d hd => h4 d (List.mem_of_mem_drop hd))])
 refine ⟨h', g1, (css.drop L).take N, by rw [List.length_take, List.length_drop]; omega, g2, (h3.drop L).take N, fun d hd => h4 d (List.mem_of_mem_drop (List.mem_of_mem_take hd))⟩
theorem appSq {P : Program} {T : Tab} {w0 : World} {ops : Array Oper} {Q : Exit -> Act -> World -> Prop} {rest rest' : List Oper} {n : Nat} {l l' : Sl} {K : PH} {hs : List PH}
  (hT : TabOK P T) (k i : Nat) {d : Nat} {si : SlI} {ao : Option Addr} {n1 c1 b : Nat} {h : PH} {xs : List α} (c : List Value) (x : α) (h0 : apAt T ops n k rest l = some (d, si, (ao, n1, c1), (some ⟨b, 0, none⟩, 1, 1), rest', l'))
  (h2 : hs[0]? = some (pt b c.toArray si.elem)) (hi : hs[i]? = some h) (o : SlZ si.size si.elem R h ao n1 c1 xs) (hc : R c x) (hl : c.length = si.size) (h1 : ∀ u ∈ c, u.oneCell' = true) (hz : si.zero.cells.size = si.size) (hsz : 0 < si.size) (hb : (n1 + 1) * si.bytes <= 140737488355328) (h63 : n1 + 1 <= maxLen)
  (hk : ∀ ao' cap' h', SlZ si.size si.elem R h' ao' (n1 + 1) cap' (xs ++ [x]) -> WL P w0 ops Q rest' n ((d, .slice ao' (n1 + 1) cap') :: l') K (hs.set i h')) : WL P w0 ops Q rest n l K hs := by
 obtain ⟨css, q1, q2, q3, q4⟩ := o
 have xv : IsS (pt b c.toArray si.elem) (some ⟨b, 0, none⟩) 1 1 si.size c := by
  simpa using (Own.ofPt (b := b) (c := c.toArray) (e := si.elem) (n := 1) (size := si.size) (by simpa using hl) (by simp [maxLen])).isS
 refine appq hT k i h0 hi q2 (.inr ⟨0, h2⟩) xv hz hsz h1 (by omega) hb h63 fun ao' cap' h' o' => hk ao' cap' h' ?_
 refine ⟨css ++ [c], by simp [q1], .inl (by simpa using o'), q3.append ⟨hc, trivial⟩, ?_⟩
 intro d hd
 rcases List.mem_append.1 hd with hd | hd
 ·exact q4 d hd
 ·simp only [List.mem_singleton] at hd; rw [hd]; exact hl
end slz
def waitsP (ops : Array Oper) (z : Nat) : List Nat -> Nat -> Bool
 | [], i => Region.waitsFor .any ops z i
 | y :: ys, i => Region.waitsFor .any ops z y && waitsP ops y ys i
theorem waits1 {ops : Array Oper} {L : Array Bool} (c : Closed .any ops L) {z i : Nat} (hw : Region.waitsFor .any ops z i = true) (hz : L.getD z false = true) : L.getD i false = true := by
 obtain ⟨oj, hoj, e, he, hbb, hon⟩ := Region.waitsFor_spec hw
 have := c.2 z oj hoj hz e he hbb
 rwa [hon] at this
theorem waitsP_spec {ops : Array Oper} {L : Array Bool} (c : Closed .any ops L) : ∀ (ys : List Nat) {z i : Nat}, waitsP ops z ys i = true -> L.getD z false = true -> L.getD i false = true
 | [], z, i, hw, hz => waits1 c hw hz
 | y :: ys, z, i, hw, hz => by
  simp only [waitsP, Bool.and_eq_true] at hw
  exact waitsP_spec c ys hw.2 (waits1 c hw.1 hz)
theorem closed_waitsP {ops : Array Oper} {L : Array Bool} {i z : Nat} (c : Closed .any ops L) (ys : List Nat) (hi : L.getD i true = false) (hw : waitsP ops z ys i = true) : L.getD z false = false := by
 cases hz : L.getD z false with
 | false => rfl
 | true =>
  have := waitsP_spec c ys hw hz
  rcases Nat.lt_or_ge i L.size with h' | h'
  ·simp [h'] at hi this; rw [hi] at this; cases this
  ·simp [Array.getElem?_eq_none h'] at this
section path
variable {P : Program} {T : Tab} {w0 : World} {ops : Array Oper} {Q : Exit -> Act -> World -> Prop} {plan plan' : List Nat} {z : Nat} {listed listed' : Array Bool} {n : Nat} {l l' : Sl} {K K0 : PH} {hs A : List PH}
theorem dldt (ys : List Nat) (hT : TabOK P T) (hsel : Region.noSelect ops = true) (k : Nat) {p d : Nat} {a : Addr} {v : Value} {h : PH} (h0 : dldwAt T ops n z k plan listed l = some (p, d, a, plan', listed', l')) (hwf : waitsP ops z ys (p / 2) = true) (hm : In K0 A h) (hc : Cell h a v)
  (hk : WA P w0 ops Q K0 A z plan' listed' n ((d, v) :: l') K hs) : WA P w0 ops Q K0 A z plan listed n l K hs := by
 unfold dldwAt at h0
 split at h0
 ·rename_i p' o r L' l2 hh
  split at h0
  ·rename_i dd t x hp hz hg hd hop
   split at h0
   ·rename_i kd a' hb hkd hx
    cases h1 : kd.one with
    | false => simp [h1] at h0
    | true =>
     simp only [h1, cond_true, Option.some.injEq, Prod.mk.injEq] at h0
     obtain ⟨rfl, rfl, rfl, rfl, rfl, rfl⟩ := h0
     obtain ⟨g1, g2⟩ := headAt_spec hh
     refine WA.pures hT hsel k g1 ?_
     have hp2 : p' = 2 * (p' / 2) := by have := Nat.eq_of_beq_eq_true hp; omega
     rw [hp2]
     refine WA.look g2 hsel hz hd hb (fun A' ha => .inl ⟨gOK_wanted ha hg, fun w hw => ?_⟩) hk
     obtain ⟨L, hcl, hun, hst⟩ := hw
     have hcell := (hst (closed_waitsP hcl ys hun hwf)).cell hm hc
     have h2 := run_load1 (P := P) hT hkd h1 hcell
     simp only [execOp, hop, ha.ev hx]
     simp [h2]
   ·simp at h0
  ·simp at h0
 ·simp at h0
theorem dldtp (ys : List Nat) (hT : TabOK P T) (hsel : Region.noSelect ops = true) (k i : Nat) {p d b off ty : Nat} {v : Value} {c : Array Value} {fr : Nat × Nat} (h0 : dldwAt T ops n z k plan listed l = some (p, d, ⟨b, off, none⟩, plan', listed', l')) (hwf : waitsP ops z ys (p / 2) = true)
  (hi : A[i]? = some (pt b c ty fr)) (hv : c[off]? = some v) (hk : WA P w0 ops Q K0 A z plan' listed' n ((d, v) :: l') K hs) : WA P w0 ops Q K0 A z plan listed n l K hs :=
 dldt ys hT hsel k h0 hwf (.inr ⟨i, hi⟩) (Cell.pt hv) hk
end path
end Go.En
end
section
namespace Go.En
def segA (num : Nat) : Int := ((4 * num + 1 : Nat) : Int)
def usedB (s : List UInt8) : Nat := min (s.getD 0 0).toNat 63
def wtx (D : Dk) (num : Nat) : Nat -> Nat -> List UInt8
 | 0, _ => []
 | f + 1, n => match D.read (segA num) n with
  | none => []
  | some s => (s.drop 1).take (usedB s) ++ (if usedB s < 63 then [] else wtx D num f (n + 1))
def wtext (D : Dk) (num : Nat) : List UInt8 := wtx D num 65537 0
def wTop : Nat := 4611686018427387904
def wMany : Nat := 1152921504606846976
def wrecs : Nat -> Rd -> List (List UInt8)
 | 0, _ => []
 | f + 1, r => if (rBytes 512 r).2.2 = 0 then (rBytes 512 r).1 :: wrecs f (rBytes 512 r).2 else []
structure WOp where
 num : Nat
 idx : Nat
 full : Nat
 rest : List UInt8
structure Wl where
 op : Option WOp
 first : Nat
 recs : List (List UInt8)
 old : List (Nat × Nat)
 next : Nat
 code : Int
def Wl.follows (W : Wl) (n idx : Nat) : Wl × Bool :=
 if W.old.length = 0 \/ idx < W.first then ({ W with first := idx, recs := [], old := W.old ++ [(n, idx)] }, true)
 else if W.recs.length < idx - W.first then (W, false)
 else ({ W with recs := W.recs.take (idx - W.first), old := W.old ++ [(n, idx)] }, true)
def wread (D : Dk) (n : Nat) (W : Wl) : Wl × Bool × Bool :=
 if (rUint wTop (wtext D n, 0)).2.2 ≠ 0 then (W, true, true)
 else if (W.follows n (rUint wTop (wtext D n, 0)).1).2 = false then ((W.follows n (rUint wTop (wtext D n, 0)).1).1, false, false)
 else ({ (W.follows n (rUint wTop (wtext D n, 0)).1).1 with recs := (W.follows n (rUint wTop (wtext D n, 0)).1).1.recs ++ wrecs ((wtext D n).length + 1) (rUint wTop (wtext D n, 0)).2 }, true, false)
def wnums (ars : List Int) : List Nat := (ars.filter fun a => decide (a % 4 = 1)).map fun a => a.toNat / 4
def wnext (ars : List Int) : Nat := (wnums ars).foldl (fun _ n => n + 1) 0
def wstep (D : Dk) (fr n : Nat) (W : Wl) : Wl × Bool × Bool := if n < fr then (W, true, true) else wread D n W
def wscan (D : Dk) (fr : Nat) : List Nat -> Wl -> List Nat -> Wl × List Nat × Bool
 | [], W, g => (W, g, true)
 | n :: r, W, g =>
  if (wstep D fr n W).2.1 = false \/ wTop < (wstep D fr n W).1.first + (wstep D fr n W).1.recs.length then ((wstep D fr n W).1, if (wstep D fr n W).2.2 then g ++ [n] else g, false)
  else wscan D fr r (wstep D fr n W).1 (if (wstep D fr n W).2.2 then g ++ [n] else g)
def wset1 (D : Dk) (g : List Nat) (n : Nat) : Dk × Int := if n ∈ g then D.free (segA n) else D.sync (segA n)
def wsettle (g : List Nat) : List Nat -> Dk -> Dk × Int
 | [], D => (D, 0)
 | n :: r, D => if (wset1 D g n).2 = 0 then wsettle g r (wset1 D g n).1 else wset1 D g n
def wl0 (fr first : Nat) (ars : List Int) : Wl := ⟨none, first, [], [], max (wnext ars) fr, 0⟩
def wOpen (D : Dk) (fr first : Nat) : Option Wl × Dk × Int :=
 if D.dead = true then (none, D, 30)
 else if wTop < first then (none, D, 52)
 else if wMany < (wl0 fr first (areasL D)).next then (none, D, 52)
 else if (wscan D fr (wnums (areasL D)) (wl0 fr first (areasL D)) []).2.2 = false then (none, D, 52)
 else if (wsettle (wscan D fr (wnums (areasL D)) (wl0 fr first (areasL D)) []).2.1 (wnums (areasL D)) D).2 ≠ 0 then (none, wsettle (wscan D fr (wnums (areasL D)) (wl0 fr first (areasL D)) []).2.1 (wnums (areasL D)) D)
 else (some (wscan D fr (wnums (areasL D)) (wl0 fr first (areasL D)) []).1, (wsettle (wscan D fr (wnums (areasL D)) (wl0 fr first (areasL D)) []).2.1 (wnums (areasL D)) D).1, 0)
def wrL : Nat -> WOp -> Dk -> WOp × Dk × Int
 | 0, o, D => (o, D, 0)
 | f + 1, o, D =>
  if (D.write (segA o.num) o.full (UInt8.ofNat (min o.rest.length 63) :: o.rest.take (min o.rest.length 63))).2 ≠ 0 \/ o.rest.length < 63 then
   (o, (D.write (segA o.num) o.full (UInt8.ofNat (min o.rest.length 63) :: o.rest.take (min o.rest.length 63))).1, (D.write (segA o.num) o.full (UInt8.ofNat (min o.rest.length 63) :: o.rest.take (min o.rest.length 63))).2)
  else if o.rest.length = 63 then ({ o with full := o.full + 1, rest := [] }, (D.write (segA o.num) o.full (UInt8.ofNat (min o.rest.length 63) :: o.rest.take (min o.rest.length 63))).1, 0)
  else wrL f { o with full := o.full + 1, rest := o.rest.drop 63 } (D.write (segA o.num) o.full (UInt8.ofNat (min o.rest.length 63) :: o.rest.take (min o.rest.length 63))).1
def wrO (o : WOp) (b : List UInt8) (D : Dk) : WOp × Dk × Int := wrL (o.rest.length + b.length + 1) { o with rest := o.rest ++ b } D
def Wl.sync (W : Wl) (D : Dk) : Wl × Dk :=
 if W.code ≠ 0 then (W, D) else match W.op with
 | none => (W, D)
 | some o => ({ W with code := (D.sync (segA o.num)).2 }, (D.sync (segA o.num)).1)
def Wl.begin (W : Wl) (i : Nat) (D : Dk) : Wl × Dk :=
 if (W.sync D).1.code ≠ 0 then W.sync D
 else ({ (W.sync D).1 with op := some (wrO ⟨W.next, i, 0, []⟩ (uint i) (W.sync D).2).1, next := W.next + 1, old := W.old ++ [(W.next, i)], code := (wrO ⟨W.next, i, 0, []⟩ (uint i) (W.sync D).2).2.2 }, (wrO ⟨W.next, i, 0, []⟩ (uint i) (W.sync D).2).2.1)
def wNeed : Option WOp -> Bool
 | none => true
 | some o => decide (16 <= o.full)
def wLay (W : Wl) (b : List UInt8) (D : Dk) : Wl × Dk × Int := match W.op with
 | none => (W, D, W.code)
 | some o => ({ W with op := some (wrO o (putBytes b) D).1, code := (wrO o (putBytes b) D).2.2, recs := if (wrO o (putBytes b) D).2.2 = 0 then W.recs ++ [b] else W.recs }, (wrO o (putBytes b) D).2.1, (wrO o (putBytes b) D).2.2)
def Wl.append (W : Wl) (b : List UInt8) (D : Dk) : Wl × Dk × Int :=
 if W.code ≠ 0 then (W, D, W.code)
 else if 512 < b.length then (W, D, 50)
 else if W.first + W.recs.length = wTop then (W, D, 51)
 else if wNeed W.op = true then
  (if (W.begin (W.first + W.recs.length) D).1.code ≠ 0 then ((W.begin (W.first + W.recs.length) D).1, (W.begin (W.first + W.recs.length) D).2, (W.begin (W.first + W.recs.length) D).1.code)
   else wLay (W.begin (W.first + W.recs.length) D).1 b (W.begin (W.first + W.recs.length) D).2)
 else wLay W b D
end Go.En
end
section
namespace Go.En
theorem number_back : ∀ (b : List UInt8) (i acc : Nat), i <= 9 -> (number i acc b).2.2 = 0 -> ∃ (m : Nat) (r : List UInt8), b = uint m ++ r /\ (number i acc b).1 = acc + m * 128 ^ i /\ (number i acc b).2.1 = i + (uint m).length /\ (0 < i -> 0 < m)
 | [], i, acc, hi, h => by simp [number] at h
 | c :: r, i, acc, hi, h => by
  have hc := c.toNat_lt
  rw [number_cons] at h ⊢
  by_cases h1 : i = 9 /\ 1 < c.toNat
  ·rw [if_pos h1] at h; simp at h
  ·rw [if_neg h1] at h ⊢
   by_cases h2 : 128 <= c.toNat
   ·rw [if_pos h2] at h ⊢
    obtain ⟨m, r', hb, hn, hk, hp⟩ := number_back r (i + 1) (acc + c.toNat % 128 * 128 ^ i) (by omega) h
    have hm := hp (by omega)
    refine ⟨c.toNat % 128 + 128 * m, r', ?_, ?_, ?_, fun _ => by omega⟩
    ·rw [uint_ge (by omega), show (c.toNat % 128 + 128 * m) / 128 = m from by omega, show (c.toNat % 128 + 128 * m) % 128 + 128 = c.toNat from by omega, hb]
     simp
    ·rw [hn, Nat.pow_succ, Nat.add_mul]
     have : m * (128 ^ i * 128) = 128 * m * 128 ^ i := by rw [Nat.mul_comm (128 ^ i), <- Nat.mul_assoc, Nat.mul_comm m]
     omega
    ·rw [hk, uint_ge (n := c.toNat % 128 + 128 * m) (by omega), show (c.toNat % 128 + 128 * m) / 128 = m from by omega, List.length_cons]
     omega
   ·rw [if_neg h2] at h ⊢
    by_cases h3 : c.toNat = 0 /\ 0 < i
    ·rw [if_pos h3] at h; simp at h
    ·rw [if_neg h3] at h ⊢
     refine ⟨c.toNat, r, ?_, ?_, ?_, fun _ => by omega⟩
     ·rw [uint_lt (by omega)]; simp
     ·rw [Nat.mod_eq_of_lt (by omega)]
     ·rw [uint_lt (by omega)]; simp
theorem rUint_ok {m : Nat} {b : List UInt8} (h : (rUint m (b, 0)).2.2 = 0) : b = uint (rUint m (b, 0)).1 ++ (rUint m (b, 0)).2.1 /\ (rUint m (b, 0)).1 <= m := by
 unfold rUint at h ⊢
 simp only [if_true] at h ⊢
 by_cases h1 : (number 0 0 b).2.2 = 0
 ·rw [if_pos h1] at h ⊢
  by_cases h2 : m < (number 0 0 b).1
  ·rw [if_pos h2] at h; simp at h
  ·rw [if_neg h2]
   obtain ⟨k, r, hb, hn, hk, _⟩ := number_back b 0 0 (by omega) h1
   simp only [Nat.pow_zero, Nat.mul_one, Nat.zero_add] at hn hk
   refine ⟨?_, by dsimp only; omega⟩
   dsimp only
   rw [hn, hk]
   conv => lhs; rw [hb]
   rw [hb, List.drop_left]
 ·rw [if_neg h1] at h; exact absurd h h1
def un4 : List UInt8 -> Nat
 | [] => 0
 | c :: r => c.toNat + 256 * un4 r
theorem rBytes_bd (m : Int) (b : List UInt8) (e : Int) : (rBytes m (b, e)).1.length <= b.length /\ (rBytes m (b, e)).2.1.length <= b.length := by
 have h := (rUint_bd m.toNat b e).2
 unfold rBytes
 dsimp only
 split
 ·split
  ·exact ⟨Nat.zero_le _, Nat.le_refl _⟩
  ·refine ⟨?_, ?_⟩ <;> simp <;> omega
 ·exact ⟨Nat.zero_le _, h⟩
theorem un4_lt : ∀ (l : List UInt8) (k : Nat), l.length <= k -> un4 l < 256 ^ k
 | [], k, _ => by simp only [un4]; exact Nat.pow_pos (by decide)
 | c :: l, 0, h => by simp at h
 | c :: l, k + 1, h => by
  have := un4_lt l k (by simpa using h)
  have hc := c.toNat_lt
  rw [un4, Nat.pow_succ]
  omega
end Go.En
end
section
namespace Go.En
def leB : Nat -> Nat -> List UInt8
 | 0, _ => []
 | k + 1, n => UInt8.ofNat n :: leB k (n / 256)
theorem leB_length : ∀ (k n : Nat), (leB k n).length = k
 | 0, _ => rfl
 | k + 1, n => by simp [leB, leB_length k]
theorem leB_get : ∀ (k n i : Nat), i < k -> (leB k n)[i]? = some (UInt8.ofNat (n / 256 ^ i))
 | 0, _, _, h => by omega
 | k + 1, n, 0, _ => by simp [leB]
 | k + 1, n, i + 1, h => by
  rw [leB, List.getElem?_cons_succ, leB_get k (n / 256) i (by omega), Nat.div_div_eq_div_mul, Nat.pow_succ, Nat.mul_comm]
def sectH (n : Nat) (v : List UInt8) : List UInt8 := leB 8 n ++ (UInt8.ofNat v.length :: (v ++ List.replicate (51 - v.length) 0))
def sect (n : Nat) (v : List UInt8) : List UInt8 := sectH n v ++ leB 4 (crc (sectH n v)).toNat
theorem sectH_length {n : Nat} {v : List UInt8} (h : v.length <= 48) : (sectH n v).length = 60 := by simp [sectH, leB_length]; omega
theorem sect_length {n : Nat} {v : List UInt8} (h : v.length <= 48) : (sect n v).length = 64 := by simp [sect, leB_length, sectH_length h]
def sltSay (b : List UInt8) (i : Nat) : Nat × List UInt8 :=
 if 48 < (b.getD 8 0).toNat then (0, [])
 else if un4 (b.take 8) % 2 = i /\ b = sect (un4 (b.take 8)) ((b.drop 9).take (b.getD 8 0).toNat) then (un4 (b.take 8), (b.drop 9).take (b.getD 8 0).toNat) else (0, [])
def sltRd (D : Dk) (area i : Nat) : Nat × List UInt8 := match D.read area i with
 | none => (0, [])
 | some b => sltSay b i
structure Slt where
 num : Nat
 val : List UInt8
def Slt.pick (s : Slt) (r : Nat × List UInt8) : Slt := if s.num < r.1 then ⟨r.1, r.2⟩ else s
def sltOpen (D : Dk) (area : Nat) : Slt := (Slt.pick ⟨0, []⟩ (sltRd D area 0)).pick (sltRd D area 1)
def Slt.save (s : Slt) (area : Nat) (D : Dk) (v : List UInt8) : Slt × Dk × Int :=
 if 48 < v.length \/ s.num = 18446744073709551615 then (s, D, 40)
 else if (D.write area (((s.num + 1) % 2 : Nat) : Int) (sect (s.num + 1) v)).2 = 0 then
  (if ((D.write area (((s.num + 1) % 2 : Nat) : Int) (sect (s.num + 1) v)).1.sync area).2 = 0 then ⟨s.num + 1, v⟩ else s, ((D.write area (((s.num + 1) % 2 : Nat) : Int) (sect (s.num + 1) v)).1.sync area).1, ((D.write area (((s.num + 1) % 2 : Nat) : Int) (sect (s.num + 1) v)).1.sync area).2)
 else (s, (D.write area (((s.num + 1) % 2 : Nat) : Int) (sect (s.num + 1) v)).1, (D.write area (((s.num + 1) % 2 : Nat) : Int) (sect (s.num + 1) v)).2)
end Go.En
end
section
namespace Go.Proofs.YtcncpbolcigpnaaGreat
open Go.En
attribute [local irreducible] Code.wp wpList Calls
theorem putUint {w0 : World} {K h : PH} {R : List PH} (ao : Option Addr) (c1 : Nat) (bs : List UInt8) (n : Nat) (o : Own h ao bs.length c1 5 1 (bv bs)) (hn : n < 18446744073709551616) (hb : bs.length < 1099511627776) :
  Ct Tryz.prog w0 113 [.slice ao bs.length c1, .int .u64 (n : Nat)] K (h :: R)
   (fun v K' hs' => ∃ h', hs' = h' :: R /\ K' = K /\ ∃ ao' c', v = .slice ao' (bs ++ uint n).length c' /\ Own h' ao' (bs ++ uint n).length c' 5 1 (bv (bs ++ uint n))) := by
 refine enter Tryz.func113 (by kernel_rfl) rfl rfl rfl ?_
 refine sq (rg ?_)
 refine fin hT 1 rfl (th ?_)
 refine sq (bk ?_)
 refine loop (σ := List UInt8 × Nat × Option Addr × Nat × PH) (fun x => [(0, .slice x.2.2.1 x.1.length x.2.2.2.1), (1, .int .u64 (x.2.1 : Nat)), (4, .slice none 0 0)]) (fun _ => K) (fun x => x.2.2.2.2 :: R)
  (fun x => Own x.2.2.2.2 x.2.2.1 x.1.length x.2.2.2.1 5 1 (bv x.1) /\ x.1 ++ uint x.2.1 = bs ++ uint n /\ x.2.1 < 18446744073709551616) (fun x => x.2.1) (bs, n, ao, c1, h) ⟨o, rfl, hn⟩ ⟨rfl, rfl, rfl, trivial⟩ rfl rfl ?_
 rintro ⟨bs', m, ao', c', h'⟩ ⟨o', heq, hm⟩
 dsimp only at o' heq hm ⊢
 have hbs : bs'.length <= bs.length + 10 := by
  have h1 := congrArg List.length heq
  have h2 := uint_le10 hn
  simp at h1
  omega
 refine sq (sq (rg ?_))
 refine cmp hT 1 rfl (fun h1 => ?_) (fun h1 => ?_)
 ·refine fin hT 0 rfl (th (ifT rfl (sk (th (bk (sq (rg ?_)))))))
  refine ar hT 2 rfl (u8m m) ?_
  refine ar hT 0 rfl (v' := .int .u8 ((m % 128 + 128 : Nat) : Int)) (u8or128 m) ?_
  refine lit hT 0 #[.int .u8 ((m % 128 + 128 : Nat) : Int)] rfl (by decide) (by kernel_rfl) fun b => ?_
  refine app hT 0 1 rfl rfl o' (.inr ⟨0, rfl⟩) (isS_byte b (m % 128 + 128) (by omega)) rfl (by decide) (bv_one _) (by simp; omega) (by simp [maxLen]; omega) fun ao2 c2 h2 o2 => ?_
  refine fin hT 1 rfl (th (rg ?_))
  refine ar hT 1 rfl (v' := .int .u64 ((m / 128 : Nat) : Int)) (u64shr7 m) ?_
  refine fin hT 1 rfl (bl ?_)
  refine WQ.drop ?_
  rw [<- bv_append] at o2
  have e1 : (bs' ++ [UInt8.ofNat (m % 128 + 128)]).length = bs'.length + 1 := by simp
  rw [<- e1] at o2
  have e2 := uint_ge (n := m) (by omega)
  exact again (x := (bs', m, ao', c', h')) (bs' ++ [UInt8.ofNat (m % 128 + 128)], m / 128, ao2, c2, h2) ⟨by rw [<- e1]; rfl, rfl, rfl, trivial⟩ rfl rfl
   ⟨o2, by simp only [List.append_assoc, List.singleton_append]; rw [<- e2]; exact heq, by dsimp only; omega⟩ (by dsimp only; omega)
 ·refine fin hT 0 rfl (th (ifF rfl (ex (xt (xt (xb (th (sq (rg ?_)))))) )))
  have hlt : m < 128 := by omega
  refine ar hT 2 rfl (u8m m) ?_
  refine lit hT 0 #[.int .u8 ((m % 256 : Nat) : Int)] rfl (by decide) (by kernel_rfl) fun b => ?_
  refine app hT 0 1 rfl rfl o' (.inr ⟨0, rfl⟩) (isS_byte b (m % 256) (by omega)) rfl (by decide) (bv_one _) (by simp; omega) (by simp [maxLen]; omega) fun ao2 c2 h2 o2 => ?_
  refine fin hT 1 rfl (th (WC.drop (rt ?_)))
  rw [<- bv_append] at o2
  have e1 : m % 256 = m := by omega
  have e2 : bs' ++ [UInt8.ofNat (m % 256)] = bs ++ uint n := by rw [e1, <- heq, uint_lt hlt]
  have e3 : bs'.length + 1 = (bs ++ uint n).length := by rw [<- e2]; simp
  rw [e2, e3] at o2
  exact ret1 rfl (by rw [<- e3]; rfl) ⟨h2, rfl, rfl, ao2, c2, rfl, o2⟩
theorem sumC {w0 : World} {K hb : PH} {hs : List PH} (ao : Option Addr) (cap : Nat) (b : List UInt8) (hm : In K hs hb) (x : IsS hb ao b.length cap 1 (bv b)) (hl : b.length < 1099511627776) :
  Ct Tryz.prog w0 120 [.slice ao b.length cap] K hs (fun v K' hs' => K' = K /\ hs' = hs /\ v = .int .u32 ((crc b).toNat : Nat)) := by
 refine enter Tryz.func120 (by kernel_rfl) rfl rfl rfl ?_
 refine sq (rg ?_)
 refine fin hT 1 rfl (th (sq (rg ?_)))
 refine fin hT 1 rfl (th (sq (sq (rg ?_))))
 refine fin hT 3 rfl (th (bk ?_))
 refine loop (σ := Nat) (fun j => [(6, .slice ao b.length cap), (7, .int .i64 (b.length : Nat)), (8, .int .i64 (j : Nat)), (3, .int .u32 ((crcRaw 4294967295#32 (b.take j)).toNat : Nat))]) (fun _ => K) (fun _ => hs) (fun j => j <= b.length) (fun j => b.length - j)
  0 (Nat.zero_le _) ⟨rfl, rfl, rfl, rfl, trivial⟩ rfl rfl ?_
 intro j hj
 refine sq (rg ?_)
 refine cmp hT 0 rfl (fun h1 => ?_) (fun h1 => ?_)
 ·have hlt : j < b.length := by omega
  refine fin hT 0 rfl (th (sq (ifT rfl (sk (th (sq (bk (sq (rg ?_)))))))))
  refine ix1 hT 0 j rfl rfl rfl x (bv_get hlt) fun a10 hc10 => ?_
  refine ld hT 0 rfl hm hc10 ?_
  refine fin hT 1 rfl (th (sq (rg ?_)))
  refine ar hT 2 rfl (u32ofByte _) ?_
  refine ar hT 0 rfl (u32xor _ _) ?_
  refine fin hT 1 rfl (th (sq (rg ?_)))
  refine fin hT 1 rfl (th (bk ?_))
  refine loop (σ := Nat) (fun i => [(16, .int .i64 (i : Nat)), (3, .int .u32 ((crcBits i (crcRaw 4294967295#32 (b.take j) ^^^ BitVec.ofNat 32 b[j].toNat)).toNat : Nat)), (6, .slice ao b.length cap), (7, .int .i64 (b.length : Nat)), (8, .int .i64 (j : Nat))]) (fun _ => K) (fun _ => hs) (fun i => i <= 8) (fun i => 8 - i)
   0 (Nat.zero_le _) ⟨rfl, rfl, rfl, rfl, rfl, trivial⟩ rfl rfl ?_
  intro i hi
  refine sq (rg ?_)
  refine cmp hT 0 rfl (fun h2 => ?_) (fun h2 => ?_)
  ·refine fin hT 0 rfl (th (sq (ifT rfl (sk (th (sq (bk (rg ?_))))))))
   refine ar hT 1 rfl (u32shr1 _) ?_
   refine ar hT 1 rfl (u32and1 _) ?_
   refine ar hT 0 rfl (u32neg _) ?_
   refine ar hT 0 rfl (u32andP _) ?_
   refine ar hT 0 rfl (u32xor _ _) ?_
   refine fin hT 1 rfl (bl (th (rg ?_)))
   refine ar hT 0 rfl (i64w (by omega)) ?_
   refine fin hT 1 rfl ?_
   exact again (x := i) (i + 1) ⟨rfl, by rw [crcBits_succ]; rfl, rfl, rfl, rfl, trivial⟩ rfl rfl (by omega) (by omega)
  ·obtain rfl : i = 8 := by omega
   refine fin hT 0 rfl (th (sq (ifF rfl (ex (xt (xt (xb (bl (th (rg ?_))))))))))
   refine ar hT 0 rfl (i64w (by omega)) ?_
   refine fin hT 1 rfl ?_
   exact again (x := j) (j + 1) ⟨rfl, rfl, rfl, by rw [take_succ_get b j hlt, crcRaw_snoc]; rfl, trivial⟩ rfl rfl (by omega) (by omega)
 ·obtain rfl : j = b.length := by omega
  refine fin hT 0 rfl (th (sq (ifF rfl (ex (xt (xt (xb (th (sq (rg ?_))))))))))
  refine ar hT 1 rfl (u32not _) ?_
  refine fin hT 1 rfl (th (rt ?_))
  exact ret1 rfl rfl ⟨rfl, rfl, by rw [List.take_length]; rfl⟩
end Go.Proofs.YtcncpbolcigpnaaGreat
end
section
namespace Go.En
theorem bA_isS {g ty : Nat} {A B C : List UInt8} {off n cap : Nat} (ho : off = A.length) (hn : n = B.length) (hc : n <= cap) : IsS (pt g (bv (A ++ B ++ C)).toArray ty) (some ⟨g, off, none⟩) n cap 1 (bv B) := by
 subst ho
 subst hn
 refine ⟨by simp [bv], hc, fun j u hu => ⟨_, rfl, ?_⟩⟩
 have hj : j < B.length := by
  have := (List.getElem?_eq_some_iff.1 hu).1
  simpa [bv] using this
 rw [add_mk]
 refine Cell.pt ?_
 rw [List.getElem?_toArray, bv_append, bv_append, List.append_assoc, List.getElem?_append_right (by simp [bv]), List.getElem?_append_left (by simpa [bv] using hj)]
 simpa [bv] using hu
theorem bA_get {l : List UInt8} {i : Nat} (h : i < l.length) : (bv l).toArray[i]? = some (.int .u8 ((l[i].toNat : Nat) : Int)) := by rw [List.getElem?_toArray, bv_get h]
theorem bA_set (l : List UInt8) (i m : Nat) : (bv l).toArray.setIfInBounds i (.int .u8 ((m % 256 : Nat) : Int)) = (bv (l.set i (UInt8.ofNat m))).toArray := by
 rw [List.setIfInBounds_toArray]
 unfold bv
 rw [List.map_set]
 have : (UInt8.ofNat m).toNat = m % 256 := by simp
 rw [this]
theorem leB_step {k n i : Nat} {B : List UInt8} (hB : B.length = k) (hi : i < k) : ((leB k n).take i ++ B.drop i).set i (UInt8.ofNat (n / 2 ^ (8 * i))) = (leB k n).take (i + 1) ++ B.drop (i + 1) := by
 have hl : ((leB k n).take i).length = i := by rw [List.length_take, leB_length]; omega
 have hp : (2 : Nat) ^ (8 * i) = 256 ^ i := by rw [Nat.pow_mul]
 rw [List.set_append_right _ _ (by omega), hl, Nat.sub_self, List.drop_eq_getElem_cons (by omega), List.set_cons_zero, hp, List.take_add_one, leB_get k n i hi]
 simp
theorem cpyAt {X v Z W : List UInt8} {k : Nat} (hk : k = X.length) (hz : Z.length = v.length) : (List.take k (bv (X ++ (Z ++ W))) ++ List.take (v.length * 1) (bv v) ++ List.drop (k + v.length * 1) (bv (X ++ (Z ++ W)))).toArray = (bv (X ++ (v ++ W))).toArray := by
 subst hk
 congr 1
 have hb : ∀ l : List UInt8, (bv l).length = l.length := fun l => by simp [bv]
 have h1 : List.take (v.length * 1) (bv v) = bv v := List.take_of_length_le (by rw [hb]; omega)
 have h2 : List.take X.length (bv (X ++ (Z ++ W))) = bv X := by rw [bv_append, List.take_append_of_le_length (by rw [hb]; exact Nat.le_refl _), List.take_of_length_le (by rw [hb]; exact Nat.le_refl _)]
 have h3 : List.drop (X.length + v.length * 1) (bv (X ++ (Z ++ W))) = bv W := by
  rw [<- List.append_assoc, bv_append, List.drop_append, hb, List.drop_of_length_le (by rw [hb, List.length_append]; omega), List.nil_append, List.length_append, show X.length + v.length * 1 - (X.length + Z.length) = 0 from by omega, List.drop_zero]
 rw [h1, h2, h3, bv_append, bv_append, List.append_assoc]
end Go.En
namespace Go.Proofs.YtcncpbolcigpnaaGreat
open Go.En
attribute [local irreducible] Code.wp wpList Calls
theorem layC {w0 : World} {K : PH} {hs : List PH} (g off k cap ty n : Nat) (A B C : List UInt8) (ho : off = A.length) (hB : B.length = k) (hk : k <= 8) (hc : k <= cap) :
  Ct Tryz.prog w0 119 [.slice (some ⟨g, off, none⟩) k cap, .int .u64 ((n : Nat) : Int)] K (pt g (bv (A ++ B ++ C)).toArray ty :: hs)
   (fun v K' hs' => K' = K /\ hs' = pt g (bv (A ++ leB k n ++ C)).toArray ty :: hs) := by
 refine enter Tryz.func119 (by kernel_rfl) rfl rfl rfl ?_
 refine sq (rg ?_)
 refine fin hT 3 rfl (th (bk ?_))
 refine loop (σ := Nat) (fun i => [(0, .slice (some ⟨g, off, none⟩) k cap), (1, .int .u64 ((n : Nat) : Int)), (6, .int .i64 ((k : Nat) : Int)), (7, .int .i64 ((i : Nat) : Int))]) (fun _ => K) (fun i => pt g (bv (A ++ ((leB k n).take i ++ B.drop i) ++ C)).toArray ty :: hs)
  (fun i => i <= k) (fun i => k - i) 0 (Nat.zero_le _) ⟨rfl, rfl, rfl, rfl, trivial⟩ rfl (by simp) ?_
 intro i hi
 refine sq (rg ?_)
 refine cmpS hT 0 rfl fun b8 h8 => ?_
 refine fin hT 0 rfl (th (sq (ifP h8 rfl (fun e2 => ?_) (fun e2 => ?_))))
 ·have hik : i < k := by omega
  obtain ⟨M, hM⟩ : ∃ M, M = (leB k n).take i ++ B.drop i := ⟨_, rfl⟩
  have hMl : M.length = k := by rw [hM, List.length_append, List.length_take, List.length_drop, leB_length]; omega
  rw [<- hM]
  refine sk (th (sq (bk (sq (rg ?_)))))
  refine fin hT 2 rfl (th (rg ?_))
  refine ar hT 4 rfl (i64w (x := ((8 * i : Nat) : Int)) (by omega)) ?_
  refine shf hT 0 rfl (by omega) (.inr ⟨rfl, u64shr n _ (8 * i) rfl (by omega)⟩) ?_
  refine ar hT 0 rfl (u8m _) ?_
  refine ixs hT 0 i rfl rfl (bA_isS (g := g) (ty := ty) (C := C) ho hMl.symm hc) hik (by decide) fun a17 ha => ?_
  cases ha
  simp only [add_mk, Nat.mul_one]
  refine stp hT 0 0 rfl rfl (bA_get (l := A ++ M ++ C) (i := off + i) (by simp only [List.length_append]; omega)) rfl ?_
  refine fin hT 0 rfl (bl (th (rg ?_)))
  refine ar hT 0 rfl (i64w (x := ((i + 1 : Nat) : Int)) (by omega)) ?_
  refine fin hT 1 rfl ?_
  refine again (x := i) (i + 1) ⟨rfl, rfl, rfl, rfl, trivial⟩ rfl ?_ hik (by omega)
  show pt g _ ty :: hs = _
  rw [bA_set, List.set_append_left _ _ (by rw [List.length_append]; omega), List.set_append_right _ _ (by omega), show off + i - A.length = i from by omega, hM, leB_step hB hik]
 ·refine ex (xt (xt (xb ?_)))
  obtain rfl : i = k := by omega
  refine end0 rfl ⟨rfl, ?_⟩
  rw [List.take_of_length_le (by rw [leB_length]; omega), List.drop_of_length_le (by omega), List.append_nil]
theorem sectorC {w0 : World} {K hv : PH} {hs : List PH} (n : Nat) (v : List UInt8) (ao : Option Addr) (cap : Nat) (hl : v.length <= 48) (hin : In K hs hv) (x : IsS hv ao v.length cap 1 (bv v)) :
  Ct Tryz.prog w0 100 [.int .u64 ((n : Nat) : Int), .slice ao v.length cap] K hs (fun u K' hs' => K' = K /\ hs' = hs /\ u = .agg (bv (sect n v)).toArray) := by
 have hHl := sectH_length (n := n) hl
 refine enter Tryz.func100 (by kernel_rfl) rfl rfl rfl ?_
 refine sq (rg ?_)
 refine al hT 0 (.agg (bv (List.replicate 64 0)).toArray) rfl (by kernel_rfl) fun b4 => ?_
 refine fin hT 0 rfl (th (sq (rg ?_)))
 refine al hT 0 (.agg (bv (List.replicate 64 0)).toArray) rfl (by kernel_rfl) fun b5 => ?_
 refine fin hT 0 rfl (th (sq (rg ?_)))
 refine sla hT 0 (sz := 1) 0 8 rfl rfl Tryz.underlying176 (by kernel_rfl) rfl rfl (by decide) (by decide) ?_
 simp only [add_mk, Nat.zero_mul, Nat.add_zero]
 refine cl hT 1 rfl (layC b5 0 8 64 176 n [] (List.replicate 8 0) (List.replicate 56 0) rfl (by simp) (by decide) (by decide)) ?_
 rintro v8 K8 hs8 ⟨rfl, rfl⟩
 refine fin hT 0 rfl (th (sq (rg ?_)))
 refine ar hT 2 rfl (u8m _) ?_
 refine ixa hT 0 (sz := 1) 8 rfl Tryz.underlying176 (by kernel_rfl) rfl (by decide) ?_
 simp only [add_mk, Nat.zero_add, Nat.mul_one]
 refine stp hT 0 0 rfl rfl (bA_get (l := [] ++ leB 8 n ++ List.replicate 56 0) (i := 8) (by simp [leB_length])) rfl ?_
 refine WL.hs (pt b5 (bv (leB 8 n ++ (UInt8.ofNat v.length :: List.replicate 55 0))).toArray 176 :: pt b4 (bv (List.replicate 64 0)).toArray 176 :: hs) (congrArg (fun z => pt b5 z 176 :: pt b4 (bv (List.replicate 64 0)).toArray 176 :: hs) (by
  rw [bA_set, List.nil_append, List.set_append_right _ _ (by rw [leB_length]; exact Nat.le_refl _), leB_length]
  rfl)) ?_
 refine fin hT 0 rfl (th (sq (rg ?_)))
 refine sla hT 0 (sz := 1) 9 55 rfl rfl Tryz.underlying176 (by kernel_rfl) rfl rfl (by decide) (by decide) ?_
 simp only [add_mk, Nat.zero_add, Nat.mul_one]
 refine cpy hT 1 0 v.length rfl rfl rfl (In.cons (In.cons hin)) x (by omega) (fun u hu => bv_one v u (List.mem_of_mem_take hu)) (by show 9 + v.length * 1 <= (bv (leB 8 n ++ (UInt8.ofNat v.length :: List.replicate 55 0))).toArray.size; simp [bv, leB_length]; omega) ?_
 refine WL.hs (pt b5 (bv (sectH n v ++ List.replicate 4 0)).toArray 176 :: pt b4 (bv (List.replicate 64 0)).toArray 176 :: hs) (congrArg (fun z => pt b5 z 176 :: pt b4 (bv (List.replicate 64 0)).toArray 176 :: hs) (by
  have e2 : List.replicate 55 (0 : UInt8) = List.replicate v.length 0 ++ (List.replicate (51 - v.length) 0 ++ List.replicate 4 0) := by
   rw [List.replicate_append_replicate, List.replicate_append_replicate]
   congr 1
   omega
  have e3 : leB 8 n ++ (UInt8.ofNat v.length :: List.replicate 55 0) = (leB 8 n ++ [UInt8.ofNat v.length]) ++ (List.replicate v.length 0 ++ (List.replicate (51 - v.length) 0 ++ List.replicate 4 0)) := by rw [<- e2]; simp
  rw [e3]
  refine (cpyAt (by simp [leB_length]) (by simp)).trans ?_
  unfold sectH
  simp)) ?_
 refine fin hT 0 rfl (th (sq (rga [] 5 [0, 2, 5, 6, 9] (by simp) (by kernel_rfl) (by kernel_rfl) ?_)))
 refine dsla hT (by kernel_rfl) 0 (sz := 1) 60 4 rfl rfl Tryz.underlying176 (by kernel_rfl) rfl rfl (by decide) (by decide) ?_
 refine dsla hT (by kernel_rfl) 0 (sz := 1) 0 60 rfl rfl Tryz.underlying176 (by kernel_rfl) rfl rfl (by decide) (by decide) ?_
 simp only [add_mk, Nat.zero_add, Nat.mul_one, Nat.zero_mul, Nat.sub_zero, Nat.reduceSub, Nat.reduceAdd]
 refine dact hT (by kernel_rfl) 0 rfl ?_
 have xH : IsS (pt b5 (bv (sectH n v ++ List.replicate 4 0)).toArray 176) (some ⟨b5, 0, none⟩) (sectH n v).length 64 1 (bv (sectH n v)) := by
  have := bA_isS (g := b5) (ty := 176) (A := []) (B := sectH n v) (C := List.replicate 4 0) (off := 0) (n := (sectH n v).length) (cap := 64) rfl rfl (by omega)
  simpa using this
 have hsum := sumC (w0 := w0) (K := K8) (hs := pt b5 (bv (sectH n v ++ List.replicate 4 0)).toArray 176 :: pt b4 (bv (List.replicate 64 0)).toArray 176 :: hs) (some ⟨b5, 0, none⟩) 64 (sectH n v) (.inr ⟨0, rfl⟩) xH (by omega)
 rw [hHl] at hsum
 refine cl hT 0 rfl hsum ?_
 rintro v18 K18 hs18 ⟨rfl, rfl, rfl⟩
 refine dnex [] (by simp) (by simp) rfl ?_
 have hcl := (crc (sectH n v)).isLt
 refine dar hT (by kernel_rfl) 0 rfl (u64w (by omega)) ?_
 refine dact hT (by kernel_rfl) 0 rfl ?_
 have hlay := layC (w0 := w0) (K := K18) (hs := pt b4 (bv (List.replicate 64 0)).toArray 176 :: hs) b5 60 4 4 176 (crc (sectH n v)).toNat (sectH n v) (List.replicate 4 0) [] hHl.symm (by simp) (by decide) (by decide)
 rw [List.append_nil, List.append_nil] at hlay
 refine cl hT 0 rfl hlay ?_
 rintro v20 K20 hs20 ⟨rfl, rfl⟩
 have hsl : (sect n v).length = 64 := sect_length hl
 have hss : (bv (sect n v)).toArray.size = 64 := by simp [bv, hsl]
 refine dnex [] (by simp) (by simp) rfl ?_
 refine dend hT (by kernel_rfl) 0 rfl (th (sq (rg ?_)))
 refine ldS hT 0 0 rfl rfl (by show aggOK Tryz.prog _ (bv (sect n v)).toArray.size = true; rw [hss]; kernel_rfl) ?_
 refine stS hT 0 1 rfl rfl (by show _ = some (bv (sect n v)).toArray.size; rw [hss]; kernel_rfl) (by show (bv (sect n v)).toArray.size = _; rw [hss]; rfl) (by simp only [Array.all_toList, List.all_eq_true]; first | exact bv_one (sect n v) | (simp; intro u hu; exact bv_one (sect n v) u hu)) ?_
 refine fin hT 0 rfl (th (rt (WQ.drop ?_)))
 exact retcA 0 1 rfl rfl rfl (by show aggOK Tryz.prog _ (bv (sect n v)).toArray.size = true; rw [hss]; kernel_rfl) ⟨rfl, rfl, rfl⟩
end Go.Proofs.YtcncpbolcigpnaaGreat
end
section
namespace Go.Proofs.YtcncpbolcigpnaaGreat
open Go.En
attribute [local irreducible] Code.wp wpList Calls
theorem cloneB {w0 : World} {K hb : PH} {hs : List PH} (ao : Option Addr) (cap : Nat) (b : List UInt8) (hm : In K hs hb) (x : IsS hb ao b.length cap 1 (bv b)) (hl : b.length < 1099511627776) :
  Ct Tryz.prog w0 25 [.slice ao b.length cap] K hs
   (fun v K' hs' => K' = K /\ ∃ h' ao' c', hs' = h' :: hs /\ v = .slice ao' b.length c' /\ Own h' ao' b.length c' 5 1 (bv b)) := by
 refine enter Tryz.func25 (by kernel_rfl) rfl rfl rfl ?_
 refine sq (rg ?_)
 refine fin hT 1 rfl (th (sq (sq (rg ?_))))
 refine cb hT 1 rfl (fun h1 => ?_) (fun h1 => ?_)
 ·have hao : ao = none := by simpa using h1
  subst hao
  have hb0 : b = [] := by
   cases b with
   | nil => rfl
   | cons c r => obtain ⟨a, ha, _⟩ := x.2.2 0 _ (by simp [bv]; rfl); cases ha
  subst hb0
  refine fin hT 0 rfl (th (ifT rfl (sq (rg ?_))))
  refine fin hT 1 rfl (th (rt (rT (WQ.em ?_))))
  exact ret1 rfl rfl ⟨rfl, em, none, 0, rfl, rfl, Own.nil _ _⟩
 ·refine fin hT 0 rfl (th (ifF rfl (sk (th (sq (rg ?_))))))
  refine lit hT 0 #[] rfl (by decide) (by kernel_rfl) fun b5 => ?_
  refine app hT 1 0 rfl rfl (Own.ofPt (c := #[]) (n := 0) (by simp) (by simp [maxLen])) (In.cons hm) x rfl (by decide) (bv_one _) (by simp; omega) (by simp [maxLen]; omega) fun ao7 c7 g7 o7 => ?_
  refine fin hT 1 rfl (th (rt ?_))
  have e : 0 + b.length = b.length := Nat.zero_add _
  rw [e] at o7
  exact ret1 rfl (by rw [e]; rfl) ⟨rfl, g7, ao7, c7, rfl, rfl, o7⟩
theorem numberC {w0 : World} {K hb : PH} {hs : List PH} (ao : Option Addr) (cap : Nat) (b : List UInt8) (hm : In K hs hb) (x : IsS hb ao b.length cap 1 (bv b)) (hl : b.length < 1099511627776) :
  Ct Tryz.prog w0 86 [.slice ao b.length cap] K hs
   (fun v K' hs' => K' = K /\ hs' = hs /\ v = .tuple #[.int .u64 ((number 0 0 b).1 : Nat), .int .i64 ((number 0 0 b).2.1 : Nat), .int .i64 (number 0 0 b).2.2]) := by
 refine enter Tryz.func86 (by kernel_rfl) rfl rfl rfl ?_
 refine sq (rg ?_)
 refine fin hT 3 rfl (th (sq (rg ?_)))
 refine fin hT 1 rfl (th (sq (sq (rg ?_))))
 refine fin hT 3 rfl (th (bk ?_))
 refine loop (σ := Nat × Nat) (fun s => [(5, .int .u64 (s.2 : Nat)), (8, .slice ao b.length cap), (9, .int .i64 (b.length : Nat)), (10, .int .i64 (s.1 : Nat))]) (fun _ => K) (fun _ => hs)
  (fun s => s.1 <= b.length /\ s.1 <= 9 /\ s.2 < 128 ^ s.1 /\ number s.1 s.2 (b.drop s.1) = number 0 0 b) (fun s => b.length - s.1) (0, 0) ⟨Nat.zero_le _, by omega, by simp, rfl⟩ ⟨rfl, rfl, rfl, rfl, trivial⟩ rfl rfl ?_
 rintro ⟨i, acc⟩ ⟨hi, hi9, hacc, hnum⟩
 dsimp only at hi hi9 hacc hnum ⊢
 refine sq (rg ?_)
 refine cmp hT 0 rfl (fun h1 => ?_) (fun h1 => ?_)
 ·have hlt : i < b.length := by omega
  have hd : b.drop i = b[i] :: b.drop (i + 1) := List.drop_eq_getElem_cons hlt
  rw [hd] at hnum
  have hc := b[i].toNat_lt
  generalize hcc : b[i] = c at *
  have hm128 : c.toNat % 128 < 128 := Nat.mod_lt _ (by decide)
  rw [number_cons] at hnum
  refine fin hT 0 rfl (th (sq (ifT rfl (sk (th (sq (bk (sq (rg ?_)))))))))
  refine ix1 hT 1 i rfl rfl rfl x (by rw [bv_get hlt, hcc]) fun a13 hc13 => ?_
  refine ld hT 0 rfl hm hc13 ?_
  refine fin hT 2 rfl (th (sq (sq (rg ?_))))
  refine cmp hT 1 rfl (fun h2 => ?_) (fun h2 => ?_)
  ·refine cmp hT 2 rfl (fun h3 => ?_) (fun h3 => ?_)
   ·rw [if_pos ⟨by omega, by omega⟩] at hnum
    refine fin hT 1 rfl (th (ifT rfl (sq (rg ?_))))
    refine fin hT 3 rfl (th (rt (rT (rB (rT (rT (rB (rT ?_))))))))
    exact ret3 rfl rfl rfl rfl ⟨rfl, rfl, by rw [<- hnum]; rfl⟩
   ·rw [if_neg (by omega), if_neg (by omega)] at hnum
    have hb1 := mul_pow_lt hi9 hacc hm128 (by omega)
    refine fin hT 1 rfl (th (ifF rfl (sk (th (sq (rg ?_))))))
    refine ar hT 2 rfl (u8and127 _) ?_
    refine ar hT 0 rfl (u64w (by omega)) ?_
    refine ar hT 1 rfl (i64w (by omega)) ?_
    refine shf hT 0 rfl (by omega) (.inl ⟨rfl, u64shl7 _ _ hi9 (by omega)⟩) ?_
    refine ar hT 0 rfl (u64or _ _ _ hacc hb1.1) ?_
    refine fin hT 1 rfl (th (sq (sq (rg ?_))))
    refine cmp hT 1 rfl (fun h4 => absurd h4 (by omega)) (fun h4 => ?_)
    refine fin hT 0 rfl (th (ifF rfl (sk (th (sq (sq (rg ?_)))))))
    refine cmp hT 1 rfl (fun h5 => ?_) (fun h5 => ?_)
    ·refine cmp hT 2 rfl (fun h6 => ?_) (fun h6 => absurd h6 (by omega))
     rw [if_pos ⟨by omega, by omega⟩] at hnum
     refine fin hT 1 rfl (th (ifT rfl (sq (rg ?_))))
     refine fin hT 3 rfl (th (rt (rT (rB (rT (rT (rB (rT ?_))))))))
     exact ret3 rfl rfl rfl rfl ⟨rfl, rfl, by rw [<- hnum]; rfl⟩
    ·rw [if_neg (by omega)] at hnum
     refine fin hT 4 rfl (th (ifF rfl (sk (th (sq (rg ?_))))))
     refine ar hT 2 rfl (i64w (by omega)) ?_
     refine fin hT 3 rfl (th (rt (rB (rT (rT (rB (rT ?_)))))))
     exact ret3 rfl rfl rfl rfl ⟨rfl, rfl, by rw [<- hnum]; rfl⟩
  ·rw [if_neg (by omega)] at hnum
   have hb1 := mul_pow_lt hi9 hacc hm128 (by omega)
   refine fin hT 4 rfl (th (ifF rfl (sk (th (sq (rg ?_))))))
   refine ar hT 2 rfl (u8and127 _) ?_
   refine ar hT 0 rfl (u64w (by omega)) ?_
   refine ar hT 1 rfl (i64w (by omega)) ?_
   refine shf hT 0 rfl (by omega) (.inl ⟨rfl, u64shl7 _ _ hi9 (by omega)⟩) ?_
   refine ar hT 0 rfl (u64or _ _ _ hacc hb1.1) ?_
   refine fin hT 1 rfl (th (sq (sq (rg ?_))))
   refine cmp hT 1 rfl (fun h7 => ?_) (fun h7 => ?_)
   ·rw [if_pos (by omega)] at hnum
    refine fin hT 0 rfl (th (ifT rfl (ex (xt (xb (th (rg ?_)))))))
    refine ar hT 0 rfl (i64w (by omega)) ?_
    refine fin hT 1 rfl ?_
    exact again (x := (i, acc)) (i + 1, acc + c.toNat % 128 * 128 ^ i) ⟨rfl, rfl, rfl, rfl, trivial⟩ rfl rfl ⟨by dsimp only; omega, by dsimp only; omega, hb1.2 (by omega), hnum⟩ (by dsimp only; omega)
   ·rw [if_neg (by omega)] at hnum
    refine fin hT 0 rfl (th (ifF rfl (sk (th (sq (sq (rg ?_)))))))
    refine cmp hT 1 rfl (fun h8 => ?_) (fun h8 => ?_)
    ·refine cmp hT 2 rfl (fun h9 => ?_) (fun h9 => ?_)
     ·rw [if_pos ⟨by omega, by omega⟩] at hnum
      refine fin hT 1 rfl (th (ifT rfl (sq (rg ?_))))
      refine fin hT 3 rfl (th (rt (rT (rB (rT (rT (rB (rT ?_))))))))
      exact ret3 rfl rfl rfl rfl ⟨rfl, rfl, by rw [<- hnum]; rfl⟩
     ·rw [if_neg (by omega)] at hnum
      refine fin hT 1 rfl (th (ifF rfl (sk (th (sq (rg ?_))))))
      refine ar hT 2 rfl (i64w (by omega)) ?_
      refine fin hT 3 rfl (th (rt (rB (rT (rT (rB (rT ?_)))))))
      exact ret3 rfl rfl rfl rfl ⟨rfl, rfl, by rw [<- hnum]; rfl⟩
    ·rw [if_neg (by omega)] at hnum
     refine fin hT 4 rfl (th (ifF rfl (sk (th (sq (rg ?_))))))
     refine ar hT 2 rfl (i64w (by omega)) ?_
     refine fin hT 3 rfl (th (rt (rB (rT (rT (rB (rT ?_)))))))
     exact ret3 rfl rfl rfl rfl ⟨rfl, rfl, by rw [<- hnum]; rfl⟩
 ·obtain rfl : i = b.length := by omega
  refine fin hT 0 rfl (th (sq (ifF rfl (ex (xt (xt (xb (th (sq (rg ?_))))))))))
  refine fin hT 3 rfl (th (rt ?_))
  exact ret3 rfl rfl rfl rfl ⟨rfl, rfl, by rw [<- hnum, List.drop_length]; rfl⟩
end Go.Proofs.YtcncpbolcigpnaaGreat
end
section
namespace Go.Proofs.YtcncpbolcigpnaaGreat
open Go.En
attribute [local irreducible] Code.wp wpList Calls
def IsRd (rb : Nat) (hb : PH) (s : Rd) (h : PH) : Prop := ∃ ao cap, h = pt rb #[.slice ao s.1.length cap, .int .i64 s.2] 155 /\ IsS hb ao s.1.length cap 1 (bv s.1)
section
variable {w0 : World} {K hb h : PH} {R : List PH} {rb : Nat}
theorem endC (s : Rd) (r : IsRd rb hb s h) : Ct Tryz.prog w0 52 [.pointer (some ⟨rb, 0, none⟩)] K (h :: R) (fun v K' hs' => K' = K /\ hs' = h :: R /\ v = .int .i64 (rEnd s)) := by
 obtain ⟨ao, cap, rfl, x⟩ := r
 obtain ⟨b, e⟩ := s
 refine enter Tryz.func52 (by kernel_rfl) rfl rfl rfl ?_
 refine sq (rg ?_)
 refine fin hT 1 rfl (th (sq (sq (rg ?_))))
 refine ldp hT 3 0 rfl rfl rfl ?_
 refine cmp hT 0 rfl (fun h1 => ?_) (fun h1 => ?_)
 ·refine ldp hT 4 0 rfl rfl rfl ?_
  refine cmp hT 1 rfl (fun h2 => ?_) (fun h2 => ?_)
  ·refine fin hT 1 rfl (th (ifT rfl (sq (rg ?_))))
   refine fin hT 1 rfl (th (rt (rT ?_)))
   exact ret1 rfl rfl ⟨rfl, rfl, by rw [rEnd, if_pos ⟨h1, by dsimp only at h2; omega⟩]⟩
  ·refine fin hT 1 rfl (th (ifF rfl (sk (th (sq (rg ?_))))))
   refine ldp hT 3 0 rfl rfl rfl ?_
   refine fin hT 1 rfl (th (rt ?_))
   exact ret1 rfl rfl ⟨rfl, rfl, by rw [rEnd, if_neg (by dsimp only at h2; omega)]; rfl⟩
 ·refine fin hT 8 rfl (th (ifF rfl (sk (th (sq (rg ?_))))))
  refine ldp hT 3 0 rfl rfl rfl ?_
  refine fin hT 1 rfl (th (rt ?_))
  exact ret1 rfl rfl ⟨rfl, rfl, by rw [rEnd, if_neg (fun h => h1 h.1)]; rfl⟩
theorem failC (s : Rd) (e : Int) (r : IsRd rb hb s h) : Ct Tryz.prog w0 51 [.pointer (some ⟨rb, 0, none⟩), .int .i64 e] K (h :: R)
  (fun v K' hs' => ∃ h', hs' = h' :: R /\ K' = K /\ v = .tuple #[] /\ IsRd rb hb (s.1, if s.2 = 0 then e else s.2) h') := by
 obtain ⟨ao, cap, rfl, x⟩ := r
 obtain ⟨b, e0⟩ := s
 refine enter Tryz.func51 (by kernel_rfl) rfl rfl rfl ?_
 refine sq (rg ?_)
 refine ldp hT 3 0 rfl rfl rfl ?_
 refine cmp hT 0 rfl (fun h1 => ?_) (fun h1 => ?_)
 ·refine fin hT 0 rfl (th (ifT rfl (rg ?_)))
  refine stp hT 4 0 rfl rfl rfl rfl ?_
  refine fin hT 0 rfl ?_
  exact end0 rfl ⟨_, rfl, rfl, rfl, ao, cap, by rw [if_pos h1]; rfl, x⟩
 ·refine fin hT 0 rfl (th (ifF rfl (sk ?_)))
  exact end0 rfl ⟨_, rfl, rfl, rfl, ao, cap, by rw [if_neg h1], x⟩
theorem byteC (hm : In K R hb) (s : Rd) (r : IsRd rb hb s h) : Ct Tryz.prog w0 48 [.pointer (some ⟨rb, 0, none⟩)] K (h :: R)
  (fun v K' hs' => ∃ h', hs' = h' :: R /\ K' = K /\ v = .int .u8 ((rByte s).1 : Nat) /\ IsRd rb hb (rByte s).2 h') := by
 obtain ⟨ao, cap, rfl, x⟩ := r
 obtain ⟨b, e⟩ := s
 refine enter Tryz.func48 (by kernel_rfl) rfl rfl rfl ?_
 refine sq (rg ?_)
 refine fin hT 1 rfl (th (sq (bk (sq (bk (sq (bk (sq (sq (sq (rg ?_)))))))))))
 refine ldp hT 3 0 rfl rfl rfl ?_
 refine cmp hT 0 rfl (fun h1 => ?_) (fun h1 => ?_)
 ·dsimp only at h1
  refine ldp hT 4 0 rfl rfl rfl ?_
  refine cmp hT 1 rfl (fun h2 => ?_) (fun h2 => ?_)
  ·dsimp only at h2
   have hb0 : b = [] := List.eq_nil_of_length_eq_zero (by omega)
   subst hb0
   refine fin hT 2 rfl (th (ifT rfl (ex (xt (xt (xb (th (rg ?_))))))))
   refine stp hT 3 0 rfl rfl rfl rfl ?_
   refine fin hT 0 rfl (bl (th (sq (sq (rg ?_)))))
   refine fin hT 1 rfl (th (rt (rT (rB (rT ?_)))))
   exact ret1 rfl rfl ⟨_, rfl, rfl, by simp [rByte, h1], ao, cap, by simp [rByte, h1], by simpa [rByte, h1] using x⟩
  ·cases b with
   | nil => exact absurd rfl h2
   | cons c r =>
    have hv : (rByte (c :: r, e)) = (c.toNat, (r, 0)) := by simp [rByte, h1]
    refine fin hT 2 rfl (th (ifF rfl (sk (th (sq (rg ?_))))))
    refine ldp hT 3 0 rfl rfl rfl ?_
    refine cmp hT 0 rfl (fun h3 => absurd h1 h3) (fun h3 => ?_)
    refine fin hT 1 rfl (th (ifF rfl (sk (th (ex (xn rfl (xt (xn rfl (xt (xb (th (sq (rg ?_)))))))))))))
    refine ldp hT 3 0 rfl rfl rfl ?_
    refine ix1 hT 0 0 rfl rfl rfl x (by rfl) fun a31 hc31 => ?_
    refine ld hT 0 rfl (In.cons hm) hc31 ?_
    refine fin hT 1 rfl (th (sq (rg ?_)))
    refine ldp hT 4 0 rfl rfl rfl ?_
    refine sl hT 0 1 r.length rfl x rfl (by simp; omega) (by simp; omega) (ys := bv r) (by simp only [bv, List.map_cons, Nat.mul_one, List.drop_succ_cons, List.drop_zero]; rw [List.take_of_length_le (by simp)]) fun ao38 c38 x38 => ?_
    refine stp hT 2 0 rfl rfl rfl rfl ?_
    refine fin hT 0 rfl (th (sq (rg ?_)))
    refine fin hT 2 rfl (th (rt ?_))
    rw [hv]
    exact ret1 rfl rfl ⟨_, rfl, rfl, rfl, ao38, c38, by rw [h1]; rfl, x38⟩
 ·dsimp only at h1
  have hv : (rByte (b, e)) = (0, (b, e)) := by simp [rByte, h1]
  refine fin hT 9 rfl (th (ifF rfl (sk (th (sq (rg ?_))))))
  refine ldp hT 3 0 rfl rfl rfl ?_
  refine cmp hT 0 rfl (fun h4 => ?_) (fun h4 => absurd h1 h4)
  refine fin hT 1 rfl (th (ifT rfl (ex (xt (xn rfl (xt (xb (th (sq (sq (rg ?_)))))))))))
  refine fin hT 1 rfl (th (rt (rT (rB (rT ?_)))))
  rw [hv]
  exact ret1 rfl rfl ⟨_, rfl, rfl, rfl, ao, cap, rfl, x⟩
theorem uintC (hm : In K R hb) (most : Nat) (s : Rd) (hl : s.1.length < 1099511627776) (r : IsRd rb hb s h) : Ct Tryz.prog w0 49 [.pointer (some ⟨rb, 0, none⟩), .int .u64 (most : Nat)] K (h :: R)
  (fun v K' hs' => ∃ h', hs' = h' :: R /\ K' = K /\ v = .int .u64 ((rUint most s).1 : Nat) /\ IsRd rb hb (rUint most s).2 h') := by
 obtain ⟨ao, cap, rfl, x⟩ := r
 obtain ⟨b, e⟩ := s
 refine enter Tryz.func49 (by kernel_rfl) rfl rfl rfl ?_
 refine sq (rg ?_)
 refine fin hT 1 rfl (th (sq (sq (rg ?_))))
 refine ldp hT 3 0 rfl rfl rfl ?_
 refine cmp hT 0 rfl (fun h1 => ?_) (fun h1 => ?_)
 ·dsimp only at h1
  have hv : rUint most (b, e) = (0, (b, e)) := by simp [rUint, h1]
  refine fin hT 0 rfl (th (ifT rfl (sq (rg ?_))))
  refine fin hT 1 rfl (th (rt (rT ?_)))
  rw [hv]
  exact ret1 rfl rfl ⟨_, rfl, rfl, rfl, ao, cap, rfl, x⟩
 ·dsimp only at h1 hl x
  have he : e = 0 := by omega
  subst he
  refine fin hT 0 rfl (th (ifF rfl (sk (th (sq (rg ?_))))))
  refine ldp hT 3 0 rfl rfl rfl ?_
  refine cl hT 0 rfl (numberC ao cap b (In.cons hm) x hl) ?_
  rintro v18 K18 hs18 ⟨rfl, rfl, rfl⟩
  have hbd := number_bd b 0 0 (by omega) (by omega)
  have hun : rUint most (b, 0) = if (number 0 0 b).2.2 = 0 then (if most < (number 0 0 b).1 then (0, (b, 22)) else ((number 0 0 b).1, (b.drop (number 0 0 b).2.1, 0))) else (0, (b, (number 0 0 b).2.2)) := by simp [rUint]
  generalize number 0 0 b = N at *
  obtain ⟨nn, kk, ee⟩ := N
  dsimp only at hun hbd ⊢
  refine fin hT 7 rfl (th (sq (sq (rg ?_))))
  refine cmp hT 1 rfl (fun h2 => ?_) (fun h2 => ?_)
  ·subst h2
   rw [if_pos rfl] at hun
   refine cmp hT 3 rfl (fun h3 => ?_) (fun h3 => ?_)
   ·rw [if_pos (by omega)] at hun
    refine fin hT 1 rfl (th (ifT rfl (rg ?_)))
    refine fin hT 1 rfl (th (sq (sq (rg ?_))))
    refine cmp hT 1 rfl (fun h4 => ?_) (fun h4 => absurd (by decide) h4)
    refine fin hT 0 rfl (th (ifT rfl (sq (rg ?_))))
    refine stp hT 4 0 rfl rfl rfl rfl ?_
    refine fin hT 0 rfl (th (sq (rg ?_)))
    refine fin hT 1 rfl (th (rt (rT ?_)))
    rw [hun]
    exact ret1 rfl rfl ⟨_, rfl, rfl, rfl, ao, cap, rfl, x⟩
   ·rw [if_neg (by omega)] at hun
    refine fin hT 1 rfl (th (ifF rfl (sk (th (sq (sq (rg ?_)))))))
    refine cmp hT 1 rfl (fun h5 => absurd rfl h5) (fun h5 => ?_)
    refine fin hT 0 rfl (th (ifF rfl (sk (th (sq (rg ?_))))))
    refine ldp hT 4 0 rfl rfl rfl ?_
    refine sl hT 1 kk (b.length - kk) rfl x rfl (by simp; omega) (by omega) (ys := bv (b.drop kk)) (by simp only [bv, Nat.mul_one, <- List.map_drop, <- List.map_take]; rw [List.take_of_length_le (by simp)]) fun ao41 c41 x41 => ?_
    refine stp hT 2 0 rfl rfl rfl rfl ?_
    refine fin hT 0 rfl (th (sq (rg ?_)))
    refine fin hT 2 rfl (th (rt ?_))
    rw [hun]
    have e1 : b.length - kk = (b.drop kk).length := by simp
    rw [e1] at x41
    exact ret1 rfl rfl ⟨_, rfl, rfl, rfl, ao41, c41, by rw [e1]; rfl, x41⟩
  ·rw [if_neg h2] at hun
   refine fin hT 5 rfl (th (ifF rfl (sk (th (sq (sq (rg ?_)))))))
   refine cmp hT 1 rfl (fun h6 => ?_) (fun h6 => absurd h2 h6)
   refine fin hT 0 rfl (th (ifT rfl (sq (rg ?_))))
   refine stp hT 4 0 rfl rfl rfl rfl ?_
   refine fin hT 0 rfl (th (sq (rg ?_)))
   refine fin hT 1 rfl (th (rt (rT ?_)))
   rw [hun]
   exact ret1 rfl rfl ⟨_, rfl, rfl, rfl, ao, cap, rfl, x⟩
theorem bytesC (hm : In K R hb) (most : Int) (hmost : most <= 9223372036854775807) (s : Rd) (hl : s.1.length < 1099511627776) (r : IsRd rb hb s h) : Ct Tryz.prog w0 50 [.pointer (some ⟨rb, 0, none⟩), .int .i64 most] K (h :: R)
  (fun v K' hs' => ∃ h' new, hs' = new ++ h' :: R /\ K' = K /\ ∃ hx ao' c', new = [hx] /\ v = .slice ao' (rBytes most s).1.length c' /\ Own hx ao' (rBytes most s).1.length c' 5 1 (bv (rBytes most s).1) /\ IsRd rb hb (rBytes most s).2 h') := by
 obtain ⟨ao, cap, rfl, x⟩ := r
 obtain ⟨b, e⟩ := s
 dsimp only at hl x ⊢
 refine enter Tryz.func50 (by kernel_rfl) rfl rfl rfl ?_
 refine sq (rg ?_)
 refine fin hT 1 rfl (th (sq (rg ?_)))
 refine ldp hT 3 0 rfl rfl rfl ?_
 refine fin hT 1 rfl (th (sq (rg ?_)))
 refine ar hT 3 rfl (v' := .int .u64 (most.toNat : Nat)) (by split <;> rw [u64w (by omega)] <;> congr 1 <;> omega) ?_
 refine cl hT 0 rfl (uintC hm most.toNat (b, e) hl ⟨ao, cap, rfl, x⟩) ?_
 rintro v16 K16 hs16 ⟨h', rfl, rfl, rfl, ao', cap', rfl, x'⟩
 have hres : rBytes most (b, e) = (let x := rUint most.toNat (b, e); if x.2.2 = 0 then (if x.2.1.length < x.1 then ([], (b, 20)) else (x.2.1.take x.1, (x.2.1.drop x.1, 0))) else ([], x.2)) := rfl
 obtain ⟨hn, hb'⟩ := rUint_bd most.toNat b e
 generalize rUint most.toNat (b, e) = U at *
 obtain ⟨nn, b', e'⟩ := U
 dsimp only at hres x' hb' hn ⊢
 refine fin hT 1 rfl (th (sq (sq (rg ?_))))
 refine ldp hT 3 0 rfl rfl rfl ?_
 refine cmp hT 0 rfl (fun h1 => ?_) (fun h1 => ?_)
 ·subst h1
  rw [if_pos rfl] at hres
  refine ldp hT 5 0 rfl rfl rfl ?_
  refine ar hT 1 rfl (u64w (by omega)) ?_
  refine cmp hT 0 rfl (fun h2 => ?_) (fun h2 => ?_)
  ·rw [if_pos (by omega)] at hres
   refine fin hT 1 rfl (th (ifT rfl (rg ?_)))
   refine stp hT 5 0 rfl rfl rfl rfl ?_
   refine stp hT 2 0 rfl rfl rfl rfl ?_
   refine fin hT 0 rfl (th (sq (sq (rg ?_))))
   refine ldp hT 3 0 rfl rfl rfl ?_
   refine cmp hT 0 rfl (fun h3 => ?_) (fun h3 => absurd (by decide) h3)
   refine fin hT 0 rfl (th (ifT rfl (sq (rg ?_))))
   refine fin hT 1 rfl (th (rt (rT (WQ.em ?_))))
   rw [hres]
   exact ret1 rfl rfl ⟨_, [em], rfl, rfl, em, none, 0, rfl, rfl, Own.nil _ _, ao, cap, rfl, x⟩
  ·rw [if_neg (by omega)] at hres
   refine fin hT 1 rfl (th (ifF rfl (sk (th (sq (sq (rg ?_)))))))
   refine ldp hT 3 0 rfl rfl rfl ?_
   refine cmp hT 0 rfl (fun h4 => absurd rfl h4) (fun h4 => ?_)
   refine fin hT 0 rfl (th (ifF rfl (sk (th (sq (rg ?_))))))
   refine ldp hT 3 0 rfl rfl rfl ?_
   have hle : nn <= b'.length := by omega
   have e1 : (b'.take nn).length = nn := by simp; omega
   have e2 : (b'.drop nn).length = b'.length - nn := by simp
   refine sl hT 1 0 nn rfl x' rfl (by simp) (by omega) (ys := bv (b'.take nn)) (by simp [bv, <- List.map_take]) fun ao49 c49 x49 => ?_
   have hcl := fun K hs hm => cloneB (w0 := w0) (K := K) (hb := hb) (hs := hs) ao49 c49 (b'.take nn) hm (isS_of x49 e1.symm rfl) (by simp; omega)
   rw [e1] at hcl
   refine cl hT 0 rfl (hcl _ _ (In.cons hm)) ?_
   rintro v50 K50 hs50 ⟨rfl, hx, aox, cx, rfl, rfl, ox⟩
   refine fin hT 1 rfl (th (sq (rg ?_)))
   refine ldp hT 4 1 rfl rfl rfl ?_
   refine sl hT 1 nn (b'.drop nn).length rfl x' rfl (by rw [e2]; simp; omega) (by omega) (ys := bv (b'.drop nn)) (by simp only [bv, Nat.mul_one, <- List.map_drop, <- List.map_take]; rw [List.take_of_length_le (Nat.le_refl _)]) fun ao57 c57 x57 => ?_
   refine stp hT 2 1 rfl rfl rfl rfl ?_
   refine fin hT 0 rfl (th (sq (rg ?_)))
   refine fin hT 2 rfl (th (rt ?_))
   rw [hres]
   exact ret1 rfl rfl ⟨_, [hx], rfl, rfl, hx, aox, cx, rfl, by rw [e1], by rw [e1]; exact ox, ao57, c57, rfl, x57⟩
 ·rw [if_neg h1] at hres
  refine fin hT 10 rfl (th (ifF rfl (sk (th (sq (sq (rg ?_)))))))
  refine ldp hT 3 0 rfl rfl rfl ?_
  refine cmp hT 0 rfl (fun h5 => ?_) (fun h5 => absurd h1 h5)
  refine fin hT 0 rfl (th (ifT rfl (sq (rg ?_))))
  refine fin hT 1 rfl (th (rt (rT (WQ.em ?_))))
  rw [hres]
  exact ret1 rfl rfl ⟨_, [em], rfl, rfl, em, none, 0, rfl, rfl, Own.nil _ _, ao', cap', rfl, x'⟩
end
theorem readC {w0 : World} {K hb : PH} {hs : List PH} (ao : Option Addr) (cap : Nat) (b : List UInt8) (hm : In K hs hb) (x : IsS hb ao b.length cap 1 (bv b)) (hl : b.length < 1099511627776) :
  Ct Tryz.prog w0 47 [.slice ao b.length cap] K hs
   (fun v K' hs' => K' = K /\ ∃ rb h' hb', hs' = h' :: hb' :: hs /\ v = .pointer (some ⟨rb, 0, none⟩) /\ IsRd rb hb' (b, 0) h') := by
 refine enter Tryz.func47 (by kernel_rfl) rfl rfl rfl ?_
 refine sq (rg ?_)
 refine fin hT 1 rfl (th (sq (rg ?_)))
 refine cl hT 1 rfl (cloneB ao cap b hm x hl) ?_
 rintro v4 K4 hs4 ⟨rfl, hx, aox, cx, rfl, rfl, ox⟩
 refine bd hT 0 (.agg #[.slice aox b.length cx, .int .i64 0]) rfl (fun w => by kernel_rfl) ?_
 refine bx hT 0 rfl fun b6 => ?_
 refine fin hT 1 rfl (th (rt ?_))
 exact ret1 rfl rfl ⟨rfl, b6, _, hx, rfl, rfl, aox, cx, rfl, ox.isS⟩
end Go.Proofs.YtcncpbolcigpnaaGreat
end
section
namespace Go.Proofs.YtcncpbolcigpnaaGreat
open Go.En
attribute [local irreducible] Code.wp wpList Calls
theorem putBytesC {w0 : World} {K h hb : PH} {R : List PH} (ao : Option Addr) (c1 : Nat) (bs : List UInt8) (ao2 : Option Addr) (c2 : Nat) (x : List UInt8) (o : Own h ao bs.length c1 5 1 (bv bs)) (hm : In K R hb) (xs : IsS hb ao2 x.length c2 1 (bv x))
  (hb1 : bs.length < 549755813888) (hb2 : x.length < 549755813888) :
  Ct Tryz.prog w0 114 [.slice ao bs.length c1, .slice ao2 x.length c2] K (h :: R)
   (fun v K' hs' => ∃ h', hs' = h' :: R /\ K' = K /\ ∃ ao' c', v = .slice ao' (bs ++ putBytes x).length c' /\ Own h' ao' (bs ++ putBytes x).length c' 5 1 (bv (bs ++ putBytes x))) := by
 have hu := uint_le10 (n := x.length) (by omega)
 refine enter Tryz.func114 (by kernel_rfl) rfl rfl rfl ?_
 refine sq (rg ?_)
 refine fin hT 1 rfl (th (sq (rg ?_)))
 refine ar hT 3 rfl (u64w (by omega)) ?_
 refine cl hT 0 rfl (putUint ao c1 bs x.length o (by omega) (by omega)) ?_
 rintro v9 K9 hs9 ⟨h', rfl, rfl, ao', c', rfl, o'⟩
 have e1 : (bs ++ uint x.length).length + x.length = (bs ++ putBytes x).length := by simp [putBytes_length]; omega
 refine app hT 1 0 rfl rfl o' (In.cons hm) xs rfl (by decide) (bv_one _) (by simp; omega) (by simp [maxLen]; omega) fun ao11 c11 g11 o11 => ?_
 refine fin hT 1 rfl (th (rt ?_))
 have e2 : bv (bs ++ uint x.length) ++ bv x = bv (bs ++ putBytes x) := by rw [<- bv_append, List.append_assoc]; rfl
 rw [e2, e1] at o11
 exact ret1 rfl (by rw [e1]; rfl) ⟨g11, rfl, rfl, ao11, c11, rfl, o11⟩
end Go.Proofs.YtcncpbolcigpnaaGreat
end
section
namespace Go.Proofs.YtcncpbolcigpnaaGreat
open Go.En
attribute [local irreducible] Code.wp wpList Calls
theorem own_of {h : PH} {ao : Option Addr} {n n' cap e size : Nat} {xs ys : List Value} (x : Own h ao n cap e size xs) (h1 : n = n') (h2 : xs = ys) : Own h ao n' cap e size ys := by subst h1; subst h2; exact x
theorem own_byte (b m : Nat) (h : m < 256) : Own (pt b #[.int .u8 ((m : Nat) : Int)] 5) (some ⟨b, 0, none⟩) 1 1 5 1 (bv [UInt8.ofNat m]) :=
 own_of (Own.ofPt (n := 1) (size := 1) (by simp) (by simp [maxLen])) rfl (by simp [bv, byteV h])
theorem u_rem (k : IntKind) (n m : Nat) : Value.int k (((n : Nat) : Int).tmod ((m : Nat) : Int)) = .int k ((n % m : Nat) : Int) := by rw [<- Int.ofNat_tmod]
theorem u64quo (n m : Nat) (h : n < 18446744073709551616) : Value.int .u64 (IntKind.u64.wrap (((n : Nat) : Int).tdiv ((m : Nat) : Int))) = .int .u64 ((n / m : Nat) : Int) := by
 rw [<- Int.ofNat_tdiv]
 have := Nat.div_le_self n m
 generalize n / m = q at *
 exact u64w (by omega)
theorem isS_pt {b n ty : Nat} {c : Array Value} {fr : Nat × Nat} {xs : List Value} (h1 : c.toList = xs) (h2 : c.size = n) : IsS (pt b c ty fr) (some ⟨b, 0, none⟩) n n 1 xs := by
 subst h1
 refine ⟨by simpa using h2, Nat.le_refl _, fun j u hu => ⟨_, rfl, ?_⟩⟩
 rw [add_mk]
 exact Cell.pt (by simpa using hu)
theorem uintRef {w0 : World} {K : PH} : ∀ (n : Nat) {hs : List PH}, n < 18446744073709551616 ->
  Ct Tryz.prog w0 46 [.int .u64 (n : Nat)] K hs
   (fun v K' hs' => ∃ h', hs' = h' :: hs /\ K' = K /\ ∃ ao' c', v = .slice ao' (uint n).length c' /\ Own h' ao' (uint n).length c' 5 1 (bv (uint n))) := by
 intro n
 induction n using Nat.strongRecOn with
 | ind n ih =>
 intro hs hn
 refine enter Tryz.func46 (by kernel_rfl) rfl rfl rfl ?_
 refine sq (rg ?_)
 refine fin hT 1 rfl (th (sq (sq (rg ?_))))
 refine cmp hT 1 rfl (fun h1 => ?_) (fun h1 => ?_)
 ·refine fin hT 0 rfl (th (ifT rfl (sq (rg ?_))))
  refine ar hT 1 rfl (u8w (by omega)) ?_
  refine lit hT 0 #[.int .u8 ((n : Nat) : Int)] rfl (by decide) (by kernel_rfl) fun b8 => ?_
  refine fin hT 1 rfl (th (rt (rT ?_)))
  rw [uint_lt (by omega)]
  exact ret1 rfl rfl ⟨_, rfl, rfl, _, _, rfl, own_byte b8 n (by omega)⟩
 ·refine fin hT 0 rfl (th (ifF rfl (sk (th (sq (rg ?_))))))
  refine ar hT 1 rfl (u_rem .u64 n 128) ?_
  refine ar hT 0 rfl (u8w (by omega)) ?_
  refine ar hT 0 rfl (v' := .int .u8 ((n % 128 + 128 : Nat) : Int)) (by rw [u8w (by omega)]; rfl) ?_
  refine lit hT 0 #[.int .u8 ((n % 128 + 128 : Nat) : Int)] rfl (by decide) (by kernel_rfl) fun b13 => ?_
  refine fin hT 1 rfl (th (sq (rg ?_)))
  refine ar hT 2 rfl (u64quo n 128 hn) ?_
  refine cl hT 0 rfl (ih (n / 128) (by omega) (by omega)) ?_
  rintro v17 K17 hs17 ⟨h', rfl, rfl, ao', c', rfl, o'⟩
  have hu := uint_le10 (n := n / 128) (by omega)
  refine app hT 0 1 rfl rfl (own_byte b13 (n % 128 + 128) (by omega)) (.inr ⟨0, rfl⟩) o'.isS rfl (by decide) (bv_one _) (by dsimp only; omega) (by simp only [maxLen]; omega) fun ao18 c18 g18 o18 => ?_
  refine fin hT 1 rfl (th (WC.drop (rt ?_)))
  rw [<- bv_append] at o18
  have e1 : 1 + (uint (n / 128)).length = (uint n).length := by rw [uint_ge (n := n) (by omega)]; simp; omega
  have e2 : [UInt8.ofNat (n % 128 + 128)] ++ uint (n / 128) = uint n := by rw [uint_ge (n := n) (by omega)]; rfl
  rw [e1, e2] at o18
  exact ret1 rfl rfl ⟨g18, rfl, rfl, ao18, c18, by rw [e1], o18⟩
theorem putRef {w0 : World} {K hb : PH} {hs : List PH} (ao : Option Addr) (cap : Nat) (x : List UInt8) (hm : In K hs hb) (xs : IsS hb ao x.length cap 1 (bv x)) (hl : x.length < 1099511627776) :
  Ct Tryz.prog w0 21 [.slice ao x.length cap] K hs
   (fun v K' hs' => ∃ h', hs' = h' :: hs /\ K' = K /\ ∃ ao' c', v = .slice ao' (putBytes x).length c' /\ Own h' ao' (putBytes x).length c' 5 1 (bv (putBytes x))) := by
 refine enter Tryz.func21 (by kernel_rfl) rfl rfl rfl ?_
 refine sq (rg ?_)
 refine fin hT 1 rfl (th (sq (rg ?_)))
 refine ar hT 2 rfl (u64w (by omega)) ?_
 refine cl hT 0 rfl (uintRef x.length (by omega)) ?_
 rintro v7 K7 hs7 ⟨h', rfl, rfl, ao', c', rfl, o'⟩
 have hu := uint_le10 (n := x.length) (by omega)
 refine fin hT 1 rfl (th (sq (rg ?_)))
 refine app hT 2 0 rfl rfl o' (In.cons hm) xs rfl (by decide) (bv_one _) (by dsimp only; omega) (by simp only [maxLen]; omega) fun ao10 c10 g10 o10 => ?_
 refine fin hT 1 rfl (th (rt ?_))
 rw [<- bv_append] at o10
 have e1 := putBytes_length x
 rw [<- e1] at o10
 exact ret1 rfl rfl ⟨g10, rfl, rfl, ao10, c10, by rw [e1], o10⟩
end Go.Proofs.YtcncpbolcigpnaaGreat
end
section
namespace Go.Proofs.YtcncpbolcigpnaaGreat
open Go.En
attribute [local irreducible] Code.wp wpList Calls
theorem un4_drop (q : List UInt8) (i : Nat) (h : i < q.length) : un4 (q.drop i) = q[i].toNat + 256 * un4 (q.drop (i + 1)) := by
 rw [List.drop_eq_getElem_cons h, un4]
end Go.Proofs.YtcncpbolcigpnaaGreat
end
section
namespace Go.En
theorem rByte_fin {b : List UInt8} {e : Int} (h : (rByte (b, e)).2.2 = 0) : e = 0 /\ ∃ c : UInt8, b = c :: (rByte (b, e)).2.1 /\ (rByte (b, e)).1 = c.toNat := by
 unfold rByte at h ⊢
 by_cases he : e = 0
 ·simp only [he, if_true] at h ⊢
  cases b with
  | nil => simp at h
  | cons c r => exact ⟨trivial, c, rfl, rfl⟩
 ·simp only [he, if_false] at h
theorem rUint_fin {m : Nat} {b : List UInt8} {e : Int} (h : (rUint m (b, e)).2.2 = 0) : e = 0 /\ b = uint (rUint m (b, e)).1 ++ (rUint m (b, e)).2.1 /\ (rUint m (b, e)).1 <= m := by
 by_cases he : e = 0
 ·subst he; exact ⟨rfl, rUint_ok h⟩
 ·have : rUint m (b, e) = (0, (b, e)) := if_neg he
  rw [this] at h
  exact absurd h he
theorem rBytes_fin {m : Int} {b : List UInt8} {e : Int} (h : (rBytes m (b, e)).2.2 = 0) : e = 0 /\ b = putBytes (rBytes m (b, e)).1 ++ (rBytes m (b, e)).2.1 /\ (rBytes m (b, e)).1.length <= m.toNat := by
 unfold rBytes at h ⊢
 dsimp only at h ⊢
 by_cases h1 : (rUint m.toNat (b, e)).2.2 = 0
 ·obtain ⟨he, hb, hm⟩ := rUint_fin h1
  rw [if_pos h1] at h ⊢
  by_cases h2 : (rUint m.toNat (b, e)).2.1.length < (rUint m.toNat (b, e)).1
  ·rw [if_pos h2] at h; simp at h
  ·rw [if_neg h2]
   have hl : ((rUint m.toNat (b, e)).2.1.take (rUint m.toNat (b, e)).1).length = (rUint m.toNat (b, e)).1 := by simp; omega
   refine ⟨he, ?_, by dsimp only; omega⟩
   unfold putBytes
   dsimp only
   rw [hl, List.append_assoc, List.take_append_drop]
   exact hb
 ·rw [if_neg h1] at h; exact absurd h h1
theorem rEnd_fin {b : List UInt8} {e : Int} : rEnd (b, e) = 0 ↔ e = 0 /\ b = [] := by
 show (if e = 0 /\ 0 < b.length then (23 : Int) else e) = 0 ↔ _
 by_cases h : e = 0 /\ 0 < b.length
 ·rw [if_pos h]
  constructor
  ·intro h'; simp at h'
  ·rintro ⟨_, rfl⟩; simp at h
 ·rw [if_neg h]
  constructor
  ·intro he
   exact ⟨he, List.length_eq_zero_iff.1 (by have : ¬ 0 < b.length := fun h' => h ⟨he, h'⟩; omega)⟩
  ·exact fun h => h.1
structure Cmd where
 kind : Int
 ses : Nat
 seq : Nat
 word : List UInt8
 wt : Int
 deriving DecidableEq
def Cmd.ok (c : Cmd) : Prop := (c.kind = 1 /\ c.ses = 0 /\ c.seq = 0 /\ c.word = [] /\ c.wt = 0) \/ ((c.kind = 2 \/ c.kind = 3) /\ c.word.length <= 96 /\ 0 <= c.wt /\ c.wt <= 1073741824 /\ (c.kind = 3 -> c.wt = 0))
instance (c : Cmd) : Decidable c.ok := by unfold Cmd.ok; infer_instance
def Cmd.bytes (c : Cmd) : List UInt8 :=
 if c.kind = 1 then [1] else if c.kind = 2 then 2 :: (uint c.ses ++ (uint c.seq ++ (putBytes c.word ++ uint c.wt.toNat))) else 3 :: (uint c.ses ++ (uint c.seq ++ putBytes c.word))
def putCmd (c : Cmd) : Option (List UInt8) := if c.ok then some c.bytes else none
def mxU : Nat := 18446744073709551615
def getCmdR (b : List UInt8) : Cmd × Rd :=
 let x := rByte (b, 0)
 if x.1 = 1 then (⟨1, 0, 0, [], 0⟩, x.2)
 else if x.1 = 2 \/ x.1 = 3 then
  let s := rUint mxU x.2
  let q := rUint mxU s.2
  let w := rBytes 96 q.2
  if x.1 = 2 then (let t := rUint 1073741824 w.2; (⟨2, s.1, q.1, w.1, t.1⟩, t.2)) else (⟨3, s.1, q.1, w.1, 0⟩, w.2)
 else (⟨x.1, 0, 0, [], 0⟩, (x.2.1, if x.2.2 = 0 then 170 else x.2.2))
def getCmd (b : List UInt8) : Option Cmd := if rEnd (getCmdR b).2 = 0 then some (getCmdR b).1 else none
theorem put_get {c : Cmd} {b : List UInt8} (h : getCmd b = some c) : putCmd c = some b /\ c.ses <= mxU /\ c.seq <= mxU := by
 unfold getCmd at h
 split at h
 ·rename_i hend
  simp only [Option.some.injEq] at h
  unfold getCmdR at h hend
  dsimp only at h hend
  split at h
  ·rename_i h1
   rw [if_pos h1] at hend
   subst h
   obtain ⟨e1, e2⟩ := rEnd_fin.1 hend
   obtain ⟨_, c, hb, hc⟩ := rByte_fin e1
   rw [e2] at hb
   rw [h1] at hc
   have : c = 1 := UInt8.toNat_inj.1 (by rw [<- hc]; rfl)
   subst this
   subst hb
   exact ⟨rfl, Nat.zero_le _, Nat.zero_le _⟩
  ·rename_i h1
   rw [if_neg h1] at hend
   split at h
   ·rename_i h2
    rw [if_pos h2] at hend
    split at h
    ·rename_i h3
     rw [if_pos h3] at hend
     subst h
     obtain ⟨e1, e2⟩ := rEnd_fin.1 hend
     obtain ⟨f1, hb1, hm1⟩ := rUint_fin e1
     obtain ⟨f2, hb2, hm2⟩ := rBytes_fin f1
     obtain ⟨f3, hb3, hm3⟩ := rUint_fin f2
     obtain ⟨f4, hb4, hm4⟩ := rUint_fin f3
     obtain ⟨_, c, hb, hc⟩ := rByte_fin f4
     have : c = 2 := UInt8.toNat_inj.1 (by rw [<- hc, h3]; rfl)
     subst this
     refine ⟨?_, hm4, hm3⟩
     have hw : (rBytes 96 (rUint mxU (rUint mxU (rByte (b, 0)).2).2).2).1.length <= 96 := hm2
     have ht : (rUint 1073741824 (rBytes 96 (rUint mxU (rUint mxU (rByte (b, 0)).2).2).2).2).1 <= 1073741824 := hm1
     unfold putCmd
     rw [if_pos (.inr ⟨.inl rfl, hw, by dsimp only; omega, by dsimp only; omega, fun h => by cases h⟩)]
     simp only [Option.some.injEq]
     rw [e2, List.append_nil] at hb1
     have e : ∀ (s q : Nat) (w : List UInt8) (t : Nat), (Cmd.mk 2 s q w t).bytes = 2 :: (uint s ++ (uint q ++ (putBytes w ++ uint t))) := fun s q w t => by simp [Cmd.bytes]
     rw [e, <- hb1, <- hb2, <- hb3, <- hb4, <- hb]
    ·rename_i h3
     rw [if_neg h3] at hend
     subst h
     obtain ⟨e1, e2⟩ := rEnd_fin.1 hend
     obtain ⟨f2, hb2, hm2⟩ := rBytes_fin e1
     obtain ⟨f3, hb3, hm3⟩ := rUint_fin f2
     obtain ⟨f4, hb4, hm4⟩ := rUint_fin f3
     obtain ⟨_, c, hb, hc⟩ := rByte_fin f4
     have h2' := h2.resolve_left h3
     have : c = 3 := UInt8.toNat_inj.1 (by rw [<- hc]; exact h2')
     subst this
     refine ⟨?_, hm4, hm3⟩
     have hw : (rBytes 96 (rUint mxU (rUint mxU (rByte (b, 0)).2).2).2).1.length <= 96 := hm2
     unfold putCmd
     rw [if_pos (.inr ⟨.inr rfl, hw, Int.le_refl _, by dsimp only; omega, fun _ => rfl⟩)]
     simp only [Option.some.injEq]
     rw [e2, List.append_nil] at hb2
     have e : ∀ (s q : Nat) (w : List UInt8), (Cmd.mk 3 s q w 0).bytes = 3 :: (uint s ++ (uint q ++ putBytes w)) := fun s q w => by simp [Cmd.bytes]
     rw [e, <- hb2, <- hb3, <- hb4, <- hb]
   ·rename_i h2
    rw [if_neg h2] at hend
    obtain ⟨e1, e2⟩ := rEnd_fin.1 hend
    split at e1
    ·cases e1
    ·rename_i h5; exact absurd e1 h5
 ·cases h
theorem rUint_le (m : Nat) (s : Rd) : (rUint m s).1 <= m := by
 obtain ⟨b, e⟩ := s
 unfold rUint
 dsimp only
 split
 ·split
  ·split
   ·exact Nat.zero_le _
   ·rename_i h; exact Nat.le_of_not_lt h
  ·exact Nat.zero_le _
 ·exact Nat.zero_le _
def ec {α : Type} : Option α -> Int
 | some _ => 0
 | none => 170
def ob (o : Option (List UInt8)) : List UInt8 := o.getD []
def Cmd.zero : Cmd := ⟨0, 0, 0, [], 0⟩
def Cmd.v (c : Cmd) : Array Value := #[.int .i64 c.kind, .int .u64 (c.ses : Nat), .int .u64 (c.seq : Nat), .string ⟨c.word.toArray⟩, .int .i64 c.wt]
theorem ec_zero {α : Type} {o : Option α} : ec o = 0 ↔ o.isSome = true := by cases o <;> simp [ec]
theorem Cmd.bytes_length (c : Cmd) (h1 : c.ses <= mxU) (h2 : c.seq <= mxU) (h3 : c.word.length <= 96) (h4 : c.wt <= 1073741824) : c.bytes.length <= 200 := by
 have hmx : mxU = 18446744073709551615 := rfl
 have e1 := uint_le10 (n := c.ses) (by omega)
 have e2 := uint_le10 (n := c.seq) (by omega)
 have e3 := uint_le10 (n := c.word.length) (by omega)
 have e4 := uint_le10 (n := c.wt.toNat) (by omega)
 unfold Cmd.bytes
 split
 ·simp
 ·split
  ·simp only [List.length_cons, List.length_append, putBytes]; omega
  ·simp only [List.length_cons, List.length_append, putBytes]; omega
end Go.En
namespace Go.En
def confOK (last : Int) : List Int -> Prop
 | [] => True
 | v :: r => last < v /\ v < 7 /\ confOK v r
instance : ∀ (last : Int) (l : List Int), Decidable (confOK last l)
 | _, [] => .isTrue trivial
 | last, v :: r => by
  have := instDecidableConfOK v r
  unfold confOK
  infer_instance
def vbits : List Int -> Nat
 | [] => 0
 | v :: r => 2 ^ v.toNat + vbits r
def putConf (l : List Int) : Option (List UInt8) := if l ≠ [] /\ confOK (-1) l then some [UInt8.ofNat (vbits l)] else none
def voters (n : Nat) (k : Nat) : List Int := ((List.range k).filter (fun v => decide (n / 2 ^ v % 2 = 1))).map Int.ofNat
def getConf : List UInt8 -> Option (List Int)
 | [c] => if c.toNat = 0 \/ 128 <= c.toNat then none else some (voters c.toNat 7)
 | _ => none
theorem voters_succ (n k : Nat) : voters n (k + 1) = voters n k ++ if n / 2 ^ k % 2 = 1 then [(k : Int)] else [] := by
 unfold voters
 rw [List.range_succ, List.filter_append, List.map_append]
 congr 1
 by_cases h : n / 2 ^ k % 2 = 1 <;> simp [h]
theorem voters_len (n : Nat) : ∀ k, (voters n k).length <= k
 | 0 => by simp [voters]
 | k + 1 => by
  rw [voters_succ, List.length_append]
  have := voters_len n k
  split <;> simp <;> omega
theorem confOK_len : ∀ (l : List Int) (last : Int), confOK last l -> -1 <= last -> last <= 6 -> (l.length : Int) <= 6 - last
 | [], _, _, _, _ => by simp; omega
 | v :: r, last, h, h1, h2 => by
  obtain ⟨h3, h4, h5⟩ := h
  have := confOK_len r v h5 (by omega) (by omega)
  simp only [List.length_cons]
  omega
theorem confOK_mem : ∀ (l : List Int) (last : Int), confOK last l -> -1 <= last -> ∀ v ∈ l, 0 <= v /\ v < 7
 | [], _, _, _ => by simp
 | v :: r, last, h, h1 => by
  obtain ⟨h3, h4, h5⟩ := h
  intro u hu
  simp only [List.mem_cons] at hu
  rcases hu with rfl | hu
  ·omega
  ·exact confOK_mem r v h5 (by omega) u hu
def subs : Nat -> List (List Int)
 | 0 => [[]]
 | m + 1 => subs m ++ (subs m).map (fun l => (6 - (m : Int)) :: l)
theorem subs_mem : ∀ (m : Nat) (l : List Int) (last : Int), confOK last l -> 6 - (m : Int) <= last -> l ∈ subs m
 | 0, [], _, _, _ => by simp [subs]
 | 0, v :: r, last, h, hm => by obtain ⟨h1, h2, _⟩ := h; simp only [Int.natCast_zero] at hm; omega
 | m + 1, [], last, h, hm => by
  have : [] ∈ subs m := subs_mem m [] 6 trivial (by omega)
  simp [subs, this]
 | m + 1, v :: r, last, h, hm => by
  obtain ⟨h1, h2, h3⟩ := h
  by_cases hv : v = 6 - (m : Int)
  ·have := subs_mem m r v h3 (by omega)
   simp only [subs, List.mem_append, List.mem_map]
   exact .inr ⟨r, this, by rw [hv]⟩
  ·have := subs_mem m (v :: r) (v - 1) ⟨by omega, h2, h3⟩ (by omega)
   simp only [subs, List.mem_append]
   exact .inl this
theorem subs_bits : ∀ l ∈ subs 7, vbits l < 128 /\ voters (vbits l) 7 = l /\ (l ≠ [] -> 0 < vbits l) := by decide +kernel
theorem conf_bits {l : List Int} (h : confOK (-1) l) : vbits l < 128 /\ voters (vbits l) 7 = l /\ (l ≠ [] -> 0 < vbits l) := subs_bits l (subs_mem 7 l (-1) h (by decide))
theorem or_add (x v : Nat) (hv : v < 7) (hx : x < 2 ^ v) : Value.int .u8 (IntKind.u8.wrap (BitVec.ofInt 8 ((x : Nat) : Int) ||| BitVec.ofInt 8 ((2 ^ v : Nat) : Int)).toNat) = .int .u8 ((x + 2 ^ v : Nat) : Int) := by
 have hp : 2 ^ v <= 2 ^ 6 := Nat.pow_le_pow_right (by omega) (by omega)
 have e : (BitVec.ofInt 8 ((x : Nat) : Int) ||| BitVec.ofInt 8 ((2 ^ v : Nat) : Int)).toNat = x + 2 ^ v := by
  rw [BitVec.toNat_or, BitVec.ofInt_natCast, BitVec.ofInt_natCast, BitVec.toNat_ofNat, BitVec.toNat_ofNat, Nat.mod_eq_of_lt (by omega), Nat.mod_eq_of_lt (by omega), Nat.or_comm]
  have := Nat.two_pow_add_eq_or_of_lt hx 1
  rw [Nat.mul_one] at this
  rw [<- this]
  omega
 rw [e, u8m, Nat.mod_eq_of_lt (by omega)]
theorem shl1 (v : Nat) (hv : v < 7) : Value.int .u8 (IntKind.u8.wrap (1 * 2 ^ (min ((v : Nat) : Int).toNat IntKind.u8.bits))) = .int .u8 ((2 ^ v : Nat) : Int) := by
 obtain rfl | rfl | rfl | rfl | rfl | rfl | rfl : v = 0 \/ v = 1 \/ v = 2 \/ v = 3 \/ v = 4 \/ v = 5 \/ v = 6 := by omega
 all_goals rfl
theorem shrN (x v : Nat) (hv : v < 7) : Value.int .u8 (((x : Nat) : Int).fdiv (2 ^ (min ((v : Nat) : Int).toNat IntKind.u8.bits))) = .int .u8 ((x / 2 ^ v : Nat) : Int) := by
 have : min ((v : Nat) : Int).toNat IntKind.u8.bits = v := by
  have : IntKind.u8.bits = 8 := rfl
  omega
 rw [this, Int.fdiv_eq_ediv_of_nonneg _ (Int.le_of_lt (Int.pow_pos (by decide)))]
 congr 1
theorem bv_and1 : ∀ m : BitVec 8, (m &&& 1#8) = BitVec.ofNat 8 (m.toNat % 2) := by decide
theorem and1N (x : Nat) (hx : x < 256) : Value.int .u8 (IntKind.u8.wrap (BitVec.ofInt 8 ((x : Nat) : Int) &&& BitVec.ofInt 8 1).toNat) = .int .u8 ((x % 2 : Nat) : Int) := by
 have h := bv_and1 (BitVec.ofInt 8 ((x : Nat) : Int))
 have h2 : (BitVec.ofInt 8 ((x : Nat) : Int)).toNat = x := by simp; omega
 rw [show BitVec.ofInt 8 1 = 1#8 from by decide, h, h2, u8m]
 simp
 omega
theorem confOK_split : ∀ (l r : List Int) (last : Int), confOK last (l ++ r) ↔ confOK last l /\ confOK (l.getLastD last) r
 | [], r, last => by simp [confOK]
 | v :: l, r, last => by
  show (last < v /\ v < 7 /\ confOK v (l ++ r)) ↔ (last < v /\ v < 7 /\ confOK v l) /\ confOK ((v :: l).getLastD last) r
  rw [confOK_split l r v]
  have : (v :: l).getLastD last = l.getLastD v := by cases l <;> simp [List.getLastD]
  rw [this, and_assoc, and_assoc]
theorem bits_append : ∀ l r : List Int, vbits (l ++ r) = vbits l + vbits r
 | [], r => by simp [vbits]
 | v :: l, r => by simp [vbits, bits_append l r]; omega
theorem bits_lt : ∀ (l : List Int) (last : Int), confOK last l -> -1 <= last -> vbits l + 2 ^ (last + 1).toNat <= 2 ^ (l.getLastD last + 1).toNat
 | [], last, _, _ => by simp [vbits]
 | v :: l, last, h, h1 => by
  obtain ⟨h2, h3, h4⟩ := h
  have := bits_lt l v h4 (by omega)
  have e : (v :: l).getLastD last = l.getLastD v := by cases l <;> simp [List.getLastD]
  rw [e]
  have h5 : 2 ^ (last + 1).toNat <= 2 ^ v.toNat := Nat.pow_le_pow_right (by decide) (by omega)
  have h6 : 2 ^ (v + 1).toNat = 2 * 2 ^ v.toNat := by
   rw [show (v + 1).toNat = v.toNat + 1 from by omega, Nat.pow_succ]; omega
  simp only [vbits]
  omega
def iv (l : List Int) : List Value := l.map fun n => Value.int .i64 n
theorem iv_get {l : List Int} {j : Nat} (h : j < l.length) : (iv l)[j]? = some (.int .i64 l[j]) := by simp [iv, h]
theorem iv_append (l r : List Int) : iv (l ++ r) = iv l ++ iv r := by simp [iv]
theorem iv_one (l : List Int) : ∀ u ∈ iv l, u.oneCell' = true := by
 intro u hu
 obtain ⟨b, _, rfl⟩ := List.mem_map.1 hu
 rfl
theorem last_take_succ (l : List Int) (i : Nat) (h : i < l.length) (d : Int) : (l.take (i + 1)).getLastD d = l[i] := by
 rw [take_succ_get l i h, List.getLastD_eq_getLast?, List.getLast?_append]; rfl
end Go.En
namespace Go.En
structure Ent where
 idx : Nat
 term : Nat
 kind : Int
 data : List UInt8
 deriving DecidableEq
def heldP (kind : Int) (data : List UInt8) : Prop := (kind = 0 /\ data = []) \/ (kind = 1 /\ (getCmd data).isSome = true) \/ (kind = 2 /\ (getConf data).isSome = true)
instance (k : Int) (d : List UInt8) : Decidable (heldP k d) := by unfold heldP; infer_instance
def Ent.ok (e : Ent) : Prop := e.idx ≠ 0 /\ e.term ≠ 0 /\ heldP e.kind e.data
instance (e : Ent) : Decidable e.ok := by unfold Ent.ok; infer_instance
def Ent.bytes (e : Ent) : List UInt8 := uint e.idx ++ (uint e.term ++ (UInt8.ofNat e.kind.toNat :: putBytes e.data))
def putEnt (e : Ent) : Option (List UInt8) := if e.ok then some e.bytes else none
def getEntR (b : List UInt8) : Ent × Rd :=
 let i := rUint mxU (b, 0)
 let t := rUint mxU i.2
 let k := rByte t.2
 let d := rBytes 512 k.2
 (⟨i.1, t.1, (k.1 : Nat), d.1⟩, d.2)
def getEnt (b : List UInt8) : Option Ent := if rEnd (getEntR b).2 = 0 /\ (getEntR b).1.ok then some (getEntR b).1 else none
theorem getCmd_len {b : List UInt8} {c : Cmd} (h : getCmd b = some c) : b.length <= 200 := by
 obtain ⟨h1, h2, h3⟩ := put_get h
 unfold putCmd at h1
 split at h1
 ·rename_i hok
  simp only [Option.some.injEq] at h1
  rw [<- h1]
  rcases hok with ⟨h, _, _, hw, _⟩ | ⟨_, hw, h0, hm, _⟩
  ·rw [Cmd.bytes, if_pos h]; simp
  ·exact Cmd.bytes_length c h2 h3 hw hm
 ·cases h1
theorem held_len {k : Int} {d : List UInt8} (h : heldP k d) : d.length <= 200 := by
 rcases h with ⟨_, rfl⟩ | ⟨_, h⟩ | ⟨_, h⟩
 ·simp
 ·obtain ⟨c, hc⟩ := Option.isSome_iff_exists.1 h
  exact getCmd_len hc
 ·obtain ⟨c, hc⟩ := Option.isSome_iff_exists.1 h
  unfold getConf at hc
  split at hc
  ·simp
  ·cases hc
theorem held_kind {k : Int} {d : List UInt8} (h : heldP k d) : k = 0 \/ k = 1 \/ k = 2 := by
 rcases h with ⟨h, _⟩ | ⟨h, _⟩ | ⟨h, _⟩
 ·exact .inl h
 ·exact .inr (.inl h)
 ·exact .inr (.inr h)
theorem Ent.bytes_length (e : Ent) (h : e.ok) (h1 : e.idx <= mxU) (h2 : e.term <= mxU) : e.bytes.length <= 250 := by
 have hmx : mxU = 18446744073709551615 := rfl
 have e1 := uint_le10 (n := e.idx) (by omega)
 have e2 := uint_le10 (n := e.term) (by omega)
 have e3 := held_len h.2.2
 have e4 := uint_le10 (n := e.data.length) (by omega)
 simp only [Ent.bytes, List.length_append, List.length_cons, putBytes]
 omega
theorem getEntR_bd (b : List UInt8) : (getEntR b).1.idx <= mxU /\ (getEntR b).1.term <= mxU := ⟨rUint_le _ _, rUint_le _ _⟩
theorem putEnt_get {e : Ent} {b : List UInt8} (h : getEnt b = some e) : putEnt e = some b /\ e.idx <= mxU /\ e.term <= mxU := by
 unfold getEnt at h
 split at h
 ·rename_i hc
  obtain ⟨hend, hok⟩ := hc
  simp only [Option.some.injEq] at h
  have hbd := getEntR_bd b
  rw [h] at hok hbd
  refine ⟨?_, hbd⟩
  obtain ⟨e1, e2⟩ := rEnd_fin.1 hend
  unfold getEntR at h
  have e1 : (rBytes 512 (rByte (rUint mxU (rUint mxU (b, 0)).2).2).2).2.2 = 0 := e1
  have e2 : (rBytes 512 (rByte (rUint mxU (rUint mxU (b, 0)).2).2).2).2.1 = [] := e2
  dsimp only at h
  obtain ⟨f1, hb1, _⟩ := rBytes_fin e1
  obtain ⟨f2, c, hb2, hc2⟩ := rByte_fin f1
  obtain ⟨f3, hb3, _⟩ := rUint_fin f2
  obtain ⟨f4, hb4, _⟩ := rUint_fin f3
  unfold putEnt
  rw [if_pos hok]
  simp only [Option.some.injEq]
  rw [e2, List.append_nil] at hb1
  subst h
  unfold Ent.bytes
  dsimp only
  rw [<- hb1, Int.toNat_natCast]
  have hcc : UInt8.ofNat (rByte (rUint mxU (rUint mxU (b, 0)).2).2).1 = c := by
   have : (rByte (rUint mxU (rUint mxU (b, 0)).2).2).1 = c.toNat := hc2
   rw [this]; exact UInt8.ofNat_toNat
  rw [hcc]
  have g2 : (rUint mxU (rUint mxU (b, 0)).2).2.1 = c :: (rByte (rUint mxU (rUint mxU (b, 0)).2).2).2.1 := hb2
  rw [<- g2]
  have g3 : (rUint mxU (b, 0)).2.1 = uint (rUint mxU (rUint mxU (b, 0)).2).1 ++ (rUint mxU (rUint mxU (b, 0)).2).2.1 := hb3
  rw [<- g3]
  exact hb4.symm
 ·cases h
def Ent.zero : Ent := ⟨0, 0, 0, []⟩
def Ent.v (e : Ent) (ao : Option Addr) (cap : Nat) : Array Value := #[.int .u64 (e.idx : Nat), .int .u64 (e.term : Nat), .int .i64 e.kind, .slice ao e.data.length cap]
end Go.En
namespace Go.En
structure Msg where
 kind : Int
 frm : Int
 to : Int
 term : Nat
 idx : Nat
 lt : Nat
 com : Nat
 rnd : Nat
 good : Bool
 ents : List Ent
 off : Int
 whole : Int
 vot : List Int
 data : List UInt8
 deriving DecidableEq
inductive Fld where
 | idx | lt | com | rnd | off | whole | good | ents | vot | data
 deriving DecidableEq
def fieldsOf (k : Int) : List Fld :=
 if k = 1 then [.idx, .lt] else if k = 2 then [.good] else if k = 3 then [.idx, .lt, .com, .rnd, .ents] else if k = 4 then [.good, .idx, .rnd]
 else if k = 5 then [.idx, .lt, .off, .whole, .vot, .data] else if k = 6 then [.idx, .off] else []
def u64of (x : Int) : Nat := (x % 18446744073709551616).toNat
def entsOK (at' : Nat) : Nat -> List Ent -> Prop
 | _, [] => True
 | i, e :: r => e.ok /\ e.idx = (at' + i + 1) % 18446744073709551616 /\ at' <= e.idx /\ entsOK at' (i + 1) r
instance (at' : Nat) : ∀ (i : Nat) (l : List Ent), Decidable (entsOK at' i l)
 | _, [] => .isTrue trivial
 | i, e :: r => by
  have := instDecidableEntsOK at' (i + 1) r
  unfold entsOK
  infer_instance
def entsBytes : List Ent -> List UInt8
 | [] => []
 | e :: r => putBytes e.bytes ++ entsBytes r
def Fld.pok (m : Msg) : Fld -> Prop
 | .idx | .lt | .com | .rnd | .good => True
 | .off => 0 <= m.off /\ m.off <= 2097152
 | .whole => 0 <= m.whole /\ m.whole <= 2097152
 | .ents => entsOK m.idx 0 m.ents /\ m.ents.length <= 8
 | .vot => (putConf m.vot).isSome = true
 | .data => m.data.length <= 256 /\ m.off <= IntKind.i64.wrap (m.whole - m.data.length)
instance (m : Msg) (f : Fld) : Decidable (f.pok m) := by cases f <;> unfold Fld.pok <;> infer_instance
def Fld.pby (m : Msg) : Fld -> List UInt8
 | .idx => uint m.idx
 | .lt => uint m.lt
 | .com => uint m.com
 | .rnd => uint m.rnd
 | .good => [if m.good then 1 else 0]
 | .off => uint (u64of m.off)
 | .whole => uint (u64of m.whole)
 | .ents => uint m.ents.length ++ entsBytes m.ents
 | .vot => ob (putConf m.vot)
 | .data => putBytes m.data
def Fld.clr (m : Msg) : Fld -> Msg
 | .idx => { m with idx := 0 }
 | .lt => { m with lt := 0 }
 | .com => { m with com := 0 }
 | .rnd => { m with rnd := 0 }
 | .good => { m with good := false }
 | .off => { m with off := 0 }
 | .whole => { m with whole := 0 }
 | .ents => { m with ents := [] }
 | .vot => { m with vot := [] }
 | .data => { m with data := [] }
def clrAll : List Fld -> Msg -> Msg
 | [], m => m
 | f :: r, m => clrAll r (f.clr m)
def pbyAll (m : Msg) : List Fld -> List UInt8
 | [] => []
 | f :: r => f.pby m ++ pbyAll m r
def bareP (m : Msg) : Prop := m.idx = 0 /\ m.lt = 0 /\ m.com = 0 /\ m.rnd = 0 /\ m.good = false /\ m.off = 0 /\ m.whole = 0 /\ m.ents = [] /\ m.vot = [] /\ m.data = []
instance (m : Msg) : Decidable (bareP m) := by unfold bareP; infer_instance
def placedP (n : Int) : Prop := 0 <= n /\ n < 7
instance (n : Int) : Decidable (placedP n) := by unfold placedP; infer_instance
def hdr (m : Msg) : List UInt8 := UInt8.ofNat m.kind.toNat :: UInt8.ofNat m.frm.toNat :: UInt8.ofNat m.to.toNat :: uint m.term
def Msg.pre (m : Msg) : Prop := fieldsOf m.kind ≠ [] /\ placedP m.frm /\ placedP m.to /\ m.frm ≠ m.to /\ m.term ≠ 0
instance (m : Msg) : Decidable m.pre := by unfold Msg.pre; infer_instance
def Msg.ok (m : Msg) : Prop := m.pre /\ (∀ f ∈ fieldsOf m.kind, f.pok m) /\ bareP (clrAll (fieldsOf m.kind) m)
instance (m : Msg) : Decidable m.ok := by unfold Msg.ok; infer_instance
def Msg.body (m : Msg) : List UInt8 := hdr m ++ pbyAll m (fieldsOf m.kind)
def enc (m : Msg) : Option (List UInt8) := if m.ok then some (sealed m.body) else none
end Go.En
namespace Go.En
theorem voters_mem (n : Nat) : ∀ k, k <= 7 -> ∀ v ∈ voters n k, 0 <= v /\ v < 7 := by
 intro k hk v hv
 unfold voters at hv
 obtain ⟨w, h1, rfl⟩ := List.mem_map.1 hv
 have := List.mem_range.1 (List.mem_filter.1 h1).1
 have e : (Int.ofNat w) = (w : Int) := rfl
 omega
theorem getConf_mem (x : List UInt8) : ((getConf x).getD []).length <= 7 /\ ∀ v ∈ (getConf x).getD [], 0 <= v /\ v < 7 := by
 unfold getConf
 split
 ·split
  ·simp
  ·exact ⟨voters_len _ _, voters_mem _ 7 (Nat.le_refl _)⟩
 ·simp
end Go.En
namespace Go.En
def Fld.set (m m' : Msg) : Fld -> Msg
 | .idx => { m' with idx := m.idx }
 | .lt => { m' with lt := m.lt }
 | .com => { m' with com := m.com }
 | .rnd => { m' with rnd := m.rnd }
 | .good => { m' with good := m.good }
 | .off => { m' with off := m.off }
 | .whole => { m' with whole := m.whole }
 | .ents => { m' with ents := m.ents }
 | .vot => { m' with vot := m.vot }
 | .data => { m' with data := m.data }
end Go.En
end
section
namespace Go.Proofs.YtcncpbolcigpnaaGreat
open Go.En
attribute [local irreducible] Code.wp wpList Calls
def OutB (o : Option (List UInt8)) (hs : List PH) (v : Value) (hs' : List PH) : Prop :=
 ∃ h ao c, hs' = h :: hs /\ v = .tuple #[.slice ao (ob o).length c, .int .i64 (ec o)] /\ Own h ao (ob o).length c 5 1 (bv (ob o))
theorem outN {o : Option (List UInt8)} {hs : List PH} (h : o = none) : OutB o hs (.tuple #[.slice none 0 0, .int .i64 170]) (em :: hs) := by subst h; exact ⟨em, none, 0, rfl, rfl, Own.nil _ _⟩
theorem outS {o : Option (List UInt8)} {hs : List PH} {l : List UInt8} {h : PH} {ao : Option Addr} {c : Nat} (e : o = some l) (x : Own h ao l.length c 5 1 (bv l)) : OutB o hs (.tuple #[.slice ao l.length c, .int .i64 0]) (h :: hs) := by subst e; exact ⟨h, ao, c, rfl, rfl, x⟩
theorem putCmd_no {c : Cmd} (h : ¬ c.ok) : putCmd c = none := if_neg h
end Go.Proofs.YtcncpbolcigpnaaGreat
namespace Go.Proofs.YtcncpbolcigpnaaGreat
open Go.En
attribute [local irreducible] Code.wp wpList Calls
theorem rByte_lt (s : Rd) : (rByte s).1 < 256 := by
 obtain ⟨b, e⟩ := s
 unfold rByte
 dsimp only
 split
 ·cases b with
  | nil => decide
  | cons c r => exact c.toNat_lt
 ·show (0 : Nat) < 256; omega
theorem rByte_len (s : Rd) : (rByte s).2.1.length <= s.1.length := by
 obtain ⟨b, e⟩ := s
 unfold rByte
 dsimp only
 split
 ·cases b <;> simp
 ·exact Nat.le_refl _
theorem rUint_len (m : Nat) (s : Rd) : (rUint m s).2.1.length <= s.1.length := (rUint_bd m s.1 s.2).2
theorem rBytes_len (m : Int) (s : Rd) : (rBytes m s).1.length <= s.1.length /\ (rBytes m s).2.1.length <= s.1.length := rBytes_bd m s.1 s.2
theorem getCmdR_2 {b : List UInt8} (h : (rByte (b, 0)).1 = 2) : getCmdR b = (⟨2, (rUint mxU (rByte (b, 0)).2).1, (rUint mxU (rUint mxU (rByte (b, 0)).2).2).1, (rBytes 96 (rUint mxU (rUint mxU (rByte (b, 0)).2).2).2).1, (rUint 1073741824 (rBytes 96 (rUint mxU (rUint mxU (rByte (b, 0)).2).2).2).2).1⟩, (rUint 1073741824 (rBytes 96 (rUint mxU (rUint mxU (rByte (b, 0)).2).2).2).2).2) := by
 unfold getCmdR
 dsimp only
 rw [if_neg (by omega), if_pos (.inl h), if_pos h]
theorem getCmdR_3 {b : List UInt8} (h : (rByte (b, 0)).1 = 3) : getCmdR b = (⟨3, (rUint mxU (rByte (b, 0)).2).1, (rUint mxU (rUint mxU (rByte (b, 0)).2).2).1, (rBytes 96 (rUint mxU (rUint mxU (rByte (b, 0)).2).2).2).1, 0⟩, (rBytes 96 (rUint mxU (rUint mxU (rByte (b, 0)).2).2).2).2) := by
 unfold getCmdR
 dsimp only
 rw [if_neg (by omega), if_pos (.inr h), if_neg (by omega)]
theorem getCmdR_1 {b : List UInt8} (h : (rByte (b, 0)).1 = 1) : getCmdR b = (⟨1, 0, 0, [], 0⟩, (rByte (b, 0)).2) := by
 unfold getCmdR
 dsimp only
 rw [if_pos h]
theorem getCmdR_n {b : List UInt8} (h1 : ¬ (rByte (b, 0)).1 = 1) (h2 : ¬ (rByte (b, 0)).1 = 2) (h3 : ¬ (rByte (b, 0)).1 = 3) : getCmdR b = (⟨(rByte (b, 0)).1, 0, 0, [], 0⟩, ((rByte (b, 0)).2.1, if (rByte (b, 0)).2.2 = 0 then 170 else (rByte (b, 0)).2.2)) := by
 unfold getCmdR
 dsimp only
 rw [if_neg h1, if_neg (by omega)]
theorem getCmdC {w0 : World} {K hb : PH} {hs : List PH} (ao : Option Addr) (cap : Nat) (b : List UInt8) (hm : In K hs hb) (x : IsS hb ao b.length cap 1 (bv b)) (hl : b.length < 1099511627776) :
  Ct Tryz.prog w0 23 [.slice ao b.length cap] K hs (fun v K' hs' => K' = K /\ hs' = hs /\ v = .tuple #[.agg ((getCmd b).getD Cmd.zero).v, .int .i64 (ec (getCmd b))]) := by
 refine enter Tryz.func23 (by kernel_rfl) rfl rfl rfl ?_
 refine sq (rg ?_)
 refine al hT 0 (.agg #[.int .i64 0, .int .u64 0, .int .u64 0, .string ⟨#[]⟩, .int .i64 0]) rfl (by kernel_rfl) fun b2 => ?_
 refine fin hT 1 rfl (th (sq (rg ?_)))
 refine cl hT 1 rfl (readC ao cap b (In.cons hm) x hl) ?_
 rintro v7 K7 hs7 ⟨rfl, rb, h, hb', rfl, rfl, rd⟩
 refine fin hT 1 rfl (th (sq (rg ?_)))
 refine cl hT 1 rfl (byteC (.inr ⟨0, rfl⟩) (b, 0) rd) ?_
 rintro v9 K9 hs9 ⟨h1, rfl, rfl, rfl, rd1⟩
 have hk256 := rByte_lt (b, 0)
 have hl1 := rByte_len (b, 0)
 have hl2 := rUint_len mxU (rByte (b, 0)).2
 have hl3 := rUint_len mxU (rUint mxU (rByte (b, 0)).2).2
 have hl4 := (rBytes_len 96 (rUint mxU (rUint mxU (rByte (b, 0)).2).2).2).2
 dsimp only at hl1 hk256
 refine ar hT 0 rfl (i64w (by omega)) ?_
 refine bd hT 0 (.agg (Cmd.mk ((rByte (b, 0)).1 : Nat) 0 0 [] 0).v) rfl (fun w => by kernel_rfl) ?_
 refine al hT 0 (.agg #[.int .i64 0, .int .u64 0, .int .u64 0, .string ⟨#[]⟩, .int .i64 0]) rfl (by kernel_rfl) fun b5 => ?_
 refine stS hT 0 0 rfl rfl (by kernel_rfl) rfl rfl ?_
 refine fin hT 0 rfl (th (jn (σ := Cmd × Rd × PH) (fun s => [(2, .pointer (some ⟨b2, 0, none⟩)), (4, .pointer (some ⟨rb, 0, none⟩)), (5, .pointer (some ⟨b5, 0, none⟩))]) (fun s => pt b5 s.1.v 48 :: s.2.2 :: hb' :: pt b2 Cmd.zero.v 48 :: hs) (fun s => (s.1, s.2.1) = getCmdR b /\ IsRd rb hb' s.2.1 s.2.2) ?_ ?_))
 ·refine sq (rg ?_)
  refine ldp hT 1 0 rfl rfl rfl ?_
  refine fin hT 0 rfl (th (bk (sq (rg ?_))))
  refine cmpS hT 0 rfl fun b17 h17 => ?_
  refine fin hT 1 rfl (th (ifP h17 rfl (fun e2 => ?_) (fun e2 => ?_)))
  ·refine sk (bl ?_)
   exact jx (⟨1, 0, 0, [], 0⟩, (rByte (b, 0)).2, h1) ⟨(getCmdR_1 (by have : ((rByte (b, 0)).1 : Int) = 1 := e2; omega)).symm, rd1⟩ ⟨rfl, rfl, rfl, trivial⟩ rfl (congrArg (fun k : Int => pt b5 (Cmd.mk k 0 0 [] 0).v 48 :: h1 :: hb' :: pt b2 Cmd.zero.v 48 :: hs) e2)
  ·refine sq (sq (rg ?_))
   refine cmpS hT 0 rfl fun b19 h19 => ?_
   refine fin hT 1 rfl (th (ifP h19 rfl (fun e4 => ?_) (fun e4 => ?_)))
   ·refine sk (th (ifPT h19 e4 rfl (sq (rg ?_))))
    refine cl hT 1 rfl (Ct.at 1 rfl (uintC (.inr ⟨1, rfl⟩) mxU _ (by omega) rd1)) ?_
    rintro v22 K22 hs22 ⟨h2, rfl, rfl, rfl, rd2⟩
    refine stp hT 1 0 rfl rfl rfl rfl ?_
    refine fin hT 0 rfl (th (sq (rg ?_)))
    refine cl hT 1 rfl (Ct.at 1 rfl (uintC (.inr ⟨1, rfl⟩) mxU _ (by omega) rd2)) ?_
    rintro v25 K25 hs25 ⟨h3, rfl, rfl, rfl, rd3⟩
    refine stp hT 1 0 rfl rfl rfl rfl ?_
    refine fin hT 0 rfl (th (sq (rg ?_)))
    refine cl hT 1 rfl (Ct.atN 1 rfl (bytesC (.inr ⟨1, rfl⟩) 96 (by omega) _ (by omega) rd3)) ?_
    rintro v28 K28 hs28 ⟨h4, new, rfl, rfl, hx, aox, cx, rfl, rfl, ox, rd4⟩
    refine cvs hT 0 _ rfl (.inr ⟨0, rfl⟩) ox.isS (by kernel_rfl) ?_
    refine stp hT 1 1 rfl rfl rfl rfl ?_
    refine fin hT 0 rfl (th (WC.drop (sq (rg ?_))))
    refine ldp hT 1 0 rfl rfl rfl ?_
    refine cmpS hT 0 rfl fun b33 h33 => ?_
    refine fin hT 0 rfl (th (ifP h33 rfl (fun e6 => ?_) (fun e6 => ?_)))
    ·refine rg ?_
     refine cl hT 1 rfl (Ct.at 1 rfl (uintC (.inr ⟨1, rfl⟩) 1073741824 _ (by omega) rd4)) ?_
     rintro v35 K35 hs35 ⟨h5, rfl, rfl, rfl, rd5⟩
     have hw30 := rUint_le 1073741824 (rBytes 96 (rUint mxU (rUint mxU (rByte (b, 0)).2).2).2).2
     refine ar hT 0 rfl (i64w (by omega)) ?_
     refine stp hT 1 0 rfl rfl rfl rfl ?_
     refine fin hT 0 rfl (bl ?_)
     exact jx (⟨2, (rUint mxU (rByte (b, 0)).2).1, (rUint mxU (rUint mxU (rByte (b, 0)).2).2).1, (rBytes 96 (rUint mxU (rUint mxU (rByte (b, 0)).2).2).2).1, (rUint 1073741824 (rBytes 96 (rUint mxU (rUint mxU (rByte (b, 0)).2).2).2).2).1⟩, (rUint 1073741824 (rBytes 96 (rUint mxU (rUint mxU (rByte (b, 0)).2).2).2).2).2, h5) ⟨(getCmdR_2 (by have : ((rByte (b, 0)).1 : Int) = 2 := e4; omega)).symm, rd5⟩ ⟨rfl, rfl, rfl, trivial⟩ rfl (congrArg (fun k : Int => pt b5 (Cmd.mk k (rUint mxU (rByte (b, 0)).2).1 (rUint mxU (rUint mxU (rByte (b, 0)).2).2).1 (rBytes 96 (rUint mxU (rUint mxU (rByte (b, 0)).2).2).2).1 (rUint 1073741824 (rBytes 96 (rUint mxU (rUint mxU (rByte (b, 0)).2).2).2).2).1).v 48 :: h5 :: hb' :: pt b2 Cmd.zero.v 48 :: hs) e4)
    ·refine absurd e4 e6
   ·refine rg ?_
    refine cmpS hT 0 rfl fun b20 h20 => ?_
    refine fin hT 1 rfl (th (ifP h20 rfl (fun e8 => ?_) (fun e8 => ?_)))
    ·refine sq (rg ?_)
     refine cl hT 1 rfl (Ct.at 1 rfl (uintC (.inr ⟨1, rfl⟩) mxU _ (by omega) rd1)) ?_
     rintro v22 K22 hs22 ⟨h2, rfl, rfl, rfl, rd2⟩
     refine stp hT 1 0 rfl rfl rfl rfl ?_
     refine fin hT 0 rfl (th (sq (rg ?_)))
     refine cl hT 1 rfl (Ct.at 1 rfl (uintC (.inr ⟨1, rfl⟩) mxU _ (by omega) rd2)) ?_
     rintro v25 K25 hs25 ⟨h3, rfl, rfl, rfl, rd3⟩
     refine stp hT 1 0 rfl rfl rfl rfl ?_
     refine fin hT 0 rfl (th (sq (rg ?_)))
     refine cl hT 1 rfl (Ct.atN 1 rfl (bytesC (.inr ⟨1, rfl⟩) 96 (by omega) _ (by omega) rd3)) ?_
     rintro v28 K28 hs28 ⟨h4, new, rfl, rfl, hx, aox, cx, rfl, rfl, ox, rd4⟩
     refine cvs hT 0 _ rfl (.inr ⟨0, rfl⟩) ox.isS (by kernel_rfl) ?_
     refine stp hT 1 1 rfl rfl rfl rfl ?_
     refine fin hT 0 rfl (th (WC.drop (sq (rg ?_))))
     refine ldp hT 1 0 rfl rfl rfl ?_
     refine cmpS hT 0 rfl fun b33 h33 => ?_
     refine fin hT 0 rfl (th (ifP h33 rfl (fun e10 => ?_) (fun e10 => ?_)))
     ·refine absurd e10 (by rw [show ((rByte (b, 0)).1 : Int) = 3 from e8]; decide)
     ·refine sk (bl ?_)
      exact jx (⟨3, (rUint mxU (rByte (b, 0)).2).1, (rUint mxU (rUint mxU (rByte (b, 0)).2).2).1, (rBytes 96 (rUint mxU (rUint mxU (rByte (b, 0)).2).2).2).1, 0⟩, (rBytes 96 (rUint mxU (rUint mxU (rByte (b, 0)).2).2).2).2, h4) ⟨(getCmdR_3 (by have : ((rByte (b, 0)).1 : Int) = 3 := e8; omega)).symm, rd4⟩ ⟨rfl, rfl, rfl, trivial⟩ rfl (congrArg (fun k : Int => pt b5 (Cmd.mk k (rUint mxU (rByte (b, 0)).2).1 (rUint mxU (rUint mxU (rByte (b, 0)).2).2).1 (rBytes 96 (rUint mxU (rUint mxU (rByte (b, 0)).2).2).2).1 0).v 48 :: h4 :: hb' :: pt b2 Cmd.zero.v 48 :: hs) e8)
    ·refine rg ?_
     refine cl hT 1 rfl (Ct.at 1 rfl (failC (rByte (b, 0)).2 170 rd1)) ?_
     rintro v15 K15 hs15 ⟨h2, rfl, rfl, rfl, rd2⟩
     refine fin hT 0 rfl (bl ?_)
     exact jx (⟨((rByte (b, 0)).1 : Nat), 0, 0, [], 0⟩, ((rByte (b, 0)).2.1, if (rByte (b, 0)).2.2 = 0 then 170 else (rByte (b, 0)).2.2), h2) ⟨(getCmdR_n (fun h => e2 (show ((rByte (b, 0)).1 : Int) = 1 by omega)) (fun h => e4 (show ((rByte (b, 0)).1 : Int) = 2 by omega)) (fun h => e8 (show ((rByte (b, 0)).1 : Int) = 3 by omega))).symm, rd2⟩ ⟨rfl, rfl, rfl, trivial⟩ rfl rfl
 ·clear rd rd1
  rintro ⟨c, s, h⟩ ⟨hc, rd⟩
  dsimp only at hc rd ⊢
  refine sq (sq (rg ?_))
  refine cl hT 1 rfl (Ct.keep 1 rfl (endC s rd)) ?_
  rintro v39 K39 hs39 ⟨rfl, rfl, rfl⟩
  refine cmpS hT 0 rfl fun b40 h40 => ?_
  have hg : getCmd b = if rEnd s = 0 then some c else none := by rw [getCmd, <- hc]
  refine fin hT 0 rfl (th (ifP h40 rfl (fun e12 => ?_) (fun e12 => ?_)))
  ·refine sq (rg ?_)
   refine bd hT 0 (.agg Cmd.zero.v) rfl (fun w => by kernel_rfl) ?_
   refine stS hT 0 3 rfl rfl (by kernel_rfl) rfl rfl ?_
   refine fin hT 1 rfl (th (rt (rT ?_)))
   exact retcP 3 4 rfl rfl rfl rfl (by kernel_rfl) ⟨rfl, rfl, by rw [hg, if_neg e12]; rfl⟩
  ·refine sk (th (sq (rg ?_)))
   refine ldS hT 0 0 rfl rfl (by kernel_rfl) ?_
   refine stS hT 0 3 rfl rfl (by kernel_rfl) rfl rfl ?_
   refine fin hT 1 rfl (th (rt ?_))
   exact retcP 3 4 rfl rfl rfl rfl (by kernel_rfl) ⟨rfl, rfl, by rw [hg, if_pos (by simpa using e12)]; rfl⟩
end Go.Proofs.YtcncpbolcigpnaaGreat
namespace Go.Proofs.YtcncpbolcigpnaaGreat
open Go.En
attribute [local irreducible] Code.wp wpList Calls
def uv (l : List Nat) : List Value := l.map fun n => Value.int .u64 (n : Nat)
theorem uv_get {l : List Nat} {j : Nat} (h : j < l.length) : (uv l)[j]? = some (.int .u64 (l[j] : Nat)) := by simp [uv, h]
def us : List Nat -> List UInt8
 | [] => []
 | n :: r => uint n ++ us r
theorem us_append : ∀ (l r : List Nat), us (l ++ r) = us l ++ us r
 | [], r => rfl
 | n :: l, r => by simp [us, us_append l r]
theorem us_len : ∀ (l : List Nat), (∀ n ∈ l, n < 18446744073709551616) -> (us l).length <= 10 * l.length
 | [], _ => Nat.le_refl _
 | n :: l, h => by
  have h1 := us_len l (fun x hx => h x (by simp [hx]))
  have h2 := uint_le10 (h n (by simp))
  simp only [us, List.length_append, List.length_cons]
  omega
theorem uintsRef {w0 : World} {K h hl : PH} {R : List PH} (ao : Option Addr) (c1 : Nat) (bs : List UInt8) (al : Option Addr) (cl' : Nat) (ns : List Nat) (o : Own h ao bs.length c1 5 1 (bv bs)) (hm : In K R hl) (x : IsS hl al ns.length cl' 1 (uv ns))
  (hns : ∀ n ∈ ns, n < 18446744073709551616) (hb : bs.length < 1099511627776) (hl' : ns.length < 1099511627776) :
  Ct Tryz.prog w0 20 [.slice ao bs.length c1, .slice al ns.length cl'] K (h :: R)
   (fun v K' hs' => ∃ h', hs' = h' :: R /\ K' = K /\ ∃ ao' c', v = .slice ao' (bs ++ us ns).length c' /\ Own h' ao' (bs ++ us ns).length c' 5 1 (bv (bs ++ us ns))) := by
 refine enter Tryz.func20 (by kernel_rfl) rfl rfl rfl ?_
 refine sq (rg ?_)
 refine fin hT 1 rfl (th (sq (sq (rg ?_))))
 refine fin hT 1 rfl (th (bk ?_))
 refine loop (σ := Nat × Option Addr × Nat × PH) (fun s => [(0, .slice s.2.1 (bs ++ us (ns.take s.1)).length s.2.2.1), (1, .slice al ns.length cl'), (5, .int .i64 (s.1 : Nat))]) (fun _ => K) (fun s => s.2.2.2 :: R) (fun s => s.1 <= ns.length /\ Own s.2.2.2 s.2.1 (bs ++ us (ns.take s.1)).length s.2.2.1 5 1 (bv (bs ++ us (ns.take s.1)))) (fun s => ns.length - s.1) (0, ao, c1, h) (by simpa [us] using o) (by simp only [us, List.take_zero, List.append_nil]; exact ⟨rfl, rfl, rfl, trivial⟩) rfl rfl ?_
 rintro ⟨i, ao, c1, h⟩ ⟨hi, o⟩
 dsimp only at hi o ⊢
 refine sq (sq (rg ?_))
 refine cmpS hT 3 rfl fun b10 h10 => ?_
 refine fin hT 0 rfl (th (ifP h10 rfl (fun e2 => ?_) (fun e2 => ?_)))
 have hus := us_len (ns.take i) (fun n hn => hns n (List.mem_of_mem_take hn))
 have hlt : (ns.take i).length <= ns.length := by simp; omega
 ·have hin : i < ns.length := by omega
  refine sk (th (sq (bk (sq (rg ?_)))))
  refine ix1 hT 2 i rfl rfl rfl x (uv_get hin) fun a15 hc15 => ?_
  refine ld hT 0 rfl (In.cons hm) hc15 ?_
  refine cl hT 0 rfl (uintRef ns[i] (hns _ (List.getElem_mem hin))) ?_
  rintro v17 K17 hs17 ⟨g17, rfl, rfl, ao17, c17, rfl, o17⟩
  have hu := uint_le10 (hns _ (List.getElem_mem hin))
  refine fin hT 1 rfl (th (rg ?_))
  refine appB hT 2 1 (bs ++ us (ns.take i)) (uint ns[i]) rfl rfl rfl o (.inr ⟨0, rfl⟩) o17.isS (by simp only [List.length_append]; omega) fun ao20 c20 g20 o20 => ?_
  have e : bs ++ us (ns.take i) ++ uint ns[i] = bs ++ us (ns.take (i + 1)) := by rw [List.append_assoc, take_succ_get ns i hin, us_append]; simp [us]
  rw [e] at o20 ⊢
  refine fin hT 1 rfl (bl (th (WC.drop (rg ?_))))
  refine ar hT 1 rfl (i64w (by omega)) ?_
  refine fin hT 1 rfl ?_
  exact again (x := (i, ao, c1, h)) (i + 1, ao20, c20, g20) ⟨rfl, rfl, rfl, trivial⟩ rfl rfl ⟨by omega, o20⟩ (by dsimp only; omega)
 ·refine ex (xt (xt (xb (th (sq (rg ?_))))))
  obtain rfl : i = ns.length := by omega
  rw [List.take_of_length_le (Nat.le_refl _)] at o ⊢
  refine fin hT 2 rfl (th (rt ?_))
  exact ret1 rfl rfl ⟨h, rfl, rfl, ao, c1, rfl, o⟩
theorem putCmdRef {w0 : World} {K : PH} {hs : List PH} (c : Cmd) (hs1 : c.ses < 18446744073709551616) (hs2 : c.seq < 18446744073709551616) :
  Ct Tryz.prog w0 10 [.agg c.v] K hs (fun v K' hs' => K' = K /\ OutB (putCmd c) hs v hs') := by
 refine enter Tryz.func10 (by kernel_rfl) rfl rfl rfl ?_
 refine sq (rg ?_)
 refine bx hT 0 rfl fun b1 => ?_
 refine fin hT 2 rfl (th (sq (sq (rg ?_))))
 refine ldp hT 1 0 rfl rfl rfl ?_
 refine cmpS hT 0 rfl fun b8 h8 => ?_
 refine fin hT 0 rfl (th (ifP h8 rfl (fun e2 => ?_) (fun e2 => ?_)))
 ·refine sq (sq (rg ?_))
  refine ldp hT 1 0 rfl rfl rfl ?_
  refine cmpS hT 0 rfl fun b11 h11 => ?_
  refine' bjo hT 1 4 16 [11, 12] h11 rfl rfl rfl rfl rfl rfl rfl (fun _ => ?x4) (fun b16 h16 => ?_)
  case x4 =>
   refine ldp hT 1 0 rfl rfl rfl ?_
   refine cmpS hT 0 rfl fun b15 h15 => ?_
   exact fin hT 1 rfl (bjx h15 rfl rfl rfl)
  refine' bjo hT 1 4 21 [16, 17] h16 rfl rfl rfl rfl rfl rfl rfl (fun _ => ?x6) (fun b21 h21 => ?_)
  case x6 =>
   refine ldp hT 1 0 rfl rfl rfl ?_
   refine snS hT 0 rfl fun b20 h20 => ?_
   exact fin hT 1 rfl (bjx h20 rfl rfl rfl)
  refine' bjo hT 1 4 26 [21, 22] h21 rfl rfl rfl rfl rfl rfl rfl (fun _ => ?x8) (fun b26 h26 => ?_)
  case x8 =>
   refine ldp hT 1 0 rfl rfl rfl ?_
   refine cmpS hT 0 rfl fun b25 h25 => ?_
   exact fin hT 1 rfl (bjx h25 rfl rfl rfl)
  refine fin hT 0 rfl (th (ifP h26 rfl (fun e10 => ?_) (fun e10 => ?_)))
  ·refine sq (rg ?_)
   refine fin hT 2 rfl (th (rt (rT (rT ?_))))
   refine WQ.drop (WQ.em ?_)
   exact ret2 rfl rfl rfl ⟨rfl, outN (putCmd_no fun ok => ok.elim (fun ⟨h0, h1, h2, h3, h4⟩ => e10.elim (fun e => e.elim (fun e => e.elim (fun e => e (by rw [h1]; rfl)) (fun e => e (by rw [h2]; rfl))) (fun e => e h3)) (fun e => e h4)) (fun ⟨h1, _⟩ => by omega))⟩
  ·refine sk (th (sq (rg ?_)))
   refine lit hT 0 #[.int .u8 ((1 : Nat) : Int)] rfl (by decide) (by kernel_rfl) fun b27 => ?_
   refine fin hT 2 rfl (th (rt (rT ?_)))
   have hc : c = ⟨1, 0, 0, [], 0⟩ := by
    simp only [not_or, ne_eq, Decidable.not_not] at e10
    obtain ⟨⟨⟨h1, h2⟩, h3⟩, h4⟩ := e10
    obtain ⟨k, s, q, l, t⟩ := c
    dsimp only [Cmd.v] at *
    simp_all
   subst hc
   refine WQ.perm (List.Perm.swap _ _ _) (WQ.drop ?_)
   exact ret2 rfl rfl rfl ⟨rfl, outS (by decide) (own_byte b27 1 (by decide))⟩
 ·refine sk (th (sq (sq (rg ?_))))
  refine ldp hT 1 0 rfl rfl rfl ?_
  refine cmpS hT 0 rfl fun b30 h30 => ?_
  refine' bja hT 1 4 35 [30, 31] h30 rfl rfl rfl rfl rfl rfl rfl (fun _ => ?x12) (fun b35 h35 => ?_)
  case x12 =>
   refine ldp hT 1 0 rfl rfl rfl ?_
   refine cmpS hT 0 rfl fun b34 h34 => ?_
   exact fin hT 1 rfl (bjx h34 rfl rfl rfl)
  refine' bjo hT 1 5 41 [35, 36] h35 rfl rfl rfl rfl rfl rfl rfl (fun _ => ?x14) (fun b41 h41 => ?_)
  case x14 =>
   refine ldp hT 1 0 rfl rfl rfl ?_
   refine cmpS hT 1 rfl fun b40 h40 => ?_
   exact fin hT 1 rfl (bjx h40 rfl rfl rfl)
  refine' bjo hT 1 4 46 [41, 42] h41 rfl rfl rfl rfl rfl rfl rfl (fun _ => ?x16) (fun b46 h46 => ?_)
  case x16 =>
   refine ldp hT 1 0 rfl rfl rfl ?_
   refine cmpS hT 0 rfl fun b45 h45 => ?_
   exact fin hT 1 rfl (bjx h45 rfl rfl rfl)
  refine' bjo hT 1 4 51 [46, 47] h46 rfl rfl rfl rfl rfl rfl rfl (fun _ => ?x18) (fun b51 h51 => ?_)
  case x18 =>
   refine ldp hT 1 0 rfl rfl rfl ?_
   refine cmpS hT 0 rfl fun b50 h50 => ?_
   exact fin hT 1 rfl (bjx h50 rfl rfl rfl)
  refine fin hT 0 rfl (th (ifP h51 rfl (fun e20 => ?_) (fun e20 => ?_)))
  ·refine sq (rg ?_)
   refine fin hT 2 rfl (th (rt (rT ?_)))
   refine WQ.drop (WQ.em ?_)
   exact ret2 rfl rfl rfl ⟨rfl, outN (putCmd_no fun ok => ok.elim (fun h => e2 h.1) (fun ⟨h1, h2, h3, h4, h5⟩ => by simp only [ByteArray.size, List.size_toArray] at e20; exact absurd e20 (by omega)))⟩
  ·refine sk (th (sq (sq (rg ?_))))
   refine ldp hT 1 0 rfl rfl rfl ?_
   refine cmpS hT 0 rfl fun b54 h54 => ?_
   refine' bja hT 1 4 59 [54, 55] h54 rfl rfl rfl rfl rfl rfl rfl (fun _ => ?x22) (fun b59 h59 => ?_)
   case x22 =>
    refine ldp hT 1 0 rfl rfl rfl ?_
    refine cmpS hT 0 rfl fun b58 h58 => ?_
    exact fin hT 1 rfl (bjx h58 rfl rfl rfl)
   refine fin hT 0 rfl (th (ifP h59 rfl (fun e24 => ?_) (fun e24 => ?_)))
   ·refine sq (rg ?_)
    refine fin hT 2 rfl (th (rt (rT ?_)))
    refine WQ.drop (WQ.em ?_)
    exact ret2 rfl rfl rfl ⟨rfl, outN (putCmd_no fun ok => ok.elim (fun h => e2 h.1) (fun ⟨h1, h2, h3, h4, h5⟩ => e24.2 (h5 e24.1)))⟩
   ·have hw96 : c.word.length <= 96 := by simp only [ByteArray.size, List.size_toArray] at e20; omega
    refine sk (th (sq (rg ?_)))
    have hok : c.ok := .inr ⟨by omega, hw96, by omega, by omega, fun h => by have := e24; omega⟩
    obtain ⟨t, ht⟩ : ∃ t : Nat, c.wt = (t : Nat) := Int.eq_ofNat_of_zero_le (by omega)
    obtain ⟨k, hk⟩ : ∃ k : Nat, c.kind = (k : Nat) := Int.eq_ofNat_of_zero_le (by omega)
    have hu1 := uint_le10 (n := c.ses) hs1
    have hu2 := uint_le10 (n := c.seq) hs2
    have hu3 := uint_le10 (n := c.word.length) (by omega)
    refine ldp hT 1 0 rfl rfl rfl ?_
    refine ar hT 0 rfl (v' := .int .u8 ((k : Nat) : Int)) (by rw [hk, u8w (by omega)]) ?_
    refine lit hT 0 #[.int .u8 ((k : Nat) : Int)] rfl (by decide) (by kernel_rfl) fun b63 => ?_
    refine ldp hT 1 1 rfl rfl rfl ?_
    refine ldp hT 1 1 rfl rfl rfl ?_
    refine lit hT 0 #[.int .u64 (c.ses : Nat), .int .u64 (c.seq : Nat)] rfl (by decide) (by kernel_rfl) fun b68 => ?_
    refine cl hT 0 rfl (Ct.at 1 rfl (uintsRef _ _ [UInt8.ofNat k] _ _ [c.ses, c.seq] (own_byte b63 k (by omega)) (.inr ⟨0, rfl⟩) (isS_pt rfl rfl) (by simp; omega) (by simp) (by simp))) ?_
    rintro v69 K69 hs69 ⟨g69, rfl, rfl, ao69, c69, rfl, o69⟩
    have hus := us_len [c.ses, c.seq] (by simp; omega)
    have husl : [c.ses, c.seq].length = 2 := rfl
    refine fin hT 1 rfl (th (WC.drop (sq (rg ?_))))
    refine ldp hT 1 1 rfl rfl rfl ?_
    refine cvb hT 0 rfl (by kernel_rfl) fun b72 c72 g72 o72 => ?_
    refine cl hT 0 rfl (putRef _ _ c.word (.inr ⟨0, rfl⟩) o72 (by omega)) ?_
    rintro v73 K73 hs73 ⟨g73, rfl, rfl, ao73, c73, rfl, o73⟩
    have hpl := putBytes_length c.word
    refine fin hT 1 rfl (th (WC.perm (List.Perm.swap _ _ _) (WC.drop (sq (rg ?_)))))
    refine appB hT 2 1 ([UInt8.ofNat k] ++ us [c.ses, c.seq]) (putBytes c.word) rfl rfl rfl o69 (.inr ⟨0, rfl⟩) o73.isS (by simp only [List.length_append, List.length_singleton]; omega) fun ao76 c76 g76 o76 => ?_
    refine fin hT 1 rfl (th (WC.drop (sq (sq (rg ?_)))))
    refine ldp hT 1 1 rfl rfl rfl ?_
    refine cmpS hT 0 rfl fun b79 h79 => ?_
    refine fin hT 0 rfl (th (ifP h79 rfl (fun e26 => ?_) (fun e26 => ?_)))
    ·refine rg ?_
     refine ldp hT 2 1 rfl rfl rfl ?_
     refine ar hT 0 rfl (v' := .int .u64 ((t : Nat) : Int)) (by rw [ht, u64w (by omega)]) ?_
     refine lit hT 0 #[.int .u64 ((t : Nat) : Int)] rfl (by decide) (by kernel_rfl) fun b84 => ?_
     refine cl hT 0 rfl (Ct.at 1 rfl (uintsRef _ _ _ _ _ [t] o76 (.inr ⟨0, rfl⟩) (isS_pt rfl rfl) (by simp; omega) (by simp only [List.length_append, List.length_singleton]; omega) (by simp))) ?_
     rintro v85 K85 hs85 ⟨g85, rfl, rfl, ao85, c85, rfl, o85⟩
     refine fin hT 1 rfl (th (sq (rg ?_)))
     refine fin hT 3 rfl (th (rt ?_))
     refine WQ.drop (WQ.perm (List.Perm.swap _ _ _) (WQ.drop ?_))
     exact ret2 rfl rfl rfl ⟨rfl, outS (by (obtain rfl : k = 2 := by omega); rw [putCmd, if_pos hok, Cmd.bytes, if_neg (by omega), if_pos e26, ht]; simp [us]) o85⟩
    ·refine sk (th (sq (rg ?_)))
     refine fin hT 3 rfl (th (rt ?_))
     refine WQ.perm (List.Perm.swap _ _ _) (WQ.drop ?_)
     exact ret2 rfl rfl rfl ⟨rfl, outS (by (obtain rfl : k = 3 := by omega); rw [putCmd, if_pos hok, Cmd.bytes, if_neg (by omega), if_neg e26]; simp [us]) o76⟩
end Go.Proofs.YtcncpbolcigpnaaGreat
namespace Go.Proofs.YtcncpbolcigpnaaGreat
open Go.En
attribute [local irreducible] Code.wp wpList Calls
end Go.Proofs.YtcncpbolcigpnaaGreat
end
section
namespace Go.Proofs.YtcncpbolcigpnaaGreat
open Go.En
attribute [local irreducible] Code.wp wpList Calls
theorem putConf_no {l : List Int} (h : ¬ (l ≠ [] /\ confOK (-1) l)) : putConf l = none := if_neg h
theorem take_drop_conf (l : List Int) (i : Nat) : confOK (-1) l ↔ confOK (-1) (l.take i) /\ confOK ((l.take i).getLastD (-1)) (l.drop i) := by
 rw [<- confOK_split, List.take_append_drop]
theorem last_ge (l : List Int) (h : confOK (-1) l) : -1 <= l.getLastD (-1) /\ l.getLastD (-1) <= 6 := by
 have hm := confOK_mem l (-1) h (by decide)
 cases hl : l.getLast? with
 | none => simp [List.getLastD_eq_getLast?, hl]
 | some v =>
  have := hm v (List.mem_of_getLast? hl)
  simp [List.getLastD_eq_getLast?, hl]
  omega
theorem bits_take (l : List Int) (i : Nat) (h : confOK (-1) (l.take i)) (hi : i < l.length) (h1 : (l.take i).getLastD (-1) < l[i]) : vbits (l.take i) < 2 ^ l[i].toNat := by
 have h2 := bits_lt (l.take i) (-1) h (by decide)
 have h3 : 2 ^ ((l.take i).getLastD (-1) + 1).toNat <= 2 ^ l[i].toNat := Nat.pow_le_pow_right (by decide) (by omega)
 rw [show ((-1 : Int) + 1).toNat = 0 from rfl, Nat.pow_zero] at h2
 omega
theorem bits_take_succ (l : List Int) (i : Nat) (hi : i < l.length) : vbits (l.take (i + 1)) = vbits (l.take i) + 2 ^ l[i].toNat := by
 rw [take_succ_get l i hi, bits_append]; simp [vbits]
theorem conf_take_succ (l : List Int) (i : Nat) (hi : i < l.length) (h : confOK (-1) (l.take i)) (h1 : (l.take i).getLastD (-1) < l[i]) (h2 : l[i] < 7) : confOK (-1) (l.take (i + 1)) := by
 rw [take_succ_get l i hi, confOK_split]
 exact ⟨h, h1, h2, trivial⟩
theorem conf_take_no (l : List Int) (i : Nat) (hi : i < l.length) (h : confOK (-1) l) : (l.take i).getLastD (-1) < l[i] /\ l[i] < 7 := by
 rw [take_drop_conf l i] at h
 obtain ⟨_, h2⟩ := h
 rw [List.drop_eq_getElem_cons hi] at h2
 exact ⟨h2.1, h2.2.1⟩
theorem putConfC {w0 : World} {K hv : PH} {hs : List PH} (ao : Option Addr) (cap : Nat) (l : List Int) (hm : In K hs hv) (x : IsS hv ao l.length cap 1 (iv l)) (hl : l.length < 1099511627776) :
  Ct Tryz.prog w0 63 [.agg #[.slice ao l.length cap]] K hs (fun v K' hs' => K' = K /\ OutB (putConf l) hs v hs') := by
 refine enter Tryz.func63 (by kernel_rfl) rfl rfl rfl ?_
 refine sq (rg ?_)
 refine bx hT 0 rfl fun b1 => ?_
 refine fin hT 2 rfl (th (sq (rg ?_)))
 refine fin hT 1 rfl (th (sq (rg ?_)))
 refine fin hT 1 rfl (th (sq (sq (rg ?_))))
 refine ldp hT 1 0 rfl rfl rfl ?_
 refine fin hT 2 rfl (th (bk ?_))
 refine loop (σ := Nat) (fun i => [(1, .pointer (some ⟨b1, 0, none⟩)), (4, .int .u8 (vbits (l.take i) : Nat)), (5, .int .i64 ((l.take i).getLastD (-1))), (9, .slice ao l.length cap), (10, .int .i64 (l.length : Nat)), (11, .int .i64 (i : Nat))]) (fun _ => K) (fun i => pt b1 #[.slice ao l.length cap] 59 :: hs) (fun i => i <= l.length /\ confOK (-1) (l.take i)) (fun i => l.length - i) 0 ⟨Nat.zero_le _, trivial⟩ ⟨rfl, rfl, rfl, rfl, rfl, rfl, trivial⟩ rfl rfl ?_
 rintro i ⟨hi, hc⟩
 refine sq (rg ?_)
 refine cmpS hT 0 rfl fun b12 h12 => ?_
 have hlast := last_ge _ hc
 refine fin hT 0 rfl (th (sq (ifP h12 rfl (fun e2 => ?_) (fun e2 => ?_))))
 ·have hin : i < l.length := by omega
  refine sk (th (sq (bk (sq (rg ?_)))))
  refine ix1 hT 0 i rfl rfl rfl x (iv_get hin) fun a13 hc13 => ?_
  refine ld hT 0 rfl (In.cons hm) hc13 ?_
  refine fin hT 1 rfl (th (sq (sq (rg ?_))))
  refine cmpS hT 2 rfl fun b17 h17 => ?_
  refine' bjo hT 1 3 21 [17, 18] h17 rfl rfl rfl rfl rfl rfl rfl (fun _ => ?x4) (fun b21 h21 => ?_)
  case x4 =>
   refine cmpS hT 1 rfl fun b20 h20 => ?_
   exact fin hT 1 rfl (bjx h20 rfl rfl rfl)
  refine fin hT 0 rfl (th (ifP h21 rfl (fun e6 => ?_) (fun e6 => ?_)))
  ·refine sq (rg ?_)
   refine fin hT 2 rfl (th (rt (rT (rB (rT (rT (rB (rT ?_))))))))
   refine WQ.drop (WQ.em ?_)
   exact ret2 rfl rfl rfl ⟨rfl, outN (putConf_no fun h => by have := conf_take_no l i hin h.2; exact e6.elim (fun e => by omega) (fun e => by omega))⟩
  ·have h1 : (l.take i).getLastD (-1) < l[i] := by omega
   refine sk (th (sq (rg ?_)))
   have h2 : l[i] < 7 := by omega
   obtain ⟨v, hv⟩ : ∃ v : Nat, l[i] = (v : Nat) := Int.eq_ofNat_of_zero_le (show 0 <= l[i] by omega)
   have hbt := bits_take l i hc hin h1
   have hbs := bits_take_succ l i hin
   have hlt := last_take_succ l i hin (-1)
   have hcs := conf_take_succ l i hin hc h1 h2
   rw [hv] at hbt hbs hlt h2 ⊢
   simp only [Int.toNat_natCast] at hbt hbs
   refine shf hT 2 rfl (by omega) (.inl ⟨rfl, shl1 v (by omega)⟩) ?_
   refine ar hT 0 rfl (or_add _ v (by omega) hbt) ?_
   refine fin hT 1 rfl (th (rg ?_))
   refine fin hT 2 rfl (bl (th (rg ?_)))
   refine ar hT 0 rfl (i64w (by omega)) ?_
   refine fin hT 1 rfl ?_
   exact again (x := i) (i + 1) ⟨rfl, by rw [hbs]; rfl, by rw [hlt]; rfl, rfl, rfl, rfl, trivial⟩ rfl rfl ⟨by omega, hcs⟩ (by (try dsimp only); omega)
 ·obtain rfl : i = l.length := by omega
  refine ex (xt (xt (xb (th (sq (sq (rg ?_)))))))
  rw [List.take_of_length_le (Nat.le_refl _)] at hc ⊢
  have hbb := conf_bits hc
  refine cmpS hT 1 rfl fun b29 h29 => ?_
  refine fin hT 0 rfl (th (ifP h29 rfl (fun e8 => ?_) (fun e8 => ?_)))
  ·refine sq (rg ?_)
   refine fin hT 2 rfl (th (rt (rT ?_)))
   refine WQ.drop (WQ.em ?_)
   exact ret2 rfl rfl rfl ⟨rfl, outN (putConf_no fun h => by have := hbb.2.2 h.1; omega)⟩
  ·refine sk (th (sq (rg ?_)))
   refine lit hT 1 #[.int .u8 (vbits l : Nat)] rfl (by decide) (by kernel_rfl) fun b31 => ?_
   refine fin hT 2 rfl (th (rt ?_))
   refine WQ.perm (List.Perm.swap _ _ _) (WQ.drop ?_)
   exact ret2 rfl rfl rfl ⟨rfl, outS (by rw [putConf, if_pos ⟨fun h => by subst h; exact e8 rfl, hc⟩]) (own_byte b31 (vbits l) (by omega))⟩
end Go.Proofs.YtcncpbolcigpnaaGreat
namespace Go.Proofs.YtcncpbolcigpnaaGreat
open Go.En
attribute [local irreducible] Code.wp wpList Calls
def OutV (o : Option (List Int)) (hs : List PH) (v : Value) (hs' : List PH) : Prop :=
 ∃ h ao c, hs' = h :: hs /\ v = .tuple #[.agg #[.slice ao (o.getD []).length c], .int .i64 (ec o)] /\ Own h ao (o.getD []).length c 3 1 (iv (o.getD []))
theorem bv_getD {l : List UInt8} {j : Nat} (h : j < l.length) : (bv l)[j]? = some (.int .u8 ((l.getD j 0).toNat : Nat)) := by simp [bv, h, List.getD]
theorem appI {P : Program} {T : Tab} {w0 : World} {ops : Array Oper} {Q : Exit -> Act -> World -> Prop} {rest rest' : List Oper} {n : Nat} {l l' : Sl} {K : PH} {hs : List PH}
  (hT : TabOK P T) (k i : Nat) (xs : List Int) (y : Int) {d : Nat} {si : SlI} {ao ao2 : Option Addr} {c1 c2 : Nat} {h h2 : PH} (h0 : apAt T ops n k rest l = some (d, si, (ao, xs.length, c1), (ao2, 1, c2), rest', l'))
  (hi : hs[i]? = some h) (hsz : (si.size, si.bytes, si.zero.cells.size) = (1, 8, 1)) (o : Own h ao xs.length c1 si.elem 1 (iv xs)) (hm : In K hs h2) (x : IsS h2 ao2 1 c2 1 (iv [y])) (hb : xs.length <= 17592186044415)
  (hk : ∀ ao' cap' h', Own h' ao' (xs ++ [y]).length cap' si.elem 1 (iv (xs ++ [y])) -> WL P w0 ops Q rest' n ((d, .slice ao' (xs ++ [y]).length cap') :: l') K (hs.set i h')) : WL P w0 ops Q rest n l K hs := by
 simp only [Prod.mk.injEq] at hsz
 obtain ⟨e1, e2, e3⟩ := hsz
 refine app hT k i h0 hi (by rw [e1]; exact o) hm (by rw [e1]; exact x) (by rw [e1, e3]) (by rw [e1]; decide) (iv_one _) (by rw [e2]; omega) (by simp only [maxLen]; omega) fun ao' cap' h' o' => ?_
 have e : (xs ++ [y]).length = xs.length + 1 := by simp
 rw [e1, <- iv_append, <- e] at o'
 have := hk ao' cap' h' o'
 rwa [e] at this
theorem getConf_one {c : UInt8} (h : ¬ (c.toNat = 0 \/ 128 <= c.toNat)) : getConf [c] = some (voters c.toNat 7) := if_neg h
theorem getConf_no {b : List UInt8} (h : b.length ≠ 1 \/ (b.getD 0 0).toNat = 0 \/ 128 <= (b.getD 0 0).toNat) : getConf b = none := by
 unfold getConf
 split
 ·rename_i c
  rw [if_pos]
  rcases h with h | h
  ·exact absurd rfl h
  ·exact h
 ·rfl
theorem getConfC {w0 : World} {K hb : PH} {hs : List PH} (ao : Option Addr) (cap : Nat) (b : List UInt8) (hm : In K hs hb) (x : IsS hb ao b.length cap 1 (bv b)) (hl : b.length < 1099511627776) :
  Ct Tryz.prog w0 68 [.slice ao b.length cap] K hs (fun v K' hs' => K' = K /\ OutV (getConf b) hs v hs') := by
 refine enter Tryz.func68 (by kernel_rfl) rfl rfl rfl ?_
 refine sq (rg ?_)
 refine al hT 0 (.agg #[.slice none 0 0]) rfl (by kernel_rfl) fun b2 => ?_
 refine fin hT 1 rfl (th (sq (sq (rg ?_))))
 refine cmpS hT 2 rfl fun b8 h8 => ?_
 refine' bjo hT 1 5 14 [8, 9] h8 rfl rfl rfl rfl rfl rfl rfl (fun _ => ?x2) (fun b14 h14 => ?_)
 case x2 =>
  refine ix1 hT 1 0 rfl rfl rfl x (bv_getD (by omega)) fun a11 hc11 => ?_
  refine ld hT 0 rfl (In.cons hm) hc11 ?_
  refine cmpS hT 0 rfl fun b13 h13 => ?_
  exact fin hT 1 rfl (bjx h13 rfl rfl rfl)
 refine' bjo hT 1 5 20 [14, 15] h14 rfl rfl rfl rfl rfl rfl rfl (fun _ => ?x4) (fun b20 h20 => ?_)
 case x4 =>
  refine ix1 hT 1 0 rfl rfl rfl x (bv_getD (by omega)) fun a17 hc17 => ?_
  refine ld hT 0 rfl (In.cons hm) hc17 ?_
  refine cmpS hT 0 rfl fun b19 h19 => ?_
  exact fin hT 1 rfl (bjx h19 rfl rfl rfl)
 refine fin hT 0 rfl (th (ifP h20 rfl (fun e6 => ?_) (fun e6 => ?_)))
 ·have hn : getConf b = none := getConf_no (by omega)
  refine sq (rg ?_)
  refine bd hT 0 (.agg #[.slice none 0 0]) rfl (fun w => by kernel_rfl) ?_
  refine stS hT 0 0 rfl rfl (by kernel_rfl) rfl rfl ?_
  refine fin hT 1 rfl (th (rt (rT ?_)))
  refine WQ.em (WQ.perm (List.Perm.swap _ _ _) ?_)
  exact retcP 0 1 rfl rfl rfl rfl (by kernel_rfl) ⟨rfl, em, none, 0, rfl, by rw [hn]; rfl, by rw [hn]; exact Own.nil _ _⟩
 ·obtain ⟨c, rfl⟩ : ∃ c, b = [c] := List.length_eq_one_iff.1 (by omega)
  refine sk (th (sq (rg ?_)))
  have hc : ¬ (c.toNat = 0 \/ 128 <= c.toNat) := by simp only [List.getD_cons_zero] at e6; omega
  clear e6
  have hn := getConf_one hc
  refine al hT 0 (.agg #[.slice none 0 0]) rfl (by kernel_rfl) fun b4 => ?_
  refine fin hT 0 rfl (th (sq (sq (rg ?_))))
  refine fin hT 1 rfl (th (bk (WC.em ?_)))
  refine loop (σ := Nat × Option Addr × Nat × PH) (fun s => [(0, .slice ao 1 cap), (2, .pointer (some ⟨b2, 0, none⟩)), (4, .pointer (some ⟨b4, 0, none⟩)), (22, .int .i64 (s.1 : Nat))]) (fun _ => K) (fun s => s.2.2.2 :: pt b4 #[.slice s.2.1 (voters c.toNat s.1).length s.2.2.1] 59 :: pt b2 #[.slice none 0 0] 59 :: hs) (fun s => s.1 <= 7 /\ Own s.2.2.2 s.2.1 (voters c.toNat s.1).length s.2.2.1 3 1 (iv (voters c.toNat s.1))) (fun s => 7 - s.1) (0, none, 0, em) ⟨by decide, Own.nil _ _⟩ ⟨rfl, rfl, rfl, rfl, trivial⟩ rfl rfl ?_
  rintro ⟨k, aoV, cV, g⟩ ⟨hk, o⟩
  dsimp only at hk o ⊢
  have hvl := voters_len c.toNat k
  have hvs := voters_succ c.toNat k
  refine sq (rg ?_)
  refine cmpS hT 0 rfl fun b23 h23 => ?_
  refine fin hT 0 rfl (th (sq (ifP h23 rfl (fun e8 => ?_) (fun e8 => ?_))))
  ·have hk7 : k < 7 := by omega
   refine sk (th (sq (bk (sq (rg ?_)))))
   refine fin hT 2 rfl (th (sq (rg ?_)))
   refine ix1 hT 1 0 rfl rfl rfl x rfl fun a26 hc26 => ?_
   refine ld hT 0 rfl (In.cons3 hm) hc26 ?_
   refine shf hT 1 rfl (by omega) (.inr ⟨rfl, shrN c.toNat k hk7⟩) ?_
   refine ar hT 0 rfl (and1N _ (by have := Nat.div_le_self c.toNat (2 ^ k); have := c.toNat_lt; omega)) ?_
   refine cmpS hT 0 rfl fun b31 h31 => ?_
   refine fin hT 0 rfl (th (ifP h31 rfl (fun e10 => ?_) (fun e10 => ?_)))
   ·have e10' : c.toNat / 2 ^ k % 2 = 1 := by omega
    refine rg ?_
    rw [if_pos e10'] at hvs
    refine ldp hT 1 1 rfl rfl rfl ?_
    refine lit hT 1 #[.int .i64 (k : Nat)] rfl (by decide) (by kernel_rfl) fun b35 => ?_
    refine appI hT 0 1 (voters c.toNat k) (k : Nat) rfl rfl rfl o (.inr ⟨0, rfl⟩) (isS_pt rfl rfl) (by omega) fun ao36 c36 g36 o36 => ?_
    rw [<- hvs] at o36 ⊢
    refine stp hT 1 2 rfl rfl rfl rfl ?_
    refine fin hT 0 rfl (bl (th (WC.drop (rg ?_))))
    refine ar hT 0 rfl (i64w (by omega)) ?_
    refine fin hT 1 rfl ?_
    exact again (x := (k, aoV, cV, g)) (k + 1, ao36, c36, g36) ⟨rfl, rfl, rfl, rfl, trivial⟩ rfl rfl ⟨by omega, o36⟩ (by (try dsimp only); omega)
   ·have e10' : ¬ c.toNat / 2 ^ k % 2 = 1 := by omega
    refine sk (bl (th (rg ?_)))
    rw [if_neg e10', List.append_nil] at hvs
    refine ar hT 0 rfl (i64w (by omega)) ?_
    refine fin hT 1 rfl ?_
    exact again (x := (k, aoV, cV, g)) (k + 1, aoV, cV, g) ⟨rfl, rfl, rfl, rfl, trivial⟩ rfl (by rw [<- hvs]) ⟨by omega, by rw [hvs]; exact o⟩ (by (try dsimp only); omega)
  ·obtain rfl : k = 7 := by omega
   refine ex (xt (xt (xb (th (sq (rg ?_))))))
   refine ldS hT 0 1 rfl rfl (by kernel_rfl) ?_
   refine stS hT 0 2 rfl rfl (by kernel_rfl) rfl rfl ?_
   refine fin hT 1 rfl (th (rt ?_))
   refine WQ.perm (List.perm_middle (l₁ := [_, _])).symm (WQ.drop ?_)
   exact retcP 0 1 rfl rfl rfl rfl (by kernel_rfl) ⟨rfl, g, aoV, cV, rfl, by rw [hn]; rfl, by rw [hn]; exact o⟩
end Go.Proofs.YtcncpbolcigpnaaGreat
namespace Go.Proofs.YtcncpbolcigpnaaGreat
open Go.En
attribute [local irreducible] Code.wp wpList Calls
theorem heldC {w0 : World} {K hb : PH} {hs : List PH} (k : Int) (ao : Option Addr) (cap : Nat) (b : List UInt8) (hm : In K hs hb) (x : IsS hb ao b.length cap 1 (bv b)) (hl : b.length < 1099511627776) :
  Ct Tryz.prog w0 110 [.int .i64 k, .slice ao b.length cap] K hs (fun v K' hs' => K' = K /\ hs' = hs /\ ∃ t : Bool, v = .bool t /\ (t = true ↔ heldP k b)) := by
 refine enter Tryz.func110 (by kernel_rfl) rfl rfl rfl ?_
 refine sq (rg ?_)
 refine fin hT 1 rfl (th (sq (rg ?_)))
 refine fin hT 1 rfl (th (jn (σ := Int) (fun s => [(5, .int .i64 s)]) (fun s => hs) (fun s => (s = 0 ↔ heldP k b)) ?_ ?_))
 ·refine sq (rg ?_)
  refine fin hT 1 rfl (th (bk (sq (rg ?_))))
  refine cmpS hT 0 rfl fun b8 h8 => ?_
  refine fin hT 1 rfl (th (ifP h8 rfl (fun e2 => ?_) (fun e2 => ?_)))
  ·refine sq (rg ?_)
   refine cmpS hT 2 rfl fun b11 h11 => ?_
   refine fin hT 1 rfl (th (rt (rB (jr ?_))))
   exact ret1 rfl rfl ⟨rfl, rfl, b11, rfl, h11.trans ⟨fun h => .inl ⟨e2, List.eq_nil_of_length_eq_zero (by omega)⟩, fun h => by rcases h with ⟨_, h⟩ | ⟨h, _⟩ | ⟨h, _⟩ <;> first | (rw [h]; rfl) | (omega)⟩⟩
  ·refine sq (rg ?_)
   refine cmpS hT 0 rfl fun b13 h13 => ?_
   refine fin hT 1 rfl (th (ifP h13 rfl (fun e5 => ?_) (fun e5 => ?_)))
   ·refine rg ?_
    refine cl hT 1 rfl (getCmdC ao cap b hm x hl) ?_
    rintro v16 K16 hs16 ⟨rfl, rfl, rfl⟩
    refine fin hT 4 rfl (bl ?_)
    exact jx (ec (getCmd b)) ⟨fun h => .inr (.inl ⟨e5, ec_zero.1 h⟩), fun h => ec_zero.2 (by rcases h with ⟨h, _⟩ | ⟨_, h⟩ | ⟨h, _⟩ <;> first | exact h | (omega))⟩ ⟨rfl, trivial⟩ rfl rfl
   ·refine sq (rg ?_)
    refine cmpS hT 0 rfl fun b20 h20 => ?_
    refine fin hT 1 rfl (th (ifP h20 rfl (fun e7 => ?_) (fun e7 => ?_)))
    ·refine rg ?_
     refine cl hT 1 rfl (getConfC ao cap b hm x hl) ?_
     rintro v23 K23 hs23 ⟨rfl, g, aog, cg, rfl, rfl, og⟩
     refine fin hT 4 rfl (bl (WQ.drop ?_))
     exact jx (ec (getConf b)) ⟨fun h => .inr (.inr ⟨e7, ec_zero.1 h⟩), fun h => ec_zero.2 (by rcases h with ⟨h, _⟩ | ⟨h, _⟩ | ⟨_, h⟩ <;> first | exact h | (omega))⟩ ⟨rfl, trivial⟩ rfl rfl
    ·refine sq (rg ?_)
     refine fin hT 1 rfl (th (rt (rB (jr ?_))))
     exact ret1 rfl rfl ⟨rfl, rfl, false, rfl, ⟨fun h => by simp at h, fun h => by have := held_kind h; omega⟩⟩
 ·rintro s hsd
  refine sq (rg ?_)
  refine cmpS hT 1 rfl fun b27 h27 => ?_
  refine fin hT 1 rfl (th (rt ?_))
  exact ret1 rfl rfl ⟨rfl, rfl, b27, rfl, h27.trans hsd⟩
theorem putEnt_no {e : Ent} (h : ¬ e.ok) : putEnt e = none := if_neg h
theorem putEntC {w0 : World} {K hb : PH} {hs : List PH} (e : Ent) (ao : Option Addr) (cap : Nat) (h1 : e.idx <= mxU) (h2 : e.term <= mxU) (hm : In K hs hb) (x : IsS hb ao e.data.length cap 1 (bv e.data)) (hl : e.data.length < 1099511627776) :
  Ct Tryz.prog w0 88 [.agg (e.v ao cap)] K hs (fun v K' hs' => K' = K /\ OutB (putEnt e) hs v hs') := by
 have hmx : mxU = 18446744073709551615 := rfl
 refine enter Tryz.func88 (by kernel_rfl) rfl rfl rfl ?_
 refine sq (rg ?_)
 refine bx hT 0 rfl fun b1 => ?_
 refine fin hT 2 rfl (th (sq (sq (rg ?_))))
 refine ldp hT 1 0 rfl rfl rfl ?_
 refine cmpS hT 0 rfl fun b7 h7 => ?_
 refine' bjo hT 1 4 12 [7, 8] h7 rfl rfl rfl rfl rfl rfl rfl (fun _ => ?x2) (fun b12 h12 => ?_)
 case x2 =>
  refine ldp hT 1 0 rfl rfl rfl ?_
  refine cmpS hT 0 rfl fun b11 h11 => ?_
  exact fin hT 1 rfl (bjx h11 rfl rfl rfl)
 refine' bjo hT 1 7 20 [12, 13] h12 rfl rfl rfl rfl rfl rfl rfl (fun _ => ?x4) (fun b20 h20 => ?_)
 case x4 =>
  refine ldp hT 1 0 rfl rfl rfl ?_
  refine ldp hT 1 0 rfl rfl rfl ?_
  refine cl hT 0 rfl (heldC e.kind ao cap e.data (In.cons hm) x hl) ?_
  rintro v18 K18 hs18 ⟨rfl, rfl, b18, rfl, h18⟩
  refine cbS hT 0 _ rfl (bnot h18) fun b19 h19 => ?_
  exact fin hT 1 rfl (bjx h19 rfl rfl rfl)
 refine fin hT 0 rfl (th (ifP h20 rfl (fun e5 => ?_) (fun e5 => ?_)))
 ·refine sq (rg ?_)
  refine fin hT 2 rfl (th (rt (rT ?_)))
  refine WQ.drop (WQ.em ?_)
  exact ret2 rfl rfl rfl ⟨rfl, outN (putEnt_no fun h => e5.elim (fun h' => h'.elim (fun h' => h.1 (by omega)) (fun h' => h.2.1 (by omega))) (fun h' => h' h.2.2))⟩
 ·have hok : e.ok := ⟨fun h => e5 (.inl (.inl (by omega))), fun h => e5 (.inl (.inr (by omega))), Decidable.not_not.1 fun h => e5 (.inr h)⟩
  refine sk (th (WC.em (sq (rga [pt b1 (Value.agg (e.v ao cap)).cells 111] 7 [0, 2, 6, 8, 5, 11, 12] (by simp) (by kernel_rfl) (by kernel_rfl) ?_))))
  have hd := held_len hok.2.2
  have hkd := held_kind hok.2.2
  obtain ⟨k, hk⟩ : ∃ k : Nat, e.kind = (k : Nat) := Int.eq_ofNat_of_zero_le (show 0 <= e.kind by omega)
  have hu1 := uint_le10 (n := e.idx) (by omega)
  have hu2 := uint_le10 (n := e.term) (by omega)
  refine dldp hT (by kernel_rfl) 1 0 rfl rfl rfl ?_
  refine dldp hT (by kernel_rfl) 1 0 rfl rfl rfl ?_
  refine dact hT (by kernel_rfl) 0 rfl ?_
  refine cl hT 0 rfl (putUint none 0 [] e.idx (Own.nil _ _) (by omega) (by simp)) ?_
  rintro v23 K23 hs23 ⟨g23, rfl, rfl, ao23, c23, rfl, o23⟩
  refine dnex [pt b1 (Value.agg (e.v ao cap)).cells 111] (by simp) (by simp) rfl ?_
  refine dact hT (by kernel_rfl) 0 rfl ?_
  refine cl hT 0 rfl (putUint ao23 c23 _ e.term o23 (by omega) (by simp; omega)) ?_
  rintro v26 K26 hs26 ⟨g26, rfl, rfl, ao26, c26, rfl, o26⟩
  refine dnex [pt b1 (Value.agg (e.v ao cap)).cells 111] (by simp) (by simp) rfl ?_
  refine dend hT (by kernel_rfl) 1 rfl (th (sq (rga [pt b1 (Value.agg (e.v ao cap)).cells 111] 11 [0, 2, 4, 6, 12, 14, 9, 11, 17, 18, 20] (by simp) (by kernel_rfl) (by kernel_rfl) ?_)))
  refine dldp hT (by kernel_rfl) 2 0 rfl rfl rfl ?_
  refine dar hT (by kernel_rfl) 0 rfl (v' := .int .u8 ((k : Nat) : Int)) (by rw [hk, u8w (by omega)]) ?_
  refine dldp hT (by kernel_rfl) 1 0 rfl rfl rfl ?_
  refine dact hT (by kernel_rfl) 0 rfl ?_
  refine lit hT 0 #[.int .u8 ((k : Nat) : Int)] rfl (by decide) (by kernel_rfl) fun b31 => ?_
  refine dnex [pt b1 (Value.agg (e.v ao cap)).cells 111] (by simp) (by simp) rfl ?_
  refine dact hT (by kernel_rfl) 0 rfl ?_
  refine appB hT 0 1 _ [UInt8.ofNat k] rfl rfl rfl o26 (.inr ⟨0, rfl⟩) (isS_byte b31 k (by omega)) (by simp; omega) fun ao32 c32 g32 o32 => ?_
  refine dnex [pt b1 (Value.agg (e.v ao cap)).cells 111] (by simp) (by simp) rfl ?_
  refine dact hT (by kernel_rfl) 0 rfl ?_
  refine cl hT 0 rfl (Ct.at 1 rfl (putBytesC ao32 c32 _ ao cap e.data o32 (In.cons (In.cons hm)) x (by simp; omega) (by omega))) ?_
  rintro v35 K35 hs35 ⟨g35, rfl, rfl, ao35, c35, rfl, o35⟩
  refine dnex [pt b1 (Value.agg (e.v ao cap)).cells 111] (by simp) (by simp) rfl ?_
  refine dend hT (by kernel_rfl) 2 rfl (th (rt ?_))
  refine WQ.drop (WQ.perm (List.Perm.swap _ _ _) (WQ.drop ?_))
  exact ret2 rfl rfl rfl ⟨rfl, outS (by rw [putEnt, if_pos hok, Ent.bytes, hk]; simp) o35⟩
end Go.Proofs.YtcncpbolcigpnaaGreat
namespace Go.Proofs.YtcncpbolcigpnaaGreat
open Go.En
attribute [local irreducible] Code.wp wpList Calls
def OutE (o : Option Ent) (hs : List PH) (v : Value) (hs' : List PH) : Prop :=
 ∃ h ao c, hs' = h :: hs /\ v = .tuple #[.agg ((o.getD Ent.zero).v ao c), .int .i64 (ec o)] /\ Own h ao (o.getD Ent.zero).data.length c 5 1 (bv (o.getD Ent.zero).data)
theorem getEntC {w0 : World} {K hb : PH} {hs : List PH} (ao : Option Addr) (cap : Nat) (b : List UInt8) (hm : In K hs hb) (x : IsS hb ao b.length cap 1 (bv b)) (hl : b.length < 1099511627776) :
  Ct Tryz.prog w0 82 [.slice ao b.length cap] K hs (fun v K' hs' => K' = K /\ OutE (getEnt b) hs v hs') := by
 have hl1 := rUint_len mxU (b, 0)
 have hl2 := rUint_len mxU (rUint mxU (b, 0)).2
 have hl3 := rByte_len (rUint mxU (rUint mxU (b, 0)).2).2
 have hl4 := (rBytes_len 512 (rByte (rUint mxU (rUint mxU (b, 0)).2).2).2).1
 have hk256 := rByte_lt (rUint mxU (rUint mxU (b, 0)).2).2
 dsimp only at hl1
 have hgE : getEntR b = (⟨(rUint mxU (b, 0)).1, (rUint mxU (rUint mxU (b, 0)).2).1, ((rByte (rUint mxU (rUint mxU (b, 0)).2).2).1 : Nat), (rBytes 512 (rByte (rUint mxU (rUint mxU (b, 0)).2).2).2).1⟩, (rBytes 512 (rByte (rUint mxU (rUint mxU (b, 0)).2).2).2).2) := rfl
 refine enter Tryz.func82 (by kernel_rfl) rfl rfl rfl ?_
 refine sq (rg ?_)
 refine al hT 0 (.agg #[.int .u64 0, .int .u64 0, .int .i64 0, .slice none 0 0]) rfl (by kernel_rfl) fun b2 => ?_
 refine fin hT 1 rfl (th (sq (rg ?_)))
 refine cl hT 1 rfl (readC ao cap b (In.cons hm) x hl) ?_
 rintro v7 K7 hs7 ⟨rfl, rb, h, hb', rfl, rfl, rd⟩
 refine fin hT 1 rfl (th (sq (rg ?_)))
 refine cl hT 1 rfl (uintC (.inr ⟨0, rfl⟩) mxU (b, 0) hl rd) ?_
 rintro v9 K9 hs9 ⟨h1, rfl, rfl, rfl, rd1⟩
 refine cl hT 1 rfl (uintC (.inr ⟨0, rfl⟩) mxU _ (by omega) rd1) ?_
 rintro v11 K11 hs11 ⟨h2, rfl, rfl, rfl, rd2⟩
 refine cl hT 1 rfl (byteC (.inr ⟨0, rfl⟩) _ rd2) ?_
 rintro v13 K13 hs13 ⟨h3, rfl, rfl, rfl, rd3⟩
 refine ar hT 0 rfl (i64w (by omega)) ?_
 refine bd hT 0 (.agg ((Ent.mk (rUint mxU (b, 0)).1 (rUint mxU (rUint mxU (b, 0)).2).1 ((rByte (rUint mxU (rUint mxU (b, 0)).2).2).1 : Nat) []).v none 0)) rfl (fun w => by kernel_rfl) ?_
 refine al hT 0 (.agg #[.int .u64 0, .int .u64 0, .int .i64 0, .slice none 0 0]) rfl (by kernel_rfl) fun b5 => ?_
 refine stS hT 0 0 rfl rfl (by kernel_rfl) rfl rfl ?_
 refine fin hT 0 rfl (th (sq (rg ?_)))
 refine cl hT 1 rfl (Ct.atN 1 rfl (bytesC (.inr ⟨1, rfl⟩) 512 (by omega) _ (by omega) rd3)) ?_
 rintro v17 K17 hs17 ⟨h4, new, rfl, rfl, hx, aox, cx, rfl, rfl, ox, rd4⟩
 refine stp hT 1 1 rfl rfl rfl rfl ?_
 refine fin hT 0 rfl (th (sq (sq (rg ?_))))
 refine cl hT 1 rfl (Ct.keep 2 rfl (endC _ rd4)) ?_
 rintro v20 K20 hs20 ⟨rfl, rfl, rfl⟩
 refine cmpS hT 0 rfl fun b21 h21 => ?_
 refine' bjo hT 1 4 26 [21, 22] h21 rfl rfl rfl rfl rfl rfl rfl (fun _ => ?x2) (fun b26 h26 => ?_)
 case x2 =>
  refine ldp hT 1 1 rfl rfl rfl ?_
  refine cmpS hT 0 rfl fun b25 h25 => ?_
  exact fin hT 1 rfl (bjx h25 rfl rfl rfl)
 refine' bjo hT 1 4 31 [26, 27] h26 rfl rfl rfl rfl rfl rfl rfl (fun _ => ?x4) (fun b31 h31 => ?_)
 case x4 =>
  refine ldp hT 1 1 rfl rfl rfl ?_
  refine cmpS hT 0 rfl fun b30 h30 => ?_
  exact fin hT 1 rfl (bjx h30 rfl rfl rfl)
 refine' bjo hT 1 7 39 [31, 32] h31 rfl rfl rfl rfl rfl rfl rfl (fun _ => ?x6) (fun b39 h39 => ?_)
 case x6 =>
  refine ldp hT 1 1 rfl rfl rfl ?_
  refine ldp hT 1 1 rfl rfl rfl ?_
  refine cl hT 0 rfl (heldC _ aox cx _ (.inr ⟨0, rfl⟩) ox.isS (by omega)) ?_
  rintro v37 K37 hs37 ⟨rfl, rfl, b37, rfl, h37⟩
  refine cbS hT 0 _ rfl (bnot h37) fun b38 h38 => ?_
  exact fin hT 1 rfl (bjx h38 rfl rfl rfl)
 refine fin hT 0 rfl (th (ifP h39 rfl (fun e7 => ?_) (fun e7 => ?_)))
 ·have hn : getEnt b = none := by
   rw [getEnt, if_neg]
   rw [hgE]
   exact fun h => e7.elim (fun h' => h'.elim (fun h' => h'.elim (fun h' => h' h.1) (fun h' => h.2.1 (Int.ofNat_inj.1 h'))) (fun h' => h.2.2.1 (Int.ofNat_inj.1 h'))) (fun h' => h' h.2.2.2)
  refine sq (rg ?_)
  refine bd hT 0 (.agg (Ent.zero.v none 0)) rfl (fun w => by kernel_rfl) ?_
  refine stS hT 0 4 rfl rfl (by kernel_rfl) rfl rfl ?_
  refine fin hT 1 rfl (th (rt (rT ?_)))
  refine WQ.drop (WQ.drop (WQ.drop (WQ.drop (WQ.em (WQ.perm (List.Perm.swap _ _ _) ?_)))))
  exact retcP 0 1 rfl rfl rfl rfl (by kernel_rfl) ⟨rfl, em, none, 0, rfl, by rw [hn]; rfl, by rw [hn]; exact Own.nil _ _⟩
 ·have hn : getEnt b = some (getEntR b).1 := by
   rw [getEnt, if_pos]
   rw [hgE]
   exact ⟨Decidable.not_not.1 fun h => e7 (.inl (.inl (.inl h))), fun h => e7 (.inl (.inl (.inr (Int.ofNat_inj.2 h)))), fun h => e7 (.inl (.inr (Int.ofNat_inj.2 h))), Decidable.not_not.1 fun h => e7 (.inr h)⟩
  rw [hgE] at hn
  refine sk (th (sq (rg ?_)))
  refine ldS hT 0 1 rfl rfl (by kernel_rfl) ?_
  refine stS hT 0 4 rfl rfl (by kernel_rfl) rfl rfl ?_
  refine fin hT 1 rfl (th (rt ?_))
  refine WQ.perm (List.perm_middle (l₁ := [_, _, _, _])).symm (WQ.drop (WQ.drop (WQ.drop ?_)))
  exact retcP 0 1 rfl rfl rfl rfl (by kernel_rfl) ⟨rfl, hx, aox, cx, rfl, by rw [hn]; rfl, by rw [hn]; exact ox⟩
end Go.Proofs.YtcncpbolcigpnaaGreat
end
section
namespace Go.Proofs.YtcncpbolcigpnaaGreat
open Go.En
attribute [local irreducible] Code.wp wpList Calls
structure MA where
 ae : Option Addr
 ce : Nat
 av : Option Addr
 cv : Nat
 ad : Option Addr
 cd : Nat
def mv (m : Msg) (p : MA) : Array Value := #[.int .i64 m.kind, .int .i64 m.frm, .int .i64 m.to, .int .u64 (m.term : Nat), .int .u64 (m.idx : Nat), .int .u64 (m.lt : Nat), .int .u64 (m.com : Nat), .int .u64 (m.rnd : Nat), .bool m.good,
 .slice p.ae m.ents.length p.ce, .int .i64 m.off, .int .i64 m.whole, .slice p.av m.vot.length p.cv, .slice p.ad m.data.length p.cd]
def EntC (H : PH) (cs : List Value) (e : Ent) : Prop := ∃ ao cap, cs = (e.v ao cap).toList /\ IsS H ao e.data.length cap 1 (bv e.data)
theorem EntC.le {H H' : PH} (l : Le H H') {cs : List Value} {e : Ent} (h : EntC H cs e) : EntC H' cs e := by
 obtain ⟨ao, cap, h1, h2⟩ := h
 exact ⟨ao, cap, h1, h2.le l⟩
section
variable {w0 : World} {K h : PH} {R : List PH} {g off cb mb : Nat}
end
end Go.Proofs.YtcncpbolcigpnaaGreat
namespace Go.Proofs.YtcncpbolcigpnaaGreat
open Go.En
attribute [local irreducible] Code.wp wpList Calls
section
variable {w0 : World} {K h : PH} {R : List PH} {mb : Nat}
end
end Go.Proofs.YtcncpbolcigpnaaGreat
namespace Go.Proofs.YtcncpbolcigpnaaGreat
open Go.En
attribute [local irreducible] Code.wp wpList Calls
theorem All2.len {α : Type} {R : List Value -> α -> Prop} : ∀ {cs : List (List Value)} {xs : List α}, All2 R cs xs -> cs.length = xs.length
 | [], [], _ => rfl
 | _ :: _, _ :: _, g => by simp [All2.len g.2]
 | [], _ :: _, g => g.elim
 | _ :: _, [], g => g.elim
end Go.Proofs.YtcncpbolcigpnaaGreat
end
section
namespace Go.Proofs.YtcncpbolcigpnaaGreat
open Go.En
attribute [local irreducible] Code.wp wpList Calls
theorem equalC {w0 : World} {K h1 h2 : PH} {hs : List PH} (a1 a2 : Option Addr) (c1 c2 : Nat) (l1 l2 : List UInt8) (m1 : In K hs h1) (m2 : In K hs h2) (x1 : IsS h1 a1 l1.length c1 1 (bv l1)) (x2 : IsS h2 a2 l2.length c2 1 (bv l2)) (hl : l1.length < 1099511627776) :
  Ct Tryz.prog w0 101 [.slice a1 l1.length c1, .slice a2 l2.length c2] K hs (fun v K' hs' => K' = K /\ hs' = hs /\ ∃ b : Bool, v = .bool b /\ (b = true ↔ l1 = l2)) := by
 refine enter Tryz.func101 (by kernel_rfl) rfl rfl rfl ?_
 refine sq (rg ?_)
 refine fin hT 1 rfl (th (sq (sq (rg ?_))))
 refine cmpS hT 4 rfl fun b10 h10 => ?_
 refine fin hT 0 rfl (th (ifP h10 rfl (fun e2 => ?_) (fun e2 => ?_)))
 ·refine sq (rg ?_)
  refine fin hT 1 rfl (th (rt (rT ?_)))
  exact ret1 rfl rfl ⟨rfl, rfl, false, rfl, by simp; intro h; subst h; exact e2 rfl⟩
 ·have hll : l1.length = l2.length := by omega
  refine sk (th (sq (sq (rg ?_))))
  refine fin hT 3 rfl (th (bk ?_))
  refine loop (σ := Nat) (fun i => [(0, .slice a1 l1.length c1), (1, .slice a2 l2.length c2), (12, .int .i64 (l1.length : Nat)), (13, .int .i64 (i : Nat))]) (fun _ => K) (fun _ => hs) (fun i => i <= l1.length /\ l1.take i = l2.take i) (fun i => l1.length - i) 0 ⟨Nat.zero_le _, rfl⟩ ⟨rfl, rfl, rfl, rfl, trivial⟩ rfl rfl ?_
  rintro i ⟨hi, he⟩
  refine sq (rg ?_)
  refine cmpS hT 0 rfl fun b14 h14 => ?_
  refine fin hT 0 rfl (th (sq (ifP h14 rfl (fun e4 => ?_) (fun e4 => ?_))))
  ·have hi1 : i < l1.length := by omega
   refine sk (th (sq (bk (sq (rg ?_)))))
   have hi2 : i < l2.length := by omega
   obtain ⟨a1, rfl⟩ := x1.addr hi1 (by decide)
   obtain ⟨a2, rfl⟩ := x2.addr hi2 (by decide)
   obtain ⟨a1', ha1, hc1⟩ := x1.2.2 i _ (bv_get hi1)
   obtain ⟨a2', ha2, hc2⟩ := x2.2.2 i _ (bv_get hi2)
   cases ha1
   cases ha2
   refine fin hT 2 rfl (th (sq (rga hs 9 [0, 2, 4, 6, 8, 10, 12, 14, 16] (by simp) (by kernel_rfl) (by kernel_rfl) ?_)))
   refine dixs hT (by kernel_rfl) 2 i rfl rfl hi1 ?_
   refine dld hT (by kernel_rfl) 0 rfl m1 (by simpa using hc1) ?_
   refine dixs hT (by kernel_rfl) 2 i rfl rfl hi2 ?_
   refine dld hT (by kernel_rfl) 0 rfl m2 (by simpa using hc2) ?_
   refine dcbS hT (by kernel_rfl) 0 (((l1[i].toNat : Nat) : Int) ≠ (l2[i].toNat : Nat)) rfl (by simp) fun b24 h24 => ?_
   refine dend hT (by kernel_rfl) 0 rfl (th (ifP h24 rfl (fun e5 => ?_) (fun e5 => ?_)))
   ·refine sq (rg ?_)
    refine fin hT 1 rfl (th (rt (rB (rT (rT (rB (rT ?_)))))))
    exact ret1 rfl rfl ⟨rfl, rfl, false, rfl, by simp; intro h; subst h; exact e5 rfl⟩
   ·refine sk (bl (th (rg ?_)))
    refine ar hT 0 rfl (i64w (by omega)) ?_
    refine fin hT 1 rfl ?_
    exact again (x := i) (i + 1) ⟨rfl, rfl, rfl, rfl, trivial⟩ rfl rfl ⟨by omega, by rw [take_succ_get l1 i hi1, take_succ_get l2 i hi2, he, UInt8.toNat_inj.1 (Int.ofNat_inj.1 (Decidable.not_not.1 e5))]⟩ (by (try dsimp only); omega)
  ·obtain rfl : i = l1.length := by omega
   refine ex (xt (xt (xb (th (sq (rg ?_))))))
   refine fin hT 1 rfl (th (rt ?_))
   exact ret1 rfl rfl ⟨rfl, rfl, true, rfl, by simp; rw [List.take_of_length_le (Nat.le_refl _), hll, List.take_of_length_le (Nat.le_refl _)] at he; exact he⟩
end Go.Proofs.YtcncpbolcigpnaaGreat
namespace Go.Proofs.YtcncpbolcigpnaaGreat
open Go.En
attribute [local irreducible] Code.wp wpList Calls
end Go.Proofs.YtcncpbolcigpnaaGreat
namespace Go.Proofs.YtcncpbolcigpnaaGreat
open Go.En
attribute [local irreducible] Code.wp wpList Calls
end Go.Proofs.YtcncpbolcigpnaaGreat
namespace Go.Proofs.YtcncpbolcigpnaaGreat
open Go.En
attribute [local irreducible] Code.wp wpList Calls
def p0 : MA := ⟨none, 0, none, 0, none, 0⟩
end Go.Proofs.YtcncpbolcigpnaaGreat
end
section
namespace Go.En
theorem u64shlB (m : Nat) (h : m * 256 < 18446744073709551616) : Value.int .u64 (IntKind.u64.wrap (((m : Nat) : Int) * 2 ^ (min (8 : Int).toNat IntKind.u64.bits))) = .int .u64 ((m * 256 : Nat) : Int) := by
 have e : min (8 : Int).toNat IntKind.u64.bits = 8 := rfl
 rw [e, show ((m : Nat) : Int) * 2 ^ 8 = ((m * 256 : Nat) : Int) from by rw [Int.natCast_mul]; rfl, u64m, Nat.mod_eq_of_lt h]
theorem u64orB (m : Nat) (c : UInt8) (h : m * 256 + 256 <= 18446744073709551616) :
  Value.int .u64 (IntKind.u64.wrap (BitVec.ofInt 64 ((m * 256 : Nat) : Int) ||| BitVec.ofInt 64 ((c.toNat : Nat) : Int)).toNat) = .int .u64 ((c.toNat + 256 * m : Nat) : Int) := by
 have hc := c.toNat_lt
 have e : (BitVec.ofInt 64 ((m * 256 : Nat) : Int) ||| BitVec.ofInt 64 ((c.toNat : Nat) : Int)).toNat = c.toNat + 256 * m := by
  rw [BitVec.toNat_or, BitVec.ofInt_natCast, BitVec.ofInt_natCast, BitVec.toNat_ofNat, BitVec.toNat_ofNat, Nat.mod_eq_of_lt (by omega), Nat.mod_eq_of_lt (by omega), show m * 256 = 2 ^ 8 * m from by omega,
   <- Nat.two_pow_add_eq_or_of_lt (by omega)]
  omega
 rw [e, u64m, Nat.mod_eq_of_lt (by omega)]
end Go.En
namespace Go.Proofs.YtcncpbolcigpnaaGreat
open Go.En
attribute [local irreducible] Code.wp wpList Calls
theorem readSC {w0 : World} {K h : PH} {hs : List PH} (sb b : Nat) (D : Dk) (c : Nat) (o : D.Ok c) (hc : c <= 1099511627) (hm : DskH K b D h) (area : Nat) (sv nv : Value) (i : Nat) (hi : i <= 1) :
  Ct Tryz.prog w0 65 [.pointer (some ⟨sb, 0, none⟩), .int .i64 ((i : Nat) : Int)] K (pt sb #[.pointer (some ⟨b, 0, none⟩), .int .u64 ((area : Nat) : Int), sv, nv] 122 :: h :: hs)
   (fun v K' hs' => hs' = pt sb #[.pointer (some ⟨b, 0, none⟩), .int .u64 ((area : Nat) : Int), sv, nv] 122 :: h :: hs /\ Le K K' /\ ∃ ao cap, v = .tuple #[.int .u64 (((sltRd D area i).1 : Nat) : Int), .slice ao (sltRd D area i).2.length cap] /\ IsS K' ao (sltRd D area i).2.length cap 1 (bv (sltRd D area i).2)) := by
 obtain ⟨S, hS⟩ : ∃ S, S = pt sb #[.pointer (some ⟨b, 0, none⟩), .int .u64 ((area : Nat) : Int), sv, nv] 122 := ⟨_, rfl⟩
 refine enter Tryz.func65 (by kernel_rfl) rfl rfl rfl ?_
 refine sq (rg ?_)
 refine fin hT 2 rfl (th (sq (rga [pt sb #[.pointer (some ⟨b, 0, none⟩), .int .u64 ((area : Nat) : Int), sv, nv] 122] 15 [0, 2, 4, 6, 8, 10, 12, 14, 16, 19, 20, 22, 24, 26, 28] (by simp) (by kernel_rfl) (by kernel_rfl) ?_)))
 refine dldp hT (by kernel_rfl) 3 0 rfl rfl rfl ?_
 refine dldp hT (by kernel_rfl) 3 0 rfl rfl rfl ?_
 refine dact hT (by kernel_rfl) 1 rfl ?_
 rw [<- hS]
 refine cl hT 0 rfl (Ct.at 1 rfl (readH b D c o hc hm ((area : Nat) : Int) ((i : Nat) : Int))) ?_
 rintro v22 K22 hs22 ⟨h', rfl, rfl, le, hR⟩
 refine dnexL [S] (by simp) (by simp) le ?_
 rcases hR with ⟨hn, rfl⟩ | ⟨bs, ao, cap, hb, hl, rfl, x⟩
 ·have e : sltRd D area i = (0, []) := by unfold sltRd; rw [hn]
  rw [e]
  refine dend hT (by kernel_rfl) 5 rfl (th (sq (sq (rg ?_))))
  refine cmp hT 2 rfl (fun h27 => ?_) (fun h27 => absurd (by omega) h27)
  refine fin hT 6 rfl (th (ifT rfl ?_))
  refine sq (rg ?_)
  refine fin hT 2 rfl (th (rt (rT ?_)))
  exact ret2 rfl rfl rfl ⟨rfl, le, none, 0, rfl, IsS.nil _ _ _ _⟩
 ·have e : sltRd D area i = sltSay bs i := by unfold sltRd; rw [hb]
  rw [e]
  obtain ⟨c8, hc8⟩ : ∃ c8, bs[8]? = some c8 := ⟨bs[8]'(by omega), List.getElem?_eq_getElem (by omega)⟩
  have hg8 : bs.getD 8 0 = c8 := by rw [List.getD_eq_getElem?_getD, hc8]; rfl
  have hx8 : (bv bs)[8]? = some (.int .u8 ((c8.toNat : Nat) : Int)) := by simp [bv, hc8]
  have h8lt := c8.toNat_lt
  refine dend hT (by kernel_rfl) 5 rfl (th (sq (sq (rg ?_))))
  refine cmp hT 2 rfl (fun h27 => absurd h27 (by omega)) (fun h27 => ?_)
  refine ix1 hT 2 8 rfl rfl rfl x hx8 fun a30 hc30 => ?_
  refine ld hT 0 rfl (.inl rfl) hc30 ?_
  refine cmpS hT 0 rfl fun b32 h32 => ?_
  refine fin hT 1 rfl (th (ifP h32 rfl (fun e4 => ?_) (fun e4 => ?_)))
  ·have e2 : sltSay bs i = (0, []) := by unfold sltSay; rw [hg8, if_pos (by omega)]
   rw [e2]
   refine sq (rg ?_)
   refine fin hT 2 rfl (th (rt (rT ?_)))
   exact ret2 rfl rfl rfl ⟨rfl, le, none, 0, rfl, IsS.nil _ _ _ _⟩
  ·obtain ⟨q, hq⟩ : ∃ q, q = bs.take 8 := ⟨_, rfl⟩
   have hql : q.length = 8 := by rw [hq, List.length_take]; omega
   obtain ⟨vv, hvv⟩ : ∃ vv, vv = (bs.drop 9).take c8.toNat := ⟨_, rfl⟩
   have hvl : vv.length = c8.toNat := by rw [hvv, List.length_take, List.length_drop]; omega
   have hq64 : un4 q < 18446744073709551616 := by have := un4_lt q 8 (by omega); omega
   have e2 : sltSay bs i = if un4 q % 2 = i /\ bs = sect (un4 q) vv then (un4 q, vv) else (0, []) := by unfold sltSay; rw [hg8, if_neg (by omega), <- hq, <- hvv]
   rw [e2]
   refine sk (th (sq (rg ?_)))
   refine fin hT 1 rfl (th (sq (sq (rg ?_))))
   refine fin hT 1 rfl (th (bk ?_))
   refine loop (σ := Nat) (fun j => [(0, .pointer (some ⟨sb, 0, none⟩)), (1, .int .i64 ((i : Nat) : Int)), (6, .slice ao bs.length cap), (8, .int .u64 ((un4 (q.drop j) : Nat) : Int)), (9, .int .i64 (((j : Nat) : Int) - 1))]) (fun _ => K22) (fun _ => S :: h' :: hs) (fun j => j <= 8) (fun j => j) 8 (Nat.le_refl _)
    ⟨rfl, rfl, rfl, by rw [List.drop_of_length_le (by omega)]; rfl, rfl, trivial⟩ rfl rfl ?_
   intro j hj
   refine sq (sq (rg ?_))
   refine cmpS hT 1 rfl fun b35 h35 => ?_
   refine fin hT 0 rfl (th (ifP h35 rfl (fun e6 => ?_) (fun e6 => ?_)))
   ·obtain ⟨k, rfl⟩ : ∃ k, j = k + 1 := ⟨j - 1, by omega⟩
    have hk : k < q.length := by omega
    have hlt : un4 (q.drop (k + 1)) < 256 ^ 7 := un4_lt _ 7 (by rw [List.length_drop]; omega)
    have hd := un4_drop q k hk
    obtain ⟨ck, hck⟩ : ∃ ck, ck = q[k] := ⟨_, rfl⟩
    have hbk : bs[k]? = some ck := by
     have h1 : q[k]? = bs[k]? := by rw [hq, List.getElem?_take_of_lt (by omega)]
     rw [<- h1, List.getElem?_eq_getElem hk, hck]
    have hxk : (bv bs)[k]? = some (.int .u8 ((ck.toNat : Nat) : Int)) := by simp [bv, hbk]
    rw [<- hck] at hd
    refine sk (th (sq (bk (rg ?_))))
    refine ar hT 1 rfl (u64shlB (un4 (q.drop (k + 1))) (by omega)) ?_
    refine ix1 hT 2 k rfl (show ((k + 1 : Nat) : Int) - 1 = ((k : Nat) : Int) by omega) rfl x hxk fun a42 hc42 => ?_
    refine ld hT 0 rfl (.inl rfl) hc42 ?_
    have hcl := ck.toNat_lt
    refine ar hT 0 rfl (u64w (by omega)) ?_
    refine ar hT 0 rfl (u64orB (un4 (q.drop (k + 1))) ck (by omega)) ?_
    refine fin hT 1 rfl (bl (th (rg ?_)))
    refine ar hT 1 rfl (v' := .int .i64 (((k : Nat) : Int) - 1)) (by rw [show ((k + 1 : Nat) : Int) - 1 - 1 = ((k : Nat) : Int) - 1 from by omega]; exact i64w (by omega)) ?_
    refine fin hT 1 rfl ?_
    exact again (x := k + 1) k ⟨rfl, rfl, rfl, by rw [hd]; rfl, rfl, trivial⟩ rfl rfl (by omega) (by omega)
   ·obtain rfl : j = 0 := by omega
    rw [List.drop_zero]
    refine ex (xt (xt (xb (th (sq (rg ?_))))))
    refine ix1 hT 2 8 rfl rfl rfl x hx8 fun a48 hc48 => ?_
    refine ld hT 0 rfl (.inl rfl) hc48 ?_
    refine ar hT 0 rfl (u8w (x := ((9 + c8.toNat : Nat) : Int)) (by omega)) ?_
    refine sl hT 0 9 vv.length rfl x rfl (by show ((9 + c8.toNat : Nat) : Int) = _; rw [hvl]) (by omega) (by
     show ((bv bs).drop (9 * 1)).take (vv.length * 1) = bv vv
     rw [hvl, hvv]
     simp [bv]) fun ao51 c51 x51 => ?_
    refine fin hT 1 rfl (th (sq (rg ?_)))
    refine cl hT 2 rfl (sectorC (un4 q) vv ao51 c51 (by omega) (.inl rfl) x51) ?_
    rintro v54 K54 hs54 ⟨rfl, rfl, rfl⟩
    have hsl : (sect (un4 q) vv).length = 64 := sect_length (by omega)
    have hss : (bv (sect (un4 q) vv)).toArray.size = 64 := by simp [bv, hsl]
    refine al hT 0 (.agg (bv (List.replicate 64 0)).toArray) rfl (by kernel_rfl) fun b11 => ?_
    refine stS hT 0 0 rfl rfl (by rw [hss]; kernel_rfl) (by rw [hss]; rfl) (by simp only [Array.all_toList, List.all_eq_true]; first | exact bv_one _ | (simp; intro u hu; exact bv_one _ u hu)) ?_
    refine fin hT 0 rfl (th (sq (sq (rg ?_))))
    refine ar hT 1 rfl (u_rem .u64 (un4 q) 2) ?_
    refine ar hT 1 rfl (u64w (x := ((i : Nat) : Int)) (by omega)) ?_
    refine cmpS hT 0 rfl fun b59 h59 => ?_
    refine' bjo hT 1 5 65 [59, 60] h59 rfl rfl rfl rfl rfl rfl rfl (fun _ => ?x8) (fun b65 h65 => ?_)
    case x8 =>
     refine sla hT 1 (sz := 1) 0 64 rfl rfl Tryz.underlying176 (by kernel_rfl) rfl rfl (Nat.le_refl _) (by decide) ?_
     simp only [add_mk, Nat.zero_mul, Nat.add_zero, Nat.sub_zero]
     have xR : IsS (pt b11 (bv (sect (un4 q) vv)).toArray 176) (some ⟨b11, 0, none⟩) (sect (un4 q) vv).length 64 1 (bv (sect (un4 q) vv)) := by
      have := bA_isS (g := b11) (ty := 176) (A := []) (B := sect (un4 q) vv) (C := []) (off := 0) (n := (sect (un4 q) vv).length) (cap := 64) rfl rfl (by omega)
      simpa using this
     have heq := equalC (w0 := w0) (K := K54) (hs := pt b11 (bv (sect (un4 q) vv)).toArray 176 :: S :: h' :: hs) ao (some ⟨b11, 0, none⟩) cap 64 bs (sect (un4 q) vv) (.inl rfl) (.inr ⟨0, rfl⟩) x xR (by omega)
     rw [hsl] at heq
     refine cl hT 0 rfl heq ?_
     rintro v63 K63 hs63 ⟨rfl, rfl, t63, rfl, h63⟩
     refine nmS fun b63 h63' => ?_
     refine cbS hT 0 _ rfl (bnot (h63'.trans h63)) fun b64 h64 => ?_
     exact fin hT 1 rfl (bjx h64 rfl rfl rfl)
    refine fin hT 0 rfl (th (ifP h65 rfl (fun e9 => ?_) (fun e9 => ?_)))
    ·rw [if_neg (by intro g; rcases e9 with g1 | g1; exact g1 (by have := g.1; omega); exact g1 g.2)]
     refine sq (rg ?_)
     refine fin hT 2 rfl (th (rt (rT (WQ.drop ?_))))
     exact ret2 rfl rfl rfl ⟨rfl, le, none, 0, rfl, IsS.nil _ _ _ _⟩
    ·rw [if_pos ⟨by rcases Decidable.em (un4 q % 2 = i) with g | g; exact g; exact absurd (.inl (by omega)) e9, by rcases Decidable.em (bs = sect (un4 q) vv) with g | g; exact g; exact absurd (.inr g) e9⟩]
     refine sk (th (sq (rg ?_)))
     refine fin hT 4 rfl (th (rt (WQ.drop ?_)))
     exact ret2 rfl rfl rfl ⟨rfl, le, ao51, c51, rfl, x51⟩
end Go.Proofs.YtcncpbolcigpnaaGreat
end
section
namespace Go.En
def sltUp (D : Dk) (area : Nat) : Nat -> Slt
 | 0 => ⟨0, []⟩
 | i + 1 => (sltUp D area i).pick (sltRd D area i)
theorem sltSay_bd (b : List UInt8) (i : Nat) (hb : b.length = 64) : (sltSay b i).1 < 18446744073709551616 /\ (sltSay b i).2.length <= 48 := by
 unfold sltSay
 split
 ·simp
 ·rename_i h
  split
  ·have h1 := un4_lt (b.take 8) 8 (by rw [List.length_take]; omega)
   refine ⟨by dsimp only; omega, ?_⟩
   dsimp only
   rw [List.length_take]
   omega
  ·simp
theorem sltRd_bd {c : Nat} {D : Dk} (o : D.Ok c) (area i : Nat) : (sltRd D area i).1 < 18446744073709551616 /\ (sltRd D area i).2.length <= 48 := by
 unfold sltRd
 cases hr : D.read area i with
 | none => simp
 | some b =>
  refine sltSay_bd b i ?_
  unfold Dk.read at hr
  cases hs : D.sec area i with
  | none => rw [hs] at hr; cases hr
  | some s =>
   rw [hs] at hr
   simp only [Option.map_some, Option.some.injEq] at hr
   obtain ⟨h1, _, h3⟩ := o.secOk hs
   rw [<- hr, List.getLastD_eq_getLast?, List.getLast?_eq_some_getLast h1]
   exact h3 _ (List.getLast_mem h1)
def Slt.bd (S : Slt) : Prop := S.num < 18446744073709551616 /\ S.val.length <= 48
theorem sltUp_bd {c : Nat} {D : Dk} (o : D.Ok c) (area : Nat) : ∀ i, (sltUp D area i).bd
 | 0 => by simp [sltUp, Slt.bd]
 | i + 1 => by
  have h := sltUp_bd o area i
  unfold sltUp Slt.pick
  split
  ·exact sltRd_bd o area i
  ·exact h
theorem Slt.save_bd {S : Slt} (h : S.bd) (area : Nat) (D : Dk) (v : List UInt8) : (S.save area D v).1.bd := by
 unfold Slt.save
 split
 ·exact h
 ·rename_i hn
  obtain ⟨h1, h2⟩ := h
  split
  ·dsimp only
   split
   ·exact ⟨by dsimp only; omega, by dsimp only; omega⟩
   ·exact ⟨h1, h2⟩
  ·exact ⟨h1, h2⟩
def sltA (b area : Nat) (S : Slt) (ao : Option Addr) (cap : Nat) : Array Value := #[.pointer (some ⟨b, 0, none⟩), .int .u64 ((area : Nat) : Int), .slice ao S.val.length cap, .int .u64 ((S.num : Nat) : Int)]
theorem DOk.save {c : Nat} {D : Dk} (o : DOk c D) (S : Slt) (area : Nat) (ha : area <= 18446744073709551615) (v : List UInt8) : DOk (c + 2) (S.save area D v).2.1 := by
 unfold Slt.save
 split
 ·exact o.up (by omega)
 ·split
  ·exact (o.write _ _ _ (by omega)).sync _
  ·exact (o.write _ _ _ (by omega)).up (by omega)
end Go.En
namespace Go.Proofs.YtcncpbolcigpnaaGreat
open Go.En
attribute [local irreducible] Code.wp wpList Calls
def SltH (K : PH) (sb b area : Nat) (S : Slt) (h : PH) : Prop := ∃ ao cap, h = pt sb (sltA b area S ao cap) 122 /\ IsS K ao S.val.length cap 1 (bv S.val)
theorem SltH.le {K K' : PH} (l : Le K K') {sb b area : Nat} {S : Slt} {h : PH} (x : SltH K sb b area S h) : SltH K' sb b area S h := let ⟨a, c, h1, h2⟩ := x; ⟨a, c, h1, h2.le l⟩
theorem openSC {w0 : World} {K h : PH} {hs : List PH} (b : Nat) (D : Dk) (c : Nat) (o : D.Ok c) (hc : c <= 1099511627) (hm : DskH K b D h) (area : Nat) :
  Ct Tryz.prog w0 34 [.pointer (some ⟨b, 0, none⟩), .int .u64 ((area : Nat) : Int)] K (h :: hs)
   (fun v K' hs' => (D.dead = true /\ K' = K /\ hs' = h :: hs /\ v = .tuple #[.pointer none, .int .i64 30]) \/
    (D.dead = false /\ Le K K' /\ ∃ sb s, hs' = s :: h :: hs /\ SltH K' sb b area (sltOpen D area) s /\ v = .tuple #[.pointer (some ⟨sb, 0, none⟩), .int .i64 0])) := by
 refine enter Tryz.func34 (by kernel_rfl) rfl rfl rfl ?_
 refine sq (rg ?_)
 refine fin hT 2 rfl (th (sq (sq (rg ?_))))
 refine cl hT 1 rfl (deadH b D hm) ?_
 rintro v11 K11 hs11 ⟨rfl, rfl, rfl⟩
 refine fin hT 0 rfl (th (ifB rfl (fun e1 => ?_) (fun e1 => ?_)))
 ·refine sq (rg ?_)
  refine fin hT 2 rfl (th (rt (rT ?_)))
  exact ret2 rfl rfl rfl (.inl ⟨e1, rfl, rfl, rfl⟩)
 ·refine sk (th (sq (rg ?_)))
  refine bd hT 2 (.agg (sltA b area ⟨0, []⟩ none 0)) rfl (fun w => by kernel_rfl) ?_
  refine bx hT 0 rfl fun b15 => ?_
  refine fin hT 1 rfl (th (sq (sq (rg ?_))))
  refine fin hT 1 rfl (th (bk ?_))
  refine loop (σ := Nat × PH × Option Addr × Nat) (fun s => [(6, .pointer (some ⟨b15, 0, none⟩)), (16, .int .i64 ((s.1 : Nat) : Int))]) (fun s => s.2.1) (fun s => pt b15 (sltA b area (sltUp D area s.1) s.2.2.1 s.2.2.2) 122 :: h :: hs)
   (fun s => s.1 <= 2 /\ Le K11 s.2.1 /\ IsS s.2.1 s.2.2.1 (sltUp D area s.1).val.length s.2.2.2 1 (bv (sltUp D area s.1).val)) (fun s => 2 - s.1) (0, K11, none, 0) ⟨by dsimp only; omega, Le.refl _, IsS.nil _ _ _ _⟩ ⟨rfl, rfl, trivial⟩ rfl rfl ?_
  rintro ⟨i, K1, ao, cap⟩ ⟨hi, le, x⟩
  dsimp only at *
  have hbd := sltUp_bd o area i
  refine sq (rg ?_)
  refine cmpS hT 0 rfl fun b17 h17 => ?_
  refine fin hT 0 rfl (th (sq (ifP h17 rfl (fun e3 => ?_) (fun e3 => ?_))))
  ·refine sk (th (sq (bk (sq (rg ?_)))))
   refine fin hT 2 rfl (th (sq (rg ?_)))
   refine cl hT 2 rfl (readSC b15 b D c o hc (hm.le le) area _ _ i (by omega)) ?_
   rintro v22 K22 hs22 ⟨rfl, le2, ao2, cap2, rfl, x2⟩
   refine fin hT 5 rfl (th (sq (rg ?_)))
   refine ldp hT 4 0 rfl rfl rfl ?_
   refine cmpS hT 0 rfl fun b30 h30 => ?_
   refine fin hT 0 rfl (th (ifP h30 rfl (fun e5 => ?_) (fun e5 => ?_)))
   ·have e : sltUp D area (i + 1) = ⟨(sltRd D area i).1, (sltRd D area i).2⟩ := by rw [sltUp, Slt.pick, if_pos (by omega)]
    refine rg ?_
    refine stp hT 6 0 rfl rfl rfl rfl ?_
    refine stp hT 2 0 rfl rfl rfl rfl ?_
    refine fin hT 0 rfl (bl (th (rg ?_)))
    refine ar hT 0 rfl (i64w (x := ((i + 1 : Nat) : Int)) (by omega)) ?_
    refine fin hT 1 rfl ?_
    exact again (x := (i, K1, ao, cap)) (i + 1, K22, ao2, cap2) ⟨rfl, rfl, trivial⟩ rfl (by dsimp only; rw [e]; rfl) ⟨by dsimp only; omega, le.trans le2, by dsimp only; rw [e]; exact x2⟩ (by dsimp only; omega)
   ·have e : sltUp D area (i + 1) = sltUp D area i := by rw [sltUp, Slt.pick, if_neg (by omega)]
    refine sk (bl (th (rg ?_)))
    refine ar hT 0 rfl (i64w (x := ((i + 1 : Nat) : Int)) (by omega)) ?_
    refine fin hT 1 rfl ?_
    exact again (x := (i, K1, ao, cap)) (i + 1, K22, ao, cap) ⟨rfl, rfl, trivial⟩ rfl (by dsimp only; rw [e]; rfl) ⟨by dsimp only; omega, le.trans le2, by dsimp only; rw [e]; exact x.le le2⟩ (by dsimp only; omega)
  ·obtain rfl : i = 2 := by omega
   refine ex (xt (xt (xb (th (sq (rg ?_))))))
   refine fin hT 3 rfl (th (rt ?_))
   exact ret2 rfl rfl rfl (.inr ⟨e1, le, b15, _, rfl, ⟨ao, cap, rfl, x⟩, rfl⟩)
theorem valueSC {w0 : World} {K s : PH} {hs : List PH} (sb b area : Nat) (S : Slt) (hS : SltH K sb b area S s) (hb : S.bd) :
  Ct Tryz.prog w0 67 [.pointer (some ⟨sb, 0, none⟩)] K (s :: hs)
   (fun v K' hs' => ∃ h', hs' = h' :: hs /\ h' = s /\ Le K K' /\ ∃ ao c, v = .slice ao S.val.length c /\ IsS K' ao S.val.length c 1 (bv S.val)) := by
 obtain ⟨ao, cap, rfl, x⟩ := hS
 refine enter Tryz.func67 (by kernel_rfl) rfl rfl rfl ?_
 refine sq (rg ?_)
 refine fin hT 1 rfl (th (sq (rg ?_)))
 refine ldp hT 3 0 rfl rfl rfl ?_
 refine cl hT 0 rfl (cloneB ao cap S.val (.inl rfl) x (by have := hb.2; omega)) ?_
 rintro v7 K7 hs7 ⟨rfl, h', ao', c', rfl, rfl, o⟩
 refine fin hT 1 rfl (th (rt (WQ.frz fun K' l1 l2 => ?_)))
 exact ret1 rfl rfl ⟨_, rfl, rfl, l1, ao', c', rfl, o.isS.le l2⟩
theorem numberSC {w0 : World} {K s : PH} {hs : List PH} (sb b area : Nat) (S : Slt) (hS : SltH K sb b area S s) :
  Ct Tryz.prog w0 66 [.pointer (some ⟨sb, 0, none⟩)] K (s :: hs)
   (fun v K' hs' => K' = K /\ hs' = s :: hs /\ v = .int .u64 ((S.num : Nat) : Int)) := by
 obtain ⟨ao, cap, rfl, x⟩ := hS
 refine enter Tryz.func66 (by kernel_rfl) rfl rfl rfl ?_
 refine sq (rg ?_)
 refine fin hT 1 rfl (th (sq (rg ?_)))
 refine ldp hT 3 0 rfl rfl rfl ?_
 refine fin hT 1 rfl (th (rt ?_))
 exact ret1 rfl rfl ⟨rfl, rfl, rfl⟩
theorem saveSC {w0 : World} {K s h hv : PH} {hs : List PH} (sb b area : Nat) (S : Slt) (hS : SltH K sb b area S s) (hbd : S.bd) (D : Dk) (c : Nat) (o : D.Ok c) (hc : c <= 1099511626) (hm : DskH K b D h) (ha : area <= 18446744073709551615)
  (v : List UInt8) (ao : Option Addr) (cap : Nat) (hl : v.length < 1099511627776) (hin : In K hs hv) (x : IsS hv ao v.length cap 1 (bv v)) :
  Ct Tryz.prog w0 125 [.pointer (some ⟨sb, 0, none⟩), .slice ao v.length cap] K (s :: h :: hs)
   (fun u K' hs' => Le K K' /\ ∃ s' h', hs' = s' :: h' :: hs /\ SltH K' sb b area (S.save area D v).1 s' /\ DskH K' b (S.save area D v).2.1 h' /\ u = .int .i64 (S.save area D v).2.2) := by
 obtain ⟨aS, cS, rfl, xS⟩ := hS
 obtain ⟨hb1, hb2⟩ := hbd
 refine enter Tryz.func125 (by kernel_rfl) rfl rfl rfl ?_
 refine sq (rg ?_)
 refine fin hT 1 rfl (th (sq (sq (rg ?_))))
 refine cmpS hT 2 rfl fun b9 h9 => ?_
 refine' bjo hT 1 6 16 [9, 10] h9 rfl rfl rfl rfl rfl rfl rfl (fun _ => ?x2) (fun b16 h16 => ?_)
 case x2 =>
  refine ldp hT 3 0 rfl rfl rfl ?_
  refine cmpS hT 0 rfl fun b15 h15 => ?_
  exact fin hT 1 rfl (bjx h15 rfl rfl rfl)
 refine fin hT 0 rfl (th (ifP h16 rfl (fun e4 => ?_) (fun e4 => ?_)))
 ·have e : S.save area D v = (S, D, 40) := by unfold Slt.save; rw [if_pos (by omega)]
  rw [e]
  refine sq (rg ?_)
  refine fin hT 1 rfl (th (rt (rT ?_)))
  exact ret1 rfl rfl ⟨Le.refl _, _, _, rfl, ⟨aS, cS, rfl, xS⟩, hm, rfl⟩
 ·have hvl : v.length <= 48 := by omega
  have e : S.save area D v = if (D.write area (((S.num + 1) % 2 : Nat) : Int) (sect (S.num + 1) v)).2 = 0 then
    (if ((D.write area (((S.num + 1) % 2 : Nat) : Int) (sect (S.num + 1) v)).1.sync area).2 = 0 then ⟨S.num + 1, v⟩ else S, ((D.write area (((S.num + 1) % 2 : Nat) : Int) (sect (S.num + 1) v)).1.sync area).1, ((D.write area (((S.num + 1) % 2 : Nat) : Int) (sect (S.num + 1) v)).1.sync area).2)
   else (S, (D.write area (((S.num + 1) % 2 : Nat) : Int) (sect (S.num + 1) v)).1, (D.write area (((S.num + 1) % 2 : Nat) : Int) (sect (S.num + 1) v)).2) := by unfold Slt.save; rw [if_neg (by omega)]
  rw [e]
  refine sk (th (sq (rg ?_)))
  refine ldp hT 3 0 rfl rfl rfl ?_
  refine ar hT 0 rfl (u64w (x := ((S.num + 1 : Nat) : Int)) (by omega)) ?_
  refine cl hT 1 rfl (sectorC (S.num + 1) v ao cap hvl (In.cons (In.cons hin)) x) ?_
  rintro v23 K23 hs23 ⟨rfl, rfl, rfl⟩
  have hsl : (sect (S.num + 1) v).length = 64 := sect_length hvl
  have hss : (bv (sect (S.num + 1) v)).toArray.size = 64 := by simp [bv, hsl]
  refine al hT 0 (.agg (bv (List.replicate 64 0)).toArray) rfl (by kernel_rfl) fun b5 => ?_
  refine stS hT 0 0 rfl rfl (by rw [hss]; kernel_rfl) (by rw [hss]; rfl) (by simp only [Array.all_toList, List.all_eq_true]; first | exact bv_one _ | (simp; intro u hu; exact bv_one _ u hu)) ?_
  have xR : IsS (pt b5 (bv (sect (S.num + 1) v)).toArray 176) (some ⟨b5, 0, none⟩) (sect (S.num + 1) v).length 64 1 (bv (sect (S.num + 1) v)) := by
   have := bA_isS (g := b5) (ty := 176) (A := []) (B := sect (S.num + 1) v) (C := []) (off := 0) (n := (sect (S.num + 1) v).length) (cap := 64) rfl rfl (by omega)
   simpa using this
  refine fin hT 0 rfl (th (sq (rga [pt sb (sltA b area S aS cS) 122] 18 [0, 2, 4, 6, 8, 10, 12, 14, 16, 18, 20, 22, 24, 26, 28, 30, 33, 34] (by simp) (by kernel_rfl) (by kernel_rfl) ?_)))
  refine dldp hT (by kernel_rfl) 3 0 rfl rfl rfl ?_
  refine dldp hT (by kernel_rfl) 3 0 rfl rfl rfl ?_
  refine dldp hT (by kernel_rfl) 3 0 rfl rfl rfl ?_
  refine dar hT (by kernel_rfl) 0 rfl (u64w (x := ((S.num + 1 : Nat) : Int)) (by omega)) ?_
  refine dar hT (by kernel_rfl) 0 rfl (u_rem .u64 (S.num + 1) 2) ?_
  refine dar hT (by kernel_rfl) 0 rfl (i64w (x := (((S.num + 1) % 2 : Nat) : Int)) (by omega)) ?_
  refine dsla hT (by kernel_rfl) 0 (sz := 1) 0 64 rfl rfl Tryz.underlying176 (by kernel_rfl) rfl rfl (Nat.le_refl _) (by decide) ?_
  simp only [add_mk, Nat.zero_mul, Nat.add_zero, Nat.sub_zero]
  refine dact hT (by kernel_rfl) 0 rfl ?_
  have hw := writeH (w0 := w0) (K := K23) (h := h) (hs := [pt b5 (bv (sect (S.num + 1) v)).toArray 176, pt sb (sltA b area S aS cS) 122] ++ hs) b D c o (by omega) hm area (((S.num + 1) % 2 : Nat) : Int) (by omega) (some ⟨b5, 0, none⟩) 64 (sect (S.num + 1) v) (.inr ⟨0, rfl⟩) xR
  rw [hsl] at hw
  obtain ⟨W, hW⟩ : ∃ W, W = D.write area (((S.num + 1) % 2 : Nat) : Int) (sect (S.num + 1) v) := ⟨_, rfl⟩
  have oW : W.1.Ok (c + 1) := by rw [hW]; exact o.write _ _ _
  rw [<- hW] at hw ⊢
  refine cl hT 0 rfl (Ct.at 2 rfl hw) ?_
  rintro v40 K40 hs40 ⟨h', rfl, le, hm', rfl⟩
  refine dnexL [pt sb (sltA b area S aS cS) 122] (by simp) (by simp) le ?_
  refine dend hT (by kernel_rfl) 1 rfl (th (sq (sq (rg ?_))))
  refine cmpS hT 1 rfl fun b42 h42 => ?_
  refine fin hT 0 rfl (th (ifP h42 rfl (fun e6 => ?_) (fun e6 => ?_)))
  ·rw [if_pos e6]
   refine rga [pt sb (sltA b area S aS cS) 122] 10 [0, 2, 4, 6, 8, 10, 12, 14, 17, 18] (by simp) (by kernel_rfl) (by kernel_rfl) ?_
   refine dldp hT (by kernel_rfl) 3 0 rfl rfl rfl ?_
   refine dldp hT (by kernel_rfl) 3 0 rfl rfl rfl ?_
   refine dact hT (by kernel_rfl) 0 rfl ?_
   refine cl hT 0 rfl (Ct.at 2 rfl (syncH b W.1 (c + 1) oW (by omega) hm' area)) ?_
   rintro v51 K51 hs51 ⟨h2, rfl, rfl, hm2, rfl⟩
   refine dnex [pt sb (sltA b area S aS cS) 122] (by simp) (by simp) rfl ?_
   refine dend hT (by kernel_rfl) 1 rfl (th (sq (sq (rg ?_))))
   refine cmpS hT 1 rfl fun b53 h53 => ?_
   refine fin hT 0 rfl (th (ifP h53 rfl (fun e8 => ?_) (fun e8 => ?_)))
   ·rw [if_pos e8]
    refine sq (rg ?_)
    refine ldp hT 3 1 rfl rfl rfl ?_
    refine ar hT 0 rfl (u64w (x := ((S.num + 1 : Nat) : Int)) (by omega)) ?_
    refine stp hT 2 1 rfl rfl rfl rfl ?_
    refine fin hT 0 rfl (th (rg ?_))
    obtain ⟨hv', hin', lev⟩ := hin.le le
    refine cl hT 2 rfl (cloneB ao cap v (In.cons (In.cons (In.cons hin'))) (x.le lev) (by omega)) ?_
    rintro v63 K63 hs63 ⟨rfl, g, ao', c', rfl, rfl, og⟩
    refine stp hT 2 2 rfl rfl rfl rfl ?_
    refine fin hT 0 rfl (th (sq (rg ?_)))
    refine fin hT 2 rfl (th (rt (WQ.frz fun K' l1 l2 => WQ.drop ?_)))
    exact ret1 rfl rfl ⟨le.trans l1, _, _, rfl, ⟨ao', c', rfl, og.isS.le l2⟩, hm2.le l1, by rw [e8]⟩
   ·rw [if_neg e8]
    refine sk (th (sq (rg ?_)))
    refine fin hT 2 rfl (th (rt (WQ.drop ?_)))
    exact ret1 rfl rfl ⟨le, _, _, rfl, ⟨aS, cS, rfl, xS.le le⟩, hm2, rfl⟩
  ·rw [if_neg e6]
   refine sk (th (sq (sq (rg ?_))))
   refine cmpS hT 1 rfl fun b53 h53 => ?_
   refine fin hT 0 rfl (th (ifPF h53 e6 rfl ?_))
   refine sk (th (sq (rg ?_)))
   refine fin hT 2 rfl (th (rt (WQ.drop ?_)))
   exact ret1 rfl rfl ⟨le, _, _, rfl, ⟨aS, cS, rfl, xS.le le⟩, hm', rfl⟩
end Go.Proofs.YtcncpbolcigpnaaGreat
end
section
namespace Go.En
theorem Ct.bun2 {P : Program} {w0 : World} {f : FuncId} {args : List Value} {K : PH} {m hs : List PH} {R R' : Value -> PH -> List PH -> Prop} (d : Djs m) (c : Ct P w0 f args K (m ++ hs) R)
  (h : ∀ v K' hs', R v K' hs' -> ∃ m' t', hs' = m' ++ t' /\ (Djs m' -> R' v K' (uns m' :: t'))) : Ct P w0 f args K (uns m :: hs) R' :=
 ⟨c.1, fun w hw => (c.2 w (hw.split d)).mono fun e w' he => by
  obtain ⟨v, K', hs', rfl, hR, hS⟩ := he
  obtain ⟨m', t', rfl, h2⟩ := h v K' hs' hR
  obtain ⟨d', hS'⟩ := Sat.join m' hS
  exact ⟨v, K', _, rfl, h2 d', hS'⟩⟩
def recR (K : PH) (c : List Value) (r : List UInt8) : Prop := ∃ ao k, c = [.slice ao r.length k] /\ IsS K ao r.length k 1 (bv r)
theorem recR.le {K K' : PH} (l : Le K K') {c : List Value} {r : List UInt8} (h : recR K c r) : recR K' c r := let ⟨a, k, h1, h2⟩ := h; ⟨a, k, h1, h2.le l⟩
def segR (c : List Value) (s : Nat × Nat) : Prop := c = [.int .u64 ((s.1 : Nat) : Int), .int .u64 ((s.2 : Nat) : Int)]
def wlA (db : Nat) (ob : Option Nat) (first : Nat) (lv ov : Value) (next : Nat) (code : Int) : Array Value :=
 #[.pointer (ob.map fun b => ⟨b, 0, none⟩), .pointer (some ⟨db, 0, none⟩), .int .u64 ((first : Nat) : Int), lv, ov, .int .u64 ((next : Nat) : Int), .int .i64 code]
def wopA (o : WOp) (aR : Option Addr) (cR : Nat) : Array Value := #[.int .u64 ((o.num : Nat) : Int), .int .u64 ((o.idx : Nat) : Int), .int .i64 ((o.full : Nat) : Int), .slice aR o.rest.length cR]
theorem ownz_of {h : PH} {ao : Option Addr} {n n' cap e size : Nat} {xs ys : List Value} (o : OwnZ h ao n cap e size xs) (h1 : n = n') (h2 : xs = ys) : OwnZ h ao n' cap e size ys := by subst h1; subst h2; exact o
theorem wrL_step (f : Nat) (o : WOp) (D : Dk) : wrL (f + 1) o D =
  if (D.write (segA o.num) o.full (UInt8.ofNat (min o.rest.length 63) :: o.rest.take (min o.rest.length 63))).2 ≠ 0 \/ o.rest.length < 63 then
   (o, (D.write (segA o.num) o.full (UInt8.ofNat (min o.rest.length 63) :: o.rest.take (min o.rest.length 63))).1, (D.write (segA o.num) o.full (UInt8.ofNat (min o.rest.length 63) :: o.rest.take (min o.rest.length 63))).2)
  else if o.rest.length = 63 then ({ o with full := o.full + 1, rest := [] }, (D.write (segA o.num) o.full (UInt8.ofNat (min o.rest.length 63) :: o.rest.take (min o.rest.length 63))).1, 0)
  else wrL f { o with full := o.full + 1, rest := o.rest.drop 63 } (D.write (segA o.num) o.full (UInt8.ofNat (min o.rest.length 63) :: o.rest.take (min o.rest.length 63))).1 := rfl
end Go.En
namespace Go.Proofs.YtcncpbolcigpnaaGreat
open Go.En
attribute [local irreducible] Code.wp wpList Calls
def OpH (ob : Option Nat) (op : Option WOp) (oH rH : PH) : Prop := match op with
 | none => ob = none /\ oH = em /\ rH = em
 | some o => ∃ b aR cR, ob = some b /\ oH = pt b (wopA o aR cR) 191 /\ OwnZ rH aR o.rest.length cR 5 1 (bv o.rest)
def WalM (K : PH) (wb db : Nat) (W : Wl) (m : List PH) : Prop :=
 ∃ ob aL cL aO cO oH rH gL gO, m = [pt wb (wlA db ob W.first (.slice aL W.recs.length cL) (.slice aO W.old.length cO) W.next W.code) 139, oH, rH, gL, gO] /\ OpH ob W.op oH rH /\
  SlZ 1 44 (recR K) gL aL W.recs.length cL W.recs /\ SlZ 2 144 segR gO aO W.old.length cO W.old
theorem WalM.le {K K' : PH} (l : Le K K') {wb db : Nat} {W : Wl} {m : List PH} (h : WalM K wb db W m) : WalM K' wb db W m := by
 obtain ⟨ob, aL, cL, aO, cO, oH, rH, gL, gO, h1, h2, h3, h4⟩ := h
 exact ⟨ob, aL, cL, aO, cO, oH, rH, gL, gO, h1, h2, h3.imp fun _ _ h => h.le l, h4⟩
theorem areaC {w0 : World} {K : PH} {hs : List PH} (n : Nat) (hn : n <= 2305843009213693952) : Ct Tryz.prog w0 108 [.int .u64 ((n : Nat) : Int)] K hs (fun v K' hs' => K' = K /\ hs' = hs /\ v = .int .u64 (segA n)) := by
 refine enter Tryz.func108 (by kernel_rfl) rfl rfl rfl ?_
 refine sq (rg ?_)
 refine fin hT 1 rfl (th (sq (rg ?_)))
 refine ar hT 1 rfl (u64w (x := ((4 * n : Nat) : Int)) (by omega)) ?_
 refine ar hT 0 rfl (u64w (x := ((4 * n + 1 : Nat) : Int)) (by omega)) ?_
 refine fin hT 1 rfl (th (rt ?_))
 exact ret1 rfl rfl ⟨rfl, rfl, rfl⟩
theorem didC {w0 : World} {K : PH} {hs : List PH} (wb db : Nat) (ob : Option Nat) (first : Nat) (lv ov : Value) (next : Nat) (code e : Int) :
  Ct Tryz.prog w0 117 [.pointer (some ⟨wb, 0, none⟩), .int .i64 e] K (pt wb (wlA db ob first lv ov next code) 139 :: hs)
   (fun v K' hs' => ∃ h', hs' = h' :: hs /\ K' = K /\ h' = pt wb (wlA db ob first lv ov next (if code = 0 then e else code)) 139 /\ v = .int .i64 (if code = 0 then e else code)) := by
 refine enter Tryz.func117 (by kernel_rfl) rfl rfl rfl ?_
 refine sq (rg ?_)
 refine fin hT 1 rfl (th (sq (sq (rg ?_))))
 refine ldp hT 3 0 rfl rfl rfl ?_
 refine cmpS hT 0 rfl fun b9 h9 => ?_
 refine fin hT 0 rfl (th (ifP h9 rfl (fun e2 => ?_) (fun e2 => ?_)))
 ·rw [if_pos e2]
  refine rg ?_
  refine stp hT 4 0 rfl rfl rfl rfl ?_
  refine fin hT 0 rfl (th (sq (rg ?_)))
  refine ldp hT 3 0 rfl rfl rfl ?_
  refine fin hT 1 rfl (th (rt ?_))
  exact ret1 rfl rfl ⟨_, rfl, rfl, rfl, rfl⟩
 ·rw [if_neg e2]
  refine sk (th (sq (rg ?_)))
  refine ldp hT 3 0 rfl rfl rfl ?_
  refine fin hT 1 rfl (th (rt ?_))
  exact ret1 rfl rfl ⟨_, rfl, rfl, rfl, rfl⟩
theorem writeWC {w0 : World} {K hv rH gL gO dh : PH} {hs : List PH} (wb db ob : Nat) (first : Nat) (lv ov : Value) (next : Nat) (o : WOp) (aR : Option Addr) (cR : Nat) (oR : OwnZ rH aR o.rest.length cR 5 1 (bv o.rest)) (hrl : o.rest.length <= 63)
  (D : Dk) (c : Nat) (oD : D.Ok c) (hc : c <= 1099510000) (hd : DskH K db D dh) (hnum : o.num <= 2305843009213693952) (hfull : o.full <= 1099511627776) (ab : Option Addr) (cb : Nat) (b : List UInt8) (hb : 0 < b.length /\ b.length <= 600) (hin : In K hs hv) (x : IsS hv ab b.length cb 1 (bv b)) :
  Ct Tryz.prog w0 116 [.pointer (some ⟨wb, 0, none⟩), .slice ab b.length cb] K (pt wb (wlA db (some ob) first lv ov next 0) 139 :: pt ob (wopA o aR cR) 191 :: rH :: gL :: gO :: dh :: hs)
   (fun v K' hs' => Le K K' /\ ∃ aR' cR' rH' dh', hs' = pt wb (wlA db (some ob) first lv ov next (wrO o b D).2.2) 139 :: pt ob (wopA (wrO o b D).1 aR' cR') 191 :: rH' :: gL :: gO :: dh' :: hs /\
    OwnZ rH' aR' (wrO o b D).1.rest.length cR' 5 1 (bv (wrO o b D).1.rest) /\ DskH K' db (wrO o b D).2.1 dh' /\ v = .int .i64 (wrO o b D).2.2) := by
 refine enter Tryz.func116 (by kernel_rfl) rfl rfl rfl ?_
 refine sq (rg ?_)
 refine fin hT 1 rfl (th (sq (rga [pt wb (wlA db (some ob) first lv ov next 0) 139, pt ob (wopA o aR cR) 191] 15 [0, 2, 4, 6, 8, 10, 12, 14, 16, 18, 20, 22, 25, 26, 28, 31] (by simp) (by kernel_rfl) (by kernel_rfl) ?_)))
 refine dldpw hT (by kernel_rfl) 3 0 rfl (by kernel_rfl) rfl rfl ?_
 refine dldpw hT (by kernel_rfl) 3 0 rfl (by kernel_rfl) rfl rfl ?_
 refine dldpw hT (by kernel_rfl) 2 1 rfl (by kernel_rfl) rfl rfl ?_
 refine dact hT (by kernel_rfl) 1 rfl ?_
 refine appq hT 0 2 rfl rfl oR (In.cons (In.cons (In.cons (In.cons (In.cons (In.cons hin)))))) x rfl (by decide) (bv_one b) hb.1 (by show (o.rest.length + b.length) * 1 <= _; omega) (by simp only [maxLen]; omega) fun ao19 c19 g19 o19 => ?_
 refine dnex [pt wb (wlA db (some ob) first lv ov next 0) 139, pt ob (wopA o aR cR) 191] (by simp) (by simp) rfl ?_
 refine dact hT (by kernel_rfl) 2 rfl ?_
 refine stp hT 0 1 rfl rfl rfl rfl ?_
 refine dnext (.inl (by kernel_rfl)) ?_
 refine dend hT (by kernel_rfl) 0 rfl (th (bk ?_))
 obtain ⟨F, hF⟩ : ∃ F, F = o.rest.length + b.length + 1 := ⟨_, rfl⟩
 refine loop (σ := (Nat × WOp × Dk) × (Option Addr × Nat × PH × PH) × PH) (fun _ => [(0, .pointer (some ⟨wb, 0, none⟩))]) (fun s => s.2.2) (fun s => pt wb (wlA db (some ob) first lv ov next 0) 139 :: pt ob (wopA s.1.2.1 s.2.1.1 s.2.1.2.1) 191 :: s.2.1.2.2.1 :: gL :: gO :: s.2.1.2.2.2 :: hs)
  (fun s => wrL s.1.1 s.1.2.1 s.1.2.2 = wrO o b D /\ s.1.2.1.rest.length < s.1.1 /\ s.1.1 <= F /\ s.1.2.2.Ok (c + (F - s.1.1)) /\ s.1.2.1.full + s.1.1 <= o.full + F /\ s.1.2.1.num = o.num /\ Le K s.2.2 /\ DskH s.2.2 db s.1.2.2 s.2.1.2.2.2 /\ OwnZ s.2.1.2.2.1 s.2.1.1 s.1.2.1.rest.length s.2.1.2.1 5 1 (bv s.1.2.1.rest)) (fun s => s.1.1)
  ((F, { o with rest := o.rest ++ b }, D), (ao19, c19, g19, dh), K) ⟨by dsimp only; unfold wrO; rw [hF], by dsimp only; simp; omega, Nat.le_refl _, by dsimp only; exact oD.up (by omega), by dsimp only; omega, rfl, Le.refl _, hd, .inl (by
   dsimp only
   have := o19
   rw [<- bv_append] at this
   simpa using this)⟩ ⟨rfl, trivial⟩ rfl (by simp [wopA]) ?_
 rintro ⟨⟨f, q, E⟩, ⟨aQ, cQ, rQ, eh⟩, K1⟩ ⟨hw, hlf, hfF, oE, hfu, hqn, le, hE, oQ⟩
 dsimp only at *
 obtain ⟨f, rfl⟩ : ∃ g, f = g + 1 := ⟨f - 1, by omega⟩
 rw [wrL_step] at hw
 have hcQ := oQ.caps
 obtain ⟨n, hn⟩ : ∃ n, n = min q.rest.length 63 := ⟨_, rfl⟩
 obtain ⟨s, hs1⟩ : ∃ s, s = UInt8.ofNat n :: q.rest.take n := ⟨_, rfl⟩
 have hsl : s.length = 1 + n := by rw [hs1]; simp; omega
 rw [<- hn, <- hs1] at hw
 refine bk (sq (rg ?_))
 refine ldp hT 3 0 rfl rfl rfl ?_
 refine ldp hT 2 1 rfl rfl rfl ?_
 refine ar hT 1 rfl (v' := .int .i64 ((n : Nat) : Int)) (by
  congr 1
  rw [hn]
  split <;> omega) ?_
 refine fin hT 1 rfl (th (sq (rg ?_)))
 refine ar hT 1 rfl (u8w (x := ((n : Nat) : Int)) (by omega)) ?_
 refine lit hT 0 #[.int .u8 ((n : Nat) : Int)] rfl (by decide) (by kernel_rfl) fun b33 => ?_
 refine ldp hT 3 1 rfl rfl rfl ?_
 refine ldp hT 2 2 rfl rfl rfl ?_
 refine sl hT 1 0 n rfl oQ.isS rfl (by show ((n : Nat) : Int) = ((0 + n : Nat) : Int); omega) (by omega) (ys := bv (q.rest.take n)) (by
  show ((bv q.rest).drop (0 * 1)).take (n * 1) = _
  simp [bv]) fun ao42 c42 x42 => ?_
 have o33 : Own (pt b33 #[Value.int .u8 ((n : Nat) : Int)] 5) (some ⟨b33, 0, none⟩) 1 1 5 1 (bv [UInt8.ofNat n]) := own_byte b33 n (by omega)
 refine app hT 0 0 rfl rfl o33 (.inr ⟨3, rfl⟩) x42 rfl (by decide) (bv_one _) (by show (1 + n) * 1 <= _; omega) (by simp only [maxLen]; omega) fun ao43 c43 g43 o43 => ?_
 have x43 : IsS g43 ao43 s.length c43 1 (bv s) := by
  rw [hsl, hs1]
  exact o43.isS
 obtain ⟨R, hR⟩ : ∃ R, R = E.write (segA q.num) q.full s := ⟨_, rfl⟩
 have oR' : R.1.Ok (c + (F - (f + 1)) + 1) := by rw [hR]; exact oE.write _ _ _
 rw [<- hR] at hw
 refine fin hT 1 rfl (th (sq (sq (rga [pt wb (wlA db (some ob) first lv ov next 0) 139, pt ob (wopA q aQ cQ) 191] 23 [0, 2, 4, 6, 8, 10, 12, 14, 16, 18, 20, 22, 24, 28, 30, 32, 34, 36, 38, 40, 42, 27, 45, 47, 48, 50, 52, 54, 56] (by simp) (by kernel_rfl) (by kernel_rfl) ?_))))
 refine dldtp [22] hT (by kernel_rfl) 4 0 rfl (by kernel_rfl) rfl rfl ?_
 refine dldtp [22, 13, 12, 11, 10, 9] hT (by kernel_rfl) 3 0 rfl (by kernel_rfl) rfl rfl ?_
 refine dldtp [22, 13] hT (by kernel_rfl) 3 1 rfl (by kernel_rfl) rfl rfl ?_
 refine dldtp [22, 20, 19, 18] hT (by kernel_rfl) 3 0 rfl (by kernel_rfl) rfl rfl ?_
 refine dldtp [22] hT (by kernel_rfl) 2 1 rfl (by kernel_rfl) rfl rfl ?_
 refine dact hT (by kernel_rfl) 1 rfl ?_
 refine cl hT 0 rfl (areaC q.num (by omega)) ?_
 rintro v57 K57 hs57 ⟨rfl, rfl, rfl⟩
 refine dnex [pt wb (wlA db (some ob) first lv ov next 0) 139, pt ob (wopA q aQ cQ) 191] (by simp) (by simp) rfl ?_
 refine dact hT (by kernel_rfl) 0 rfl ?_
 have hwr := writeH (w0 := w0) (K := K57) (h := eh) (hs := [g43, pt wb (wlA db (some ob) first lv ov next 0) 139, pt ob (wopA q aQ cQ) 191, rQ, gL, gO] ++ hs) db E (c + (F - (f + 1))) oE (by omega) hE (segA q.num) ((q.full : Nat) : Int) (by unfold segA; omega) ao43 c43 s (.inr ⟨0, rfl⟩) x43
 rw [hsl, <- hR] at hwr
 refine cl hT 0 rfl (Ct.at 6 rfl hwr) ?_
 rintro v66 K66 hs66 ⟨eh', rfl, le2, hE', rfl⟩
 refine dnexL [pt wb (wlA db (some ob) first lv ov next 0) 139, pt ob (wopA q aQ cQ) 191] (by simp) (by simp) le2 ?_
 refine dact hT (by kernel_rfl) 0 rfl ?_
 refine cl hT 0 rfl (Ct.at 1 rfl (didC wb db (some ob) first lv ov next 0 R.2)) ?_
 rintro v67 K67 hs67 ⟨_, rfl, rfl, rfl, rfl⟩
 rw [if_pos rfl]
 refine dnext (.inl (by kernel_rfl)) ?_
 refine dcmp hT (by kernel_rfl) 0 (R.2 ≠ 0) rfl (by simp) (fun h1 => ?_) (fun h1 => ?_)
 ·rw [if_pos (.inl h1)] at hw
  refine dend hT (by kernel_rfl) 4 rfl (th (ifT rfl (sq (rg ?_))))
  refine ldp hT 3 1 rfl rfl rfl ?_
  refine fin hT 1 rfl (th (rt (rT (rB (rT (rB (WQ.drop ?_)))))))
  rw [<- hw]
  exact ret1 rfl rfl ⟨le.trans le2, aQ, cQ, rQ, eh', rfl, oQ, hE', rfl⟩
 ·have h1 : R.2 = 0 := Decidable.not_not.1 h1
  refine dcbS hT (by kernel_rfl) 2 (((n : Nat) : Int) < 63) rfl (by simp) fun b71 h71 => ?_
  refine dend hT (by kernel_rfl) 1 rfl (th (ifP h71 rfl (fun e2 => ?_) (fun e2 => ?_)))
  ·rw [if_pos (.inr (by omega))] at hw
   refine sq (rg ?_)
   refine ldp hT 3 1 rfl rfl rfl ?_
   refine fin hT 1 rfl (th (rt (rT (rB (rT (rB (WQ.drop ?_)))))))
   rw [<- hw]
   exact ret1 rfl rfl ⟨le.trans le2, aQ, cQ, rQ, eh', rfl, oQ, hE', rfl⟩
  ·have hn63 : n = 63 := by omega
   rw [if_neg (by rintro (g | g); exact g h1; omega)] at hw
   rw [h1]
   refine sk (th (sq (rg ?_)))
   refine ldp hT 3 1 rfl rfl rfl ?_
   refine ldp hT 2 2 rfl rfl rfl ?_
   refine ar hT 0 rfl (i64w (x := ((q.full + 1 : Nat) : Int)) (by omega)) ?_
   refine stp hT 2 2 rfl rfl rfl rfl ?_
   refine fin hT 0 rfl (th (sq (rga [pt wb (wlA db (some ob) first lv ov next 0) 139, pt ob (wopA { q with full := q.full + 1 } aQ cQ) 191] 15 [0, 2, 4, 6, 8, 10, 12, 14, 16, 18, 20, 22, 24, 26, 28, 31] (by simp [wopA]) (by kernel_rfl) (by kernel_rfl) ?_)))
   refine dldpw hT (by kernel_rfl) 3 0 rfl (by kernel_rfl) rfl rfl ?_
   refine dldpw hT (by kernel_rfl) 3 0 rfl (by kernel_rfl) rfl rfl ?_
   refine dldpw hT (by kernel_rfl) 2 1 rfl (by kernel_rfl) rfl rfl ?_
   refine dslx hT (by kernel_rfl) 1 63 (q.rest.length - 63) rfl rfl (by show ((n : Nat) : Int) = _; omega) (by show ((q.rest.length : Nat) : Int) = _; omega) (by omega) ?_
   refine dact hT (by kernel_rfl) 2 rfl ?_
   refine stp hT 0 2 rfl rfl rfl rfl ?_
   refine dnext (.inl (by kernel_rfl)) ?_
   obtain ⟨rQ2, hrQ2, oQ2⟩ := oQ.cut 63 (q.rest.length - 63) (by omega) (ys := bv (q.rest.drop 63)) (by
    rw [Nat.mul_one, Nat.mul_one]
    unfold bv
    rw [<- List.map_drop, List.take_of_length_le (by simp)])
   refine dend hT (by kernel_rfl) 0 rfl (th (sq (WC.loss 3 rQ2 rfl hrQ2 (rg ?_))))
   refine ldp hT 3 1 rfl rfl rfl ?_
   refine ldp hT 2 2 rfl rfl rfl ?_
   refine cmpS hT 1 rfl fun b110 h110 => ?_
   refine fin hT 0 rfl (th (ifP h110 rfl (fun e4 => ?_) (fun e4 => ?_)))
   ·rw [if_pos (by omega)] at hw
    refine sq (rg ?_)
    refine ldp hT 3 1 rfl rfl rfl ?_
    refine fin hT 1 rfl (th (rt (rB (rT (rB (WQ.drop ?_))))))
    rw [<- hw]
    refine ret1 rfl rfl ⟨le.trans le2, cutA aQ cQ 63 1, cQ - 63, rQ2, eh', ?_, ownz_of oQ2 (show q.rest.length - 63 = 0 by omega) (by rw [List.drop_of_length_le (by omega)]), hE', rfl⟩
    show [_, _, _, _, _, _] ++ hs = [_, _, _, _, _, _] ++ hs
    simp only [wopA, List.length_nil, show q.rest.length - 63 = 0 from by omega]
    rfl
   ·rw [if_neg (by omega)] at hw
    refine sk (bl (WQ.drop ?_))
    refine again (x := ((f + 1, q, E), (aQ, cQ, rQ, eh), K57)) ((f, { q with full := q.full + 1, rest := q.rest.drop 63 }, R.1), (cutA aQ cQ 63 1, cQ - 63, rQ2, eh'), K67) ⟨rfl, trivial⟩ rfl ?_ ⟨hw, ?_, by dsimp only; omega, by dsimp only; exact oR'.up (by omega), by dsimp only; omega, hqn, le.trans le2, hE', ?_⟩ (by dsimp only; omega)
    ·simp [wopA]
    ·dsimp only; rw [List.length_drop]; omega
    ·dsimp only; rw [List.length_drop]; exact oQ2
end Go.Proofs.YtcncpbolcigpnaaGreat
end
