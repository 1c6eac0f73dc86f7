/-
  Part 3 of what the proof needs (texts Kc Kd Ke Ta Tb Tc Td Te Tf Tg Th Ti Tj Tk Tl Tm Tn To Tp Tq Tr Ts Kf Ek Wa Ua Ub Nl).
-/
import Derived.Test.YtneeeblghijmgaaGreatSA2
set_option linter.unusedSectionVars false
set_option linter.unusedSimpArgs false
set_option linter.unusedVariables false
section
namespace Go.En
theorem In.tail {K x : PH} {hs : List PH} (l : List PH) (hm : In K hs x) : In K (l ++ hs) x := by
 induction l with
 | nil => exact hm
 | cons a l ih => exact ih.cons
def ArH (K : PH) (D : Dk) (a : Int) (ins : Ins) (hs : List PH) (bi : Option Nat) (h : PH) (tl : List PH) : Prop :=
 (mget a D.areas = none /\ bi = none /\ h = em /\ tl = insH ins ++ hs) \/
 ∃ b i1 mv i2 q1 q2, bi = some b /\ ins = i1 ++ (a, b, h) :: i2 /\ D.areas = q1 ++ (a, D.ar a) :: q2 /\ a ∉ q1.map (·.1) /\ InsR K i1 q1 /\ InsR K i2 q2 /\ MpO encI id h b mv /\ MR (SecR K) mv (D.ar a) /\ tl = insH i1 ++ (insH i2 ++ hs)
theorem insO_keys (i : Ins) : (insO i).map (·.1) = i.map (·.1) := by simp [insO]
theorem mget_insO {K : PH} {D : Dk} {a : Int} {ins : Ins} (hI : InsR K ins D.areas) {hs : List PH} {bi : Option Nat} {h : PH} {tl : List PH} (x : ArH K D a ins hs bi h tl) : mget a (insO ins) = bi := by
 rcases x with ⟨h1, h2, _⟩ | ⟨b, i1, mv, i2, q1, q2, h1, h2, h3, h4, h5, h6, _⟩
 ·rw [h2, mget_none, insO_keys, insKeys hI]
  exact mget_none.1 h1
 ·rw [h1, h2]
  have : a ∉ (insO i1).map (·.1) := by rw [insO_keys, insKeys h5]; exact h4
  unfold insO at this ⊢
  rw [List.map_append, List.map_cons]
  generalize (i1.map fun x : Int × Nat × PH => (x.1, x.2.1)) = z at this ⊢
  induction z with
  | nil => simp [mget]
  | cons y z ih =>
   simp only [List.map_cons, List.mem_cons, not_or] at this
   simp only [List.cons_append, mget, this.1, if_false]
   exact ih this.2
theorem arH {K : PH} {D : Dk} {ins : Ins} (hI : InsR K ins D.areas) (a : Int) (hs : List PH) : ∃ bi h tl, ArH K D a ins hs bi h tl /\ ∀ P O : PH, (bi = none -> (P :: O :: (insH ins ++ hs)) = (P :: O :: tl)) /\ (bi ≠ none -> (P :: O :: (insH ins ++ hs)).Perm (h :: P :: O :: tl)) := by
 cases hg : mget a D.areas with
 | none => exact ⟨none, em, _, .inl ⟨hg, rfl, rfl, rfl⟩, fun P O => ⟨fun _ => rfl, fun h => absurd rfl h⟩⟩
 | some l =>
  obtain ⟨i1, bi, hi, mv, i2, q1, q2, g1, g2, g3, g4, g5, g6, g7⟩ := insGet hI hg
  have hl : D.ar a = l := by unfold Dk.ar; rw [hg]; rfl
  refine ⟨some bi, hi, insH i1 ++ (insH i2 ++ hs), .inr ⟨bi, i1, mv, i2, q1, q2, rfl, g1, by rw [hl]; exact g2, g3, g4, g5, g6, by rw [hl]; exact g7, rfl⟩, fun P O => ⟨fun h => (by cases h), fun _ => ?_⟩⟩
  rw [g1]
  unfold insH
  rw [List.map_append, List.map_cons, List.append_assoc, List.cons_append]
  have p : (i1.map (·.2.2) ++ hi :: (i2.map (·.2.2) ++ hs)).Perm (hi :: (i1.map (·.2.2) ++ (i2.map (·.2.2) ++ hs))) := List.perm_middle
  exact ((p.cons O).trans (List.Perm.swap hi O _)).cons P |>.trans (List.Perm.swap hi P _)
theorem cpyk (k : Nat) (bs : List UInt8) : (List.take 0 (Array.replicate k (Value.int .u8 0)).toList ++ List.take (bs.length * 1) (bv bs) ++ List.drop (0 + bs.length * 1) (Array.replicate k (Value.int .u8 0)).toList).toArray = (bv (bs ++ List.replicate (k - bs.length) 0)).toArray := by
 have h1 : List.take (bs.length * 1) (bv bs) = bv bs := List.take_of_length_le (by simp [bv])
 rw [h1]
 simp [bv]
theorem cpy64 (bs : List UInt8) : (List.take 0 (Array.replicate 64 (Value.int .u8 0)).toList ++ List.take (bs.length * 1) (bv bs) ++ List.drop (0 + bs.length * 1) (Array.replicate 64 (Value.int .u8 0)).toList).toArray = (bv (padS bs)).toArray := cpyk 64 bs
end Go.En
namespace Go.Proofs.YtneeeblghijmgaaGreat
open Go.En
attribute [local irreducible] Code.wp wpList Calls
theorem writeC {w0 : World} {K hv : PH} {hs m : List PH} (b : Nat) (D : Dk) (c : Nat) (o : D.Ok c) (hc : c <= 1099511627) (hm : DskM K b D m) (area n : Int) (ha : 0 <= area /\ area <= 18446744073709551615) (ao : Option Addr) (cap : Nat) (bs : List UInt8) (hin : In K hs hv) (x : IsS hv ao bs.length cap 1 (bv bs)) :
  Ct Tryz.prog w0 124 [.pointer (some ⟨b, 0, none⟩), .int .u64 area, .int .i64 n, .slice ao bs.length cap] K (m ++ hs)
   (fun v K' hs' => Le K K' /\ ∃ m', hs' = m' ++ hs /\ DskM K' b (D.write area n bs).1 m' /\ v = .int .i64 (D.write area n bs).2) := by
 obtain ⟨bo, ho, ins, rfl, hO, hI⟩ := hm
 obtain ⟨bi, hA, tl, hAr, hperm⟩ := arH hI area hs
 have hmo := mget_insO hI hAr
 obtain ⟨old, hold⟩ : ∃ old, old = (D.sec area n).getD ⟨[], false⟩ := ⟨_, rfl⟩
 have hro := o.room
 refine enter Tryz.func124 (by kernel_rfl) rfl rfl rfl ?_
 refine sq (rg ?_)
 refine fin hT 1 rfl (th (jn (σ := Option Addr × Nat × Nat) (fun s => [(0, .pointer (some ⟨b, 0, none⟩)), (1, .int .u64 area), (2, .int .i64 n), (3, .slice ao bs.length cap), (8, .int .i64 0), (9, .pointer (some ⟨s.2.2, 0, none⟩)), (10, .bool (D.sec area n).isSome)])
  (fun s => pt s.2.2 #[.slice s.1 old.vs.length s.2.1, .bool old.syn] 120 :: hA :: pt b (dkA D bo) 108 :: ho :: tl) (fun s => IsS K s.1 old.vs.length s.2.1 1 (tvv old.vs)) ?_ ?_))
 ·cases hbi : bi with
  | none =>
   rw [hbi] at hmo hAr
   rw [show ((pt b (dkA D bo) 108 :: ho :: insH ins) ++ hs) = (pt b (dkA D bo) 108 :: ho :: tl) from (hperm _ _).1 hbi]
   rcases hAr with ⟨g1, _, rfl, g3⟩ | ⟨b', _, _, _, _, _, g1, _⟩
   ·have hs0 : D.sec area n = none := by unfold Dk.sec Dk.ar; rw [g1]; rfl
    rw [hs0] at hold
    refine rg (WL.em ?_)
    refine ldp hT 3 1 rfl rfl rfl ?_
    refine lku hT 1 (z := .map none) area rfl Tryz.underlying106 (by kernel_rfl) keyU rfl (.inr ⟨2, rfl⟩) hO ?_
    rw [hmo]
    refine lkn hT 1 (z := .agg #[.slice none 0 0, .bool false]) n rfl Tryz.underlying113 (by kernel_rfl) keyI rfl ?_
    refine al hT 3 (.agg #[.slice none 0 0, .bool false]) rfl (by kernel_rfl) fun b9 => ?_
    refine stS hT 0 0 rfl rfl (by kernel_rfl) rfl rfl ?_
    refine fin hT 1 rfl ?_
    rw [show old = ⟨[], false⟩ from hold]
    exact jx (none, 0, b9) (IsS.nil _ _ _ _) ⟨rfl, rfl, rfl, rfl, rfl, rfl, by rw [hs0]; rfl, trivial⟩ rfl rfl
   ·cases g1
  | some bi =>
   rw [hbi] at hmo hAr
   rcases hAr with ⟨_, g1, _⟩ | ⟨b', i1, mv, i2, q1, q2, g1, g2, g3, g4, g5, g6, hMv, hMR, g9⟩
   ·cases g1
   ·cases g1
    refine WC.perm ((hperm _ _).2 (by rw [hbi]; simp)) ?_
    have hsec : D.sec area n = mget n (D.ar area) := rfl
    rcases MR.get n hMR with ⟨h1, h2⟩ | ⟨v, s, h1, h2, aoV, cV, rfl, h3⟩
    ·rw [hsec, h2] at hold
     refine rg ?_
     refine ldp hT 3 1 rfl rfl rfl ?_
     refine lku hT 1 (z := .map none) area rfl Tryz.underlying106 (by kernel_rfl) keyU rfl (.inr ⟨2, rfl⟩) hO ?_
     rw [hmo]
     refine lku hT 1 (z := .agg #[.slice none 0 0, .bool false]) n rfl Tryz.underlying113 (by kernel_rfl) keyI rfl (.inr ⟨0, rfl⟩) hMv ?_
     rw [h1]
     refine al hT 3 (.agg #[.slice none 0 0, .bool false]) rfl (by kernel_rfl) fun b9 => ?_
     refine stS hT 0 0 rfl rfl (by kernel_rfl) rfl rfl ?_
     refine fin hT 1 rfl ?_
     rw [show old = ⟨[], false⟩ from hold]
     exact jx (none, 0, b9) (IsS.nil _ _ _ _) ⟨rfl, rfl, rfl, rfl, rfl, rfl, by rw [hsec, h2]; rfl, trivial⟩ rfl rfl
    ·rw [hsec, h2] at hold
     refine rg ?_
     refine ldp hT 3 1 rfl rfl rfl ?_
     refine lku hT 1 (z := .map none) area rfl Tryz.underlying106 (by kernel_rfl) keyU rfl (.inr ⟨2, rfl⟩) hO ?_
     rw [hmo]
     refine lku hT 1 (z := .agg #[.slice none 0 0, .bool false]) n rfl Tryz.underlying113 (by kernel_rfl) keyI rfl (.inr ⟨0, rfl⟩) hMv ?_
     rw [h1]
     refine al hT 3 (.agg #[.slice none 0 0, .bool false]) rfl (by kernel_rfl) fun b9 => ?_
     refine stS hT 0 0 rfl rfl (by kernel_rfl) rfl rfl ?_
     refine fin hT 1 rfl ?_
     rw [show old = s from hold]
     exact jx (aoV, cV, b9) h3 ⟨rfl, rfl, rfl, rfl, rfl, rfl, by rw [hsec, h2]; rfl, trivial⟩ rfl rfl
 ·rintro ⟨aoV, cV, b9⟩ hV
  dsimp only at *
  have back : ∀ (P O : PH), bi = none /\ hA = em /\ (P :: O :: tl) = (P :: O :: (insH ins ++ hs)) \/ (hA :: P :: O :: tl).Perm (P :: O :: (insH ins ++ hs)) := fun P O => by
   cases hbi : bi with
   | none =>
    left
    rcases hAr with ⟨_, _, g2, g3⟩ | ⟨b', _, _, _, _, _, g1, _⟩
    ·exact ⟨rfl, g2, by rw [g3]⟩
    ·rw [hbi] at g1; cases g1
   | some z => exact .inr ((hperm P O).2 (by rw [hbi]; simp)).symm
  have giveup : ∀ {fn : Func} {R : Value -> PH -> List PH -> Prop} {l : Sl}, WQ w0 (bodyPost Tryz.prog fn (endR w0 R)) .ret 93 l K (pt b (dkA D bo) 108 :: ho :: (insH ins ++ hs)) -> WQ w0 (bodyPost Tryz.prog fn (endR w0 R)) .ret 93 l K (pt b9 #[.slice aoV old.vs.length cV, .bool old.syn] 120 :: hA :: pt b (dkA D bo) 108 :: ho :: tl) := fun {fn R l} h => by
   refine WQ.drop ?_
   rcases back (pt b (dkA D bo) 108) ho with ⟨_, _, e⟩ | p
   ·rw [e]; exact WQ.drop h
   ·exact WQ.perm p h
  refine jn (σ := Unit) (fun _ => [(0, .pointer (some ⟨b, 0, none⟩)), (1, .int .u64 area), (2, .int .i64 n), (3, .slice ao bs.length cap), (9, .pointer (some ⟨b9, 0, none⟩)), (10, .bool (D.sec area n).isSome)]) (fun _ => pt b9 #[.slice aoV old.vs.length cV, .bool old.syn] 120 :: hA :: pt b (dkA D bo) 108 :: ho :: tl) (fun _ => ¬ D.dead = true /\ ¬ (n < 0 \/ 65536 <= n \/ 64 < bs.length) /\ ¬ ((D.sec area n).isSome = false /\ D.room = 0)) ?_ ?_
  ·refine bk (sq (rg ?_))
   refine ldp hT 3 2 (v := .bool D.dead) rfl rfl rfl ?_
   cases hdead : D.dead with
   | true =>
    refine fin hT 1 rfl (th (ifT rfl ?_))
    refine sq (rg ?_)
    refine fin hT 1 rfl (th (rt (rB (jr (giveup ?_)))))
    have e : D.write area n bs = (D, 30) := by unfold Dk.write; rw [if_pos hdead]
    rw [e]
    exact ret1 rfl rfl ⟨Le.refl _, _, rfl, ⟨bo, ho, ins, rfl, hO, hI⟩, rfl⟩
   | false =>
    refine fin hT 1 rfl (th (ifF rfl ?_))
    have hd0 : ¬ D.dead = true := by rw [hdead]; simp
    refine sq (rg ?_)
    refine cmp hT 1 rfl (fun h2 => ?_) (fun h2 => ?_)
    ·refine fin hT 10 rfl (th (ifT rfl ?_))
     refine sq (rg ?_)
     refine fin hT 1 rfl (th (rt (rB (jr (giveup ?_)))))
     have e : D.write area n bs = (D, 31) := by unfold Dk.write; rw [if_neg hd0, if_pos (.inl h2)]
     rw [e]
     exact ret1 rfl rfl ⟨Le.refl _, _, rfl, ⟨bo, ho, ins, rfl, hO, hI⟩, rfl⟩
    ·refine cmp hT 2 rfl (fun h3 => ?_) (fun h3 => ?_)
     ·refine fin hT 7 rfl (th (ifT rfl ?_))
      refine sq (rg ?_)
      refine fin hT 1 rfl (th (rt (rB (jr (giveup ?_)))))
      have e : D.write area n bs = (D, 31) := by unfold Dk.write; rw [if_neg hd0, if_pos (.inr (.inl (by omega)))]
      rw [e]
      exact ret1 rfl rfl ⟨Le.refl _, _, rfl, ⟨bo, ho, ins, rfl, hO, hI⟩, rfl⟩
     ·refine cmp hT 4 rfl (fun h4 => ?_) (fun h4 => ?_)
      ·refine fin hT 2 rfl (th (ifT rfl ?_))
       refine sq (rg ?_)
       refine fin hT 1 rfl (th (rt (rB (jr (giveup ?_)))))
       have e : D.write area n bs = (D, 31) := by unfold Dk.write; rw [if_neg hd0, if_pos (.inr (.inr (by omega)))]
       rw [e]
       exact ret1 rfl rfl ⟨Le.refl _, _, rfl, ⟨bo, ho, ins, rfl, hO, hI⟩, rfl⟩
      ·have hnf : ¬ (n < 0 \/ 65536 <= n \/ 64 < bs.length) := by omega
       refine fin hT 2 rfl (th (ifF rfl ?_))
       by_cases hfull : (D.sec area n).isSome = false /\ D.room = 0
       ·refine sq (rg ?_)
        rw [hfull.1]
        refine ldp hT 6 2 rfl rfl rfl ?_
        refine cmp hT 0 rfl (fun h5 => ?_) (fun h5 => absurd hfull.2 h5)
        refine fin hT 2 rfl (th (ifT rfl ?_))
        refine sq (rg ?_)
        refine fin hT 1 rfl (th (rt (rB (jr (giveup ?_)))))
        have e : D.write area n bs = (D, 32) := by unfold Dk.write; rw [if_neg hd0, if_neg hnf, if_pos hfull]
        rw [e]
        exact ret1 rfl rfl ⟨Le.refl _, _, rfl, ⟨bo, ho, ins, rfl, hO, hI⟩, rfl⟩
       ·refine sq (rg ?_)
        have hg : ¬ D.dead = true /\ ¬ (n < 0 \/ 65536 <= n \/ 64 < bs.length) /\ ¬ ((D.sec area n).isSome = false /\ D.room = 0) := ⟨hd0, hnf, hfull⟩
        cases hse : (D.sec area n).isSome with
        | true =>
         refine fin hT 10 rfl (th (ifF rfl (sk (bl ?_))))
         exact jx () (by rw [hse, hdead] at hg; exact hg) ⟨rfl, rfl, rfl, rfl, rfl, rfl, trivial⟩ rfl rfl
        | false =>
         refine ldp hT 6 2 rfl rfl rfl ?_
         refine cmp hT 0 rfl (fun h5 => absurd ⟨hse, h5⟩ hfull) (fun h5 => ?_)
         refine fin hT 2 rfl (th (ifF rfl (sk (bl ?_))))
         exact jx () (by rw [hse, hdead] at hg; exact hg) ⟨rfl, rfl, rfl, rfl, rfl, rfl, trivial⟩ rfl rfl
  ·rintro - ⟨hd0, hnf, hfull⟩
   have e : D.write area n bs = ((D.laid area n bs).stp, if (D.laid area n bs).stp.dead = true then 30 else 0) := by unfold Dk.write; rw [if_neg hd0, if_neg hnf, if_neg hfull]
   rw [e]
   obtain ⟨D1, hD1⟩ : ∃ D1 : Dk, D1 = { D with room := if (D.sec area n).isSome = true then D.room else D.room - 1 } := ⟨_, rfl⟩
   refine jn (σ := Unit) (fun _ => [(0, .pointer (some ⟨b, 0, none⟩)), (1, .int .u64 area), (2, .int .i64 n), (3, .slice ao bs.length cap), (9, .pointer (some ⟨b9, 0, none⟩)), (10, .bool (D.sec area n).isSome)]) (fun _ => pt b9 #[.slice aoV old.vs.length cV, .bool old.syn] 120 :: hA :: pt b (dkA D1 bo) 108 :: ho :: tl) (fun _ => True) ?_ ?_
   ·refine sq (rg ?_)
    cases hse : (D.sec area n).isSome with
    | true =>
     refine fin hT 2 rfl (th (ifF rfl (sk ?_)))
     exact jx () trivial ⟨rfl, rfl, rfl, rfl, rfl, rfl, trivial⟩ rfl (by rw [hD1, if_pos hse])
    | false =>
     have hr0 : 0 < D.room := by
      have : ¬ D.room = 0 := fun h => hfull ⟨hse, h⟩
      omega
     refine fin hT 2 rfl (th (ifT rfl (rg ?_)))
     refine ldp hT 3 2 rfl rfl rfl ?_
     refine ar hT 0 rfl (i64w (by omega)) ?_
     refine stp hT 2 2 rfl rfl rfl rfl ?_
     refine fin hT 0 rfl ?_
     exact jx () trivial ⟨rfl, rfl, rfl, rfl, rfl, rfl, trivial⟩ rfl (by rw [hD1, if_neg (by rw [hse]; simp)]; rfl)
   ·rintro - -
    refine jn (σ := PH × PH × List PH) (fun _ => [(0, .pointer (some ⟨b, 0, none⟩)), (1, .int .u64 area), (2, .int .i64 n), (3, .slice ao bs.length cap), (9, .pointer (some ⟨b9, 0, none⟩)), (10, .bool (D.sec area n).isSome)]) (fun s => pt b9 #[.slice aoV old.vs.length cV, .bool old.syn] 120 :: s.1 :: pt b (dkA D1 bo) 108 :: s.2.1 :: s.2.2)
     (fun s => ∃ i1 bi mv i2 q1 q2, MpO encI id s.1 bi mv /\ MR (SecR K) mv (D.ar area) /\ MpO encU encB s.2.1 bo (insO (i1 ++ (area, bi, s.1) :: i2)) /\ InsR K i1 q1 /\ InsR K i2 q2 /\ area ∉ q1.map (·.1) /\ (∀ l, mset area l D.areas = q1 ++ (area, l) :: q2) /\ s.2.2 = insH i1 ++ (insH i2 ++ hs)) ?_ ?_
    ·refine sq (rg ?_)
     refine ldp hT 3 2 rfl rfl rfl ?_
     refine lku hT 1 (z := .map none) area rfl Tryz.underlying106 (by kernel_rfl) keyU rfl (.inr ⟨3, rfl⟩) hO ?_
     rw [hmo]
     cases hbi : bi with
     | none =>
      rw [hbi] at hmo hAr
      rcases hAr with ⟨g1, _, rfl, rfl⟩ | ⟨b', _, _, _, _, _, g1, _⟩
      ·refine cbS hT 0 True rfl (by simp) fun b65 h65 => ?_
       refine fin hT 0 rfl (th (ifP h65 rfl (fun _ => ?_) (fun h => absurd trivial h)))
       refine rg ?_
       refine ldp hT 3 2 rfl rfl rfl ?_
       refine mkm hT 1 rfl fun bm => ?_
       refine mpu hT 0 4 area bm rfl rfl Tryz.underlying106 keyU rfl rfl hO fun ho' hO' => ?_
       refine fin hT 0 rfl (WQ.perm (perm_front _ 2 _ rfl) (WQ.drop (WQ.perm (List.Perm.swap _ _ _) ?_)))
       refine jx (sg bm (.map #[] 0), ho', insH ins ++ hs) ⟨ins, bm, [], [], D.areas, [], MpO.empty _ _, ?_, ?_, hI, trivial, mget_none.1 g1, fun l => by rw [mset_new g1], rfl⟩ ⟨rfl, rfl, rfl, rfl, rfl, rfl, trivial⟩ rfl rfl
       ·unfold Dk.ar; rw [g1]; trivial
       ·rw [mset_new hmo] at hO'
        simpa [insO] using hO'
      ·cases g1
     | some bi =>
      rw [hbi] at hmo hAr
      rcases hAr with ⟨_, g1, _⟩ | ⟨b', i1, mv, i2, q1, q2, g1, g2, g3, g4, g5, g6, hMv, hMR, g9⟩
      ·cases g1
      ·cases g1
       refine cbS hT 0 False rfl (by simp [encB]) fun b65 h65 => ?_
       refine fin hT 0 rfl (th (ifP h65 rfl (fun h => h.elim) (fun _ => sk ?_)))
       refine jx (hA, ho, tl) ⟨i1, bi, mv, i2, q1, q2, hMv, hMR, by rw [<- g2]; exact hO, g5, g6, g4, fun l => ?_, g9⟩ ⟨rfl, rfl, rfl, rfl, rfl, rfl, trivial⟩ rfl rfl
       rw [g3]
       exact mset_at g4
    ·rintro ⟨hA1, ho1, tl1⟩ ⟨i1, bi1, mv, i2, q1, q2, hMv, hMR, hO1, g5, g6, g4, hset, rfl⟩
     dsimp only at *
     have hb64 : bs.length <= 64 := by omega
     have hk : old.vs.length <= c := by
      cases hs0 : D.sec area n with
      | none => rw [hold, hs0]; simp
      | some s => rw [hold, hs0]; exact (o.secOk hs0).2.1
     have hnone : aoV = none -> old.vs.length = 0 := fun h => by
      rcases Nat.eq_zero_or_pos old.vs.length with h2 | h2
      ·exact h2
      ·obtain ⟨a, ha⟩ := hV.addr h2 (by decide); rw [h] at ha; cases ha
     have xC : IsS K (cutA aoV old.vs.length 0 1) old.vs.length old.vs.length 1 (tvv old.vs) := by rw [cutA_0]; exact ⟨hV.1, Nat.le_refl _, hV.2.2⟩
     refine sq (rg ?_)
     refine al hT 0 (.agg (Array.replicate 64 (.int .u8 0))) rfl (by kernel_rfl) fun b11 => ?_
     refine fin hT 0 rfl (th (sq (rg ?_)))
     refine sla hT 0 (sz := 1) 0 64 rfl rfl Tryz.underlying191 (by kernel_rfl) rfl rfl (Nat.le_refl _) (by decide) ?_
     simp only [add_mk, Nat.zero_mul, Nat.add_zero]
     refine cpy hT 1 0 bs.length rfl rfl rfl (In.tail (_ :: _ :: _ :: _ :: _ :: insH i1) (In.tail (insH i2) hin)) x (by omega) (fun u hu => bv_one bs u (List.mem_of_mem_take hu)) (by show 0 + bs.length * 1 <= 64; omega) ?_
     refine WL.hs (pt b11 (bv (padS bs)).toArray 191 :: pt b9 #[.slice aoV old.vs.length cV, .bool old.syn] 120 :: hA1 :: pt b (dkA D1 bo) 108 :: ho1 :: (insH i1 ++ (insH i2 ++ hs))) (congrArg (fun z => pt b11 z 191 :: pt b9 #[.slice aoV old.vs.length cV, .bool old.syn] 120 :: hA1 :: pt b (dkA D1 bo) 108 :: ho1 :: (insH i1 ++ (insH i2 ++ hs))) (cpy64 bs)) ?_
     have xW : IsS (pt b11 (bv (padS bs)).toArray 191) (some ⟨b11, 0, none⟩) 64 64 1 ((padS bs).map fun b => Value.int .u8 ((b.toNat : Nat) : Int)) := by
      have := (Own.ofPt (b := b11) (c := (bv (padS bs)).toArray) (e := 191) (n := 64) (size := 1) (by simp [bv, padS_len hb64]) (by simp [maxLen])).isS
      simpa [bv] using this
     refine fin hT 0 rfl (th (jnK (σ := PH × Option Addr × Nat) (fun _ => [(0, .pointer (some ⟨b, 0, none⟩)), (1, .int .u64 area), (2, .int .i64 n), (9, .pointer (some ⟨b9, 0, none⟩))]) (fun s => s.1) (fun s => pt b9 #[.slice s.2.1 (old.vs.length + 1) s.2.2, .bool old.syn] 120 :: hA1 :: pt b (dkA D1 bo) 108 :: ho1 :: (insH i1 ++ (insH i2 ++ hs)))
      (fun s => Le K s.1 /\ IsS s.1 s.2.1 (old.vs.length + 1) s.2.2 1 (tvv (old.vs ++ [padS bs]))) ?_ ?_))
     ·refine rga [pt b9 #[.slice aoV old.vs.length cV, .bool old.syn] 120, pt b11 (bv (padS bs)).toArray 191] 8 [0, 2, 6, 8, 5, 11, 13, 14, 17] (by simp) (by kernel_rfl) (by kernel_rfl) ?_
      refine dldpw hT (by kernel_rfl) 1 0 rfl (by kernel_rfl) rfl rfl ?_
      refine dslaw hT (by kernel_rfl) 0 (sz := 1) 0 64 rfl (by kernel_rfl) rfl Tryz.underlying191 (by kernel_rfl) rfl rfl (Nat.le_refl _) (by decide) ?_
      simp only [add_mk, Nat.zero_mul, Nat.add_zero]
      refine dcvsw hT (by kernel_rfl) 0 (padS bs) rfl (by kernel_rfl) rfl (.inr ⟨1, rfl⟩) xW (by kernel_rfl) ?_
      refine dfork 5 hT (by kernel_rfl) 0 [5, 13, 14, 17] rfl (by kernel_rfl) ?_ ?_
      ·refine cl hT 0 rfl (clipSC aoV old.vs.length cV hV.2.1) ?_
       rintro v77 K77 hs77 ⟨rfl, rfl, rfl⟩
       refine dnex [pt b9 #[.slice aoV old.vs.length cV, .bool old.syn] 120, pt b11 (bv (padS bs)).toArray 191] (by simp) (by simp) rfl ?_
       refine dact hT (by kernel_rfl) 0 rfl ?_
       refine lit hT 0 #[str (padS bs)] rfl (by decide) (by kernel_rfl) fun b80 => ?_
       refine dnex [pt b9 #[.slice aoV old.vs.length cV, .bool old.syn] 120, pt b11 (bv (padS bs)).toArray 191] (by simp) (by simp) rfl ?_
       refine dact hT (by kernel_rfl) 0 rfl ?_
       refine appf hT 0 rfl (.inl rfl) xC (by rw [cutA_0]; exact hnone) (.inr ⟨0, rfl⟩) (Own.ofPt (b := b80) (c := #[str (padS bs)]) (e := 9) (n := 1) (size := 1) rfl (by simp [maxLen])).isS rfl (by decide) (by omega) (by show (old.vs.length + 1) * 16 <= _; omega) (by simp only [maxLen]; omega) fun ao81 c81 g81 o81 => WL.frz fun K2 le2 l2 => WL.drop ?_
       refine dnexL [pt b9 #[.slice aoV old.vs.length cV, .bool old.syn] 120, pt b11 (bv (padS bs)).toArray 191] (by simp) (by simp) le2 ?_
       refine dact hT (by kernel_rfl) 1 rfl ?_
       refine stp hT 0 1 rfl rfl rfl rfl ?_
       refine dnext (.inl (by kernel_rfl)) ?_
       refine dend hT (by kernel_rfl) 0 rfl (WQ.drop ?_)
       exact jxK (K2, ao81, c81) ⟨le2, by simpa [tvv] using o81.isS.le l2⟩ ⟨rfl, rfl, rfl, rfl, trivial⟩ rfl rfl
      ·refine lit hT 0 #[str (padS bs)] rfl (by decide) (by kernel_rfl) fun b80 => ?_
       refine dnex [pt b9 #[.slice aoV old.vs.length cV, .bool old.syn] 120, pt b11 (bv (padS bs)).toArray 191] (by simp) (by simp) rfl ?_
       refine dact hT (by kernel_rfl) 0 rfl ?_
       refine cl hT 0 rfl (clipSC aoV old.vs.length cV hV.2.1) ?_
       rintro v77 K77 hs77 ⟨rfl, rfl, rfl⟩
       refine dnex [pt b9 #[.slice aoV old.vs.length cV, .bool old.syn] 120, pt b11 (bv (padS bs)).toArray 191] (by simp) (by simp) rfl ?_
       refine dact hT (by kernel_rfl) 0 rfl ?_
       refine appf hT 0 rfl (.inl rfl) xC (by rw [cutA_0]; exact hnone) (.inr ⟨0, rfl⟩) (Own.ofPt (b := b80) (c := #[str (padS bs)]) (e := 9) (n := 1) (size := 1) rfl (by simp [maxLen])).isS rfl (by decide) (by omega) (by show (old.vs.length + 1) * 16 <= _; omega) (by simp only [maxLen]; omega) fun ao81 c81 g81 o81 => WL.frz fun K2 le2 l2 => WL.drop ?_
       refine dnexL [pt b9 #[.slice aoV old.vs.length cV, .bool old.syn] 120, pt b11 (bv (padS bs)).toArray 191] (by simp) (by simp) le2 ?_
       refine dact hT (by kernel_rfl) 1 rfl ?_
       refine stp hT 0 1 rfl rfl rfl rfl ?_
       refine dnext (.inl (by kernel_rfl)) ?_
       refine dend hT (by kernel_rfl) 0 rfl (WQ.drop ?_)
       exact jxK (K2, ao81, c81) ⟨le2, by simpa [tvv] using o81.isS.le l2⟩ ⟨rfl, rfl, rfl, rfl, trivial⟩ rfl rfl
     ·rintro ⟨K2, ao81, c81⟩ ⟨le2, x81⟩
      dsimp only at *
      have hsec2 : SecR K2 (.agg #[.slice ao81 (old.vs.length + 1) c81, .bool old.syn]) (secW (D.sec area n) bs) := by
       refine ⟨ao81, c81, ?_, ?_⟩
       ·unfold secW; rw [<- hold]; simp
       ·unfold secW; rw [<- hold]; simpa using x81
      refine sq (rga [pt b (dkA D1 bo) 108, ho1, pt b9 #[.slice ao81 (old.vs.length + 1) c81, .bool old.syn] 120] 9 [0, 2, 4, 6, 8, 10, 12, 14, 17] (by simp) (by kernel_rfl) (by kernel_rfl) ?_)
      refine dldp hT (by kernel_rfl) 3 0 rfl rfl rfl ?_
      refine dlku hT (by kernel_rfl) 1 (zv := .map none) area rfl Tryz.underlying106 (by kernel_rfl) keyU rfl (.inr ⟨1, rfl⟩) hO1 ?_
      have hmo1 : mget area (insO (i1 ++ (area, bi1, hA1) :: i2)) = some bi1 := by
       have h0 : area ∉ (insO i1).map (·.1) := by rw [insO_keys, insKeys g5]; exact g4
       have := mget_at (u := bi1) (q2 := insO i2) h0
       simpa [insO] using this
      rw [hmo1]
      refine dldS hT (by kernel_rfl) 1 2 rfl (by kernel_rfl) rfl (by kernel_rfl) ?_
      refine dact hT (by kernel_rfl) 0 rfl ?_
      refine mpu hT 0 1 n (.agg #[.slice ao81 (old.vs.length + 1) c81, .bool old.syn]) rfl rfl Tryz.underlying113 keyI rfl rfl hMv fun hA2 hMv2 => ?_
      refine dnex [pt b (dkA D1 bo) 108, ho1, pt b9 #[.slice ao81 (old.vs.length + 1) c81, .bool old.syn] 120] (by simp) (by simp) rfl ?_
      refine dend hT (by kernel_rfl) 0 rfl (th (WC.drop (WC.perm (List.Perm.swap _ _ _) (sq (sq (rg ?_))))))
      have e1 : dkA D1 bo = dkA (D.laid area n bs) bo := by rw [hD1]; rfl
      refine WL.hs (pt b (dkA (D.laid area n bs) bo) 108 :: hA2 :: ho1 :: (insH i1 ++ (insH i2 ++ hs))) (by rw [e1]) ?_
      refine cl hT 1 rfl (stepC b bo (D.laid area n bs) (by have := o.steps; simp only [Dk.laid]; omega) o.left) ?_
      rintro v92 K92 hs92 ⟨rfl, rfl, rfl⟩
      have fin : ∀ {fn : Func} {R : Value -> PH -> List PH -> Prop} {l : Sl}, (∀ m', DskM K92 b (D.laid area n bs).stp m' -> WQ w0 (bodyPost Tryz.prog fn (endR w0 R)) .ret 93 l K92 (m' ++ hs)) -> WQ w0 (bodyPost Tryz.prog fn (endR w0 R)) .ret 93 l K92 (pt b (dkA (D.laid area n bs).stp bo) 108 :: hA2 :: ho1 :: (insH i1 ++ (insH i2 ++ hs))) := fun {fn R l} h => by
       have hm' : DskM K92 b (D.laid area n bs).stp (pt b (dkA (D.laid area n bs).stp bo) 108 :: ho1 :: insH (i1 ++ (area, bi1, hA2) :: i2)) := by
        refine ⟨bo, ho1, i1 ++ (area, bi1, hA2) :: i2, rfl, by simpa [insO] using hO1, ?_⟩
        show InsR K92 _ (mset area (mset n (secW (D.sec area n) bs) (D.ar area)) D.areas)
        rw [hset]
        exact (g5.le le2).app ⟨rfl, ⟨_, hMv2, MR.set hsec2 (hMR.imp fun _ _ h => h.le le2)⟩, g6.le le2⟩
       refine WQ.perm ?_ (h _ hm')
       unfold insH
       rw [List.map_append, List.map_cons, List.cons_append, List.cons_append, List.append_assoc, List.cons_append]
       exact ((List.Perm.swap ho1 hA2 _).trans (List.perm_middle.symm.cons ho1)).cons _
      cases hst : (D.laid area n bs).stp.dead with
      | true =>
       refine WL.perm (List.Perm.refl _) ?_
       refine En.fin hT 0 rfl (th (ifT rfl (sq (rg ?_))))
       refine En.fin hT 1 rfl (th (rt (rT (fin fun m' hm' => ?_))))
       exact ret1 rfl rfl ⟨le2, m', rfl, hm', rfl⟩
      | false =>
       refine En.fin hT 0 rfl (th (ifF rfl (sk (th (sq (rg ?_))))))
       refine En.fin hT 1 rfl (th (rt (fin fun m' hm' => ?_)))
       exact ret1 rfl rfl ⟨le2, m', rfl, hm', rfl⟩
end Go.Proofs.YtneeeblghijmgaaGreat
end
section
namespace Go.En
theorem mdel_none {κ ν : Type} [DecidableEq κ] {k : κ} : ∀ {q : List (κ × ν)}, mget k q = none -> mdel k q = q
 | [], _ => rfl
 | (j, w) :: q, h => by
  by_cases e : k = j
  ·simp [mget, e] at h
  ·simp only [mget, e, if_false] at h
   simp only [mdel, e, if_false]
   rw [mdel_none h]
end Go.En
namespace Go.Proofs.YtneeeblghijmgaaGreat
open Go.En
attribute [local irreducible] Code.wp wpList Calls
def dk0 (r : Int) : Dk := ⟨r, 0, [], -1, false⟩
theorem dk0_ok {r : Int} (h : 0 <= r /\ r <= 1099511627776) : (dk0 r).Ok 0 := ⟨by simp [dk0], by simp [dk0], by simp [dk0], h, by simp [dk0], by simp [dk0], by simp [dk0]⟩
theorem newDC {w0 : World} {K : PH} {hs : List PH} (r : Int) (hr : 0 <= r /\ r <= 1099511627776) : Ct Tryz.prog w0 24 [.int .i64 r] K hs
  (fun v K' hs' => K' = K /\ ∃ b m, hs' = m ++ hs /\ DskM K b (dk0 r) m /\ v = .pointer (some ⟨b, 0, none⟩)) := by
 refine enter Tryz.func24 (by kernel_rfl) rfl rfl rfl ?_
 refine sq (rg ?_)
 refine fin hT 1 rfl (th (sq (rg ?_)))
 refine ar hT 1 rfl (v' := .int .i64 r) (by rw [show (if r < 0 then (0 : Int) else r) = r from by rw [if_neg (by omega)]]) ?_
 refine mkm hT 0 rfl fun bm => ?_
 refine bd hT 0 (.agg (dkA (dk0 r) bm)) rfl (fun w => by kernel_rfl) ?_
 refine bx hT 0 rfl fun b7 => ?_
 refine fin hT 1 rfl (th (rt ?_))
 exact ret1 rfl rfl ⟨rfl, b7, _, rfl, ⟨bm, _, [], rfl, MpO.empty _ _, trivial⟩, rfl⟩
theorem deadC {w0 : World} {K : PH} {hs m : List PH} (b : Nat) (D : Dk) (hm : DskM K b D m) : Ct Tryz.prog w0 51 [.pointer (some ⟨b, 0, none⟩)] K (m ++ hs)
  (fun v K' hs' => K' = K /\ hs' = m ++ hs /\ v = .bool D.dead) := by
 obtain ⟨bo, ho, ins, rfl, hO, hI⟩ := hm
 refine enter Tryz.func51 (by kernel_rfl) rfl rfl rfl ?_
 refine sq (rg ?_)
 refine fin hT 1 rfl (th (sq (rg ?_)))
 refine ldp hT 3 0 (v := .bool D.dead) rfl rfl rfl ?_
 refine fin hT 1 rfl (th (rt ?_))
 exact ret1 rfl rfl ⟨rfl, rfl, rfl⟩
theorem readDC {w0 : World} {K : PH} {hs m : List PH} (b : Nat) (D : Dk) (c : Nat) (o : D.Ok c) (hc : c <= 1099511627) (hm : DskM K b D m) (area n : Int) :
  Ct Tryz.prog w0 101 [.pointer (some ⟨b, 0, none⟩), .int .u64 area, .int .i64 n] K (m ++ hs)
   (fun v K' hs' => Le K K' /\ hs' = m ++ hs /\ ((D.read area n = none /\ v = .tuple #[.slice none 0 0, .bool false]) \/
    ∃ bs ao cap, D.read area n = some bs /\ bs.length = 64 /\ v = .tuple #[.slice ao bs.length cap, .bool true] /\ IsS K' ao bs.length cap 1 (bv bs))) := by
 obtain ⟨bo, ho, ins, rfl, hO, hI⟩ := hm
 obtain ⟨bi, hA, tl, hAr, hperm⟩ := arH hI area hs
 have hmo := mget_insO hI hAr
 refine enter Tryz.func101 (by kernel_rfl) rfl rfl rfl ?_
 refine sq (rg ?_)
 refine fin hT 2 rfl (th ?_)
 cases hbi : bi with
 | none =>
  rw [hbi] at hmo hAr
  rcases hAr with ⟨g1, _, rfl, g3⟩ | ⟨b', _, _, _, _, _, g1, _⟩
  ·have hs0 : D.read area n = none := by unfold Dk.read Dk.sec Dk.ar; rw [g1]; rfl
   refine sq (rg ?_)
   refine ldp hT 3 0 rfl rfl rfl ?_
   refine lku hT 1 (z := .map none) area rfl Tryz.underlying106 (by kernel_rfl) keyU rfl (.inr ⟨1, rfl⟩) hO ?_
   rw [hmo]
   refine lkn hT 1 (z := .agg #[.slice none 0 0, .bool false]) n rfl Tryz.underlying113 (by kernel_rfl) keyI rfl ?_
   refine al hT 3 (.agg #[.slice none 0 0, .bool false]) rfl (by kernel_rfl) fun b9 => ?_
   refine stS hT 0 0 rfl rfl (by kernel_rfl) rfl rfl ?_
   refine fin hT 1 rfl (th (sq (sq (rg ?_))))
   refine fin hT 2 rfl (th (ifT rfl (sq (rg ?_))))
   refine fin hT 2 rfl (th (rt (rT (WQ.drop ?_))))
   exact ret2 rfl rfl rfl ⟨Le.refl _, rfl, .inl ⟨hs0, rfl⟩⟩
  ·cases g1
 | some bi =>
  rw [hbi] at hmo hAr
  rcases hAr with ⟨_, g1, _⟩ | ⟨b', i1, mv, i2, q1, q2, g1, g2, g3, g4, g5, g6, hMv, hMR, g9⟩
  ·cases g1
  ·cases g1
   have hp := (hperm (pt b (dkA D bo) 108) ho).2 (by rw [hbi]; simp)
   refine WC.perm hp ?_
   have hsec : D.sec area n = mget n (D.ar area) := rfl
   rcases MR.get n hMR with ⟨h1, h2⟩ | ⟨v, s, h1, h2, aoV, cV, rfl, h3⟩
   ·have hs0 : D.read area n = none := by unfold Dk.read; rw [hsec, h2]; rfl
    refine sq (rg ?_)
    refine ldp hT 3 1 rfl rfl rfl ?_
    refine lku hT 1 (z := .map none) area rfl Tryz.underlying106 (by kernel_rfl) keyU rfl (.inr ⟨2, rfl⟩) hO ?_
    rw [hmo]
    refine lku hT 1 (z := .agg #[.slice none 0 0, .bool false]) n rfl Tryz.underlying113 (by kernel_rfl) keyI rfl (.inr ⟨0, rfl⟩) hMv ?_
    rw [h1]
    refine al hT 3 (.agg #[.slice none 0 0, .bool false]) rfl (by kernel_rfl) fun b9 => ?_
    refine stS hT 0 0 rfl rfl (by kernel_rfl) rfl rfl ?_
    refine fin hT 1 rfl (th (sq (sq (rg ?_))))
    refine fin hT 2 rfl (th (ifT rfl (sq (rg ?_))))
    refine fin hT 2 rfl (th (rt (rT (WQ.drop (WQ.perm hp.symm ?_)))))
    exact ret2 rfl rfl rfl ⟨Le.refl _, rfl, .inl ⟨hs0, rfl⟩⟩
   ·obtain ⟨k1, k2, k3⟩ := o.secOk (show D.sec area n = some s by rw [hsec, h2])
    have hlen : 0 < s.vs.length := by
     rcases Nat.eq_zero_or_pos s.vs.length with h | h
     ·exact absurd (List.eq_nil_of_length_eq_zero h) k1
     ·exact h
    have hs0 : D.read area n = some (s.vs.getLastD []) := by unfold Dk.read; rw [hsec, h2]; rfl
    have hget : (tvv s.vs)[s.vs.length - 1]? = some (str (s.vs.getLastD [])) := by
     unfold tvv
     rw [List.getElem?_map, List.getLastD_eq_getLast?, List.getLast?_eq_getElem?]
     rw [List.getElem?_eq_getElem (by omega)]
     rfl
    have hl64 : (s.vs.getLastD []).length = 64 := by
     rw [List.getLastD_eq_getLast?, List.getLast?_eq_some_getLast k1]
     exact k3 _ (List.getLast_mem k1)
    refine sq (rg ?_)
    refine ldp hT 3 1 rfl rfl rfl ?_
    refine lku hT 1 (z := .map none) area rfl Tryz.underlying106 (by kernel_rfl) keyU rfl (.inr ⟨2, rfl⟩) hO ?_
    rw [hmo]
    refine lku hT 1 (z := .agg #[.slice none 0 0, .bool false]) n rfl Tryz.underlying113 (by kernel_rfl) keyI rfl (.inr ⟨0, rfl⟩) hMv ?_
    rw [h1]
    refine al hT 3 (.agg #[.slice none 0 0, .bool false]) rfl (by kernel_rfl) fun b9 => ?_
    refine stS hT 0 0 rfl rfl (by kernel_rfl) rfl rfl ?_
    refine fin hT 1 rfl (th (sq (sq (rg ?_))))
    refine fin hT 2 rfl (th (ifF rfl (sk (th (sq (rg ?_))))))
    refine ldp hT 1 0 rfl rfl rfl ?_
    refine ldp hT 1 0 rfl rfl rfl ?_
    refine ar hT 1 rfl (i64w (by omega)) ?_
    refine ix1 hT 0 (s.vs.length - 1) rfl (by omega) rfl h3 hget fun a29 hc29 => ?_
    refine ld hT 0 rfl (.inl rfl) hc29 ?_
    refine cvb hT 0 rfl (by kernel_rfl) fun b31 c31 g31 x31 => WL.frz fun K2 le2 l2 => ?_
    refine fin hT 2 rfl (th (rt (WQ.drop (WQ.perm hp.symm ?_))))
    exact ret2 rfl rfl rfl ⟨le2, rfl, .inr ⟨_, _, c31, hs0, hl64, rfl, x31.le l2⟩⟩
theorem freeC {w0 : World} {K : PH} {hs m : List PH} (b : Nat) (D : Dk) (c : Nat) (o : D.Ok c) (hc : c <= 1099511627) (hm : DskM K b D m) (area : Int) :
  Ct Tryz.prog w0 62 [.pointer (some ⟨b, 0, none⟩), .int .u64 area] K (m ++ hs)
   (fun v K' hs' => K' = K /\ ∃ m', hs' = m' ++ hs /\ DskM K b (D.free area).1 m' /\ v = .int .i64 (D.free area).2) := by
 obtain ⟨bo, ho, ins, rfl, hO, hI⟩ := hm
 have hr := o.room
 have har := (o.arNodup area).2
 refine enter Tryz.func62 (by kernel_rfl) rfl rfl rfl ?_
 refine sq (rg ?_)
 refine fin hT 1 rfl (th (sq (sq (rg ?_))))
 refine ldp hT 3 0 (v := .bool D.dead) rfl rfl rfl ?_
 cases hd : D.dead with
 | true =>
  have e : D.free area = (D, 30) := by unfold Dk.free; rw [if_pos hd]
  rw [e]
  refine fin hT 4 rfl (th (ifT rfl (sq (rg ?_))))
  refine fin hT 1 rfl (th (rt (rT ?_)))
  exact ret1 rfl rfl ⟨rfl, _, rfl, ⟨bo, ho, ins, rfl, hO, hI⟩, rfl⟩
 | false =>
  refine cl hT 2 rfl (stepC b bo D (by have := o.steps; omega) o.left) ?_
  rintro v11 K11 hs11 ⟨rfl, rfl, rfl⟩
  cases hst : D.stp.dead with
  | true =>
   have e : D.free area = (D.stp, 30) := by unfold Dk.free; rw [if_neg (by rw [hd]; simp), if_pos hst]
   rw [e]
   refine fin hT 1 rfl (th (ifT rfl (sq (rg ?_))))
   refine fin hT 1 rfl (th (rt (rT ?_)))
   exact ret1 rfl rfl ⟨rfl, pt b (dkA D.stp bo) 108 :: ho :: insH ins, rfl, ⟨bo, ho, ins, rfl, hO, hI⟩, rfl⟩
  | false =>
   have e : D.free area = ({ D.stp with room := D.room + ((D.ar area).length : Int), areas := mdel area D.areas }, 0) := by unfold Dk.free; rw [if_neg (by rw [hd]; simp), if_neg (by rw [hst]; simp)]
   rw [e]
   refine fin hT 1 rfl (th (ifF rfl (sk (th ?_))))
   obtain ⟨bi, hA, tl, hAr, hperm⟩ := arH hI area hs
   have hmo := mget_insO hI hAr
   cases hbi : bi with
   | none =>
    rw [hbi] at hmo hAr
    rcases hAr with ⟨g1, _, rfl, g3⟩ | ⟨b', _, _, _, _, _, g1, _⟩
    ·have hl0 : D.ar area = [] := by unfold Dk.ar; rw [g1]; rfl
     refine sq (rga [pt b (dkA D.stp bo) 108, ho] 14 [0, 2, 4, 6, 8, 10, 12, 14, 16, 18, 20, 22, 24, 26, 29] (by simp) (by kernel_rfl) (by kernel_rfl) ?_)
     refine dldpw hT (by kernel_rfl) 3 0 (v := .int .i64 D.room) rfl (by kernel_rfl) rfl rfl ?_
     refine dldpw hT (by kernel_rfl) 3 0 rfl (by kernel_rfl) rfl rfl ?_
     refine dlkuw hT (by kernel_rfl) 1 (zv := .map none) area rfl (by kernel_rfl) rfl Tryz.underlying106 (by kernel_rfl) keyU rfl (.inr ⟨1, rfl⟩) hO ?_
     rw [hmo]
     refine dmlnw hT (by kernel_rfl) 0 rfl (by kernel_rfl) rfl Tryz.underlying113 ?_
     refine dar hT (by kernel_rfl) 0 rfl (v' := .int .i64 (D.room + ((D.ar area).length : Int))) (by rw [hl0]; exact i64w (by simp; omega)) ?_
     refine dact hT (by kernel_rfl) 2 rfl ?_
     refine stp hT 0 0 rfl rfl rfl rfl ?_
     refine dnext (.inl (by kernel_rfl)) ?_
     refine dend hT (by kernel_rfl) 0 rfl (th (sq (rg ?_)))
     refine ldp hT 3 0 rfl rfl rfl ?_
     refine mdl hT 1 1 area rfl rfl Tryz.underlying106 keyU rfl hO fun ho' hO' => ?_
     refine fin hT 0 rfl (th (sq (rg ?_)))
     refine fin hT 1 rfl (th (rt ?_))
     rw [mdel_none hmo] at hO'
     refine ret1 rfl rfl ⟨rfl, pt b (dkA { D.stp with room := D.room + ((D.ar area).length : Int), areas := mdel area D.areas } bo) 108 :: ho' :: insH ins, rfl, ⟨bo, ho', ins, rfl, hO', ?_⟩, rfl⟩
     show InsR K11 ins (mdel area D.areas)
     rw [mdel_none g1]; exact hI
    ·cases g1
   | some bi =>
    rw [hbi] at hmo hAr
    rcases hAr with ⟨_, g1, _⟩ | ⟨b', i1, mv, i2, q1, q2, g1, g2, g3, g4, g5, g6, hMv, hMR, rfl⟩
    ·cases g1
    ·cases g1
     have hp := (hperm (pt b (dkA D.stp bo) 108) ho).2 (by rw [hbi]; simp)
     refine WC.perm hp ?_
     refine sq (rga [pt b (dkA D.stp bo) 108, ho, hA] 14 [0, 2, 4, 6, 8, 10, 12, 14, 16, 18, 20, 22, 24, 26, 29] (by simp) (by kernel_rfl) (by kernel_rfl) ?_)
     refine dldpw hT (by kernel_rfl) 3 0 (v := .int .i64 D.room) rfl (by kernel_rfl) rfl rfl ?_
     refine dldpw hT (by kernel_rfl) 3 0 rfl (by kernel_rfl) rfl rfl ?_
     refine dlkuw hT (by kernel_rfl) 1 (zv := .map none) area rfl (by kernel_rfl) rfl Tryz.underlying106 (by kernel_rfl) keyU rfl (.inr ⟨1, rfl⟩) hO ?_
     rw [hmo]
     refine dmlw hT (by kernel_rfl) 0 rfl (by kernel_rfl) rfl Tryz.underlying113 (.inr ⟨2, rfl⟩) hMv ?_
     rw [hMR.len]
     refine dar hT (by kernel_rfl) 0 rfl (v' := .int .i64 (D.room + ((D.ar area).length : Int))) (i64w (by omega)) ?_
     refine dact hT (by kernel_rfl) 2 rfl ?_
     refine stp hT 0 1 rfl rfl rfl rfl ?_
     refine dnext (.inl (by kernel_rfl)) ?_
     refine dend hT (by kernel_rfl) 0 rfl (th (WC.drop (sq (rg ?_))))
     refine ldp hT 3 0 rfl rfl rfl ?_
     refine mdl hT 1 1 area rfl rfl Tryz.underlying106 keyU rfl hO fun ho' hO' => ?_
     refine fin hT 0 rfl (th (sq (rg ?_)))
     refine fin hT 1 rfl (th (rt ?_))
     refine ret1 rfl rfl ⟨rfl, pt b (dkA { D.stp with room := D.room + ((D.ar area).length : Int), areas := mdel area D.areas } bo) 108 :: ho' :: insH (i1 ++ i2), by simp [insH]; rfl, ⟨bo, ho', i1 ++ i2, rfl, ?_, ?_⟩, rfl⟩
     ·rw [g2] at hO'
      have h0 : area ∉ (insO i1).map (·.1) := by rw [insO_keys, insKeys g5]; exact g4
      have := mdel_at (u := bi) (q2 := insO i2) h0
      have h3 : insO (i1 ++ (area, bi, hA) :: i2) = insO i1 ++ (area, bi) :: insO i2 := by simp [insO]
      rw [h3, this] at hO'
      simpa [insO] using hO'
     ·show InsR K11 (i1 ++ i2) (mdel area D.areas)
      rw [g3, mdel_at g4]
      exact g5.app g6
end Go.Proofs.YtneeeblghijmgaaGreat
end
section
namespace Go.En
def synF (ks : List Int) (x : Int × Sec) : Int × Sec := if x.1 ∈ ks then (x.1, secS x.2) else x
theorem synF_key (ks : List Int) (x : Int × Sec) : (synF ks x).1 = x.1 := by unfold synF; split <;> rfl
theorem synF_keys (ks : List Int) (l : Ar) : (l.map (synF ks)).map (·.1) = l.map (·.1) := by
 rw [List.map_map]
 exact List.map_congr_left fun x _ => synF_key ks x
theorem synF_other {ks : List Int} {k : Int} {x : Int × Sec} (h : x.1 ≠ k) : synF (ks ++ [k]) x = synF ks x := by
 unfold synF
 by_cases e : x.1 ∈ ks
 ·rw [if_pos e, if_pos (by simp [e])]
 ·rw [if_neg e, if_neg (by simp [e, h])]
theorem syn_set {k : Int} {s : Sec} {ks : List Int} (hk : k ∉ ks) : ∀ {l : Ar}, (l.map (·.1)).Nodup -> (k, s) ∈ l.map (synF ks) -> mset k (secS s) (l.map (synF ks)) = l.map (synF (ks ++ [k]))
 | [], _, h => by simp at h
 | (j, t) :: l, hnd, h => by
  simp only [List.map_cons, List.nodup_cons] at hnd
  by_cases e : k = j
  ·subst e
   have hf : synF ks (k, t) = (k, t) := by unfold synF; rw [if_neg hk]
   have hf2 : synF (ks ++ [k]) (k, t) = (k, secS t) := by unfold synF; rw [if_pos (by simp)]
   have hst : s = t := by
    rw [List.map_cons, List.mem_cons, hf] at h
    rcases h with h | h
    ·exact (Prod.mk.injEq _ _ _ _ ▸ h).2
    ·exfalso
     obtain ⟨x, hx, hxe⟩ := List.mem_map.1 h
     have : x.1 = k := by rw [<- synF_key ks x, hxe]
     exact hnd.1 (List.mem_map.2 ⟨x, hx, this⟩)
   subst hst
   rw [List.map_cons, hf, List.map_cons, hf2]
   simp only [mset, if_true]
   congr 1
   exact List.map_congr_left fun x hx => (synF_other (fun h => hnd.1 (List.mem_map.2 ⟨x, hx, h⟩))).symm
  ·have hj : (synF ks (j, t)).1 = j := synF_key ks _
   have h2 : (k, s) ∈ l.map (synF ks) := by
    rw [List.map_cons, List.mem_cons] at h
    rcases h with h | h
    ·exact absurd (by rw [<- h] at hj; exact hj) e
    ·exact h
   rw [List.map_cons, List.map_cons, synF_other (by exact fun h => e h.symm)]
   cases hq : synF ks (j, t) with
   | mk a b =>
    rw [hq] at hj
    dsimp only at hj
    subst hj
    simp only [mset, e, if_false]
    rw [syn_set hk hnd.2 h2]
theorem syn_all {ks : List Int} {l : Ar} (h : ∀ x ∈ l, x.1 ∈ ks) : l.map (synF ks) = l.map fun x => (x.1, secS x.2) :=
 List.map_congr_left fun x hx => by unfold synF; rw [if_pos (h x hx)]
def todoK : Ar -> List Int -> Nat
 | [], _ => 0
 | x :: l, ks => (if x.1 ∈ ks then 0 else 1) + todoK l ks
theorem todo_le (ks : List Int) (k : Int) : ∀ l : Ar, todoK l (ks ++ [k]) <= todoK l ks
 | [] => Nat.le_refl _
 | x :: l => by
  have := todo_le ks k l
  simp only [todoK]
  by_cases e : x.1 ∈ ks
  ·rw [if_pos e, if_pos (by simp [e])]; omega
  ·rw [if_neg e]; split <;> omega
theorem todo_lt {ks : List Int} {k : Int} (hk : k ∉ ks) : ∀ {l : Ar}, k ∈ l.map (·.1) -> todoK l (ks ++ [k]) < todoK l ks
 | [], h => by simp at h
 | x :: l, h => by
  simp only [todoK]
  by_cases e : x.1 = k
  ·have := todo_le ks k l
   rw [if_pos (by simp [e]), if_neg (by rw [e]; exact hk)]
   omega
  ·have h2 : k ∈ l.map (·.1) := by
    rw [List.map_cons, List.mem_cons] at h
    rcases h with h | h
    ·exact absurd h.symm e
    ·exact h
   have := todo_lt hk h2
   by_cases e1 : x.1 ∈ ks
   ·rw [if_pos e1, if_pos (by simp [e1])]; omega
   ·rw [if_neg e1, if_neg (by simp [e1, e])]; omega
end Go.En
namespace Go.Proofs.YtneeeblghijmgaaGreat
open Go.En
attribute [local irreducible] Code.wp wpList Calls
theorem syncC {w0 : World} {K : PH} {hs m : List PH} (b : Nat) (D : Dk) (c : Nat) (o : D.Ok c) (hc : c <= 1099511627) (hm : DskM K b D m) (area : Int) :
  Ct Tryz.prog w0 125 [.pointer (some ⟨b, 0, none⟩), .int .u64 area] K (m ++ hs)
   (fun v K' hs' => K' = K /\ ∃ m', hs' = m' ++ hs /\ DskM K b (D.sync area).1 m' /\ v = .int .i64 (D.sync area).2) := by
 obtain ⟨bo, ho, ins, rfl, hO, hI⟩ := hm
 have hr := o.room
 refine enter Tryz.func125 (by kernel_rfl) rfl rfl rfl ?_
 refine sq (rg ?_)
 refine fin hT 1 rfl (th (sq (sq (rg ?_))))
 refine ldp hT 3 0 (v := .bool D.dead) rfl rfl rfl ?_
 cases hd : D.dead with
 | true =>
  have e : D.sync area = (D, 30) := by unfold Dk.sync; rw [if_pos hd]
  rw [e]
  refine fin hT 4 rfl (th (ifT rfl (sq (rg ?_))))
  refine fin hT 1 rfl (th (rt (rT ?_)))
  exact ret1 rfl rfl ⟨rfl, _, rfl, ⟨bo, ho, ins, rfl, hO, hI⟩, rfl⟩
 | false =>
  refine cl hT 2 rfl (stepC b bo D (by have := o.steps; omega) o.left) ?_
  rintro v11 K11 hs11 ⟨rfl, rfl, rfl⟩
  cases hst : D.stp.dead with
  | true =>
   have e : D.sync area = (D.stp, 30) := by unfold Dk.sync; rw [if_neg (by rw [hd]; simp), if_pos hst]
   rw [e]
   refine fin hT 1 rfl (th (ifT rfl (sq (rg ?_))))
   refine fin hT 1 rfl (th (rt (rT ?_)))
   exact ret1 rfl rfl ⟨rfl, pt b (dkA D.stp bo) 108 :: ho :: insH ins, rfl, ⟨bo, ho, ins, rfl, hO, hI⟩, rfl⟩
  | false =>
   have e : D.sync area = ({ D.stp with areas := D.synA area }, 0) := by unfold Dk.sync; rw [if_neg (by rw [hd]; simp), if_neg (by rw [hst]; simp)]
   rw [e]
   refine fin hT 1 rfl (th (ifF rfl (sk (th ?_))))
   obtain ⟨bi, hA, tl, hAr, hperm⟩ := arH hI area hs
   have hmo := mget_insO hI hAr
   cases hbi : bi with
   | none =>
    rw [hbi] at hmo hAr
    rcases hAr with ⟨g1, _, rfl, g3⟩ | ⟨b', _, _, _, _, _, g1, _⟩
    ·refine sq (sq (rg ?_))
     refine ldp hT 3 0 rfl rfl rfl ?_
     refine lku hT 1 (z := .map none) area rfl Tryz.underlying106 (by kernel_rfl) keyU rfl (.inr ⟨1, rfl⟩) hO ?_
     rw [hmo]
     refine mrgn hT 0 rfl Tryz.underlying113 fun r => ?_
     refine fin hT 0 rfl (th (bk ?_))
     refine loop (σ := Unit) (fun _ => [(21, .pointer (some ⟨r, 0, none⟩))]) (fun _ => K11) (fun _ => sg r (.mapIter none 0 #[] 0) :: pt b (dkA D.stp bo) 108 :: ho :: (insH ins ++ hs)) (fun _ => True) (fun _ => 0) () trivial ⟨rfl, trivial⟩ rfl rfl ?_
     rintro - -
     refine sq (rg ?_)
     refine mnxn hT 0 rfl (.inr ⟨0, rfl⟩) ?_
     refine fin hT 1 rfl (th (sq (ifF rfl ?_)))
     refine ex (xt (xt (xb (th (sq (rg ?_))))))
     refine fin hT 1 rfl (th (rt (WQ.drop ?_)))
     refine ret1 rfl rfl ⟨rfl, pt b (dkA D.stp bo) 108 :: ho :: insH ins, rfl, ⟨bo, ho, ins, rfl, hO, ?_⟩, rfl⟩
     show InsR K11 ins (D.synA area)
     unfold Dk.synA
     rw [g1]; exact hI
    ·cases g1
   | some bi =>
    rw [hbi] at hmo hAr
    rcases hAr with ⟨_, g1, _⟩ | ⟨b', i1, mv, i2, q1, q2, g1, g2, g3, g4, g5, g6, hMv, hMR, rfl⟩
    ·cases g1
    ·cases g1
     have hp := (hperm (pt b (dkA D.stp bo) 108) ho).2 (by rw [hbi]; simp)
     have hnd := (o.arNodup area).1
     have hga : mget area D.areas = some (D.ar area) := by rw [g3]; exact mget_at g4
     refine WC.perm hp ?_
     refine sq (sq (rg ?_))
     refine ldp hT 3 1 rfl rfl rfl ?_
     refine lku hT 1 (z := .map none) area rfl Tryz.underlying106 (by kernel_rfl) keyU rfl (.inr ⟨2, rfl⟩) hO ?_
     rw [hmo]
     refine mrg hT 0 rfl Tryz.underlying113 (.inr ⟨0, rfl⟩) hMv fun r hi hI0 => ?_
     refine fin hT 0 rfl (th (bk ?_))
     refine loop (σ := PH × PH × List (Int × Value) × List Int) (fun _ => [(0, .pointer (some ⟨b, 0, none⟩)), (1, .int .u64 area), (21, .pointer (some ⟨r, 0, none⟩))]) (fun _ => K11)
      (fun s => s.1 :: s.2.1 :: pt b (dkA D.stp bo) 108 :: ho :: (insH i1 ++ (insH i2 ++ hs))) (fun s => MpI encI id s.2.1 s.1 bi r s.2.2.1 s.2.2.2 /\ MR (SecR K11) s.2.2.1 ((D.ar area).map (synF s.2.2.2))) (fun s => todoK (D.ar area) s.2.2.2)
      (hi, hA, mv, []) ⟨hI0, by rw [show (D.ar area).map (synF []) = D.ar area from by rw [List.map_congr_left (g := id) (fun x _ => by simp [synF])]; simp]; exact hMR⟩ ⟨rfl, rfl, rfl, trivial⟩ rfl rfl ?_
     rintro ⟨hi, hA, mv, ks⟩ ⟨hJ, hR⟩
     dsimp only at *
     have hkeys : mv.map (·.1) = (D.ar area).map (·.1) := by rw [hR.keys, synF_keys]
     refine sq (rg ?_)
     refine mnx hT 0 0 rfl (.inr ⟨1, rfl⟩) rfl hJ (by rw [hkeys]; exact hnd) (fun k v hi' hmem hnk hS => ?_) (fun hall => ?_)
     ·obtain ⟨s, hsm, ao, cv, rfl, hV⟩ := hR.mem hmem
      have hkm : k ∈ (D.ar area).map (·.1) := by rw [<- hkeys]; exact List.mem_map.2 ⟨_, hmem, rfl⟩
      have hs2 : (k, s) ∈ D.ar area := by
       obtain ⟨x, hx, hxe⟩ := List.mem_map.1 hsm
       have hx1 : x.1 = k := by rw [<- synF_key ks x, hxe]
       have : synF ks x = x := by unfold synF; rw [if_neg (by rw [hx1]; exact hnk)]
       rw [this] at hxe
       rw [<- hxe]; exact hx
      obtain ⟨l0, hl1, hl2⟩ := Dk.ar_mem _ hs2
      rw [hl2] at hs2
      obtain ⟨v1, v2, _⟩ := o.vs _ hl1 _ hs2
      replace v2 : s.vs.length <= c := v2
      replace v1 : s.vs ≠ [] := v1
      have hlen : 0 < s.vs.length := by
       rcases Nat.eq_zero_or_pos s.vs.length with h | h
       ·exact absurd (List.eq_nil_of_length_eq_zero h) v1
       ·exact h
      have hlast : ((tvv s.vs).drop ((s.vs.length - 1) * 1)).take (1 * 1) = tvv [s.vs.getLastD []] := by
       unfold tvv
       have hdr : s.vs.drop (s.vs.length - 1) = [s.vs.getLast v1] := by
        rw [List.drop_eq_getElem_cons (by omega), List.getLast_eq_getElem, List.drop_of_length_le (by omega)]
       rw [Nat.mul_one, Nat.mul_one, <- List.map_drop, <- List.map_take, hdr]
       rw [List.getLastD_eq_getLast?, List.getLast?_eq_some_getLast v1]
       rfl
      have hcut := hV.cut (s.vs.length - 1) 1 (by omega) hlast
      refine fin hT 1 rfl (th (sq (ifT rfl (sk (th (bk (sq (rg ?_))))))))
      refine men hT 0 rfl (.inr ⟨1, rfl⟩) (.inr ⟨0, rfl⟩) hS ?_
      refine al hT 2 (.agg #[.slice none 0 0, .bool false]) rfl (by kernel_rfl) fun b6 => ?_
      refine stS hT 1 0 rfl rfl (by kernel_rfl) rfl rfl ?_
      refine fin hT 0 rfl (th (rga [pt b (dkA D.stp bo) 108, ho, pt b6 #[.slice ao s.vs.length cv, .bool s.syn] 120] 16 [0, 2, 4, 6, 8, 10, 12, 14, 16, 18, 20, 22, 24, 26, 28, 31] (by simp) (by kernel_rfl) (by kernel_rfl) ?_))
      refine dldp hT (by kernel_rfl) 3 0 rfl rfl rfl ?_
      refine dlku hT (by kernel_rfl) 1 (zv := .map none) area rfl Tryz.underlying106 (by kernel_rfl) keyU rfl (.inr ⟨1, rfl⟩) hO ?_
      rw [hmo]
      refine dldp hT (by kernel_rfl) 2 2 rfl rfl rfl ?_
      refine dldp hT (by kernel_rfl) 1 2 rfl rfl rfl ?_
      refine dar hT (by kernel_rfl) 1 rfl (v' := .int .i64 ((s.vs.length - 1 : Nat) : Int)) (by rw [show ((s.vs.length : Nat) : Int) - 1 = ((s.vs.length - 1 : Nat) : Int) from by omega]; exact i64w (by omega)) ?_
      refine dslx hT (by kernel_rfl) 0 (s.vs.length - 1) 1 rfl rfl rfl (by simp; omega) (by have := hV.2.1; omega) ?_
      refine dbd hT (by kernel_rfl) 0 (.agg #[.slice (cutA ao cv (s.vs.length - 1) 1) 1 (cv - (s.vs.length - 1)), .bool true]) rfl (fun w => by kernel_rfl) ?_
      refine dact hT (by kernel_rfl) 0 rfl ?_
      refine mpuI hT 0 2 k (.agg #[.slice (cutA ao cv (s.vs.length - 1) 1) 1 (cv - (s.vs.length - 1)), .bool true]) rfl rfl Tryz.underlying113 keyI rfl rfl hS.1 ?_ fun hA2 hJ2 => ?_
      ·cases hg : mget k mv with
       | some u => rfl
       | none => exact absurd (List.mem_map.2 ⟨_, hmem, rfl⟩) (mget_none.1 hg)
      refine dnex [pt b (dkA D.stp bo) 108, ho, pt b6 #[.slice ao s.vs.length cv, .bool s.syn] 120] (by simp) (by simp) rfl ?_
      refine dend hT (by kernel_rfl) 0 rfl (bl (WQ.drop ?_))
      refine again (x := (hi, hA, mv, ks)) (hi', hA2, mset k _ mv, ks ++ [k]) ⟨rfl, rfl, rfl, trivial⟩ rfl rfl ⟨hJ2, ?_⟩ (todo_lt hnk hkm)
      dsimp only
      rw [<- syn_set hnk hnd hsm]
      exact hR.set ⟨_, _, rfl, hcut⟩
     ·refine fin hT 1 rfl (th (sq (ifF rfl ?_)))
      refine ex (xt (xt (xb (th (sq (rg ?_))))))
      refine fin hT 1 rfl (th (rt (WQ.drop ?_)))
      have hall2 : ∀ x ∈ D.ar area, x.1 ∈ ks := fun x hx => by
       have : x.1 ∈ mv.map (·.1) := by rw [hkeys]; exact List.mem_map.2 ⟨x, hx, rfl⟩
       obtain ⟨y, hy, hye⟩ := List.mem_map.1 this
       rw [<- hye]; exact hall y hy
      have hm' : DskM K11 b { D.stp with areas := D.synA area } (pt b (dkA D.stp bo) 108 :: ho :: insH (i1 ++ (area, bi, hA) :: i2)) := by
       refine ⟨bo, ho, i1 ++ (area, bi, hA) :: i2, rfl, ?_, ?_⟩
       ·rw [g2] at hO; simpa [insO] using hO
       ·show InsR K11 _ (D.synA area)
        unfold Dk.synA
        rw [hga]
        dsimp only
        rw [show mset area ((D.ar area).map fun x => (x.1, secS x.2)) D.areas = q1 ++ (area, (D.ar area).map fun x => (x.1, secS x.2)) :: q2 from by
         conv => lhs; rw [g3]
         exact mset_at g4]
        rw [syn_all hall2] at hR
        exact g5.app ⟨rfl, ⟨_, hJ.map, hR⟩, g6⟩
      refine WQ.perm ?_ (ret1 rfl rfl ⟨rfl, _, rfl, hm', rfl⟩)
      unfold insH
      rw [List.map_append, List.map_cons, List.cons_append, List.cons_append, List.append_assoc, List.cons_append]
      exact ((List.Perm.swap (pt b (dkA D.stp bo) 108) hA _).trans (((List.Perm.swap ho hA _).trans (List.perm_middle.symm.cons ho)).cons _))
end Go.Proofs.YtneeeblghijmgaaGreat
end
section
namespace Go.En
def swp (i j : Nat) (xs : List Nat) : List Nat := (xs.set i (xs.getD j 0)).set j (xs.getD i 0)
theorem swp_len (i j : Nat) (xs : List Nat) : (swp i j xs).length = xs.length := by simp [swp]
theorem swp_get {i j : Nat} {xs : List Nat} (hi : i < xs.length) (hj : j < xs.length) (k : Nat) : (swp i j xs)[k]? = if k = j then some (xs.getD i 0) else if k = i then some (xs.getD j 0) else xs[k]? := by
 unfold swp
 rw [List.getElem?_set]
 by_cases e1 : j = k
 ·rw [if_pos e1, if_pos e1.symm, if_pos (by simpa using hj)]
 ·rw [if_neg e1, if_neg (Ne.symm e1), List.getElem?_set]
  by_cases e2 : i = k
  ·rw [if_pos e2, if_pos e2.symm, if_pos (by omega)]
  ·rw [if_neg e2, if_neg (Ne.symm e2)]
structure SegP (a b : Nat) (xs ys : List Nat) : Prop where
 len : ys.length = xs.length
 out : ∀ i, i < a \/ b <= i -> ys[i]? = xs[i]?
 perm : ys.Perm xs
theorem SegP.refl (a b : Nat) (xs : List Nat) : SegP a b xs xs := ⟨rfl, fun _ _ => rfl, List.Perm.refl _⟩
theorem SegP.trans {a b : Nat} {xs ys zs : List Nat} (h : SegP a b xs ys) (g : SegP a b ys zs) : SegP a b xs zs :=
 ⟨g.len.trans h.len, fun i hi => (g.out i hi).trans (h.out i hi), g.perm.trans h.perm⟩
theorem SegP.wide {a b c d : Nat} {xs ys : List Nat} (h : SegP a b xs ys) (h1 : c <= a) (h2 : b <= d) : SegP c d xs ys :=
 ⟨h.len, fun i hi => h.out i (by omega), h.perm⟩
theorem swp_perm {i j : Nat} {xs : List Nat} (hi : i < xs.length) (hj : j < xs.length) : (swp i j xs).Perm xs := by
 rw [List.perm_iff_count]
 intro v
 unfold swp
 have hgi : xs.getD i 0 = xs[i] := by rw [List.getD_eq_getElem?_getD, List.getElem?_eq_getElem hi]; rfl
 have hgj : xs.getD j 0 = xs[j] := by rw [List.getD_eq_getElem?_getD, List.getElem?_eq_getElem hj]; rfl
 rw [hgi, hgj, List.count_set (by simpa using hj), List.count_set hi]
 by_cases e : i = j
 ·subst e
  simp
  by_cases h : xs[i] = v
  ·have : 0 < List.count v xs := List.count_pos_iff.2 (by rw [<- h]; exact List.getElem_mem hi)
   simp [h]; omega
  ·simp [h]
 ·have h3 : (xs.set i xs[j])[j]'(by simpa using hj) = xs[j] := by rw [List.getElem_set_ne (fun h => e h)]
  rw [h3]
  have c1 : (if (xs[i] == v) = true then 1 else 0) <= List.count v xs := by
   split
   ·rename_i h
    have h := eq_of_beq h
    exact List.count_pos_iff.2 (by rw [<- h]; exact List.getElem_mem hi)
   ·exact Nat.zero_le _
  omega
theorem SegP.swp {a b i j : Nat} {xs : List Nat} (h1 : a <= i /\ i < b) (h2 : a <= j /\ j < b) (hb : b <= xs.length) : SegP a b xs (swp i j xs) :=
 ⟨swp_len i j xs, fun k hk => by rw [swp_get (by omega) (by omega), if_neg (by omega), if_neg (by omega)], swp_perm (by omega) (by omega)⟩
def Srt (a b : Nat) (xs : List Nat) : Prop := ∀ i j, a <= i -> i < j -> j < b -> xs.getD i 0 <= xs.getD j 0
def uvv (l : List Nat) : List Value := l.map fun x => Value.int .u64 ((x : Nat) : Int)
def uA (pre : List Value) (xs : List Nat) (post : List Value) : Array Value := (pre ++ uvv xs ++ post).toArray
theorem uA_get {pre : List Value} {xs : List Nat} {post : List Value} {i : Nat} (h : i < xs.length) : (uA pre xs post)[pre.length + i]? = some (.int .u64 ((xs.getD i 0 : Nat) : Int)) := by
 unfold uA
 rw [List.getElem?_toArray, List.append_assoc, List.getElem?_append_right (by omega), Nat.add_sub_cancel_left, List.getElem?_append_left (by simpa [uvv] using h)]
 simp [uvv, h, List.getD_eq_getElem?_getD]
theorem uA_set {pre : List Value} {xs : List Nat} {post : List Value} {i v : Nat} (h : i < xs.length) : (uA pre xs post).setIfInBounds (pre.length + i) (.int .u64 ((v : Nat) : Int)) = uA pre (xs.set i v) post := by
 unfold uA
 rw [List.setIfInBounds_toArray, List.append_assoc, List.set_append_right _ _ (by omega), Nat.add_sub_cancel_left, List.set_append_left _ _ (by simpa [uvv] using h)]
 simp [uvv]
theorem uA_isS {g e : Nat} {pre : List Value} {xs : List Nat} {post : List Value} {cap : Nat} (hc : xs.length <= cap) : IsS (pt g (uA pre xs post) e) (some ⟨g, pre.length, none⟩) xs.length cap 1 (uvv xs) := by
 refine ⟨by simp [uvv], hc, fun j u hu => ⟨_, rfl, ?_⟩⟩
 have hj : j < xs.length := by
  have := (List.getElem?_eq_some_iff.1 hu).1
  simpa [uvv] using this
 rw [add_mk]
 refine Cell.pt ?_
 rw [uA_get hj]
 simp [uvv, hj] at hu
 rw [<- hu]
 simp [List.getD_eq_getElem?_getD, hj]
end Go.En
end
section
namespace Go.En
def InvI (a i j : Nat) (xs : List Nat) : Prop := ∀ p q, a <= p -> p < q -> q <= i -> q ≠ j -> xs.getD p 0 <= xs.getD q 0
theorem InvI.start {a i : Nat} {xs : List Nat} (h : Srt a i xs) : InvI a i i xs := fun p q h1 h2 h3 h4 => h p q h1 h2 (by omega)
theorem InvI.done {a i : Nat} {xs : List Nat} (h : InvI a i a xs) : Srt a (i + 1) xs := fun p q h1 h2 h3 => h p q h1 h2 (by omega) (by omega)
theorem InvI.stop {a i j : Nat} {xs : List Nat} (h : InvI a i j xs) (hj : a < j) (hle : xs.getD (j - 1) 0 <= xs.getD j 0) : Srt a (i + 1) xs := fun p q h1 h2 h3 => by
 by_cases e : q = j
 ·subst e
  by_cases e2 : p = q - 1
  ·subst e2; exact hle
  ·exact Nat.le_trans (h p (q - 1) h1 (by omega) (by omega) (by omega)) hle
 ·exact h p q h1 h2 (by omega) e
theorem swp_getD {i j : Nat} {xs : List Nat} (hi : i < xs.length) (hj : j < xs.length) (k : Nat) : (swp i j xs).getD k 0 = if k = j then xs.getD i 0 else if k = i then xs.getD j 0 else xs.getD k 0 := by
 rw [List.getD_eq_getElem?_getD, swp_get hi hj]
 split
 ·rfl
 ·split
  ·rfl
  ·rw [List.getD_eq_getElem?_getD]
theorem InvI.swap {a i j : Nat} {xs : List Nat} (h : InvI a i j xs) (hj : a < j) (hi : j <= i) (hl : i < xs.length) (hlt : xs.getD j 0 < xs.getD (j - 1) 0) : InvI a i (j - 1) (swp j (j - 1) xs) := fun p q h1 h2 h3 h4 => by
 rw [swp_getD (by omega) (by omega), swp_getD (by omega) (by omega)]
 rw [if_neg h4]
 by_cases e1 : q = j
 ·rw [if_pos e1]
  by_cases e2 : p = j - 1
  ·rw [if_pos e2]; omega
  ·rw [if_neg e2, if_neg (by omega)]
   exact h p (j - 1) h1 (by omega) (by omega) (by omega)
 ·rw [if_neg e1]
  by_cases e2 : p = j - 1
  ·rw [if_pos e2]
   exact h j q (by omega) (by omega) h3 e1
  ·rw [if_neg e2]
   by_cases e3 : p = j
   ·rw [if_pos e3]
    exact h (j - 1) q (by omega) (by omega) h3 e1
   ·rw [if_neg e3]
    exact h p q h1 h2 h3 e1
theorem Srt.zero (a : Nat) (xs : List Nat) : Srt a (a + 1) xs := fun i j h1 h2 h3 => by omega
end Go.En
namespace Go.Proofs.YtneeeblghijmgaaGreat
open Go.En
attribute [local irreducible] Code.wp wpList Calls
theorem nanC {w0 : World} {K : PH} {hs : List PH} (x : Nat) : Ct Tryz.prog w0 188 [.int .u64 ((x : Nat) : Int)] K hs (fun v K' hs' => K' = K /\ hs' = hs /\ v = .bool false) := by
 refine enter Tryz.func188 (by kernel_rfl) rfl rfl rfl ?_
 refine sq (rg ?_)
 refine fin hT 1 rfl (th (sq (rg ?_)))
 refine cmp hT 2 rfl (fun h => absurd rfl h) (fun h => ?_)
 refine fin hT 1 rfl (th (rt ?_))
 exact ret1 rfl rfl ⟨rfl, rfl, rfl⟩
theorem lessC {w0 : World} {K : PH} {hs : List PH} (x y : Nat) : Ct Tryz.prog w0 174 [.int .u64 ((x : Nat) : Int), .int .u64 ((y : Nat) : Int)] K hs (fun v K' hs' => K' = K /\ hs' = hs /\ v = .bool (decide (x < y))) := by
 refine enter Tryz.func174 (by kernel_rfl) rfl rfl rfl ?_
 refine sq (rg ?_)
 refine fin hT 1 rfl (th (sq (rg ?_)))
 refine cl hT 1 rfl (nanC x) ?_
 rintro v6 K6 hs6 ⟨rfl, rfl, rfl⟩
 by_cases h : x < y
 ·refine cmp hT 8 rfl (fun h15 => ?_) (fun h15 => absurd (by omega) h15)
  refine fin hT 2 rfl (th (rt ?_))
  exact ret1 rfl rfl ⟨rfl, rfl, by rw [decide_eq_true h]⟩
 ·refine cmp hT 8 rfl (fun h15 => absurd h15 (by omega)) (fun h15 => ?_)
  refine fin hT 2 rfl (th (rt ?_))
  exact ret1 rfl rfl ⟨rfl, rfl, by rw [decide_eq_false h]⟩
theorem insC {w0 : World} {K : PH} {hs : List PH} (g cap : Nat) (pre post : List Value) (xs : List Nat) (a b : Nat) (hab : a <= b) (hb : b <= xs.length) (hc : xs.length <= cap) (hl : xs.length <= 1099511627776) :
  Ct Tryz.prog w0 168 [.slice (some ⟨g, pre.length, none⟩) xs.length cap, .int .i64 ((a : Nat) : Int), .int .i64 ((b : Nat) : Int)] K (pt g (uA pre xs post) 23 :: hs)
   (fun v K' hs' => K' = K /\ ∃ ys, hs' = pt g (uA pre ys post) 23 :: hs /\ SegP a b xs ys /\ Srt a b ys) := by
 refine enter Tryz.func168 (by kernel_rfl) rfl rfl rfl ?_
 refine sq (rg ?_)
 refine ar hT 1 rfl (i64w (x := ((a + 1 : Nat) : Int)) (by omega)) ?_
 refine fin hT 1 rfl (th (bk ?_))
 refine loop (σ := Nat × List Nat) (fun s => [(0, .slice (some ⟨g, pre.length, none⟩) xs.length cap), (1, .int .i64 ((a : Nat) : Int)), (2, .int .i64 ((b : Nat) : Int)), (6, .int .i64 ((s.1 : Nat) : Int))]) (fun _ => K) (fun s => pt g (uA pre s.2 post) 23 :: hs)
  (fun s => a + 1 <= s.1 /\ (s.1 <= b \/ s.1 = a + 1) /\ SegP a b xs s.2 /\ Srt a s.1 s.2) (fun s => b - s.1) (a + 1, xs) ⟨Nat.le_refl _, .inr rfl, SegP.refl _ _ _, Srt.zero _ _⟩ ⟨rfl, rfl, rfl, rfl, trivial⟩ rfl rfl ?_
 rintro ⟨i, ys⟩ ⟨hi1, hi2, hP, hS⟩
 dsimp only at *
 refine sq (sq (rg ?_))
 refine cmpS hT 2 rfl fun b12 h12 => ?_
 refine fin hT 0 rfl (th (ifP h12 rfl (fun e2 => ?_) (fun e2 => ?_)))
 ·have hib : i < b := by omega
  refine sk (th (sq (bk (sq (rg ?_)))))
  refine fin hT 2 rfl (th (bk ?_))
  refine loop (σ := Nat × List Nat) (fun s => [(0, .slice (some ⟨g, pre.length, none⟩) xs.length cap), (1, .int .i64 ((a : Nat) : Int)), (2, .int .i64 ((b : Nat) : Int)), (6, .int .i64 ((i : Nat) : Int)), (7, .int .i64 ((s.1 : Nat) : Int))]) (fun _ => K) (fun s => pt g (uA pre s.2 post) 23 :: hs)
   (fun s => a <= s.1 /\ s.1 <= i /\ SegP a b xs s.2 /\ InvI a i s.1 s.2) (fun s => s.1) (i, ys) ⟨by omega, Nat.le_refl _, hP, InvI.start hS⟩ ⟨rfl, rfl, rfl, rfl, rfl, trivial⟩ rfl rfl ?_
  rintro ⟨j, zs⟩ ⟨hj1, hj2, hQ, hV⟩
  dsimp only at *
  have hzl : zs.length = xs.length := hQ.len
  refine sq (sq (rga [pt g (uA pre zs post) 23] 15 [0, 2, 4, 6, 8, 10, 12, 14, 16, 18, 20, 22, 24, 27, 28] (by simp) (by kernel_rfl) (by kernel_rfl) ?_))
  refine dcmp hT (by kernel_rfl) 2 (a < j) rfl (by simp) (fun h3 => ?_) (fun h3 => ?_)
  ·refine dixs hT (by kernel_rfl) 3 j rfl rfl (by omega) ?_
   simp only [add_mk, Nat.mul_one]
   refine dldp hT (by kernel_rfl) 0 0 rfl rfl (uA_get (by omega)) ?_
   refine dar hT (by kernel_rfl) 2 rfl (v' := .int .i64 ((j - 1 : Nat) : Int)) (by rw [show ((j : Nat) : Int) - 1 = ((j - 1 : Nat) : Int) from by omega]; exact i64w (by omega)) ?_
   refine dixs hT (by kernel_rfl) 0 (j - 1) rfl rfl (by omega) ?_
   simp only [add_mk, Nat.mul_one]
   refine dldp hT (by kernel_rfl) 0 0 rfl rfl (uA_get (by omega)) ?_
   refine dact hT (by kernel_rfl) 0 rfl ?_
   refine cl hT 0 rfl (lessC (zs.getD j 0) (zs.getD (j - 1) 0)) ?_
   rintro v29 K29 hs29 ⟨rfl, rfl, rfl⟩
   refine dnex [pt g (uA pre zs post) 23] (by simp) (by simp) rfl ?_
   by_cases hlt : zs.getD j 0 < zs.getD (j - 1) 0
   ·rw [decide_eq_true hlt]
    refine dend hT (by kernel_rfl) 1 rfl (th (ifT rfl ?_))
    have hgj : (uA pre zs post)[pre.length + j]? = some (.int .u64 ((zs.getD j 0 : Nat) : Int)) := uA_get (by omega)
    have hgj1 : (uA pre zs post)[pre.length + (j - 1)]? = some (.int .u64 ((zs.getD (j - 1) 0 : Nat) : Int)) := uA_get (by omega)
    have hgj2 : (uA pre (zs.set j (zs.getD (j - 1) 0)) post)[pre.length + (j - 1)]? = some (.int .u64 (((zs.set j (zs.getD (j - 1) 0)).getD (j - 1) 0 : Nat) : Int)) := uA_get (by rw [List.length_set]; omega)
    refine sk (th (sq (bk (rga [pt g (uA pre zs post) 23] 15 [0, 2, 4, 6, 8, 10, 12, 14, 16, 18, 20, 22, 24, 26, 28, 31, 32, 35] (by simp) (by kernel_rfl) (by kernel_rfl) ?_))))
    refine dar hT (by kernel_rfl) 4 rfl (v' := .int .i64 ((j - 1 : Nat) : Int)) (by rw [show ((j : Nat) : Int) - 1 = ((j - 1 : Nat) : Int) from by omega]; exact i64w (by omega)) ?_
    refine dar hT (by kernel_rfl) 2 rfl (v' := .int .i64 ((j - 1 : Nat) : Int)) (by rw [show ((j : Nat) : Int) - 1 = ((j - 1 : Nat) : Int) from by omega]; exact i64w (by omega)) ?_
    refine dixs hT (by kernel_rfl) 0 (j - 1) rfl rfl (by omega) ?_
    simp only [add_mk, Nat.mul_one]
    refine dldpw hT (by kernel_rfl) 0 0 rfl (by kernel_rfl) rfl hgj1 ?_
    refine dixs hT (by kernel_rfl) 2 j rfl rfl (by omega) ?_
    simp only [add_mk, Nat.mul_one]
    refine dldpw hT (by kernel_rfl) 0 0 rfl (by kernel_rfl) rfl hgj ?_
    refine dixs hT (by kernel_rfl) 0 j rfl rfl (by omega) ?_
    simp only [add_mk, Nat.mul_one]
    refine dact hT (by kernel_rfl) 0 rfl ?_
    refine stp hT 0 0 rfl rfl hgj rfl ?_
    refine dnext (.inl (by kernel_rfl)) ?_
    refine dixs hT (by kernel_rfl) 0 (j - 1) rfl rfl (by omega) ?_
    simp only [add_mk, Nat.mul_one]
    refine dact hT (by kernel_rfl) 0 rfl ?_
    refine WL.hs (pt g (uA pre (zs.set j (zs.getD (j - 1) 0)) post) 23 :: hs) (congrArg (fun z => pt g z 23 :: hs) (uA_set (by omega))) ?_
    refine stp hT 0 0 rfl rfl hgj2 rfl ?_
    refine dnext (.inl (by kernel_rfl)) ?_
    refine dend hT (by kernel_rfl) 0 rfl (bl (th (rg ?_)))
    refine ar hT 1 rfl (v' := .int .i64 ((j - 1 : Nat) : Int)) (by rw [show ((j : Nat) : Int) - 1 = ((j - 1 : Nat) : Int) from by omega]; exact i64w (by omega)) ?_
    refine fin hT 1 rfl ?_
    exact again (x := (j, zs)) (j - 1, swp j (j - 1) zs) ⟨rfl, rfl, rfl, rfl, rfl, trivial⟩ rfl (congrArg (fun z => pt g z 23 :: hs) (uA_set (by rw [List.length_set]; omega))) ⟨by omega, by omega, hQ.trans (SegP.swp ⟨by omega, by omega⟩ ⟨by omega, by omega⟩ (by omega)), hV.swap h3 hj2 (by omega) hlt⟩ (by dsimp only; omega)
   ·rw [decide_eq_false hlt]
    have hdone : Srt a (i + 1) zs := hV.stop h3 (by omega)
    refine dend hT (by kernel_rfl) 1 rfl (th (ifF rfl ?_))
    refine ex (xt (xt (xb (bl (th (rg ?_))))))
    refine ar hT 1 rfl (i64w (x := ((i + 1 : Nat) : Int)) (by omega)) ?_
    refine fin hT 1 rfl ?_
    exact again (x := (i, ys)) (i + 1, zs) ⟨rfl, rfl, rfl, rfl, trivial⟩ rfl rfl ⟨by omega, .inl (by omega), hQ, hdone⟩ (by dsimp only; omega)
  ·obtain rfl : j = a := by omega
   have hdone : Srt j (i + 1) zs := hV.done
   refine dact hT (by kernel_rfl) 10 rfl ?_
   refine WL.pures hT 1 rfl ?_
   refine dnex [pt g (uA pre zs post) 23] (by simp) (by simp) rfl ?_
   refine dend hT (by kernel_rfl) 1 rfl (th (ifF rfl (ex (xt (xt (xb (bl (th (rg ?_)))))))))
   refine ar hT 1 rfl (i64w (x := ((i + 1 : Nat) : Int)) (by omega)) ?_
   refine fin hT 1 rfl ?_
   exact again (x := (i, ys)) (i + 1, zs) ⟨rfl, rfl, rfl, rfl, trivial⟩ rfl rfl ⟨by omega, .inl (by omega), hQ, hdone⟩ (by dsimp only; omega)
 ·refine ex (xt (xt (xb ?_)))
  refine end0 rfl ⟨rfl, ys, rfl, hP, ?_⟩
  intro p q h1 h2 h3
  exact hS p q h1 h2 (by omega)
end Go.Proofs.YtneeeblghijmgaaGreat
end
section
namespace Go.Proofs.YtneeeblghijmgaaGreat
open Go.En
attribute [local irreducible] Code.wp wpList Calls
theorem ord2C {w0 : World} {K : PH} {hs : List PH} (g cap s : Nat) (pre post : List Value) (xs : List Nat) (a b : Nat) (n : Nat) (ha : a < xs.length) (hb : b < xs.length) (hc : xs.length <= cap) (hl : xs.length <= 1099511627776) (hn : n <= 1000) :
  Ct Tryz.prog w0 195 [.slice (some ⟨g, pre.length, none⟩) xs.length cap, .int .i64 ((a : Nat) : Int), .int .i64 ((b : Nat) : Int), .pointer (some ⟨s, 0, none⟩)] K (pt s #[.int .i64 ((n : Nat) : Int)] 3 :: pt g (uA pre xs post) 23 :: hs)
   (fun v K' hs' => K' = K /\ ∃ x y m : Nat, hs' = pt s #[.int .i64 ((m : Nat) : Int)] 3 :: pt g (uA pre xs post) 23 :: hs /\ v = .tuple #[.int .i64 ((x : Nat) : Int), .int .i64 ((y : Nat) : Int)] /\ (x = a /\ y = b \/ x = b /\ y = a) /\ n <= m /\ m <= n + 1) := by
 refine enter Tryz.func195 (by kernel_rfl) rfl rfl rfl ?_
 refine sq (rg ?_)
 refine fin hT 2 rfl (th ?_)
 refine sq (sq (rga [pt g (uA pre xs post) 23] 9 [0, 2, 4, 6, 8, 10, 12, 14, 17] (by simp) (by kernel_rfl) (by kernel_rfl) ?_))
 refine dixs hT (by kernel_rfl) 2 b rfl rfl (by omega) ?_
 simp only [add_mk, Nat.mul_one]
 refine dldp hT (by kernel_rfl) 0 0 rfl rfl (uA_get hb) ?_
 refine dixs hT (by kernel_rfl) 2 a rfl rfl (by omega) ?_
 simp only [add_mk, Nat.mul_one]
 refine dldp hT (by kernel_rfl) 0 0 rfl rfl (uA_get ha) ?_
 refine dact hT (by kernel_rfl) 0 rfl ?_
 refine cl hT 0 rfl (lessC (xs.getD b 0) (xs.getD a 0)) ?_
 rintro v18 K18 hs18 ⟨rfl, rfl, rfl⟩
 refine dnex [pt g (uA pre xs post) 23] (by simp) (by simp) rfl ?_
 by_cases hlt : xs.getD b 0 < xs.getD a 0
 ·rw [decide_eq_true hlt]
  refine dend hT (by kernel_rfl) 0 rfl (th (ifT rfl ?_))
  refine sq (rg ?_)
  refine ldp hT 2 0 rfl rfl rfl ?_
  refine ar hT 0 rfl (i64w (x := ((n + 1 : Nat) : Int)) (by omega)) ?_
  refine stp hT 1 0 rfl rfl rfl rfl ?_
  refine fin hT 0 rfl (th (sq (rg ?_)))
  refine fin hT 4 rfl (th (rt (rT ?_)))
  exact ret2 rfl rfl rfl ⟨rfl, b, a, n + 1, rfl, rfl, .inr ⟨rfl, rfl⟩, by omega, Nat.le_refl _⟩
 ·rw [decide_eq_false hlt]
  refine dend hT (by kernel_rfl) 0 rfl (th (ifF rfl (sk (th (sq (rg ?_))))))
  refine fin hT 4 rfl (th (rt ?_))
  exact ret2 rfl rfl rfl ⟨rfl, a, b, n, rfl, rfl, .inl ⟨rfl, rfl⟩, Nat.le_refl _, Nat.le_succ _⟩
theorem medC {w0 : World} {K : PH} {hs : List PH} (g cap s : Nat) (pre post : List Value) (xs : List Nat) (a b c lo hi : Nat) (n : Nat) (ha : lo <= a /\ a < hi) (hb : lo <= b /\ b < hi) (hcc : lo <= c /\ c < hi) (hh : hi <= xs.length) (hc : xs.length <= cap) (hl : xs.length <= 1099511627776) (hn : n <= 900) :
  Ct Tryz.prog w0 187 [.slice (some ⟨g, pre.length, none⟩) xs.length cap, .int .i64 ((a : Nat) : Int), .int .i64 ((b : Nat) : Int), .int .i64 ((c : Nat) : Int), .pointer (some ⟨s, 0, none⟩)] K (pt s #[.int .i64 ((n : Nat) : Int)] 3 :: pt g (uA pre xs post) 23 :: hs)
   (fun v K' hs' => K' = K /\ ∃ x m : Nat, hs' = pt s #[.int .i64 ((m : Nat) : Int)] 3 :: pt g (uA pre xs post) 23 :: hs /\ v = .int .i64 ((x : Nat) : Int) /\ (lo <= x /\ x < hi) /\ n <= m /\ m <= n + 3) := by
 refine enter Tryz.func187 (by kernel_rfl) rfl rfl rfl ?_
 refine sq (rg ?_)
 refine fin hT 1 rfl (th (sq (rg ?_)))
 refine cl hT 4 rfl (ord2C g cap s pre post xs a b n (by omega) (by omega) hc hl (by omega)) ?_
 rintro v16 K16 hs16 ⟨rfl, x1, y1, m1, rfl, rfl, h1, h2, h3⟩
 refine fin hT 5 rfl (th (sq (rg ?_)))
 refine cl hT 4 rfl (ord2C g cap s pre post xs y1 c m1 (by omega) (by omega) hc hl (by omega)) ?_
 rintro v24 K24 hs24 ⟨rfl, x2, y2, m2, rfl, rfl, h4, h5, h6⟩
 refine fin hT 5 rfl (th (sq (rg ?_)))
 refine cl hT 4 rfl (ord2C g cap s pre post xs x1 x2 m2 (by omega) (by omega) hc hl (by omega)) ?_
 rintro v32 K32 hs32 ⟨rfl, x3, y3, m3, rfl, rfl, h7, h8, h9⟩
 refine fin hT 5 rfl (th (sq (rg ?_)))
 refine fin hT 2 rfl (th (rt ?_))
 exact ret1 rfl rfl ⟨rfl, y3, m3, rfl, rfl, by omega, by omega, by omega⟩
theorem medAC {w0 : World} {K : PH} {hs : List PH} (g cap s : Nat) (pre post : List Value) (xs : List Nat) (a lo hi : Nat) (n : Nat) (ha : lo + 1 <= a /\ a + 1 < hi) (hh : hi <= xs.length) (hc : xs.length <= cap) (hl : xs.length <= 1099511627776) (hn : n <= 900) :
  Ct Tryz.prog w0 186 [.slice (some ⟨g, pre.length, none⟩) xs.length cap, .int .i64 ((a : Nat) : Int), .pointer (some ⟨s, 0, none⟩)] K (pt s #[.int .i64 ((n : Nat) : Int)] 3 :: pt g (uA pre xs post) 23 :: hs)
   (fun v K' hs' => K' = K /\ ∃ x m : Nat, hs' = pt s #[.int .i64 ((m : Nat) : Int)] 3 :: pt g (uA pre xs post) 23 :: hs /\ v = .int .i64 ((x : Nat) : Int) /\ (lo <= x /\ x < hi) /\ n <= m /\ m <= n + 3) := by
 refine enter Tryz.func186 (by kernel_rfl) rfl rfl rfl ?_
 refine sq (rg ?_)
 refine fin hT 1 rfl (th (sq (rg ?_)))
 refine ar hT 2 rfl (v' := .int .i64 ((a - 1 : Nat) : Int)) (by rw [show ((a : Nat) : Int) - 1 = ((a - 1 : Nat) : Int) from by omega]; exact i64w (by omega)) ?_
 refine ar hT 2 rfl (i64w (x := ((a + 1 : Nat) : Int)) (by omega)) ?_
 refine cl hT 1 rfl (medC g cap s pre post xs (a - 1) a (a + 1) lo hi n (by omega) (by omega) (by omega) hh hc hl hn) ?_
 rintro v14 K14 hs14 ⟨rfl, x, m, rfl, rfl, h1, h2, h3⟩
 refine fin hT 1 rfl (th (rt ?_))
 exact ret1 rfl rfl ⟨rfl, x, m, rfl, rfl, h1, h2, h3⟩
end Go.Proofs.YtneeeblghijmgaaGreat
end
section
namespace Go.Proofs.YtneeeblghijmgaaGreat
open Go.En
attribute [local irreducible] Code.wp wpList Calls
theorem quoN (n m : Nat) (h : n < 9223372036854775808) : Value.int .i64 (IntKind.i64.wrap (((n : Nat) : Int).tdiv ((m : Nat) : Int))) = .int .i64 ((n / m : Nat) : Int) := by
 have h2 : ((n : Nat) : Int).tdiv ((m : Nat) : Int) = ((n / m : Nat) : Int) := by rw [Int.ofNat_tdiv]
 rw [h2]
 have h3 : n / m <= n := Nat.div_le_self n m
 generalize n / m = z at h3 ⊢
 exact i64w (by omega)
theorem pivC {w0 : World} {K : PH} {hs : List PH} (g cap : Nat) (pre post : List Value) (xs : List Nat) (a b : Nat) (hab : a + 8 <= b) (hb : b <= xs.length) (hc : xs.length <= cap) (hl : xs.length <= 1099511627776) :
  Ct Tryz.prog w0 171 [.slice (some ⟨g, pre.length, none⟩) xs.length cap, .int .i64 ((a : Nat) : Int), .int .i64 ((b : Nat) : Int)] K (pt g (uA pre xs post) 23 :: hs)
   (fun v K' hs' => K' = K /\ hs' = pt g (uA pre xs post) 23 :: hs /\ ∃ x h : Nat, v = .tuple #[.int .i64 ((x : Nat) : Int), .int .i64 ((h : Nat) : Int)] /\ (a <= x /\ x < b) /\ h <= 2) := by
 refine enter Tryz.func171 (by kernel_rfl) rfl rfl rfl ?_
 refine sq (rg ?_)
 refine fin hT 2 rfl (th (sq (rg ?_)))
 refine ar hT 2 rfl (v' := .int .i64 ((b - a : Nat) : Int)) (by rw [show ((b : Nat) : Int) - ((a : Nat) : Int) = ((b - a : Nat) : Int) from by omega]; exact i64w (by omega)) ?_
 refine fin hT 1 rfl (th (sq (rg ?_)))
 refine al hT 0 (.int .i64 0) rfl (by kernel_rfl) fun b9 => ?_
 refine fin hT 0 rfl (th (sq (rg ?_)))
 obtain ⟨q, hq⟩ : ∃ q, q = (b - a) / 4 := ⟨_, rfl⟩
 have hq1 : 4 * q <= b - a /\ 2 <= q := by omega
 refine ar hT 2 rfl (v' := .int .i64 ((q : Nat) : Int)) (by rw [hq]; exact quoN (b - a) 4 (by omega)) ?_
 refine ar hT 0 rfl (i64w (x := ((q * 1 : Nat) : Int)) (by omega)) ?_
 refine ar hT 0 rfl (i64w (x := ((a + q * 1 : Nat) : Int)) (by omega)) ?_
 refine fin hT 1 rfl (th (sq (rg ?_)))
 refine ar hT 2 rfl (v' := .int .i64 ((q : Nat) : Int)) (by rw [hq]; exact quoN (b - a) 4 (by omega)) ?_
 refine ar hT 0 rfl (i64w (x := ((q * 2 : Nat) : Int)) (by omega)) ?_
 refine ar hT 0 rfl (i64w (x := ((a + q * 2 : Nat) : Int)) (by omega)) ?_
 refine fin hT 1 rfl (th (sq (rg ?_)))
 refine ar hT 2 rfl (v' := .int .i64 ((q : Nat) : Int)) (by rw [hq]; exact quoN (b - a) 4 (by omega)) ?_
 refine ar hT 0 rfl (i64w (x := ((q * 3 : Nat) : Int)) (by omega)) ?_
 refine ar hT 0 rfl (i64w (x := ((a + q * 3 : Nat) : Int)) (by omega)) ?_
 refine fin hT 1 rfl (th ?_)
 refine sq (sq (rg ?_))
 refine cmp hT 1 rfl (fun h32 => ?_) (fun h32 => absurd (by omega) h32)
 refine fin hT 0 rfl (th (ifT rfl ?_))
 refine jn (σ := Nat × Nat × Nat × Nat) (fun s => [(0, .slice (some ⟨g, pre.length, none⟩) xs.length cap), (9, .pointer (some ⟨b9, 0, none⟩)), (10, .int .i64 ((s.1 : Nat) : Int)), (11, .int .i64 ((s.2.1 : Nat) : Int)), (12, .int .i64 ((s.2.2.1 : Nat) : Int))])
  (fun s => pt b9 #[.int .i64 ((s.2.2.2 : Nat) : Int)] 3 :: pt g (uA pre xs post) 23 :: hs) (fun s => (a <= s.1 /\ s.1 < b) /\ (a <= s.2.1 /\ s.2.1 < b) /\ (a <= s.2.2.1 /\ s.2.2.1 < b) /\ s.2.2.2 <= 9) ?_ ?_
 ·refine sq (rg ?_)
  refine cmpS hT 1 rfl fun b34 h34 => ?_
  refine fin hT 0 rfl (th (ifP h34 rfl (fun e4 => ?_) (fun e4 => ?_)))
  ·refine sq (rg ?_)
   refine cl hT 2 rfl (medAC g cap b9 pre post xs (a + q * 1) a b 0 (by omega) hb hc hl (by omega)) ?_
   rintro v37 K37 hs37 ⟨rfl, x1, m1, rfl, rfl, h1, h2, h3⟩
   refine fin hT 1 rfl (th (sq (rg ?_)))
   refine cl hT 2 rfl (medAC g cap b9 pre post xs (a + q * 2) a b m1 (by omega) hb hc hl (by omega)) ?_
   rintro v40 K40 hs40 ⟨rfl, x2, m2, rfl, rfl, h4, h5, h6⟩
   refine fin hT 1 rfl (th (rg ?_))
   refine cl hT 2 rfl (medAC g cap b9 pre post xs (a + q * 3) a b m2 (by omega) hb hc hl (by omega)) ?_
   rintro v43 K43 hs43 ⟨rfl, x3, m3, rfl, rfl, h7, h8, h9⟩
   refine fin hT 1 rfl ?_
   exact jx (x1, x2, x3, m3) ⟨h1, h4, h7, by dsimp only; omega⟩ ⟨rfl, rfl, rfl, rfl, rfl, trivial⟩ rfl rfl
  ·refine sk ?_
   exact jx (a + q * 1, a + q * 2, a + q * 3, 0) ⟨by dsimp only; omega, by dsimp only; omega, by dsimp only; omega, by dsimp only; omega⟩ ⟨rfl, rfl, rfl, rfl, rfl, trivial⟩ rfl rfl
 ·rintro ⟨i, j, k, n⟩ ⟨hi, hj, hk, hn⟩
  dsimp only at *
  refine rg ?_
  refine cl hT 4 rfl (medC g cap b9 pre post xs i j k a b n hi hj hk hb hc hl (by omega)) ?_
  rintro v48 K48 hs48 ⟨rfl, x, m, rfl, rfl, h1, h2, h3⟩
  refine fin hT 1 rfl (th (sq (rg ?_)))
  refine ldp hT 0 0 rfl rfl rfl ?_
  refine fin hT 0 rfl (th (bk (sq (rg ?_))))
  refine cmpS hT 0 rfl fun b52 h52 => ?_
  refine fin hT 1 rfl (th (ifP h52 rfl (fun e6 => ?_) (fun e6 => ?_)))
  ·refine sq (rg ?_)
   refine fin hT 3 rfl (th (rt (rB (WQ.drop ?_))))
   exact ret2 rfl rfl rfl ⟨rfl, rfl, x, 1, rfl, h1, by decide⟩
  ·refine sq (rg ?_)
   refine cmpS hT 0 rfl fun b55 h55 => ?_
   refine fin hT 1 rfl (th (ifP h55 rfl (fun e8 => ?_) (fun e8 => ?_)))
   ·refine sq (rg ?_)
    refine fin hT 3 rfl (th (rt (rB (WQ.drop ?_))))
    exact ret2 rfl rfl rfl ⟨rfl, rfl, x, 2, rfl, h1, by decide⟩
   ·refine sq (rg ?_)
    refine fin hT 3 rfl (th (rt (rB (WQ.drop ?_))))
    exact ret2 rfl rfl rfl ⟨rfl, rfl, x, 0, rfl, h1, by decide⟩
end Go.Proofs.YtneeeblghijmgaaGreat
end
section
namespace Go.Proofs.YtneeeblghijmgaaGreat
open Go.En
attribute [local irreducible] Code.wp wpList Calls
theorem revRC {w0 : World} {K : PH} {hs : List PH} (g cap : Nat) (pre post : List Value) (xs : List Nat) (a b : Nat) (hab : a < b) (hb : b <= xs.length) (hc : xs.length <= cap) (hl : xs.length <= 1099511627776) :
  Ct Tryz.prog w0 172 [.slice (some ⟨g, pre.length, none⟩) xs.length cap, .int .i64 ((a : Nat) : Int), .int .i64 ((b : Nat) : Int)] K (pt g (uA pre xs post) 23 :: hs)
   (fun v K' hs' => K' = K /\ ∃ ys, hs' = pt g (uA pre ys post) 23 :: hs /\ SegP a b xs ys) := by
 refine enter Tryz.func172 (by kernel_rfl) rfl rfl rfl ?_
 refine sq (rg ?_)
 refine fin hT 2 rfl (th (sq (rg ?_)))
 refine ar hT 1 rfl (v' := .int .i64 ((b - 1 : Nat) : Int)) (by rw [show ((b : Nat) : Int) - 1 = ((b - 1 : Nat) : Int) from by omega]; exact i64w (by omega)) ?_
 refine fin hT 1 rfl (th (bk ?_))
 refine loop (σ := Nat × Nat × List Nat) (fun s => [(0, .slice (some ⟨g, pre.length, none⟩) xs.length cap), (6, .int .i64 ((s.1 : Nat) : Int)), (7, .int .i64 ((s.2.1 : Nat) : Int))]) (fun _ => K) (fun s => pt g (uA pre s.2.2 post) 23 :: hs)
  (fun s => a <= s.1 /\ s.1 <= b /\ s.2.1 < b /\ SegP a b xs s.2.2) (fun s => b - s.1) (a, b - 1, xs) ⟨Nat.le_refl _, by dsimp only; omega, by dsimp only; omega, SegP.refl _ _ _⟩ ⟨rfl, rfl, rfl, trivial⟩ rfl rfl ?_
 rintro ⟨i, j, ys⟩ ⟨hi1, hi2, hj, hP⟩
 dsimp only at *
 have hyl : ys.length = xs.length := hP.len
 refine sq (sq (rg ?_))
 refine cmpS hT 2 rfl fun b13 h13 => ?_
 refine fin hT 0 rfl (th (ifP h13 rfl (fun e2 => ?_) (fun e2 => ?_)))
 ·have hij : i < j := by omega
  have hgi : (uA pre ys post)[pre.length + i]? = some (.int .u64 ((ys.getD i 0 : Nat) : Int)) := uA_get (by omega)
  have hgj : (uA pre ys post)[pre.length + j]? = some (.int .u64 ((ys.getD j 0 : Nat) : Int)) := uA_get (by omega)
  have hgj2 : (uA pre (ys.set i (ys.getD j 0)) post)[pre.length + j]? = some (.int .u64 (((ys.set i (ys.getD j 0)).getD j 0 : Nat) : Int)) := uA_get (by rw [List.length_set]; omega)
  refine sk (th (bk (sq (rga [pt g (uA pre ys post) 23] 13 [0, 2, 4, 6, 8, 10, 12, 14, 16, 18, 20, 22, 24, 27, 28, 31] (by simp) (by kernel_rfl) (by kernel_rfl) ?_))))
  refine dixs hT (by kernel_rfl) 6 j rfl rfl (by omega) ?_
  simp only [add_mk, Nat.mul_one]
  refine dldpw hT (by kernel_rfl) 0 0 rfl (by kernel_rfl) rfl hgj ?_
  refine dixs hT (by kernel_rfl) 2 i rfl rfl (by omega) ?_
  simp only [add_mk, Nat.mul_one]
  refine dldpw hT (by kernel_rfl) 0 0 rfl (by kernel_rfl) rfl hgi ?_
  refine dixs hT (by kernel_rfl) 0 i rfl rfl (by omega) ?_
  simp only [add_mk, Nat.mul_one]
  refine dact hT (by kernel_rfl) 0 rfl ?_
  refine stp hT 0 0 rfl rfl hgi rfl ?_
  refine dnext (.inl (by kernel_rfl)) ?_
  refine dixs hT (by kernel_rfl) 0 j rfl rfl (by omega) ?_
  simp only [add_mk, Nat.mul_one]
  refine dact hT (by kernel_rfl) 0 rfl ?_
  refine WL.hs (pt g (uA pre (ys.set i (ys.getD j 0)) post) 23 :: hs) (congrArg (fun z => pt g z 23 :: hs) (uA_set (by omega))) ?_
  refine stp hT 0 0 rfl rfl hgj2 rfl ?_
  refine dnext (.inl (by kernel_rfl)) ?_
  refine dend hT (by kernel_rfl) 0 rfl (th (sq (rg ?_)))
  refine ar hT 1 rfl (i64w (x := ((i + 1 : Nat) : Int)) (by omega)) ?_
  refine fin hT 1 rfl (th (rg ?_))
  refine ar hT 1 rfl (v' := .int .i64 ((j - 1 : Nat) : Int)) (by rw [show ((j : Nat) : Int) - 1 = ((j - 1 : Nat) : Int) from by omega]; exact i64w (by omega)) ?_
  refine fin hT 1 rfl (bl ?_)
  exact again (x := (i, j, ys)) (i + 1, j - 1, swp i j ys) ⟨rfl, rfl, rfl, trivial⟩ rfl (congrArg (fun z => pt g z 23 :: hs) (uA_set (by rw [List.length_set]; omega))) ⟨by dsimp only; omega, by dsimp only; omega, by dsimp only; omega, hP.trans (SegP.swp ⟨by omega, by omega⟩ ⟨by omega, by omega⟩ (by omega))⟩ (by dsimp only; omega)
 ·refine ex (xt (xt (xb ?_)))
  exact end0 rfl ⟨rfl, ys, rfl, hP⟩
end Go.Proofs.YtneeeblghijmgaaGreat
end
section
namespace Go.En
def HpX (f lo hi : Nat) (ex : Nat -> Prop) (xs : List Nat) : Prop := ∀ i c, lo <= i -> ¬ ex i -> (c = 2 * i + 1 \/ c = 2 * i + 2) -> c < hi -> xs.getD (f + c) 0 <= xs.getD (f + i) 0
def SftI (f lo hi r : Nat) (xs : List Nat) : Prop :=
 HpX f lo hi (fun i => i = r) xs /\ ∀ p c, lo <= p -> (r = 2 * p + 1 \/ r = 2 * p + 2) -> (c = 2 * r + 1 \/ c = 2 * r + 2) -> c < hi -> xs.getD (f + c) 0 <= xs.getD (f + p) 0
theorem SftI.start {f lo hi : Nat} {xs : List Nat} (h : HpX f (lo + 1) hi (fun _ => False) xs) : SftI f lo hi lo xs :=
 ⟨fun i c h1 h2 h3 h4 => h i c (by omega) (by simp) h3 h4, fun p c h1 h2 => by omega⟩
theorem SftI.leaf {f lo hi r : Nat} {xs : List Nat} (h : SftI f lo hi r xs) (hr : hi <= 2 * r + 1) : HpX f lo hi (fun _ => False) xs := fun i c h1 _ h3 h4 => by
 by_cases e : i = r
 ·subst e; omega
 ·exact h.1 i c h1 e h3 h4
theorem SftI.stop {f lo hi r k : Nat} {xs : List Nat} (h : SftI f lo hi r xs) (hk : ∀ c, (c = 2 * r + 1 \/ c = 2 * r + 2) -> c < hi -> xs.getD (f + c) 0 <= xs.getD (f + k) 0) (hle : xs.getD (f + k) 0 <= xs.getD (f + r) 0) : HpX f lo hi (fun _ => False) xs := fun i c h1 _ h3 h4 => by
 by_cases e : i = r
 ·subst e; exact Nat.le_trans (hk c h3 h4) hle
 ·exact h.1 i c h1 e h3 h4
theorem SftI.sink {f lo hi r k : Nat} {xs : List Nat} (h : SftI f lo hi r xs) (hlo : lo <= r) (hk0 : k = 2 * r + 1 \/ k = 2 * r + 2) (hkh : k < hi) (hl : f + hi <= xs.length) (hk : ∀ c, (c = 2 * r + 1 \/ c = 2 * r + 2) -> c < hi -> xs.getD (f + c) 0 <= xs.getD (f + k) 0) (hlt : xs.getD (f + r) 0 < xs.getD (f + k) 0) : SftI f lo hi k (swp (f + r) (f + k) xs) := by
 have hg : ∀ z, (swp (f + r) (f + k) xs).getD (f + z) 0 = if z = k then xs.getD (f + r) 0 else if z = r then xs.getD (f + k) 0 else xs.getD (f + z) 0 := by
  intro z
  rw [swp_getD (by omega) (by omega)]
  by_cases e1 : z = k
  ·rw [if_pos e1, if_pos (by omega)]
  ·rw [if_neg e1, if_neg (by omega)]
   by_cases e2 : z = r
   ·rw [if_pos e2, if_pos (by omega)]
   ·rw [if_neg e2, if_neg (by omega)]
 constructor
 ·intro i c h1 h2 h3 h4
  rw [hg, hg]
  rw [if_neg h2]
  by_cases e2 : i = r
  ·subst e2
   rw [if_pos rfl]
   by_cases e1 : c = k
   ·rw [if_pos e1]; omega
   ·rw [if_neg e1, if_neg (by omega)]
    exact hk c h3 h4
  ·rw [if_neg e2]
   by_cases e1 : c = k
   ·omega
   ·rw [if_neg e1]
    by_cases e3 : c = r
    ·rw [if_pos e3]
     exact h.2 i k h1 (by omega) hk0 hkh
    ·rw [if_neg e3]
     exact h.1 i c h1 e2 h3 h4
 ·intro p c h1 h2 h3 h4
  have hp : p = r := by omega
  subst hp
  rw [hg, hg, if_neg (by omega), if_neg (by omega), if_neg (by omega), if_pos rfl]
  exact h.1 k c (by omega) (by omega) h3 h4
end Go.En
end
section
namespace Go.Proofs.YtneeeblghijmgaaGreat
open Go.En
attribute [local irreducible] Code.wp wpList Calls
theorem siftC {w0 : World} {K : PH} {hs : List PH} (g cap : Nat) (pre post : List Value) (xs : List Nat) (lo hi f : Nat) (hb : f + hi <= xs.length) (hc : xs.length <= cap) (hl : xs.length <= 1099511627776) (hlo : lo <= hi) (hp : HpX f (lo + 1) hi (fun _ => False) xs) :
  Ct Tryz.prog w0 185 [.slice (some ⟨g, pre.length, none⟩) xs.length cap, .int .i64 ((lo : Nat) : Int), .int .i64 ((hi : Nat) : Int), .int .i64 ((f : Nat) : Int)] K (pt g (uA pre xs post) 23 :: hs)
   (fun v K' hs' => K' = K /\ ∃ ys, hs' = pt g (uA pre ys post) 23 :: hs /\ SegP (f + lo) (f + hi) xs ys /\ HpX f lo hi (fun _ => False) ys) := by
 refine enter Tryz.func185 (by kernel_rfl) rfl rfl rfl ?_
 refine sq (rg ?_)
 refine fin hT 2 rfl (th (bk ?_))
 refine loop (σ := Nat × List Nat) (fun s => [(0, .slice (some ⟨g, pre.length, none⟩) xs.length cap), (2, .int .i64 ((hi : Nat) : Int)), (3, .int .i64 ((f : Nat) : Int)), (8, .int .i64 ((s.1 : Nat) : Int))]) (fun _ => K) (fun s => pt g (uA pre s.2 post) 23 :: hs)
  (fun s => lo <= s.1 /\ s.1 <= hi /\ SegP (f + lo) (f + hi) xs s.2 /\ SftI f lo hi s.1 s.2) (fun s => hi - s.1) (lo, xs) ⟨Nat.le_refl _, hlo, SegP.refl _ _ _, SftI.start hp⟩ ⟨rfl, rfl, rfl, rfl, trivial⟩ rfl rfl ?_
 rintro ⟨r, ys⟩ ⟨hr1, hr2, hP, hS⟩
 dsimp only at *
 have hyl : ys.length = xs.length := hP.len
 refine bk (sq (rg ?_))
 refine ar hT 1 rfl (i64w (x := ((2 * r : Nat) : Int)) (by omega)) ?_
 refine ar hT 0 rfl (i64w (x := ((2 * r + 1 : Nat) : Int)) (by omega)) ?_
 refine fin hT 1 rfl (th (sq (sq (rg ?_))))
 refine cmpS hT 2 rfl fun b16 h16 => ?_
 refine fin hT 0 rfl (th (ifP h16 rfl (fun e2 => ?_) (fun e2 => ?_)))
 ·refine ex (xt (xn rfl (xt (xb ?_))))
  exact end0 rfl ⟨rfl, ys, rfl, hP, hS.leaf (by omega)⟩
 ·have hch : 2 * r + 1 < hi := by omega
  refine sk (th ?_)
  refine jn (σ := Nat) (fun k => [(0, .slice (some ⟨g, pre.length, none⟩) xs.length cap), (2, .int .i64 ((hi : Nat) : Int)), (3, .int .i64 ((f : Nat) : Int)), (8, .int .i64 ((r : Nat) : Int)), (9, .int .i64 ((k : Nat) : Int))]) (fun _ => pt g (uA pre ys post) 23 :: hs)
   (fun k => (k = 2 * r + 1 \/ k = 2 * r + 2) /\ k < hi /\ ∀ c, (c = 2 * r + 1 \/ c = 2 * r + 2) -> c < hi -> ys.getD (f + c) 0 <= ys.getD (f + k) 0) ?_ ?_
  ·refine sq (rga [pt g (uA pre ys post) 23] 20 [0, 2, 4, 6, 8, 10, 12, 14, 16, 18, 20, 22, 24, 26, 28, 30, 32, 34, 37, 38] (by simp) (by kernel_rfl) (by kernel_rfl) ?_)
   refine dar hT (by kernel_rfl) 1 rfl (i64w (x := ((2 * r + 1 + 1 : Nat) : Int)) (by omega)) ?_
   refine dcmp hT (by kernel_rfl) 1 (2 * r + 1 + 1 < hi) rfl (by simp; omega) (fun h3 => ?_) (fun h3 => ?_)
   ·refine dar hT (by kernel_rfl) 4 rfl (i64w (x := ((f + (2 * r + 1) : Nat) : Int)) (by omega)) ?_
    refine dixs hT (by kernel_rfl) 0 (f + (2 * r + 1)) rfl rfl (by omega) ?_
    simp only [add_mk, Nat.mul_one]
    refine dldp hT (by kernel_rfl) 0 0 rfl rfl (uA_get (by omega)) ?_
    refine dar hT (by kernel_rfl) 3 rfl (i64w (x := ((f + (2 * r + 1) : Nat) : Int)) (by omega)) ?_
    refine dar hT (by kernel_rfl) 0 rfl (i64w (x := ((f + (2 * r + 1) + 1 : Nat) : Int)) (by omega)) ?_
    refine dixs hT (by kernel_rfl) 0 (f + (2 * r + 1) + 1) rfl rfl (by omega) ?_
    simp only [add_mk, Nat.mul_one]
    refine dldp hT (by kernel_rfl) 0 0 rfl rfl (uA_get (by omega)) ?_
    refine dact hT (by kernel_rfl) 0 rfl ?_
    refine cl hT 0 rfl (lessC (ys.getD (f + (2 * r + 1)) 0) (ys.getD (f + (2 * r + 1) + 1) 0)) ?_
    rintro v35 K35 hs35 ⟨rfl, rfl, rfl⟩
    refine dnex [pt g (uA pre ys post) 23] (by simp) (by simp) rfl ?_
    by_cases hlt : ys.getD (f + (2 * r + 1)) 0 < ys.getD (f + (2 * r + 1) + 1) 0
    ·rw [decide_eq_true hlt]
     refine dend hT (by kernel_rfl) 1 rfl (th (ifT rfl ?_))
     refine rg ?_
     refine ar hT 1 rfl (i64w (x := ((2 * r + 1 + 1 : Nat) : Int)) (by omega)) ?_
     refine fin hT 1 rfl ?_
     refine jx (2 * r + 1 + 1) ⟨.inr rfl, h3, fun c h4 h5 => ?_⟩ ⟨rfl, rfl, rfl, rfl, rfl, trivial⟩ rfl rfl
     rcases h4 with rfl | rfl
     ·exact Nat.le_of_lt hlt
     ·exact Nat.le_refl _
    ·rw [decide_eq_false hlt]
     refine dend hT (by kernel_rfl) 1 rfl (th (ifF rfl (sk ?_)))
     refine jx (2 * r + 1) ⟨.inl rfl, hch, fun c h4 h5 => ?_⟩ ⟨rfl, rfl, rfl, rfl, rfl, trivial⟩ rfl rfl
     rcases h4 with rfl | rfl
     ·exact Nat.le_refl _
     ·exact Nat.le_of_not_lt hlt
   ·refine dact hT (by kernel_rfl) 14 rfl ?_
    refine WL.pures hT 1 rfl ?_
    refine dnex [pt g (uA pre ys post) 23] (by simp) (by simp) rfl ?_
    refine dend hT (by kernel_rfl) 1 rfl (th (ifF rfl (sk ?_)))
    refine jx (2 * r + 1) ⟨.inl rfl, hch, fun c h4 h5 => ?_⟩ ⟨rfl, rfl, rfl, rfl, rfl, trivial⟩ rfl rfl
    have : c = 2 * r + 1 := by omega
    rw [this]; exact Nat.le_refl _
  ·rintro k ⟨hk1, hk2, hk3⟩
   have hrl : f + r < ys.length := by omega
   have hkl : f + k < ys.length := by omega
   have hgr : (uA pre ys post)[pre.length + (f + r)]? = some (.int .u64 ((ys.getD (f + r) 0 : Nat) : Int)) := uA_get hrl
   have hgk : (uA pre ys post)[pre.length + (f + k)]? = some (.int .u64 ((ys.getD (f + k) 0 : Nat) : Int)) := uA_get hkl
   have hgk2 : (uA pre (ys.set (f + r) (ys.getD (f + k) 0)) post)[pre.length + (f + k)]? = some (.int .u64 (((ys.set (f + r) (ys.getD (f + k) 0)).getD (f + k) 0 : Nat) : Int)) := uA_get (by rw [List.length_set]; exact hkl)
   refine sq (sq (rga [pt g (uA pre ys post) 23] 14 [0, 2, 4, 6, 8, 10, 12, 14, 16, 18, 20, 22, 25, 26] (by simp) (by kernel_rfl) (by kernel_rfl) ?_))
   refine dar hT (by kernel_rfl) 3 rfl (i64w (x := ((f + r : Nat) : Int)) (by omega)) ?_
   refine dixs hT (by kernel_rfl) 0 (f + r) rfl rfl (by omega) ?_
   simp only [add_mk, Nat.mul_one]
   refine dldp hT (by kernel_rfl) 0 0 rfl rfl hgr ?_
   refine dar hT (by kernel_rfl) 3 rfl (i64w (x := ((f + k : Nat) : Int)) (by omega)) ?_
   refine dixs hT (by kernel_rfl) 0 (f + k) rfl rfl (by omega) ?_
   simp only [add_mk, Nat.mul_one]
   refine dldp hT (by kernel_rfl) 0 0 rfl rfl hgk ?_
   refine dact hT (by kernel_rfl) 0 rfl ?_
   refine cl hT 0 rfl (lessC (ys.getD (f + r) 0) (ys.getD (f + k) 0)) ?_
   rintro v51 K51 hs51 ⟨rfl, rfl, rfl⟩
   refine dnex [pt g (uA pre ys post) 23] (by simp) (by simp) rfl ?_
   by_cases hlt : ys.getD (f + r) 0 < ys.getD (f + k) 0
   ·rw [decide_eq_true hlt]
    refine dend hT (by kernel_rfl) 1 rfl (th (ifF rfl ?_))
    refine sk (th (sq (rga [pt g (uA pre ys post) 23] 21 [0, 2, 4, 6, 8, 10, 12, 14, 16, 18, 20, 22, 24, 26, 28, 30, 32, 34, 36, 38, 40, 43, 44, 47] (by simp) (by kernel_rfl) (by kernel_rfl) ?_)))
    refine dar hT (by kernel_rfl) 3 rfl (i64w (x := ((f + r : Nat) : Int)) (by omega)) ?_
    refine dar hT (by kernel_rfl) 3 rfl (i64w (x := ((f + k : Nat) : Int)) (by omega)) ?_
    refine dar hT (by kernel_rfl) 3 rfl (i64w (x := ((f + k : Nat) : Int)) (by omega)) ?_
    refine dixs hT (by kernel_rfl) 0 (f + k) rfl rfl (by omega) ?_
    simp only [add_mk, Nat.mul_one]
    refine dldpw hT (by kernel_rfl) 0 0 rfl (by kernel_rfl) rfl hgk ?_
    refine dar hT (by kernel_rfl) 3 rfl (i64w (x := ((f + r : Nat) : Int)) (by omega)) ?_
    refine dixs hT (by kernel_rfl) 0 (f + r) rfl rfl (by omega) ?_
    simp only [add_mk, Nat.mul_one]
    refine dldpw hT (by kernel_rfl) 0 0 rfl (by kernel_rfl) rfl hgr ?_
    refine dixs hT (by kernel_rfl) 0 (f + r) rfl rfl (by omega) ?_
    simp only [add_mk, Nat.mul_one]
    refine dact hT (by kernel_rfl) 0 rfl ?_
    refine stp hT 0 0 rfl rfl hgr rfl ?_
    refine dnext (.inl (by kernel_rfl)) ?_
    refine dixs hT (by kernel_rfl) 0 (f + k) rfl rfl (by omega) ?_
    simp only [add_mk, Nat.mul_one]
    refine dact hT (by kernel_rfl) 0 rfl ?_
    refine WL.hs (pt g (uA pre (ys.set (f + r) (ys.getD (f + k) 0)) post) 23 :: hs) (congrArg (fun z => pt g z 23 :: hs) (uA_set hrl)) ?_
    refine stp hT 0 0 rfl rfl hgk2 rfl ?_
    refine dnext (.inl (by kernel_rfl)) ?_
    refine dend hT (by kernel_rfl) 0 rfl (th (rg ?_))
    refine fin hT 2 rfl (bl ?_)
    exact again (x := (r, ys)) (k, swp (f + r) (f + k) ys) ⟨rfl, rfl, rfl, rfl, trivial⟩ rfl (congrArg (fun z => pt g z 23 :: hs) (uA_set (by rw [List.length_set]; exact hkl))) ⟨by dsimp only; omega, by dsimp only; omega, hP.trans (SegP.swp ⟨by omega, by omega⟩ ⟨by omega, by omega⟩ (by omega)), hS.sink hr1 hk1 hk2 (by omega) hk3 hlt⟩ (by dsimp only; omega)
   ·rw [decide_eq_false hlt]
    refine dend hT (by kernel_rfl) 1 rfl (th (ifT rfl ?_))
    refine rt (rT (rB (rT (rB ?_))))
    exact ret0 rfl ⟨rfl, ys, rfl, hP, hS.stop hk3 (by omega)⟩
end Go.Proofs.YtneeeblghijmgaaGreat
end
section
namespace Go.En
theorem HpX.max {f n : Nat} {xs : List Nat} (h : HpX f 0 n (fun _ => False) xs) : ∀ c, c < n -> xs.getD (f + c) 0 <= xs.getD (f + 0) 0
 | 0, _ => Nat.le_refl _
 | c + 1, hc => by
  have hp : c / 2 < c + 1 := by omega
  have h1 := h (c / 2) (c + 1) (Nat.zero_le _) (by simp) (by omega) hc
  have h2 := HpX.max h (c / 2) (by omega)
  exact Nat.le_trans h1 h2
theorem HpX.none {f lo hi : Nat} {xs : List Nat} (h : hi <= 2 * lo + 1) : HpX f lo hi (fun _ => False) xs := fun i c h1 _ h3 h4 => by omega
theorem split3 {a b : Nat} (xs : List Nat) (hab : a <= b) : xs = xs.take a ++ ((xs.drop a).take (b - a) ++ xs.drop b) := by
 have h1 : xs.drop b = (xs.drop a).drop (b - a) := by rw [List.drop_drop]; congr 1; omega
 rw [h1, List.take_append_drop, List.take_append_drop]
theorem SegP.seg {a b : Nat} {xs ys : List Nat} (h : SegP a b xs ys) (hab : a <= b) : ((ys.drop a).take (b - a)).Perm ((xs.drop a).take (b - a)) := by
 have e1 : ys.take a = xs.take a := by
  apply List.ext_getElem?
  intro i
  by_cases hi : i < a
  ·rw [List.getElem?_take_of_lt hi, List.getElem?_take_of_lt hi, h.out i (.inl hi)]
  ·rw [List.getElem?_eq_none (by simp; omega), List.getElem?_eq_none (by simp; omega)]
 have e2 : ys.drop b = xs.drop b := by
  apply List.ext_getElem?
  intro i
  rw [List.getElem?_drop, List.getElem?_drop, h.out (b + i) (.inr (by omega))]
 have hp := h.perm
 rw [split3 xs hab, split3 ys hab, e1, e2] at hp
 exact (List.perm_append_right_iff _).1 ((List.perm_append_left_iff _).1 hp)
theorem SegP.mem {a b : Nat} {xs ys : List Nat} (h : SegP a b xs ys) (hb : b <= xs.length) {p : Nat} (h1 : a <= p) (h2 : p < b) : ∃ q, a <= q /\ q < b /\ ys.getD p 0 = xs.getD q 0 := by
 have hs := h.seg (by omega)
 have hyl := h.len
 have hm : ys.getD p 0 ∈ (ys.drop a).take (b - a) := by
  rw [List.mem_iff_getElem?]
  refine ⟨p - a, ?_⟩
  rw [List.getElem?_take_of_lt (by omega), List.getElem?_drop, show a + (p - a) = p from by omega, List.getD_eq_getElem?_getD, List.getElem?_eq_getElem (by omega)]
  rfl
 obtain ⟨i, hi⟩ := List.mem_iff_getElem?.1 (hs.mem_iff.1 hm)
 have hil := (List.getElem?_eq_some_iff.1 hi).1
 simp only [List.length_take, List.length_drop] at hil
 rw [List.getElem?_take_of_lt (by omega), List.getElem?_drop] at hi
 exact ⟨a + i, by omega, by omega, by rw [List.getD_eq_getElem?_getD (l := xs), hi]; rfl⟩
def HsI (f n hi : Nat) (xs : List Nat) : Prop := HpX f 0 n (fun _ => False) xs /\ ∀ p q, n <= q -> q < hi -> p < q -> xs.getD (f + p) 0 <= xs.getD (f + q) 0
theorem HsI.swap {f i hi : Nat} {xs : List Nat} (h : HsI f (i + 1) hi xs) (hh : i < hi) (hl : f + hi <= xs.length) : HpX f (0 + 1) i (fun _ => False) (swp f (f + i) xs) := fun j c h1 h2 h3 h4 => by
 rw [swp_getD (by omega) (by omega), swp_getD (by omega) (by omega), if_neg (by omega), if_neg (by omega), if_neg (by omega), if_neg (by omega)]
 exact h.1 j c (Nat.zero_le _) (by simp) h3 (by omega)
theorem HsI.step {f i hi : Nat} {xs zs : List Nat} (h : HsI f (i + 1) hi xs) (hh : i < hi) (hl : f + hi <= xs.length) (hP : SegP (f + 0) (f + i) (swp f (f + i) xs) zs) (hz : HpX f 0 i (fun _ => False) zs) : HsI f i hi zs := by
 refine ⟨hz, fun p q h1 h2 h3 => ?_⟩
 have hsl := swp_len f (f + i) xs
 have hz1 : ∀ z, i <= z -> z < hi -> zs.getD (f + z) 0 = (swp f (f + i) xs).getD (f + z) 0 := fun z g1 g2 => by
  rw [List.getD_eq_getElem?_getD, hP.out (f + z) (.inr (by omega)), List.getD_eq_getElem?_getD]
 have hs : ∀ z, z < hi -> (swp f (f + i) xs).getD (f + z) 0 = if z = i then xs.getD f 0 else if z = 0 then xs.getD (f + i) 0 else xs.getD (f + z) 0 := fun z g => by
  rw [swp_getD (by omega) (by omega)]
  by_cases e1 : z = i
  ·rw [if_pos e1, if_pos (by omega)]
  ·rw [if_neg e1, if_neg (by omega)]
   by_cases e2 : z = 0
   ·rw [if_pos e2, if_pos (by omega)]
   ·rw [if_neg e2, if_neg (by omega)]
 have hlow : ∀ z, z < i -> ∃ y, y <= i /\ zs.getD (f + z) 0 = xs.getD (f + y) 0 := fun z g => by
  obtain ⟨w, w1, w2, w3⟩ := hP.mem (by omega) (p := f + z) (by omega) (by omega)
  rw [w3, show w = f + (w - f) from by omega, hs (w - f) (by omega)]
  by_cases e1 : w - f = i
  ·exact ⟨0, Nat.zero_le _, by rw [if_pos e1]; rfl⟩
  ·rw [if_neg e1]
   by_cases e2 : w - f = 0
   ·exact ⟨i, Nat.le_refl _, by rw [if_pos e2]⟩
   ·exact ⟨w - f, by omega, by rw [if_neg e2]⟩
 have hmax : ∀ y, y <= i -> xs.getD (f + y) 0 <= xs.getD f 0 := fun y g => h.1.max y (by omega)
 have hbig : ∀ y q, y <= i -> i < q -> q < hi -> xs.getD (f + y) 0 <= xs.getD (f + q) 0 := fun y q g1 g2 g3 => h.2 y q (by omega) g3 (by omega)
 rw [hz1 q h1 h2, hs q h2]
 by_cases e : q = i
 ·rw [if_pos e]
  obtain ⟨y, g1, g2⟩ := hlow p (by omega)
  rw [g2]
  exact hmax y g1
 ·rw [if_neg e, if_neg (by omega)]
  by_cases e1 : p < i
  ·obtain ⟨y, g1, g2⟩ := hlow p e1
   rw [g2]
   exact hbig y q g1 (by omega) h2
  ·rw [hz1 p (by omega) (by omega), hs p (by omega)]
   by_cases e2 : p = i
   ·rw [if_pos e2]
    exact hbig 0 q (Nat.zero_le _) (by omega) h2
   ·rw [if_neg e2, if_neg (by omega)]
    exact h.2 p q (by omega) h2 h3
theorem HsI.start {f hi : Nat} {xs : List Nat} (h : HpX f 0 hi (fun _ => False) xs) : HsI f hi hi xs := ⟨h, fun p q h1 h2 => by omega⟩
theorem HsI.done {a b : Nat} {xs : List Nat} (h : HsI a 0 (b - a) xs) : Srt a b xs := fun i j h1 h2 h3 => by
 have := h.2 (i - a) (j - a) (Nat.zero_le _) (by omega) (by omega)
 rwa [show a + (i - a) = i from by omega, show a + (j - a) = j from by omega] at this
end Go.En
end
section
namespace Go.Proofs.YtneeeblghijmgaaGreat
open Go.En
attribute [local irreducible] Code.wp wpList Calls
theorem heapC {w0 : World} {K : PH} {hs : List PH} (g cap : Nat) (pre post : List Value) (xs : List Nat) (a b : Nat) (hab : a < b) (hb : b <= xs.length) (hc : xs.length <= cap) (hl : xs.length <= 1099511627776) :
  Ct Tryz.prog w0 169 [.slice (some ⟨g, pre.length, none⟩) xs.length cap, .int .i64 ((a : Nat) : Int), .int .i64 ((b : Nat) : Int)] K (pt g (uA pre xs post) 23 :: hs)
   (fun v K' hs' => K' = K /\ ∃ ys, hs' = pt g (uA pre ys post) 23 :: hs /\ SegP a b xs ys /\ Srt a b ys) := by
 obtain ⟨hi, hhi⟩ : ∃ hi, hi = b - a := ⟨_, rfl⟩
 refine enter Tryz.func169 (by kernel_rfl) rfl rfl rfl ?_
 refine sq (rg ?_)
 refine fin hT 2 rfl (th (sq (rg ?_)))
 refine fin hT 1 rfl (th (sq (rg ?_)))
 refine ar hT 2 rfl (v' := .int .i64 ((hi : Nat) : Int)) (by rw [show ((b : Nat) : Int) - ((a : Nat) : Int) = ((hi : Nat) : Int) from by omega]; exact i64w (by omega)) ?_
 refine fin hT 1 rfl (th (sq (sq (rg ?_))))
 refine ar hT 1 rfl (v' := .int .i64 ((hi - 1 : Nat) : Int)) (by rw [show ((hi : Nat) : Int) - 1 = ((hi - 1 : Nat) : Int) from by omega]; exact i64w (by omega)) ?_
 refine ar hT 0 rfl (v' := .int .i64 ((((hi - 1) / 2 + 1 : Nat) : Int) - 1)) (by rw [show ((((hi - 1) / 2 + 1 : Nat) : Int) - 1) = (((hi - 1) / 2 : Nat) : Int) from by omega]; exact quoN (hi - 1) 2 (by omega)) ?_
 refine fin hT 1 rfl (th (bk ?_))
 refine loop (σ := Nat × List Nat) (fun s => [(0, .slice (some ⟨g, pre.length, none⟩) xs.length cap), (6, .int .i64 ((a : Nat) : Int)), (7, .int .i64 0), (8, .int .i64 ((hi : Nat) : Int)), (9, .int .i64 (((s.1 : Nat) : Int) - 1))]) (fun _ => K) (fun s => pt g (uA pre s.2 post) 23 :: hs)
  (fun s => s.1 <= hi /\ SegP a b xs s.2 /\ HpX a s.1 hi (fun _ => False) s.2) (fun s => s.1) ((hi - 1) / 2 + 1, xs) ⟨by dsimp only; omega, SegP.refl _ _ _, HpX.none (by omega)⟩ ⟨rfl, rfl, rfl, rfl, rfl, trivial⟩ rfl rfl ?_
 rintro ⟨n, ys⟩ ⟨hn, hP, hH⟩
 dsimp only at *
 have hyl : ys.length = xs.length := hP.len
 refine sq (sq (rg ?_))
 refine cmpS hT 1 rfl fun b19 h19 => ?_
 refine fin hT 0 rfl (th (ifP h19 rfl (fun e2 => ?_) (fun e2 => ?_)))
 ·obtain ⟨k, rfl⟩ : ∃ k, n = k + 1 := ⟨n - 1, by omega⟩
  rw [show ((k + 1 : Nat) : Int) - 1 = ((k : Nat) : Int) from by omega]
  refine sk (th (sq (bk (rg ?_))))
  have hs1 := siftC (w0 := w0) (K := K) (hs := hs) g cap pre post ys k hi a (by omega) (by omega) (by omega) (by omega) hH
  rw [hyl] at hs1
  refine cl hT 4 rfl hs1 ?_
  rintro v26 K26 hs26 ⟨rfl, zs, rfl, hQ, hH2⟩
  refine fin hT 0 rfl (bl (th (rg ?_)))
  refine ar hT 1 rfl (i64w (by omega)) ?_
  refine fin hT 1 rfl ?_
  exact again (x := (k + 1, ys)) (k, zs) ⟨rfl, rfl, rfl, rfl, rfl, trivial⟩ rfl rfl ⟨by dsimp only; omega, hP.trans (hQ.wide (by omega) (by omega)), hH2⟩ (by dsimp only; omega)
 ·obtain rfl : n = 0 := by omega
  refine ex (xt (xt (xb (th (sq (rg ?_))))))
  refine ar hT 1 rfl (i64w (by omega)) ?_
  refine fin hT 1 rfl (th (bk ?_))
  refine loop (σ := Nat × List Nat) (fun s => [(0, .slice (some ⟨g, pre.length, none⟩) xs.length cap), (6, .int .i64 ((a : Nat) : Int)), (7, .int .i64 0), (10, .int .i64 (((s.1 : Nat) : Int) - 1))]) (fun _ => K) (fun s => pt g (uA pre s.2 post) 23 :: hs)
   (fun s => s.1 <= hi /\ SegP a b xs s.2 /\ HsI a s.1 hi s.2) (fun s => s.1) (hi, ys) ⟨Nat.le_refl _, hP, HsI.start hH⟩ ⟨rfl, rfl, rfl, rfl, trivial⟩ rfl rfl ?_
  rintro ⟨n, zs⟩ ⟨hn2, hQ, hI⟩
  dsimp only at *
  have hzl : zs.length = xs.length := hQ.len
  refine sq (sq (rg ?_))
  refine cmpS hT 1 rfl fun b30 h30 => ?_
  refine fin hT 0 rfl (th (ifP h30 rfl (fun e4 => ?_) (fun e4 => ?_)))
  ·obtain ⟨k, rfl⟩ : ∃ k, n = k + 1 := ⟨n - 1, by omega⟩
   rw [show ((k + 1 : Nat) : Int) - 1 = ((k : Nat) : Int) from by omega]
   have hg0 : (uA pre zs post)[pre.length + a]? = some (.int .u64 ((zs.getD a 0 : Nat) : Int)) := uA_get (by omega)
   have hgk : (uA pre zs post)[pre.length + (a + k)]? = some (.int .u64 ((zs.getD (a + k) 0 : Nat) : Int)) := uA_get (by omega)
   have hgk2 : (uA pre (zs.set a (zs.getD (a + k) 0)) post)[pre.length + (a + k)]? = some (.int .u64 (((zs.set a (zs.getD (a + k) 0)).getD (a + k) 0 : Nat) : Int)) := uA_get (by rw [List.length_set]; omega)
   refine sk (th (sq (bk (sq (rga [pt g (uA pre zs post) 23] 17 [0, 2, 4, 6, 8, 10, 12, 14, 16, 18, 20, 22, 24, 26, 28, 30, 32, 35, 36, 39] (by simp) (by kernel_rfl) (by kernel_rfl) ?_)))))
   refine dar hT (by kernel_rfl) 5 rfl (i64w (x := ((a + k : Nat) : Int)) (by omega)) ?_
   refine dar hT (by kernel_rfl) 3 rfl (i64w (x := ((a + k : Nat) : Int)) (by omega)) ?_
   refine dixs hT (by kernel_rfl) 0 (a + k) rfl rfl (by omega) ?_
   simp only [add_mk, Nat.mul_one]
   refine dldpw hT (by kernel_rfl) 0 0 rfl (by kernel_rfl) rfl hgk ?_
   refine dixs hT (by kernel_rfl) 2 a rfl rfl (by omega) ?_
   simp only [add_mk, Nat.mul_one]
   refine dldpw hT (by kernel_rfl) 0 0 rfl (by kernel_rfl) rfl hg0 ?_
   refine dixs hT (by kernel_rfl) 0 a rfl rfl (by omega) ?_
   simp only [add_mk, Nat.mul_one]
   refine dact hT (by kernel_rfl) 0 rfl ?_
   refine stp hT 0 0 rfl rfl hg0 rfl ?_
   refine dnext (.inl (by kernel_rfl)) ?_
   refine dixs hT (by kernel_rfl) 0 (a + k) rfl rfl (by omega) ?_
   simp only [add_mk, Nat.mul_one]
   refine dact hT (by kernel_rfl) 0 rfl ?_
   refine WL.hs (pt g (uA pre (zs.set a (zs.getD (a + k) 0)) post) 23 :: hs) (congrArg (fun z => pt g z 23 :: hs) (uA_set (by omega))) ?_
   refine stp hT 0 0 rfl rfl hgk2 rfl ?_
   refine WL.hs (pt g (uA pre (swp a (a + k) zs) post) 23 :: hs) (congrArg (fun z => pt g z 23 :: hs) (uA_set (by rw [List.length_set]; omega))) ?_
   refine dnext (.inl (by kernel_rfl)) ?_
   refine dend hT (by kernel_rfl) 0 rfl (th (rg ?_))
   have hs1 := siftC (w0 := w0) (K := K) (hs := hs) g cap pre post (swp a (a + k) zs) 0 k a (by rw [swp_len]; omega) (by rw [swp_len]; omega) (by rw [swp_len]; omega) (Nat.zero_le _) (hI.swap (by omega) (by omega))
   rw [swp_len, hzl] at hs1
   refine cl hT 4 rfl hs1 ?_
   rintro v55 K55 hs55 ⟨rfl, us, rfl, hU, hH2⟩
   refine fin hT 0 rfl (bl (th (rg ?_)))
   refine ar hT 1 rfl (i64w (by omega)) ?_
   refine fin hT 1 rfl ?_
   exact again (x := (k + 1, zs)) (k, us) ⟨rfl, rfl, rfl, rfl, trivial⟩ rfl rfl ⟨by dsimp only; omega, (hQ.trans (SegP.swp ⟨by omega, by omega⟩ ⟨by omega, by omega⟩ (by omega))).trans (hU.wide (by omega) (by omega)), hI.step (by omega) (by omega) hU hH2⟩ (by dsimp only; omega)
  ·obtain rfl : n = 0 := by omega
   refine ex (xt (xt (xb ?_)))
   subst hhi
   exact end0 rfl ⟨rfl, zs, rfl, hQ, hI.done⟩
end Go.Proofs.YtneeeblghijmgaaGreat
end
section
namespace Go.En
structure PrtI (P Q : Nat -> Nat -> Prop) (a b i j : Nat) (xs : List Nat) : Prop where
 i1 : a + 1 <= i
 ij : i <= j + 1
 jb : j + 1 <= b
 lo : ∀ p, a + 1 <= p -> p < i -> P (xs.getD p 0) (xs.getD a 0)
 hi : ∀ p, j < p -> p < b -> Q (xs.getD p 0) (xs.getD a 0)
theorem PrtI.start (P Q : Nat -> Nat -> Prop) {a b : Nat} {xs : List Nat} (h : a < b) : PrtI P Q a b (a + 1) (b - 1) xs :=
 ⟨Nat.le_refl _, by omega, by omega, fun p h1 h2 => by omega, fun p h1 h2 => by omega⟩
theorem PrtI.up {P Q : Nat -> Nat -> Prop} {a b i j : Nat} {xs : List Nat} (h : PrtI P Q a b i j xs) (hij : i <= j) (hp : P (xs.getD i 0) (xs.getD a 0)) : PrtI P Q a b (i + 1) j xs :=
 ⟨by have := h.i1; omega, by omega, h.jb, fun p h1 h2 => by
  by_cases e : p = i
  ·rw [e]; exact hp
  ·exact h.lo p h1 (by omega), h.hi⟩
theorem PrtI.down {P Q : Nat -> Nat -> Prop} {a b i j : Nat} {xs : List Nat} (h : PrtI P Q a b i j xs) (hij : i <= j) (hq : Q (xs.getD j 0) (xs.getD a 0)) : PrtI P Q a b i (j - 1) xs :=
 ⟨h.i1, by omega, by have := h.jb; omega, h.lo, fun p h1 h2 => by
  by_cases e : p = j
  ·rw [e]; exact hq
  ·exact h.hi p (by have := h.i1; omega) h2⟩
theorem PrtI.swap {P Q : Nat -> Nat -> Prop} {a b i j : Nat} {xs : List Nat} (h : PrtI P Q a b i j xs) (hij : i < j) (hl : b <= xs.length) (hp : P (xs.getD j 0) (xs.getD a 0)) (hq : Q (xs.getD i 0) (xs.getD a 0)) : PrtI P Q a b (i + 1) (j - 1) (swp i j xs) := by
 have h1 := h.i1
 have h2 := h.jb
 have hg : ∀ k, (swp i j xs).getD k 0 = if k = j then xs.getD i 0 else if k = i then xs.getD j 0 else xs.getD k 0 := swp_getD (by omega) (by omega)
 have ha : (swp i j xs).getD a 0 = xs.getD a 0 := by rw [hg, if_neg (by omega), if_neg (by omega)]
 refine ⟨by omega, by omega, by omega, fun p h3 h4 => ?_, fun p h3 h4 => ?_⟩
 ·rw [ha, hg, if_neg (by omega)]
  by_cases e : p = i
  ·rw [if_pos e]; exact hp
  ·rw [if_neg e]; exact h.lo p h3 (by omega)
 ·rw [ha, hg]
  by_cases e : p = j
  ·rw [if_pos e]; exact hq
  ·rw [if_neg e, if_neg (by omega)]; exact h.hi p (by omega) h4
theorem PrtI.last {P Q : Nat -> Nat -> Prop} {a b j : Nat} {xs : List Nat} (h : PrtI P Q a b (j + 1) j xs) (hl : b <= xs.length) :
  (∀ p, a <= p -> p < j -> P ((swp j a xs).getD p 0) ((swp j a xs).getD j 0)) /\ ∀ p, j < p -> p < b -> Q ((swp j a xs).getD p 0) ((swp j a xs).getD j 0) := by
 have h1 := h.i1
 have h2 := h.jb
 have hg : ∀ k, (swp j a xs).getD k 0 = if k = a then xs.getD j 0 else if k = j then xs.getD a 0 else xs.getD k 0 := swp_getD (by omega) (by omega)
 have hj : (swp j a xs).getD j 0 = xs.getD a 0 := by
  rw [hg]
  by_cases e : j = a
  ·rw [if_pos e, e]
  ·rw [if_neg e, if_pos rfl]
 refine ⟨fun p h3 h4 => ?_, fun p h3 h4 => ?_⟩
 ·rw [hj, hg]
  by_cases e : p = a
  ·rw [if_pos e]; exact h.lo j (by omega) (by omega)
  ·rw [if_neg e, if_neg (by omega)]; exact h.lo p (by omega) (by omega)
 ·rw [hj, hg, if_neg (by omega), if_neg (by omega)]; exact h.hi p h3 h4
theorem Srt.join {a b m : Nat} {xs : List Nat} (h1 : Srt a m xs) (h2 : Srt (m + 1) b xs) (hlo : ∀ p, a <= p -> p < m -> xs.getD p 0 <= xs.getD m 0) (hhi : ∀ p, m < p -> p < b -> xs.getD m 0 <= xs.getD p 0) : Srt a b xs := fun i j g1 g2 g3 => by
 by_cases e1 : j < m
 ·exact h1 i j g1 g2 e1
 ·by_cases e2 : j = m
  ·subst e2; exact hlo i g1 g2
  ·by_cases e3 : i = m
   ·subst e3; exact hhi j (by omega) g3
   ·by_cases e4 : i < m
    ·exact Nat.le_trans (hlo i g1 e4) (hhi j (by omega) g3)
    ·exact h2 i j (by omega) g2 g3
end Go.En
end
section
namespace Go.Proofs.YtneeeblghijmgaaGreat
open Go.En
attribute [local irreducible] Code.wp wpList Calls
theorem parEC {w0 : World} {K : PH} {hs : List PH} (g cap : Nat) (pre post : List Value) (xs : List Nat) (a b pv : Nat) (hab : a < b) (hpv : a <= pv /\ pv < b) (hb : b <= xs.length) (hc : xs.length <= cap) (hl : xs.length <= 1099511627776) :
  Ct Tryz.prog w0 175 [.slice (some ⟨g, pre.length, none⟩) xs.length cap, .int .i64 ((a : Nat) : Int), .int .i64 ((b : Nat) : Int), .int .i64 ((pv : Nat) : Int)] K (pt g (uA pre xs post) 23 :: hs)
   (fun v K' hs' => K' = K /\ ∃ ys, ∃ i : Nat, hs' = pt g (uA pre ys post) 23 :: hs /\ v = .int .i64 ((i : Nat) : Int) /\ SegP a b xs ys /\ a + 1 <= i /\ i <= b /\ (∀ p, a + 1 <= p -> p < i -> ys.getD p 0 <= ys.getD a 0) /\ (∀ p, i <= p -> p < b -> ys.getD a 0 < ys.getD p 0) /\ ys.getD a 0 = xs.getD pv 0) := by
 refine enter Tryz.func175 (by kernel_rfl) rfl rfl rfl ?_
 refine sq (rg ?_)
 have hgi : (uA pre xs post)[pre.length + a]? = some (.int .u64 ((xs.getD a 0 : Nat) : Int)) := uA_get (by omega)
 have hgj : (uA pre xs post)[pre.length + pv]? = some (.int .u64 ((xs.getD pv 0 : Nat) : Int)) := uA_get (by omega)
 have hgj2 : (uA pre (xs.set a (xs.getD pv 0)) post)[pre.length + pv]? = some (.int .u64 (((xs.set a (xs.getD pv 0)).getD pv 0 : Nat) : Int)) := uA_get (by rw [List.length_set]; omega)
 refine fin hT 1 rfl (th (sq (rga [pt g (uA pre xs post) 23] 13 [0, 2, 4, 6, 8, 10, 12, 14, 16, 18, 20, 22, 24, 27, 28, 31] (by simp) (by kernel_rfl) (by kernel_rfl) ?_)))
 refine dixs hT (by kernel_rfl) 6 pv rfl rfl (by omega) ?_
 simp only [add_mk, Nat.mul_one]
 refine dldpw hT (by kernel_rfl) 0 0 rfl (by kernel_rfl) rfl hgj ?_
 refine dixs hT (by kernel_rfl) 2 a rfl rfl (by omega) ?_
 simp only [add_mk, Nat.mul_one]
 refine dldpw hT (by kernel_rfl) 0 0 rfl (by kernel_rfl) rfl hgi ?_
 refine dixs hT (by kernel_rfl) 0 a rfl rfl (by omega) ?_
 simp only [add_mk, Nat.mul_one]
 refine dact hT (by kernel_rfl) 0 rfl ?_
 refine stp hT 0 0 rfl rfl hgi rfl ?_
 refine dnext (.inl (by kernel_rfl)) ?_
 refine dixs hT (by kernel_rfl) 0 pv rfl rfl (by omega) ?_
 simp only [add_mk, Nat.mul_one]
 refine dact hT (by kernel_rfl) 0 rfl ?_
 refine WL.hs (pt g (uA pre (xs.set a (xs.getD pv 0)) post) 23 :: hs) (congrArg (fun z => pt g z 23 :: hs) (uA_set (by omega))) ?_
 refine stp hT 0 0 rfl rfl hgj2 rfl ?_
 refine WL.hs (pt g (uA pre (swp a pv xs) post) 23 :: hs) (congrArg (fun z => pt g z 23 :: hs) (uA_set (by rw [List.length_set]; omega))) ?_
 refine dnext (.inl (by kernel_rfl)) ?_
 refine dend hT (by kernel_rfl) 0 rfl (th (sq (rg ?_)))
 have hswl := swp_len a pv xs
 have hva : (swp a pv xs).getD a 0 = xs.getD pv 0 := by
  rw [swp_getD (by omega) (by omega)]
  by_cases e : a = pv
  ·rw [if_pos e, e]
  ·rw [if_neg e, if_pos rfl]
 refine ar hT 1 rfl (i64w (x := ((a + 1 : Nat) : Int)) (by omega)) ?_
 refine ar hT 1 rfl (v' := .int .i64 ((b - 1 : Nat) : Int)) (by rw [show ((b : Nat) : Int) - 1 = ((b - 1 : Nat) : Int) from by omega]; exact i64w (by omega)) ?_
 refine fin hT 2 rfl (th (sq (bk ?_)))
 refine loop (σ := Nat × Nat × List Nat) (fun s => [(0, .slice (some ⟨g, pre.length, none⟩) xs.length cap), (1, .int .i64 ((a : Nat) : Int)), (9, .int .i64 ((s.1 : Nat) : Int)), (10, .int .i64 ((s.2.1 : Nat) : Int))]) (fun _ => K) (fun s => pt g (uA pre s.2.2 post) 23 :: hs)
  (fun s => SegP a b xs s.2.2 /\ PrtI (fun x y => x <= y) (fun x y => y < x) a b s.1 s.2.1 s.2.2 /\ s.2.2.getD a 0 = xs.getD pv 0) (fun s => s.2.1 + 1 - s.1) (a + 1, b - 1, swp a pv xs) ⟨SegP.swp ⟨by omega, by omega⟩ ⟨by omega, by omega⟩ hb, PrtI.start _ _ hab, hva⟩ ⟨rfl, rfl, rfl, rfl, trivial⟩ rfl rfl ?_
 rintro ⟨i0, j0, ys⟩ ⟨hP, hI0, hv0⟩
 dsimp only at *
 have hyl : ys.length = xs.length := hP.len
 refine bk ?_
 refine jn (σ := Nat) (fun i => [(0, .slice (some ⟨g, pre.length, none⟩) xs.length cap), (1, .int .i64 ((a : Nat) : Int)), (9, .int .i64 ((i : Nat) : Int)), (10, .int .i64 ((j0 : Nat) : Int))]) (fun _ => pt g (uA pre ys post) 23 :: hs) (fun i => i0 <= i /\ PrtI (fun x y => x <= y) (fun x y => y < x) a b i j0 ys /\ (i <= j0 -> ys.getD a 0 < ys.getD i 0)) ?_ ?_
 ·refine bk ?_
  refine loop (σ := Nat) (fun i => [(0, .slice (some ⟨g, pre.length, none⟩) xs.length cap), (1, .int .i64 ((a : Nat) : Int)), (9, .int .i64 ((i : Nat) : Int)), (10, .int .i64 ((j0 : Nat) : Int))]) (fun _ => K) (fun _ => pt g (uA pre ys post) 23 :: hs) (fun i => i0 <= i /\ PrtI (fun x y => x <= y) (fun x y => y < x) a b i j0 ys) (fun i => j0 + 1 - i) i0 ⟨Nat.le_refl _, hI0⟩ ⟨rfl, rfl, rfl, rfl, trivial⟩ rfl rfl ?_
  rintro i ⟨hi0, hI⟩
  have q1 := hI.i1
  have q2 := hI.ij
  have q3 := hI.jb
  refine sq (sq (rga [pt g (uA pre ys post) 23] 15 [0, 2, 4, 6, 8, 10, 12, 14, 16, 18, 20, 22, 25, 26, 28] (by simp) (by kernel_rfl) (by kernel_rfl) ?_))
  refine dcmp hT (by kernel_rfl) 2 (i <= j0) rfl (by simp) (fun h1 => ?_) (fun h1 => ?_)
  ·refine dixs hT (by kernel_rfl) 3 a rfl rfl (by omega) ?_
   simp only [add_mk, Nat.mul_one]
   refine dldp hT (by kernel_rfl) 0 0 rfl rfl (uA_get (by omega)) ?_
   refine dixs hT (by kernel_rfl) 2 i rfl rfl (by omega) ?_
   simp only [add_mk, Nat.mul_one]
   refine dldp hT (by kernel_rfl) 0 0 rfl rfl (uA_get (by omega)) ?_
   refine dact hT (by kernel_rfl) 0 rfl ?_
   refine cl hT 0 rfl (lessC (ys.getD a 0) (ys.getD i 0)) ?_
   rintro v41 K41 hs41 ⟨rfl, rfl, rfl⟩
   refine dnex [pt g (uA pre ys post) 23] (by simp) (by simp) rfl ?_
   by_cases hlt : ys.getD a 0 < ys.getD i 0
   ·rw [decide_eq_true hlt]
    refine dend hT (by kernel_rfl) 2 rfl (th (ifF rfl ?_))
    refine ex (xt (xt (xb ?_)))
    exact jx i ⟨hi0, hI, fun _ => hlt⟩ ⟨rfl, rfl, rfl, rfl, trivial⟩ rfl rfl
   ·rw [decide_eq_false hlt]
    refine dend hT (by kernel_rfl) 2 rfl (th (ifT rfl ?_))
    refine sk (th (bk (rg ?_)))
    refine ar hT 1 rfl (i64w (x := ((i + 1 : Nat) : Int)) (by omega)) ?_
    refine fin hT 1 rfl (bl ?_)
    exact again (x := i) (i + 1) ⟨rfl, rfl, rfl, rfl, trivial⟩ rfl rfl ⟨by omega, hI.up h1 (Nat.le_of_not_lt hlt)⟩ (by omega)
  ·refine dact hT (by kernel_rfl) 9 rfl ?_
   refine WL.pures hT 1 rfl ?_
   refine dnex [pt g (uA pre ys post) 23] (by simp) (by simp) rfl ?_
   refine dend hT (by kernel_rfl) 2 rfl (th (ifF rfl ?_))
   refine ex (xt (xt (xb ?_)))
   exact jx i ⟨hi0, hI, fun h => absurd h h1⟩ ⟨rfl, rfl, rfl, rfl, trivial⟩ rfl rfl
 ·rintro i ⟨hi0, hI, hq⟩
  refine jn (σ := Nat) (fun j => [(0, .slice (some ⟨g, pre.length, none⟩) xs.length cap), (1, .int .i64 ((a : Nat) : Int)), (9, .int .i64 ((i : Nat) : Int)), (10, .int .i64 ((j : Nat) : Int))]) (fun _ => pt g (uA pre ys post) 23 :: hs) (fun j => j <= j0 /\ PrtI (fun x y => x <= y) (fun x y => y < x) a b i j ys /\ (i <= j -> ys.getD a 0 < ys.getD i 0) /\ (i <= j -> ys.getD j 0 <= ys.getD a 0)) ?_ ?_
  ·refine bk ?_
   refine loop (σ := Nat) (fun j => [(0, .slice (some ⟨g, pre.length, none⟩) xs.length cap), (1, .int .i64 ((a : Nat) : Int)), (9, .int .i64 ((i : Nat) : Int)), (10, .int .i64 ((j : Nat) : Int))]) (fun _ => K) (fun _ => pt g (uA pre ys post) 23 :: hs) (fun j => j <= j0 /\ PrtI (fun x y => x <= y) (fun x y => y < x) a b i j ys) (fun j => j + 1 - i) j0 ⟨Nat.le_refl _, hI⟩ ⟨rfl, rfl, rfl, rfl, trivial⟩ rfl rfl ?_
   rintro j ⟨hj0, hJ⟩
   have q1 := hJ.i1
   have q2 := hJ.ij
   have q3 := hJ.jb
   refine sq (sq (rga [pt g (uA pre ys post) 23] 14 [0, 2, 4, 6, 8, 10, 12, 14, 16, 18, 20, 22, 25, 26] (by simp) (by kernel_rfl) (by kernel_rfl) ?_))
   refine dcmp hT (by kernel_rfl) 2 (i <= j) rfl (by simp) (fun h1 => ?_) (fun h1 => ?_)
   ·refine dixs hT (by kernel_rfl) 3 a rfl rfl (by omega) ?_
    simp only [add_mk, Nat.mul_one]
    refine dldp hT (by kernel_rfl) 0 0 rfl rfl (uA_get (by omega)) ?_
    refine dixs hT (by kernel_rfl) 2 j rfl rfl (by omega) ?_
    simp only [add_mk, Nat.mul_one]
    refine dldp hT (by kernel_rfl) 0 0 rfl rfl (uA_get (by omega)) ?_
    refine dact hT (by kernel_rfl) 0 rfl ?_
    refine cl hT 0 rfl (lessC (ys.getD a 0) (ys.getD j 0)) ?_
    rintro v58 K58 hs58 ⟨rfl, rfl, rfl⟩
    refine dnex [pt g (uA pre ys post) 23] (by simp) (by simp) rfl ?_
    by_cases hlt : ys.getD a 0 < ys.getD j 0
    ·rw [decide_eq_true hlt]
     refine dend hT (by kernel_rfl) 1 rfl (th (ifT rfl ?_))
     refine sk (th (bk (rg ?_)))
     refine ar hT 1 rfl (v' := .int .i64 ((j - 1 : Nat) : Int)) (by rw [show ((j : Nat) : Int) - 1 = ((j - 1 : Nat) : Int) from by omega]; exact i64w (by omega)) ?_
     refine fin hT 1 rfl (bl ?_)
     exact again (x := j) (j - 1) ⟨rfl, rfl, rfl, rfl, trivial⟩ rfl rfl ⟨by omega, hJ.down h1 hlt⟩ (by omega)
    ·rw [decide_eq_false hlt]
     refine dend hT (by kernel_rfl) 1 rfl (th (ifF rfl ?_))
     refine ex (xt (xt (xb ?_)))
     exact jx j ⟨hj0, hJ, fun h => hq (by omega), fun _ => Nat.le_of_not_lt hlt⟩ ⟨rfl, rfl, rfl, rfl, trivial⟩ rfl rfl
   ·refine dact hT (by kernel_rfl) 9 rfl ?_
    refine WL.pures hT 1 rfl ?_
    refine dnex [pt g (uA pre ys post) 23] (by simp) (by simp) rfl ?_
    refine dend hT (by kernel_rfl) 1 rfl (th (ifF rfl ?_))
    refine ex (xt (xt (xb ?_)))
    exact jx j ⟨hj0, hJ, fun h => absurd h h1, fun h => absurd h h1⟩ ⟨rfl, rfl, rfl, rfl, trivial⟩ rfl rfl
  ·rintro j ⟨hj0, hJ, hqi, hqj⟩
   have q1 := hJ.i1
   have q2 := hJ.ij
   have q3 := hJ.jb
   refine sq (sq (rg ?_))
   refine cmpS hT 2 rfl fun b64 h64 => ?_
   refine fin hT 0 rfl (th (ifP h64 rfl (fun e6 => ?_) (fun e6 => ?_)))
   ·obtain rfl : i = j + 1 := by omega
    refine ex (xt (xn rfl (xt (xb (th (sq (rg ?_)))))))
    refine fin hT 2 rfl (th (rt ?_))
    exact ret1 rfl rfl ⟨rfl, ys, j + 1, rfl, rfl, hP, by omega, by omega, hJ.lo, fun p g1 g2 => hJ.hi p (by omega) g2, hv0⟩
   ·have hij : i < j := by
     rcases Nat.lt_or_ge i j with h | h
     ·exact h
     ·have h1 := hqi (by omega)
      have h2 := hqj (by omega)
      have : i = j := by omega
      subst this
      omega
    have hgi : (uA pre ys post)[pre.length + i]? = some (.int .u64 ((ys.getD i 0 : Nat) : Int)) := uA_get (by omega)
    have hgj : (uA pre ys post)[pre.length + j]? = some (.int .u64 ((ys.getD j 0 : Nat) : Int)) := uA_get (by omega)
    have hgj2 : (uA pre (ys.set i (ys.getD j 0)) post)[pre.length + j]? = some (.int .u64 (((ys.set i (ys.getD j 0)).getD j 0 : Nat) : Int)) := uA_get (by rw [List.length_set]; omega)
    refine sk (th (sq (rga [pt g (uA pre ys post) 23] 13 [0, 2, 4, 6, 8, 10, 12, 14, 16, 18, 20, 22, 24, 27, 28, 31] (by simp) (by kernel_rfl) (by kernel_rfl) ?_)))
    refine dixs hT (by kernel_rfl) 6 j rfl rfl (by omega) ?_
    simp only [add_mk, Nat.mul_one]
    refine dldpw hT (by kernel_rfl) 0 0 rfl (by kernel_rfl) rfl hgj ?_
    refine dixs hT (by kernel_rfl) 2 i rfl rfl (by omega) ?_
    simp only [add_mk, Nat.mul_one]
    refine dldpw hT (by kernel_rfl) 0 0 rfl (by kernel_rfl) rfl hgi ?_
    refine dixs hT (by kernel_rfl) 0 i rfl rfl (by omega) ?_
    simp only [add_mk, Nat.mul_one]
    refine dact hT (by kernel_rfl) 0 rfl ?_
    refine stp hT 0 0 rfl rfl hgi rfl ?_
    refine dnext (.inl (by kernel_rfl)) ?_
    refine dixs hT (by kernel_rfl) 0 j rfl rfl (by omega) ?_
    simp only [add_mk, Nat.mul_one]
    refine dact hT (by kernel_rfl) 0 rfl ?_
    refine WL.hs (pt g (uA pre (ys.set i (ys.getD j 0)) post) 23 :: hs) (congrArg (fun z => pt g z 23 :: hs) (uA_set (by omega))) ?_
    refine stp hT 0 0 rfl rfl hgj2 rfl ?_
    refine WL.hs (pt g (uA pre (swp i j ys) post) 23 :: hs) (congrArg (fun z => pt g z 23 :: hs) (uA_set (by rw [List.length_set]; omega))) ?_
    refine dnext (.inl (by kernel_rfl)) ?_
    refine dend hT (by kernel_rfl) 0 rfl (th (sq (rg ?_)))
    refine ar hT 1 rfl (i64w (x := ((i + 1 : Nat) : Int)) (by omega)) ?_
    refine fin hT 1 rfl (th (rg ?_))
    refine ar hT 1 rfl (v' := .int .i64 ((j - 1 : Nat) : Int)) (by rw [show ((j : Nat) : Int) - 1 = ((j - 1 : Nat) : Int) from by omega]; exact i64w (by omega)) ?_
    refine fin hT 1 rfl (bl ?_)
    exact again (x := (i0, j0, ys)) (i + 1, j - 1, swp i j ys) ⟨rfl, rfl, rfl, rfl, trivial⟩ rfl rfl ⟨hP.trans (SegP.swp ⟨by omega, by omega⟩ ⟨by omega, by omega⟩ (by omega)), hJ.swap hij (by omega) (hqj (by omega)) (hqi (by omega)), by rw [swp_getD (by omega) (by omega), if_neg (by omega), if_neg (by omega)]; exact hv0⟩ (by dsimp only; omega)
end Go.Proofs.YtneeeblghijmgaaGreat
end
section
namespace Go.En
def LoB (a b : Nat) (xs : List Nat) : Prop := ∀ p q, p < a -> a <= q -> q < b -> xs.getD p 0 <= xs.getD q 0
theorem SegP.outD {a b : Nat} {xs ys : List Nat} (h : SegP a b xs ys) {i : Nat} (hi : i < a \/ b <= i) : ys.getD i 0 = xs.getD i 0 := by
 rw [List.getD_eq_getElem?_getD, h.out i hi, List.getD_eq_getElem?_getD]
theorem LoB.zero (b : Nat) (xs : List Nat) : LoB 0 b xs := fun p q h => by omega
theorem LoB.perm {a b : Nat} {xs ys : List Nat} (h : LoB a b xs) (hP : SegP a b xs ys) (hb : b <= xs.length) : LoB a b ys := fun p q h1 h2 h3 => by
 obtain ⟨r, r1, r2, r3⟩ := hP.mem hb h2 h3
 rw [hP.outD (.inl h1), r3]
 exact h p r h1 r1 r2
theorem LoB.cut {a b m : Nat} {xs : List Nat} (h : LoB a b xs) (hm : m <= b) : LoB a m xs := fun p q h1 h2 h3 => h p q h1 h2 (by omega)
theorem Srt.same {a b : Nat} {xs ys : List Nat} (h : Srt a b xs) (he : ∀ p, a <= p -> p < b -> ys.getD p 0 = xs.getD p 0) : Srt a b ys := fun i j h1 h2 h3 => by
 rw [he i h1 (by omega), he j (by omega) h3]
 exact h i j h1 h2 h3
def Rst (a b c d : Nat) (xs : List Nat) : Prop := ∀ zs, SegP c d xs zs -> Srt c d zs -> Srt a b zs
theorem Rst.self (a b : Nat) (xs : List Nat) : Rst a b a b xs := fun _ _ h => h
theorem Rst.step {a b c d : Nat} {xs ys : List Nat} (h : Rst a b c d xs) (hP : SegP c d xs ys) : Rst a b c d ys := fun zs h1 h2 => h zs (hP.trans h1) h2
structure PtA (c d m : Nat) (ys : List Nat) : Prop where
 m1 : c <= m
 m2 : m < d
 lo : ∀ p, c <= p -> p < m -> ys.getD p 0 <= ys.getD m 0
 hi : ∀ p, m < p -> p < d -> ys.getD m 0 <= ys.getD p 0
theorem PtA.left {c d m : Nat} {ys zs : List Nat} (h : PtA c d m ys) (hP : SegP c m ys zs) (hd : d <= ys.length) : PtA c d m zs := by
 have h2 := h.m2
 refine ⟨h.m1, h.m2, fun p p1 p2 => ?_, fun p p1 p2 => ?_⟩
 ·obtain ⟨q, q1, q2, q3⟩ := hP.mem (by omega) p1 p2
  rw [q3, hP.outD (.inr (Nat.le_refl _))]
  exact h.lo q q1 q2
 ·rw [hP.outD (.inr (Nat.le_refl _)), hP.outD (i := p) (.inr (by omega))]
  exact h.hi p p1 p2
theorem PtA.right {c d m : Nat} {ys zs : List Nat} (h : PtA c d m ys) (hP : SegP (m + 1) d ys zs) (hd : d <= ys.length) : PtA c d m zs := by
 have h2 := h.m2
 refine ⟨h.m1, h.m2, fun p p1 p2 => ?_, fun p p1 p2 => ?_⟩
 ·rw [hP.outD (i := p) (.inl (by omega)), hP.outD (.inl (Nat.lt_succ_self _))]
  exact h.lo p p1 p2
 ·obtain ⟨q, q1, q2, q3⟩ := hP.mem hd (by omega) p2
  rw [q3, hP.outD (.inl (Nat.lt_succ_self _))]
  exact h.hi q (by omega) q2
theorem PtA.loB {c d m : Nat} {ys : List Nat} (h : PtA c d m ys) (hl : LoB c d ys) : LoB (m + 1) d ys := fun p q h1 h2 h3 => by
 have g1 := h.m1
 by_cases e : p < c
 ·exact hl p q e (by omega) h3
 ·by_cases e2 : p = m
  ·rw [e2]; exact h.hi q (by omega) h3
  ·exact Nat.le_trans (h.lo p (by omega) (by omega)) (h.hi q (by omega) h3)
theorem Rst.left {a b c d m : Nat} {ys zs : List Nat} (h : Rst a b c d ys) (hA : PtA c d m ys) (hd : d <= ys.length) (hP : SegP c m ys zs) (hS : Srt c m zs) : Rst a b (m + 1) d zs := fun us h1 h2 => by
 have g1 := hA.m1
 have g2 := hA.m2
 have hA2 := (hA.left hP hd).right h1 (by rw [hP.len]; exact hd)
 refine h us ((hP.wide (Nat.le_refl _) (by omega)).trans (h1.wide (by omega) (Nat.le_refl _))) (Srt.join (m := m) (hS.same fun p p1 p2 => h1.outD (.inl (by omega))) h2 hA2.lo hA2.hi)
theorem Rst.right {a b c d m : Nat} {ys zs : List Nat} (h : Rst a b c d ys) (hA : PtA c d m ys) (hd : d <= ys.length) (hP : SegP (m + 1) d ys zs) (hS : Srt (m + 1) d zs) : Rst a b c m zs := fun us h1 h2 => by
 have g1 := hA.m1
 have g2 := hA.m2
 have hA2 := (hA.right hP hd).left h1 (by rw [hP.len]; exact hd)
 refine h us ((hP.wide (by omega) (Nat.le_refl _)).trans (h1.wide (Nat.le_refl _) (by omega))) (Srt.join (m := m) h2 (hS.same fun p p1 p2 => h1.outD (.inr (by omega))) hA2.lo hA2.hi)
theorem Rst.equal {a b c d i : Nat} {ys : List Nat} (h : Rst a b c d ys) (hc : 0 < c) (hci : c + 1 <= i) (hid : i <= d) (hd : d <= ys.length) (hl : LoB c d ys) (hle : ys.getD c 0 <= ys.getD (c - 1) 0) (h1 : ∀ p, c + 1 <= p -> p < i -> ys.getD p 0 <= ys.getD c 0) (h2 : ∀ p, i <= p -> p < d -> ys.getD c 0 < ys.getD p 0) :
  Rst a b i d ys /\ LoB i d ys := by
 have heq : ∀ p, c <= p -> p < i -> ys.getD p 0 = ys.getD c 0 := fun p p1 p2 => by
  by_cases e : p = c
  ·rw [e]
  ·have := h1 p (by omega) p2
   have := hl (c - 1) p (by omega) p1 (by omega)
   omega
 refine ⟨fun us g1 g2 => h us (g1.wide (by omega) (Nat.le_refl _)) fun p q q1 q2 q3 => ?_, fun p q q1 q2 q3 => ?_⟩
 ·by_cases e1 : q < i
  ·rw [g1.outD (i := p) (.inl (by omega)), g1.outD (i := q) (.inl (by omega)), heq p q1 (by omega), heq q (by omega) e1]
   exact Nat.le_refl _
  ·by_cases e2 : p < i
   ·obtain ⟨r, r1, r2, r3⟩ := g1.mem hd (by omega : i <= q) q3
    rw [g1.outD (i := p) (.inl e2), heq p q1 e2, r3]
    exact Nat.le_of_lt (h2 r r1 r2)
   ·exact g2 p q (by omega) q2 q3
 ·by_cases e : p < c
  ·exact hl p q e (by omega) q3
  ·rw [heq p (by omega) q1]
   exact Nat.le_of_lt (h2 q q2 q3)
theorem Srt.one {a b : Nat} {xs : List Nat} (h : b <= a + 1) : Srt a b xs := fun i j h1 h2 h3 => by omega
theorem Srt.snoc {a b : Nat} {xs : List Nat} (h : Srt a b xs) (hab : a < b) (hle : xs.getD (b - 1) 0 <= xs.getD b 0) : Srt a (b + 1) xs := fun i j h1 h2 h3 => by
 by_cases e : j = b
 ·rw [e]
  by_cases e2 : i = b - 1
  ·rw [e2]; exact hle
  ·exact Nat.le_trans (h i (b - 1) h1 (by omega) (by omega)) hle
 ·exact h i j h1 h2 (by omega)
end Go.En
end
section
namespace Go.Proofs.YtneeeblghijmgaaGreat
open Go.En
attribute [local irreducible] Code.wp wpList Calls
theorem parC {w0 : World} {K : PH} {hs : List PH} (g cap : Nat) (pre post : List Value) (xs : List Nat) (a b pv : Nat) (hab : a < b) (hpv : a <= pv /\ pv < b) (hb : b <= xs.length) (hc : xs.length <= cap) (hl : xs.length <= 1099511627776) :
  Ct Tryz.prog w0 176 [.slice (some ⟨g, pre.length, none⟩) xs.length cap, .int .i64 ((a : Nat) : Int), .int .i64 ((b : Nat) : Int), .int .i64 ((pv : Nat) : Int)] K (pt g (uA pre xs post) 23 :: hs)
   (fun v K' hs' => K' = K /\ ∃ ys, ∃ m : Nat, ∃ t : Bool, hs' = pt g (uA pre ys post) 23 :: hs /\ v = .tuple #[.int .i64 ((m : Nat) : Int), .bool t] /\ SegP a b xs ys /\ PtA a b m ys) := by
 refine enter Tryz.func176 (by kernel_rfl) rfl rfl rfl ?_
 refine sq (rg ?_)
 refine fin hT 2 rfl (th (sq ?_))
 have hgi : (uA pre xs post)[pre.length + a]? = some (.int .u64 ((xs.getD a 0 : Nat) : Int)) := uA_get (by omega)
 have hgj : (uA pre xs post)[pre.length + pv]? = some (.int .u64 ((xs.getD pv 0 : Nat) : Int)) := uA_get (by omega)
 have hgj2 : (uA pre (xs.set a (xs.getD pv 0)) post)[pre.length + pv]? = some (.int .u64 (((xs.set a (xs.getD pv 0)).getD pv 0 : Nat) : Int)) := uA_get (by rw [List.length_set]; omega)
 refine rga [pt g (uA pre xs post) 23] 13 [0, 2, 4, 6, 8, 10, 12, 14, 16, 18, 20, 22, 24, 27, 28, 31] (by simp) (by kernel_rfl) (by kernel_rfl) ?_
 refine dixs hT (by kernel_rfl) 6 pv rfl rfl (by omega) ?_
 simp only [add_mk, Nat.mul_one]
 refine dldpw hT (by kernel_rfl) 0 0 rfl (by kernel_rfl) rfl hgj ?_
 refine dixs hT (by kernel_rfl) 2 a rfl rfl (by omega) ?_
 simp only [add_mk, Nat.mul_one]
 refine dldpw hT (by kernel_rfl) 0 0 rfl (by kernel_rfl) rfl hgi ?_
 refine dixs hT (by kernel_rfl) 0 a rfl rfl (by omega) ?_
 simp only [add_mk, Nat.mul_one]
 refine dact hT (by kernel_rfl) 0 rfl ?_
 refine stp hT 0 0 rfl rfl hgi rfl ?_
 refine dnext (.inl (by kernel_rfl)) ?_
 refine dixs hT (by kernel_rfl) 0 pv rfl rfl (by omega) ?_
 simp only [add_mk, Nat.mul_one]
 refine dact hT (by kernel_rfl) 0 rfl ?_
 refine WL.hs (pt g (uA pre (xs.set a (xs.getD pv 0)) post) 23 :: hs) (congrArg (fun z => pt g z 23 :: hs) (uA_set (by omega))) ?_
 refine stp hT 0 0 rfl rfl hgj2 rfl ?_
 refine WL.hs (pt g (uA pre (swp a pv xs) post) 23 :: hs) (congrArg (fun z => pt g z 23 :: hs) (uA_set (by rw [List.length_set]; omega))) ?_
 refine dnext (.inl (by kernel_rfl)) ?_
 refine dend hT (by kernel_rfl) 0 rfl (th (sq (rg ?_)))
 have hswl := swp_len a pv xs
 have hP0 : SegP a b xs (swp a pv xs) := SegP.swp ⟨by omega, by omega⟩ ⟨by omega, by omega⟩ hb
 refine ar hT 1 rfl (i64w (x := ((a + 1 : Nat) : Int)) (by omega)) ?_
 refine ar hT 1 rfl (v' := .int .i64 ((b - 1 : Nat) : Int)) (by rw [show ((b : Nat) : Int) - 1 = ((b - 1 : Nat) : Int) from by omega]; exact i64w (by omega)) ?_
 obtain ⟨ys, hys⟩ : ∃ ys, ys = swp a pv xs := ⟨_, rfl⟩
 rw [<- hys] at hswl hP0 ⊢
 clear hys
 have hyl : ys.length = xs.length := hswl
 refine fin hT 2 rfl (th (jn (σ := Nat) (fun i => [(0, .slice (some ⟨g, pre.length, none⟩) xs.length cap), (1, .int .i64 ((a : Nat) : Int)), (10, .int .i64 ((i : Nat) : Int)), (11, .int .i64 (((b - 1) : Nat) : Int))]) (fun _ => pt g (uA pre ys post) 23 :: hs) (fun i => (a + 1) <= i /\ PrtI (fun x y => x < y) (fun x y => y <= x) a b i (b - 1) ys /\ (i <= (b - 1) -> ys.getD a 0 <= ys.getD i 0)) ?_ ?_))
 ·refine bk ?_
  refine loop (σ := Nat) (fun i => [(0, .slice (some ⟨g, pre.length, none⟩) xs.length cap), (1, .int .i64 ((a : Nat) : Int)), (10, .int .i64 ((i : Nat) : Int)), (11, .int .i64 (((b - 1) : Nat) : Int))]) (fun _ => K) (fun _ => pt g (uA pre ys post) 23 :: hs) (fun i => (a + 1) <= i /\ PrtI (fun x y => x < y) (fun x y => y <= x) a b i (b - 1) ys) (fun i => (b - 1) + 1 - i) (a + 1) ⟨Nat.le_refl _, PrtI.start _ _ hab⟩ ⟨rfl, rfl, rfl, rfl, trivial⟩ rfl rfl ?_
  rintro i ⟨hi0, hI⟩
  have q1 := hI.i1
  have q2 := hI.ij
  have q3 := hI.jb
  refine sq (sq (rga [pt g (uA pre ys post) 23] 14 [0, 2, 4, 6, 8, 10, 12, 14, 16, 18, 20, 22, 25, 26] (by simp) (by kernel_rfl) (by kernel_rfl) ?_))
  refine dcmp hT (by kernel_rfl) 2 (i <= (b - 1)) rfl (by simp) (fun h1 => ?_) (fun h1 => ?_)
  ·refine dixs hT (by kernel_rfl) 3 i rfl rfl (by omega) ?_
   simp only [add_mk, Nat.mul_one]
   refine dldp hT (by kernel_rfl) 0 0 rfl rfl (uA_get (by omega)) ?_
   refine dixs hT (by kernel_rfl) 2 a rfl rfl (by omega) ?_
   simp only [add_mk, Nat.mul_one]
   refine dldp hT (by kernel_rfl) 0 0 rfl rfl (uA_get (by omega)) ?_
   refine dact hT (by kernel_rfl) 0 rfl ?_
   refine cl hT 0 rfl (lessC (ys.getD i 0) (ys.getD a 0)) ?_
   rintro v41 K41 hs41 ⟨rfl, rfl, rfl⟩
   refine dnex [pt g (uA pre ys post) 23] (by simp) (by simp) rfl ?_
   by_cases hlt : ys.getD i 0 < ys.getD a 0
   ·rw [decide_eq_true hlt]
    refine dend hT (by kernel_rfl) 1 rfl (th (ifT rfl ?_))
    refine sk (th (bk (rg ?_)))
    refine ar hT 1 rfl (i64w (x := ((i + 1 : Nat) : Int)) (by omega)) ?_
    refine fin hT 1 rfl (bl ?_)
    exact again (x := i) (i + 1) ⟨rfl, rfl, rfl, rfl, trivial⟩ rfl rfl ⟨by omega, hI.up h1 hlt⟩ (by omega)
   ·rw [decide_eq_false hlt]
    refine dend hT (by kernel_rfl) 1 rfl (th (ifF rfl ?_))
    refine ex (xt (xt (xb ?_)))
    exact jx i ⟨hi0, hI, fun _ => Nat.le_of_not_lt hlt⟩ ⟨rfl, rfl, rfl, rfl, trivial⟩ rfl rfl
  ·refine dact hT (by kernel_rfl) 9 rfl ?_
   refine WL.pures hT 1 rfl ?_
   refine dnex [pt g (uA pre ys post) 23] (by simp) (by simp) rfl ?_
   refine dend hT (by kernel_rfl) 1 rfl (th (ifF rfl ?_))
   refine ex (xt (xt (xb ?_)))
   exact jx i ⟨hi0, hI, fun h => absurd h h1⟩ ⟨rfl, rfl, rfl, rfl, trivial⟩ rfl rfl
 ·rintro i ⟨hi0, hI, hq⟩
  refine jn (σ := Nat) (fun j => [(0, .slice (some ⟨g, pre.length, none⟩) xs.length cap), (1, .int .i64 ((a : Nat) : Int)), (10, .int .i64 ((i : Nat) : Int)), (11, .int .i64 ((j : Nat) : Int))]) (fun _ => pt g (uA pre ys post) 23 :: hs) (fun j => j <= (b - 1) /\ PrtI (fun x y => x < y) (fun x y => y <= x) a b i j ys /\ (i <= j -> ys.getD a 0 <= ys.getD i 0) /\ (i <= j -> ys.getD j 0 < ys.getD a 0)) ?_ ?_
  ·refine bk ?_
   refine loop (σ := Nat) (fun j => [(0, .slice (some ⟨g, pre.length, none⟩) xs.length cap), (1, .int .i64 ((a : Nat) : Int)), (10, .int .i64 ((i : Nat) : Int)), (11, .int .i64 ((j : Nat) : Int))]) (fun _ => K) (fun _ => pt g (uA pre ys post) 23 :: hs) (fun j => j <= (b - 1) /\ PrtI (fun x y => x < y) (fun x y => y <= x) a b i j ys) (fun j => j + 1 - i) ((b - 1)) ⟨Nat.le_refl _, hI⟩ ⟨rfl, rfl, rfl, rfl, trivial⟩ rfl rfl ?_
   rintro j ⟨hj0, hJ⟩
   have q1 := hJ.i1
   have q2 := hJ.ij
   have q3 := hJ.jb
   refine sq (sq (rga [pt g (uA pre ys post) 23] 15 [0, 2, 4, 6, 8, 10, 12, 14, 16, 18, 20, 22, 25, 26, 28] (by simp) (by kernel_rfl) (by kernel_rfl) ?_))
   refine dcmp hT (by kernel_rfl) 2 (i <= j) rfl (by simp) (fun h1 => ?_) (fun h1 => ?_)
   ·refine dixs hT (by kernel_rfl) 3 j rfl rfl (by omega) ?_
    simp only [add_mk, Nat.mul_one]
    refine dldp hT (by kernel_rfl) 0 0 rfl rfl (uA_get (by omega)) ?_
    refine dixs hT (by kernel_rfl) 2 a rfl rfl (by omega) ?_
    simp only [add_mk, Nat.mul_one]
    refine dldp hT (by kernel_rfl) 0 0 rfl rfl (uA_get (by omega)) ?_
    refine dact hT (by kernel_rfl) 0 rfl ?_
    refine cl hT 0 rfl (lessC (ys.getD j 0) (ys.getD a 0)) ?_
    rintro v58 K58 hs58 ⟨rfl, rfl, rfl⟩
    refine dnex [pt g (uA pre ys post) 23] (by simp) (by simp) rfl ?_
    by_cases hlt : ys.getD j 0 < ys.getD a 0
    ·rw [decide_eq_true hlt]
     refine dend hT (by kernel_rfl) 2 rfl (th (ifF rfl ?_))
     refine ex (xt (xt (xb ?_)))
     exact jx j ⟨hj0, hJ, fun h => hq (by omega), fun _ => hlt⟩ ⟨rfl, rfl, rfl, rfl, trivial⟩ rfl rfl
    ·rw [decide_eq_false hlt]
     refine dend hT (by kernel_rfl) 2 rfl (th (ifT rfl ?_))
     refine sk (th (bk (rg ?_)))
     refine ar hT 1 rfl (v' := .int .i64 ((j - 1 : Nat) : Int)) (by rw [show ((j : Nat) : Int) - 1 = ((j - 1 : Nat) : Int) from by omega]; exact i64w (by omega)) ?_
     refine fin hT 1 rfl (bl ?_)
     exact again (x := j) (j - 1) ⟨rfl, rfl, rfl, rfl, trivial⟩ rfl rfl ⟨by omega, hJ.down h1 (Nat.le_of_not_lt hlt)⟩ (by omega)
   ·refine dact hT (by kernel_rfl) 9 rfl ?_
    refine WL.pures hT 1 rfl ?_
    refine dnex [pt g (uA pre ys post) 23] (by simp) (by simp) rfl ?_
    refine dend hT (by kernel_rfl) 2 rfl (th (ifF rfl ?_))
    refine ex (xt (xt (xb ?_)))
    exact jx j ⟨hj0, hJ, fun h => absurd h h1, fun h => absurd h h1⟩ ⟨rfl, rfl, rfl, rfl, trivial⟩ rfl rfl
  ·rintro j ⟨hj0, hJ, hqi, hqj⟩
   have q1 := hJ.i1
   have q2 := hJ.ij
   have q3 := hJ.jb
   refine sq (sq (rg ?_))
   refine cmpS hT 2 rfl fun b65 h65 => ?_
   refine fin hT 0 rfl (th (ifP h65 rfl (fun e6 => ?_) (fun e6 => ?_)))
   ·obtain rfl : i = j + 1 := by omega
    have hgi : (uA pre ys post)[pre.length + j]? = some (.int .u64 ((ys.getD j 0 : Nat) : Int)) := uA_get (by omega)
    have hgj : (uA pre ys post)[pre.length + a]? = some (.int .u64 ((ys.getD a 0 : Nat) : Int)) := uA_get (by omega)
    have hgj2 : (uA pre (ys.set j (ys.getD a 0)) post)[pre.length + a]? = some (.int .u64 (((ys.set j (ys.getD a 0)).getD a 0 : Nat) : Int)) := uA_get (by rw [List.length_set]; omega)
    refine sq (rga [pt g (uA pre ys post) 23] 13 [0, 2, 4, 6, 8, 10, 12, 14, 16, 18, 20, 22, 24, 27, 28, 31] (by simp) (by kernel_rfl) (by kernel_rfl) ?_)
    refine dixs hT (by kernel_rfl) 6 a rfl rfl (by omega) ?_
    simp only [add_mk, Nat.mul_one]
    refine dldpw hT (by kernel_rfl) 0 0 rfl (by kernel_rfl) rfl hgj ?_
    refine dixs hT (by kernel_rfl) 2 j rfl rfl (by omega) ?_
    simp only [add_mk, Nat.mul_one]
    refine dldpw hT (by kernel_rfl) 0 0 rfl (by kernel_rfl) rfl hgi ?_
    refine dixs hT (by kernel_rfl) 0 j rfl rfl (by omega) ?_
    simp only [add_mk, Nat.mul_one]
    refine dact hT (by kernel_rfl) 0 rfl ?_
    refine stp hT 0 0 rfl rfl hgi rfl ?_
    refine dnext (.inl (by kernel_rfl)) ?_
    refine dixs hT (by kernel_rfl) 0 a rfl rfl (by omega) ?_
    simp only [add_mk, Nat.mul_one]
    refine dact hT (by kernel_rfl) 0 rfl ?_
    refine WL.hs (pt g (uA pre (ys.set j (ys.getD a 0)) post) 23 :: hs) (congrArg (fun z => pt g z 23 :: hs) (uA_set (by omega))) ?_
    refine stp hT 0 0 rfl rfl hgj2 rfl ?_
    refine WL.hs (pt g (uA pre (swp j a ys) post) 23 :: hs) (congrArg (fun z => pt g z 23 :: hs) (uA_set (by rw [List.length_set]; omega))) ?_
    refine dnext (.inl (by kernel_rfl)) ?_
    refine dend hT (by kernel_rfl) 0 rfl (th (sq (rg ?_)))
    refine fin hT 3 rfl (th (rt ?_))
    have hA := hJ.last (by omega)
    exact ret2 rfl rfl rfl ⟨rfl, swp j a ys, j, true, rfl, rfl, hP0.trans (SegP.swp ⟨by omega, by omega⟩ ⟨by omega, by omega⟩ (by omega)), ⟨by omega, by omega, fun p p1 p2 => Nat.le_of_lt (hA.1 p p1 p2), hA.2⟩⟩
   ·have hij : i < j := by
     rcases Nat.lt_or_ge i j with h | h
     ·exact h
     ·have h1 := hqi (by omega)
      have h2 := hqj (by omega)
      have : i = j := by omega
      subst this
      omega
    have hgi : (uA pre ys post)[pre.length + i]? = some (.int .u64 ((ys.getD i 0 : Nat) : Int)) := uA_get (by omega)
    have hgj : (uA pre ys post)[pre.length + j]? = some (.int .u64 ((ys.getD j 0 : Nat) : Int)) := uA_get (by omega)
    have hgj2 : (uA pre (ys.set i (ys.getD j 0)) post)[pre.length + j]? = some (.int .u64 (((ys.set i (ys.getD j 0)).getD j 0 : Nat) : Int)) := uA_get (by rw [List.length_set]; omega)
    refine sk (th (sq (rga [pt g (uA pre ys post) 23] 13 [0, 2, 4, 6, 8, 10, 12, 14, 16, 18, 20, 22, 24, 27, 28, 31] (by simp) (by kernel_rfl) (by kernel_rfl) ?_)))
    refine dixs hT (by kernel_rfl) 6 j rfl rfl (by omega) ?_
    simp only [add_mk, Nat.mul_one]
    refine dldpw hT (by kernel_rfl) 0 0 rfl (by kernel_rfl) rfl hgj ?_
    refine dixs hT (by kernel_rfl) 2 i rfl rfl (by omega) ?_
    simp only [add_mk, Nat.mul_one]
    refine dldpw hT (by kernel_rfl) 0 0 rfl (by kernel_rfl) rfl hgi ?_
    refine dixs hT (by kernel_rfl) 0 i rfl rfl (by omega) ?_
    simp only [add_mk, Nat.mul_one]
    refine dact hT (by kernel_rfl) 0 rfl ?_
    refine stp hT 0 0 rfl rfl hgi rfl ?_
    refine dnext (.inl (by kernel_rfl)) ?_
    refine dixs hT (by kernel_rfl) 0 j rfl rfl (by omega) ?_
    simp only [add_mk, Nat.mul_one]
    refine dact hT (by kernel_rfl) 0 rfl ?_
    refine WL.hs (pt g (uA pre (ys.set i (ys.getD j 0)) post) 23 :: hs) (congrArg (fun z => pt g z 23 :: hs) (uA_set (by omega))) ?_
    refine stp hT 0 0 rfl rfl hgj2 rfl ?_
    refine WL.hs (pt g (uA pre (swp i j ys) post) 23 :: hs) (congrArg (fun z => pt g z 23 :: hs) (uA_set (by rw [List.length_set]; omega))) ?_
    refine dnext (.inl (by kernel_rfl)) ?_
    refine dend hT (by kernel_rfl) 0 rfl (th (sq (rg ?_)))
    refine ar hT 1 rfl (i64w (x := ((i + 1 : Nat) : Int)) (by omega)) ?_
    refine fin hT 1 rfl (th (sq (rg ?_)))
    refine ar hT 1 rfl (v' := .int .i64 ((j - 1 : Nat) : Int)) (by rw [show ((j : Nat) : Int) - 1 = ((j - 1 : Nat) : Int) from by omega]; exact i64w (by omega)) ?_
    have hJ2 := hJ.swap hij (by omega) (hqj (by omega)) (hqi (by omega))
    have hP2 : SegP a b xs (swp i j ys) := hP0.trans (SegP.swp ⟨by omega, by omega⟩ ⟨by omega, by omega⟩ (by omega))
    refine fin hT 1 rfl (th (jn (σ := Nat × List Nat) (fun s => [(0, .slice (some ⟨g, pre.length, none⟩) xs.length cap), (1, .int .i64 ((a : Nat) : Int)), (10, .int .i64 ((s.1 + 1 : Nat) : Int)), (11, .int .i64 ((s.1 : Nat) : Int))]) (fun s => pt g (uA pre s.2 post) 23 :: hs) (fun s => SegP a b xs s.2 /\ PrtI (fun x y => x < y) (fun x y => y <= x) a b (s.1 + 1) s.1 s.2) ?_ ?_))
    ·refine bk ?_
     refine loop (σ := Nat × Nat × List Nat) (fun s => [(0, .slice (some ⟨g, pre.length, none⟩) xs.length cap), (1, .int .i64 ((a : Nat) : Int)), (10, .int .i64 ((s.1 : Nat) : Int)), (11, .int .i64 ((s.2.1 : Nat) : Int))]) (fun _ => K) (fun s => pt g (uA pre s.2.2 post) 23 :: hs)
      (fun s => SegP a b xs s.2.2 /\ PrtI (fun x y => x < y) (fun x y => y <= x) a b s.1 s.2.1 s.2.2) (fun s => s.2.1 + 1 - s.1) (i + 1, j - 1, swp i j ys) ⟨hP2, hJ2⟩ ⟨rfl, rfl, rfl, rfl, trivial⟩ rfl rfl ?_
     clear hJ2 hP2 hij hgj2 hgj hgi e6 hqj hqi q3 q2 q1 hJ hj0 hq hI hi0
     clear h65 b65 j i hyl hP0 hswl ys
     rintro ⟨i0, j0, ys⟩ ⟨hP, hI0⟩
     dsimp only at *
     have hyl : ys.length = xs.length := hP.len
     refine bk ?_
     refine jn (σ := Nat) (fun i => [(0, .slice (some ⟨g, pre.length, none⟩) xs.length cap), (1, .int .i64 ((a : Nat) : Int)), (10, .int .i64 ((i : Nat) : Int)), (11, .int .i64 ((j0 : Nat) : Int))]) (fun _ => pt g (uA pre ys post) 23 :: hs) (fun i => i0 <= i /\ PrtI (fun x y => x < y) (fun x y => y <= x) a b i j0 ys /\ (i <= j0 -> ys.getD a 0 <= ys.getD i 0)) ?_ ?_
     ·refine bk ?_
      refine loop (σ := Nat) (fun i => [(0, .slice (some ⟨g, pre.length, none⟩) xs.length cap), (1, .int .i64 ((a : Nat) : Int)), (10, .int .i64 ((i : Nat) : Int)), (11, .int .i64 ((j0 : Nat) : Int))]) (fun _ => K) (fun _ => pt g (uA pre ys post) 23 :: hs) (fun i => i0 <= i /\ PrtI (fun x y => x < y) (fun x y => y <= x) a b i j0 ys) (fun i => j0 + 1 - i) i0 ⟨Nat.le_refl _, hI0⟩ ⟨rfl, rfl, rfl, rfl, trivial⟩ rfl rfl ?_
      rintro i ⟨hi0, hI⟩
      have q1 := hI.i1
      have q2 := hI.ij
      have q3 := hI.jb
      refine sq (sq (rga [pt g (uA pre ys post) 23] 14 [0, 2, 4, 6, 8, 10, 12, 14, 16, 18, 20, 22, 25, 26] (by simp) (by kernel_rfl) (by kernel_rfl) ?_))
      refine dcmp hT (by kernel_rfl) 2 (i <= j0) rfl (by simp) (fun h1 => ?_) (fun h1 => ?_)
      ·refine dixs hT (by kernel_rfl) 3 i rfl rfl (by omega) ?_
       simp only [add_mk, Nat.mul_one]
       refine dldp hT (by kernel_rfl) 0 0 rfl rfl (uA_get (by omega)) ?_
       refine dixs hT (by kernel_rfl) 2 a rfl rfl (by omega) ?_
       simp only [add_mk, Nat.mul_one]
       refine dldp hT (by kernel_rfl) 0 0 rfl rfl (uA_get (by omega)) ?_
       refine dact hT (by kernel_rfl) 0 rfl ?_
       refine cl hT 0 rfl (lessC (ys.getD i 0) (ys.getD a 0)) ?_
       rintro v41 K41 hs41 ⟨rfl, rfl, rfl⟩
       refine dnex [pt g (uA pre ys post) 23] (by simp) (by simp) rfl ?_
       by_cases hlt : ys.getD i 0 < ys.getD a 0
       ·rw [decide_eq_true hlt]
        refine dend hT (by kernel_rfl) 1 rfl (th (ifT rfl ?_))
        refine sk (th (bk (rg ?_)))
        refine ar hT 1 rfl (i64w (x := ((i + 1 : Nat) : Int)) (by omega)) ?_
        refine fin hT 1 rfl (bl ?_)
        exact again (x := i) (i + 1) ⟨rfl, rfl, rfl, rfl, trivial⟩ rfl rfl ⟨by omega, hI.up h1 hlt⟩ (by omega)
       ·rw [decide_eq_false hlt]
        refine dend hT (by kernel_rfl) 1 rfl (th (ifF rfl ?_))
        refine ex (xt (xt (xb ?_)))
        exact jx i ⟨hi0, hI, fun _ => Nat.le_of_not_lt hlt⟩ ⟨rfl, rfl, rfl, rfl, trivial⟩ rfl rfl
      ·refine dact hT (by kernel_rfl) 9 rfl ?_
       refine WL.pures hT 1 rfl ?_
       refine dnex [pt g (uA pre ys post) 23] (by simp) (by simp) rfl ?_
       refine dend hT (by kernel_rfl) 1 rfl (th (ifF rfl ?_))
       refine ex (xt (xt (xb ?_)))
       exact jx i ⟨hi0, hI, fun h => absurd h h1⟩ ⟨rfl, rfl, rfl, rfl, trivial⟩ rfl rfl
     ·rintro i ⟨hi0, hI, hq⟩
      refine jn (σ := Nat) (fun j => [(0, .slice (some ⟨g, pre.length, none⟩) xs.length cap), (1, .int .i64 ((a : Nat) : Int)), (10, .int .i64 ((i : Nat) : Int)), (11, .int .i64 ((j : Nat) : Int))]) (fun _ => pt g (uA pre ys post) 23 :: hs) (fun j => j <= j0 /\ PrtI (fun x y => x < y) (fun x y => y <= x) a b i j ys /\ (i <= j -> ys.getD a 0 <= ys.getD i 0) /\ (i <= j -> ys.getD j 0 < ys.getD a 0)) ?_ ?_
      ·refine bk ?_
       refine loop (σ := Nat) (fun j => [(0, .slice (some ⟨g, pre.length, none⟩) xs.length cap), (1, .int .i64 ((a : Nat) : Int)), (10, .int .i64 ((i : Nat) : Int)), (11, .int .i64 ((j : Nat) : Int))]) (fun _ => K) (fun _ => pt g (uA pre ys post) 23 :: hs) (fun j => j <= j0 /\ PrtI (fun x y => x < y) (fun x y => y <= x) a b i j ys) (fun j => j + 1 - i) (j0) ⟨Nat.le_refl _, hI⟩ ⟨rfl, rfl, rfl, rfl, trivial⟩ rfl rfl ?_
       rintro j ⟨hj0, hJ⟩
       have q1 := hJ.i1
       have q2 := hJ.ij
       have q3 := hJ.jb
       refine sq (sq (rga [pt g (uA pre ys post) 23] 15 [0, 2, 4, 6, 8, 10, 12, 14, 16, 18, 20, 22, 25, 26, 28] (by simp) (by kernel_rfl) (by kernel_rfl) ?_))
       refine dcmp hT (by kernel_rfl) 2 (i <= j) rfl (by simp) (fun h1 => ?_) (fun h1 => ?_)
       ·refine dixs hT (by kernel_rfl) 3 j rfl rfl (by omega) ?_
        simp only [add_mk, Nat.mul_one]
        refine dldp hT (by kernel_rfl) 0 0 rfl rfl (uA_get (by omega)) ?_
        refine dixs hT (by kernel_rfl) 2 a rfl rfl (by omega) ?_
        simp only [add_mk, Nat.mul_one]
        refine dldp hT (by kernel_rfl) 0 0 rfl rfl (uA_get (by omega)) ?_
        refine dact hT (by kernel_rfl) 0 rfl ?_
        refine cl hT 0 rfl (lessC (ys.getD j 0) (ys.getD a 0)) ?_
        rintro v58 K58 hs58 ⟨rfl, rfl, rfl⟩
        refine dnex [pt g (uA pre ys post) 23] (by simp) (by simp) rfl ?_
        by_cases hlt : ys.getD j 0 < ys.getD a 0
        ·rw [decide_eq_true hlt]
         refine dend hT (by kernel_rfl) 2 rfl (th (ifF rfl ?_))
         refine ex (xt (xt (xb ?_)))
         exact jx j ⟨hj0, hJ, fun h => hq (by omega), fun _ => hlt⟩ ⟨rfl, rfl, rfl, rfl, trivial⟩ rfl rfl
        ·rw [decide_eq_false hlt]
         refine dend hT (by kernel_rfl) 2 rfl (th (ifT rfl ?_))
         refine sk (th (bk (rg ?_)))
         refine ar hT 1 rfl (v' := .int .i64 ((j - 1 : Nat) : Int)) (by rw [show ((j : Nat) : Int) - 1 = ((j - 1 : Nat) : Int) from by omega]; exact i64w (by omega)) ?_
         refine fin hT 1 rfl (bl ?_)
         exact again (x := j) (j - 1) ⟨rfl, rfl, rfl, rfl, trivial⟩ rfl rfl ⟨by omega, hJ.down h1 (Nat.le_of_not_lt hlt)⟩ (by omega)
       ·refine dact hT (by kernel_rfl) 9 rfl ?_
        refine WL.pures hT 1 rfl ?_
        refine dnex [pt g (uA pre ys post) 23] (by simp) (by simp) rfl ?_
        refine dend hT (by kernel_rfl) 2 rfl (th (ifF rfl ?_))
        refine ex (xt (xt (xb ?_)))
        exact jx j ⟨hj0, hJ, fun h => absurd h h1, fun h => absurd h h1⟩ ⟨rfl, rfl, rfl, rfl, trivial⟩ rfl rfl
      ·rintro j ⟨hj0, hJ, hqi, hqj⟩
       have q1 := hJ.i1
       have q2 := hJ.ij
       have q3 := hJ.jb
       refine sq (sq (rg ?_))
       refine cmpS hT 2 rfl fun b134 h134 => ?_
       refine fin hT 0 rfl (th (ifP h134 rfl (fun e6 => ?_) (fun e6 => ?_)))
       ·obtain rfl : i = j + 1 := by omega
        refine ex (xt (xn rfl (xt (xb ?_))))
        exact jx (j, ys) ⟨hP, hJ⟩ ⟨rfl, rfl, rfl, rfl, trivial⟩ rfl rfl
       ·have hij : i < j := by
         rcases Nat.lt_or_ge i j with h | h
         ·exact h
         ·have h1 := hqi (by omega)
          have h2 := hqj (by omega)
          have : i = j := by omega
          subst this
          omega
        have hgi : (uA pre ys post)[pre.length + i]? = some (.int .u64 ((ys.getD i 0 : Nat) : Int)) := uA_get (by omega)
        have hgj : (uA pre ys post)[pre.length + j]? = some (.int .u64 ((ys.getD j 0 : Nat) : Int)) := uA_get (by omega)
        have hgj2 : (uA pre (ys.set i (ys.getD j 0)) post)[pre.length + j]? = some (.int .u64 (((ys.set i (ys.getD j 0)).getD j 0 : Nat) : Int)) := uA_get (by rw [List.length_set]; omega)
        refine sk (th (sq (rga [pt g (uA pre ys post) 23] 13 [0, 2, 4, 6, 8, 10, 12, 14, 16, 18, 20, 22, 24, 27, 28, 31] (by simp) (by kernel_rfl) (by kernel_rfl) ?_)))
        refine dixs hT (by kernel_rfl) 6 j rfl rfl (by omega) ?_
        simp only [add_mk, Nat.mul_one]
        refine dldpw hT (by kernel_rfl) 0 0 rfl (by kernel_rfl) rfl hgj ?_
        refine dixs hT (by kernel_rfl) 2 i rfl rfl (by omega) ?_
        simp only [add_mk, Nat.mul_one]
        refine dldpw hT (by kernel_rfl) 0 0 rfl (by kernel_rfl) rfl hgi ?_
        refine dixs hT (by kernel_rfl) 0 i rfl rfl (by omega) ?_
        simp only [add_mk, Nat.mul_one]
        refine dact hT (by kernel_rfl) 0 rfl ?_
        refine stp hT 0 0 rfl rfl hgi rfl ?_
        refine dnext (.inl (by kernel_rfl)) ?_
        refine dixs hT (by kernel_rfl) 0 j rfl rfl (by omega) ?_
        simp only [add_mk, Nat.mul_one]
        refine dact hT (by kernel_rfl) 0 rfl ?_
        refine WL.hs (pt g (uA pre (ys.set i (ys.getD j 0)) post) 23 :: hs) (congrArg (fun z => pt g z 23 :: hs) (uA_set (by omega))) ?_
        refine stp hT 0 0 rfl rfl hgj2 rfl ?_
        refine WL.hs (pt g (uA pre (swp i j ys) post) 23 :: hs) (congrArg (fun z => pt g z 23 :: hs) (uA_set (by rw [List.length_set]; omega))) ?_
        refine dnext (.inl (by kernel_rfl)) ?_
        refine dend hT (by kernel_rfl) 0 rfl (th (sq (rg ?_)))
        refine ar hT 1 rfl (i64w (x := ((i + 1 : Nat) : Int)) (by omega)) ?_
        refine fin hT 1 rfl (th (rg ?_))
        refine ar hT 1 rfl (v' := .int .i64 ((j - 1 : Nat) : Int)) (by rw [show ((j : Nat) : Int) - 1 = ((j - 1 : Nat) : Int) from by omega]; exact i64w (by omega)) ?_
        refine fin hT 1 rfl (bl ?_)
        exact again (x := (i0, j0, ys)) (i + 1, j - 1, swp i j ys) ⟨rfl, rfl, rfl, rfl, trivial⟩ rfl rfl ⟨hP.trans (SegP.swp ⟨by omega, by omega⟩ ⟨by omega, by omega⟩ (by omega)), hJ.swap hij (by omega) (hqj (by omega)) (hqi (by omega))⟩ (by dsimp only; omega)
    ·rintro ⟨j, ys⟩ ⟨hP, hJ⟩
     dsimp only at *
     have hyl : ys.length = xs.length := hP.len
     have q1 := hJ.i1
     have q2 := hJ.ij
     have q3 := hJ.jb
     have hgi : (uA pre ys post)[pre.length + j]? = some (.int .u64 ((ys.getD j 0 : Nat) : Int)) := uA_get (by omega)
     have hgj : (uA pre ys post)[pre.length + a]? = some (.int .u64 ((ys.getD a 0 : Nat) : Int)) := uA_get (by omega)
     have hgj2 : (uA pre (ys.set j (ys.getD a 0)) post)[pre.length + a]? = some (.int .u64 (((ys.set j (ys.getD a 0)).getD a 0 : Nat) : Int)) := uA_get (by rw [List.length_set]; omega)
     refine sq (rga [pt g (uA pre ys post) 23] 13 [0, 2, 4, 6, 8, 10, 12, 14, 16, 18, 20, 22, 24, 27, 28, 31] (by simp) (by kernel_rfl) (by kernel_rfl) ?_)
     refine dixs hT (by kernel_rfl) 6 a rfl rfl (by omega) ?_
     simp only [add_mk, Nat.mul_one]
     refine dldpw hT (by kernel_rfl) 0 0 rfl (by kernel_rfl) rfl hgj ?_
     refine dixs hT (by kernel_rfl) 2 j rfl rfl (by omega) ?_
     simp only [add_mk, Nat.mul_one]
     refine dldpw hT (by kernel_rfl) 0 0 rfl (by kernel_rfl) rfl hgi ?_
     refine dixs hT (by kernel_rfl) 0 j rfl rfl (by omega) ?_
     simp only [add_mk, Nat.mul_one]
     refine dact hT (by kernel_rfl) 0 rfl ?_
     refine stp hT 0 0 rfl rfl hgi rfl ?_
     refine dnext (.inl (by kernel_rfl)) ?_
     refine dixs hT (by kernel_rfl) 0 a rfl rfl (by omega) ?_
     simp only [add_mk, Nat.mul_one]
     refine dact hT (by kernel_rfl) 0 rfl ?_
     refine WL.hs (pt g (uA pre (ys.set j (ys.getD a 0)) post) 23 :: hs) (congrArg (fun z => pt g z 23 :: hs) (uA_set (by omega))) ?_
     refine stp hT 0 0 rfl rfl hgj2 rfl ?_
     refine WL.hs (pt g (uA pre (swp j a ys) post) 23 :: hs) (congrArg (fun z => pt g z 23 :: hs) (uA_set (by rw [List.length_set]; omega))) ?_
     refine dnext (.inl (by kernel_rfl)) ?_
     refine dend hT (by kernel_rfl) 0 rfl (th (sq (rg ?_)))
     refine fin hT 3 rfl (th (rt ?_))
     have hA := hJ.last (by omega)
     exact ret2 rfl rfl rfl ⟨rfl, swp j a ys, j, false, rfl, rfl, hP.trans (SegP.swp ⟨by omega, by omega⟩ ⟨by omega, by omega⟩ (by omega)), ⟨by omega, by omega, fun p p1 p2 => Nat.le_of_lt (hA.1 p p1 p2), hA.2⟩⟩
end Go.Proofs.YtneeeblghijmgaaGreat
end
section
namespace Go.Proofs.YtneeeblghijmgaaGreat
open Go.En
attribute [local irreducible] Code.wp wpList Calls
theorem pisC {w0 : World} {K : PH} {hs : List PH} (g cap : Nat) (pre post : List Value) (xs : List Nat) (a b : Nat) (hab : a < b) (hb : b <= xs.length) (hc : xs.length <= cap) (hl : xs.length <= 1099511627776) (hlo : LoB a b xs) :
  Ct Tryz.prog w0 173 [.slice (some ⟨g, pre.length, none⟩) xs.length cap, .int .i64 ((a : Nat) : Int), .int .i64 ((b : Nat) : Int)] K (pt g (uA pre xs post) 23 :: hs)
   (fun v K' hs' => K' = K /\ ∃ ys, ∃ t : Bool, hs' = pt g (uA pre ys post) 23 :: hs /\ v = .bool t /\ SegP a b xs ys /\ (t = true -> Srt a b ys)) := by
 refine enter Tryz.func173 (by kernel_rfl) rfl rfl rfl ?_
 refine sq (rg ?_)
 refine fin hT 1 rfl (th (sq (rg ?_)))
 refine ar hT 1 rfl (i64w (x := ((a + 1 : Nat) : Int)) (by omega)) ?_
 refine fin hT 1 rfl (th (sq (sq (rg ?_))))
 refine fin hT 1 rfl (th (bk ?_))
 refine loop (σ := Nat × Nat × List Nat) (fun s => [(0, .slice (some ⟨g, pre.length, none⟩) xs.length cap), (1, .int .i64 ((a : Nat) : Int)), (2, .int .i64 ((b : Nat) : Int)), (7, .int .i64 ((s.2.1 : Nat) : Int)), (8, .int .i64 ((s.1 : Nat) : Int))]) (fun _ => K) (fun s => pt g (uA pre s.2.2 post) 23 :: hs)
  (fun s => s.1 <= 5 /\ a + 1 <= s.2.1 /\ s.2.1 <= b /\ SegP a b xs s.2.2 /\ Srt a s.2.1 s.2.2) (fun s => 5 - s.1) (0, a + 1, xs) ⟨by omega, Nat.le_refl _, by dsimp only; omega, SegP.refl _ _ _, Srt.zero _ _⟩ ⟨rfl, rfl, rfl, rfl, rfl, trivial⟩ rfl rfl ?_
 rintro ⟨k, i0, ys⟩ ⟨hk, hi0, hi0b, hP, hS0⟩
 dsimp only at *
 have hyl : ys.length = xs.length := hP.len
 refine sq (sq (rg ?_))
 refine cmpS hT 1 rfl fun b14 h14 => ?_
 refine fin hT 0 rfl (th (ifP h14 rfl (fun e2 => ?_) (fun e2 => ?_)))
 ·refine sk (th (sq (bk (jn (σ := Nat) (fun i => [(0, .slice (some ⟨g, pre.length, none⟩) xs.length cap), (1, .int .i64 ((a : Nat) : Int)), (2, .int .i64 ((b : Nat) : Int)), (7, .int .i64 ((i : Nat) : Int)), (8, .int .i64 ((k : Nat) : Int))]) (fun _ => pt g (uA pre ys post) 23 :: hs) (fun i => a + 1 <= i /\ i <= b /\ Srt a i ys) ?_ ?_))))
  ·refine bk ?_
   refine loop (σ := Nat) (fun i => [(0, .slice (some ⟨g, pre.length, none⟩) xs.length cap), (1, .int .i64 ((a : Nat) : Int)), (2, .int .i64 ((b : Nat) : Int)), (7, .int .i64 ((i : Nat) : Int)), (8, .int .i64 ((k : Nat) : Int))]) (fun _ => K) (fun _ => pt g (uA pre ys post) 23 :: hs) (fun i => a + 1 <= i /\ i <= b /\ Srt a i ys) (fun i => b - i) i0 ⟨hi0, hi0b, hS0⟩ ⟨rfl, rfl, rfl, rfl, rfl, trivial⟩ rfl rfl ?_
   rintro i ⟨hi1, hi2, hS⟩
   refine sq (sq (rga [pt g (uA pre ys post) 23] 16 [0, 2, 4, 6, 8, 10, 12, 14, 16, 18, 20, 22, 24, 27, 28, 30] (by simp) (by kernel_rfl) (by kernel_rfl) ?_))
   refine dcmp hT (by kernel_rfl) 2 (i < b) rfl (by simp) (fun h3 => ?_) (fun h3 => ?_)
   ·refine dixs hT (by kernel_rfl) 3 i rfl rfl (by omega) ?_
    simp only [add_mk, Nat.mul_one]
    refine dldp hT (by kernel_rfl) 0 0 rfl rfl (uA_get (by omega)) ?_
    refine dar hT (by kernel_rfl) 2 rfl (v' := .int .i64 ((i - 1 : Nat) : Int)) (by rw [show ((i : Nat) : Int) - 1 = ((i - 1 : Nat) : Int) from by omega]; exact i64w (by omega)) ?_
    refine dixs hT (by kernel_rfl) 0 (i - 1) rfl rfl (by omega) ?_
    simp only [add_mk, Nat.mul_one]
    refine dldp hT (by kernel_rfl) 0 0 rfl rfl (uA_get (by omega)) ?_
    refine dact hT (by kernel_rfl) 0 rfl ?_
    refine cl hT 0 rfl (lessC (ys.getD i 0) (ys.getD (i - 1) 0)) ?_
    rintro v30 K30 hs30 ⟨rfl, rfl, rfl⟩
    refine dnex [pt g (uA pre ys post) 23] (by simp) (by simp) rfl ?_
    by_cases hlt : ys.getD i 0 < ys.getD (i - 1) 0
    ·rw [decide_eq_true hlt]
     refine dend hT (by kernel_rfl) 2 rfl (th (ifF rfl ?_))
     refine ex (xt (xt (xb ?_)))
     exact jx i ⟨hi1, hi2, hS⟩ ⟨rfl, rfl, rfl, rfl, rfl, trivial⟩ rfl rfl
    ·rw [decide_eq_false hlt]
     refine dend hT (by kernel_rfl) 2 rfl (th (ifT rfl ?_))
     refine sk (th (bk (rg ?_)))
     refine ar hT 1 rfl (i64w (x := ((i + 1 : Nat) : Int)) (by omega)) ?_
     refine fin hT 1 rfl (bl ?_)
     exact again (x := i) (i + 1) ⟨rfl, rfl, rfl, rfl, rfl, trivial⟩ rfl rfl ⟨by omega, by omega, hS.snoc (by omega) (Nat.le_of_not_lt hlt)⟩ (by omega)
   ·refine dact hT (by kernel_rfl) 10 rfl ?_
    refine WL.pures hT 1 rfl ?_
    refine dnex [pt g (uA pre ys post) 23] (by simp) (by simp) rfl ?_
    refine dend hT (by kernel_rfl) 2 rfl (th (ifF rfl ?_))
    refine ex (xt (xt (xb ?_)))
    exact jx i ⟨hi1, hi2, hS⟩ ⟨rfl, rfl, rfl, rfl, rfl, trivial⟩ rfl rfl
  ·rintro i ⟨hi1, hi2, hS⟩
   refine sq (sq (rg ?_))
   refine cmpS hT 2 rfl fun b37 h37 => ?_
   refine fin hT 0 rfl (th (ifP h37 rfl (fun e6 => ?_) (fun e6 => ?_)))
   ·obtain rfl : i = b := by omega
    refine sq (rg ?_)
    refine fin hT 1 rfl (th (rt (rT (rB (rT (rT (rB (rT ?_))))))))
    exact ret1 rfl rfl ⟨rfl, ys, true, rfl, rfl, hP, fun _ => hS⟩
   ·refine sk (th (sq (sq (rg ?_))))
    refine ar hT 2 rfl (i64w (by omega)) ?_
    refine cmpS hT 0 rfl fun b41 h41 => ?_
    refine fin hT 0 rfl (th (ifP h41 rfl (fun e8 => ?_) (fun e8 => ?_)))
    ·refine sq (rg ?_)
     refine fin hT 1 rfl (th (rt (rT (rB (rT (rT (rB (rT ?_))))))))
     exact ret1 rfl rfl ⟨rfl, ys, false, rfl, rfl, hP, fun h => by cases h⟩
    ·have hib : i < b := by omega
     have hgj : (uA pre ys post)[pre.length + i]? = some (.int .u64 ((ys.getD i 0 : Nat) : Int)) := uA_get (by omega)
     have hgj1 : (uA pre ys post)[pre.length + (i - 1)]? = some (.int .u64 ((ys.getD (i - 1) 0 : Nat) : Int)) := uA_get (by omega)
     have hgj2 : (uA pre (ys.set i (ys.getD (i - 1) 0)) post)[pre.length + (i - 1)]? = some (.int .u64 (((ys.set i (ys.getD (i - 1) 0)).getD (i - 1) 0 : Nat) : Int)) := uA_get (by rw [List.length_set]; omega)
     refine sk (th (sq (rga [pt g (uA pre ys post) 23] 15 [0, 2, 4, 6, 8, 10, 12, 14, 16, 18, 20, 22, 24, 26, 28, 31, 32, 35] (by simp) (by kernel_rfl) (by kernel_rfl) ?_)))
     refine dar hT (by kernel_rfl) 4 rfl (v' := .int .i64 ((i - 1 : Nat) : Int)) (by rw [show ((i : Nat) : Int) - 1 = ((i - 1 : Nat) : Int) from by omega]; exact i64w (by omega)) ?_
     refine dar hT (by kernel_rfl) 2 rfl (v' := .int .i64 ((i - 1 : Nat) : Int)) (by rw [show ((i : Nat) : Int) - 1 = ((i - 1 : Nat) : Int) from by omega]; exact i64w (by omega)) ?_
     refine dixs hT (by kernel_rfl) 0 (i - 1) rfl rfl (by omega) ?_
     simp only [add_mk, Nat.mul_one]
     refine dldpw hT (by kernel_rfl) 0 0 rfl (by kernel_rfl) rfl hgj1 ?_
     refine dixs hT (by kernel_rfl) 2 i rfl rfl (by omega) ?_
     simp only [add_mk, Nat.mul_one]
     refine dldpw hT (by kernel_rfl) 0 0 rfl (by kernel_rfl) rfl hgj ?_
     refine dixs hT (by kernel_rfl) 0 i rfl rfl (by omega) ?_
     simp only [add_mk, Nat.mul_one]
     refine dact hT (by kernel_rfl) 0 rfl ?_
     refine stp hT 0 0 rfl rfl hgj rfl ?_
     refine dnext (.inl (by kernel_rfl)) ?_
     refine dixs hT (by kernel_rfl) 0 (i - 1) rfl rfl (by omega) ?_
     simp only [add_mk, Nat.mul_one]
     refine dact hT (by kernel_rfl) 0 rfl ?_
     refine WL.hs (pt g (uA pre (ys.set i (ys.getD (i - 1) 0)) post) 23 :: hs) (congrArg (fun z => pt g z 23 :: hs) (uA_set (by omega))) ?_
     refine stp hT 0 0 rfl rfl hgj2 rfl ?_
     refine WL.hs (pt g (uA pre (swp i (i - 1) ys) post) 23 :: hs) (congrArg (fun z => pt g z 23 :: hs) (uA_set (by rw [List.length_set]; omega))) ?_
     refine dnext (.inl (by kernel_rfl)) ?_
     have hP1 : SegP a b xs (swp i (i - 1) ys) := hP.trans (SegP.swp ⟨by omega, by omega⟩ ⟨by omega, by omega⟩ (by omega))
     have hS1 : Srt a (i - 1) (swp i (i - 1) ys) := Srt.same (xs := ys) (fun p q p1 p2 p3 => hS p q p1 p2 (by omega)) fun p p1 p2 => by rw [swp_getD (by omega) (by omega), if_neg (by omega), if_neg (by omega)]
     refine dend hT (by kernel_rfl) 0 rfl (th (jn (σ := List Nat) (fun _ => [(0, .slice (some ⟨g, pre.length, none⟩) xs.length cap), (1, .int .i64 ((a : Nat) : Int)), (2, .int .i64 ((b : Nat) : Int)), (7, .int .i64 ((i : Nat) : Int)), (8, .int .i64 ((k : Nat) : Int))]) (fun zs => pt g (uA pre zs post) 23 :: hs) (fun zs => SegP a b xs zs /\ Srt a i zs) ?_ ?_))
     ·refine sq (rg ?_)
      refine ar hT 2 rfl (i64w (by omega)) ?_
      refine cmpS hT 0 rfl fun b61 h61 => ?_
      refine fin hT 0 rfl (th (ifP h61 rfl (fun e10 => ?_) (fun e10 => ?_)))
      ·refine sq (rg ?_)
       refine ar hT 1 rfl (v' := .int .i64 ((i - 1 : Nat) : Int)) (by rw [show ((i : Nat) : Int) - 1 = ((i - 1 : Nat) : Int) from by omega]; exact i64w (by omega)) ?_
       refine fin hT 1 rfl (th (bk ?_))
       refine loop (σ := Nat × List Nat) (fun s => [(0, .slice (some ⟨g, pre.length, none⟩) xs.length cap), (1, .int .i64 ((a : Nat) : Int)), (2, .int .i64 ((b : Nat) : Int)), (7, .int .i64 ((i : Nat) : Int)), (8, .int .i64 ((k : Nat) : Int)), (9, .int .i64 ((s.1 : Nat) : Int))]) (fun _ => K) (fun s => pt g (uA pre s.2 post) 23 :: hs)
        (fun s => a <= s.1 /\ s.1 <= i - 1 /\ SegP a b xs s.2 /\ InvI a (i - 1) s.1 s.2) (fun s => s.1) (i - 1, swp i (i - 1) ys) ⟨by dsimp only; omega, Nat.le_refl _, hP1, InvI.start hS1⟩ ⟨rfl, rfl, rfl, rfl, rfl, rfl, trivial⟩ rfl rfl ?_
       rintro ⟨j, zs⟩ ⟨hj1, hj2, hQ, hV⟩
       dsimp only at *
       have hzl : zs.length = xs.length := hQ.len
       have hlz := hlo.perm hQ hb
       refine sq (sq (rg ?_))
       refine cmpS hT 1 rfl fun b65 h65 => ?_
       refine fin hT 0 rfl (th (ifP h65 rfl (fun e12 => ?_) (fun e12 => ?_)))
       ·refine sk (th (sq (bk (sq (sq (rga [pt g (uA pre zs post) 23] 11 [0, 2, 4, 6, 8, 10, 12, 14, 16, 19, 20] (by simp) (by kernel_rfl) (by kernel_rfl) ?_))))))
        refine dixs hT (by kernel_rfl) 2 j rfl rfl (by omega) ?_
        simp only [add_mk, Nat.mul_one]
        refine dldp hT (by kernel_rfl) 0 0 rfl rfl (uA_get (by omega)) ?_
        refine dar hT (by kernel_rfl) 2 rfl (v' := .int .i64 ((j - 1 : Nat) : Int)) (by rw [show ((j : Nat) : Int) - 1 = ((j - 1 : Nat) : Int) from by omega]; exact i64w (by omega)) ?_
        refine dixs hT (by kernel_rfl) 0 (j - 1) rfl rfl (by omega) ?_
        simp only [add_mk, Nat.mul_one]
        refine dldp hT (by kernel_rfl) 0 0 rfl rfl (uA_get (by omega)) ?_
        refine dact hT (by kernel_rfl) 0 rfl ?_
        refine cl hT 0 rfl (lessC (zs.getD j 0) (zs.getD (j - 1) 0)) ?_
        rintro v30 K30 hs30 ⟨rfl, rfl, rfl⟩
        refine dnex [pt g (uA pre zs post) 23] (by simp) (by simp) rfl ?_
        by_cases hlt : zs.getD j 0 < zs.getD (j - 1) 0
        ·have hja : a < j := by
          rcases Nat.lt_or_ge a j with h | h
          ·exact h
          ·obtain rfl : j = a := by omega
           have := hlz (j - 1) j (by omega) (Nat.le_refl _) (by omega)
           omega
         rw [decide_eq_true hlt]
         refine dend hT (by kernel_rfl) 1 rfl (th (ifF rfl ?_))
         have hgj : (uA pre zs post)[pre.length + j]? = some (.int .u64 ((zs.getD j 0 : Nat) : Int)) := uA_get (by omega)
         have hgj1 : (uA pre zs post)[pre.length + (j - 1)]? = some (.int .u64 ((zs.getD (j - 1) 0 : Nat) : Int)) := uA_get (by omega)
         have hgj2 : (uA pre (zs.set j (zs.getD (j - 1) 0)) post)[pre.length + (j - 1)]? = some (.int .u64 (((zs.set j (zs.getD (j - 1) 0)).getD (j - 1) 0 : Nat) : Int)) := uA_get (by rw [List.length_set]; omega)
         refine sk (th (rga [pt g (uA pre zs post) 23] 15 [0, 2, 4, 6, 8, 10, 12, 14, 16, 18, 20, 22, 24, 26, 28, 31, 32, 35] (by simp) (by kernel_rfl) (by kernel_rfl) ?_))
         refine dar hT (by kernel_rfl) 4 rfl (v' := .int .i64 ((j - 1 : Nat) : Int)) (by rw [show ((j : Nat) : Int) - 1 = ((j - 1 : Nat) : Int) from by omega]; exact i64w (by omega)) ?_
         refine dar hT (by kernel_rfl) 2 rfl (v' := .int .i64 ((j - 1 : Nat) : Int)) (by rw [show ((j : Nat) : Int) - 1 = ((j - 1 : Nat) : Int) from by omega]; exact i64w (by omega)) ?_
         refine dixs hT (by kernel_rfl) 0 (j - 1) rfl rfl (by omega) ?_
         simp only [add_mk, Nat.mul_one]
         refine dldpw hT (by kernel_rfl) 0 0 rfl (by kernel_rfl) rfl hgj1 ?_
         refine dixs hT (by kernel_rfl) 2 j rfl rfl (by omega) ?_
         simp only [add_mk, Nat.mul_one]
         refine dldpw hT (by kernel_rfl) 0 0 rfl (by kernel_rfl) rfl hgj ?_
         refine dixs hT (by kernel_rfl) 0 j rfl rfl (by omega) ?_
         simp only [add_mk, Nat.mul_one]
         refine dact hT (by kernel_rfl) 0 rfl ?_
         refine stp hT 0 0 rfl rfl hgj rfl ?_
         refine dnext (.inl (by kernel_rfl)) ?_
         refine dixs hT (by kernel_rfl) 0 (j - 1) rfl rfl (by omega) ?_
         simp only [add_mk, Nat.mul_one]
         refine dact hT (by kernel_rfl) 0 rfl ?_
         refine WL.hs (pt g (uA pre (zs.set j (zs.getD (j - 1) 0)) post) 23 :: hs) (congrArg (fun z => pt g z 23 :: hs) (uA_set (by omega))) ?_
         refine stp hT 0 0 rfl rfl hgj2 rfl ?_
         refine WL.hs (pt g (uA pre (swp j (j - 1) zs) post) 23 :: hs) (congrArg (fun z => pt g z 23 :: hs) (uA_set (by rw [List.length_set]; omega))) ?_
         refine dnext (.inl (by kernel_rfl)) ?_
         refine dend hT (by kernel_rfl) 0 rfl (bl (th (rg ?_)))
         refine ar hT 1 rfl (v' := .int .i64 ((j - 1 : Nat) : Int)) (by rw [show ((j : Nat) : Int) - 1 = ((j - 1 : Nat) : Int) from by omega]; exact i64w (by omega)) ?_
         refine fin hT 1 rfl ?_
         exact again (x := (j, zs)) (j - 1, swp j (j - 1) zs) ⟨rfl, rfl, rfl, rfl, rfl, rfl, trivial⟩ rfl rfl ⟨by dsimp only; omega, by dsimp only; omega, hQ.trans (SegP.swp ⟨by omega, by omega⟩ ⟨by omega, by omega⟩ (by omega)), hV.swap hja hj2 (by omega) hlt⟩ (by dsimp only; omega)
        ·have hdone : Srt a i zs := by
          rw [show i = i - 1 + 1 from by omega]
          rcases Nat.lt_or_ge a j with h | h
          ·exact hV.stop h (by omega)
          ·obtain rfl : j = a := by omega
           exact hV.done
         rw [decide_eq_false hlt]
         refine dend hT (by kernel_rfl) 1 rfl (th (ifT rfl ?_))
         refine ex (xt (xn rfl (xt (xt (xb ?_)))))
         exact jx zs ⟨hQ, hdone⟩ ⟨rfl, rfl, rfl, rfl, rfl, trivial⟩ rfl rfl
       ·have hdone : Srt a i zs := by
         rw [show i = i - 1 + 1 from by omega]
         obtain rfl : j = a := by omega
         exact hV.done
        refine ex (xt (xt (xb ?_)))
        exact jx zs ⟨hQ, hdone⟩ ⟨rfl, rfl, rfl, rfl, rfl, trivial⟩ rfl rfl
      ·refine sk ?_
       exact jx _ ⟨hP1, Srt.one (by omega)⟩ ⟨rfl, rfl, rfl, rfl, rfl, trivial⟩ rfl rfl
     ·rintro zs ⟨hQ, hSz⟩
      have hzl0 : zs.length = xs.length := hQ.len
      clear hS1 hP1 hgj2 hgj1 hgj hS hS0 hP hyl
      refine sq (rg ?_)
      refine ar hT 2 rfl (i64w (by omega)) ?_
      refine cmpS hT 0 rfl fun b98 h98 => ?_
      refine fin hT 0 rfl (th (ifP h98 rfl (fun e15 => ?_) (fun e15 => ?_)))
      ·refine sq (rg ?_)
       refine ar hT 1 rfl (i64w (x := ((i + 1 : Nat) : Int)) (by omega)) ?_
       refine fin hT 1 rfl (th (bk ?_))
       refine loop (σ := Nat × List Nat) (fun s => [(0, .slice (some ⟨g, pre.length, none⟩) xs.length cap), (1, .int .i64 ((a : Nat) : Int)), (2, .int .i64 ((b : Nat) : Int)), (7, .int .i64 ((i : Nat) : Int)), (8, .int .i64 ((k : Nat) : Int)), (10, .int .i64 ((s.1 : Nat) : Int))]) (fun _ => K) (fun s => pt g (uA pre s.2 post) 23 :: hs)
        (fun s => i + 1 <= s.1 /\ s.1 <= b /\ SegP a b xs s.2 /\ Srt a i s.2) (fun s => b - s.1) (i + 1, zs) ⟨Nat.le_refl _, by dsimp only; omega, hQ, hSz⟩ ⟨rfl, rfl, rfl, rfl, rfl, rfl, trivial⟩ rfl rfl ?_
       clear hQ hSz hzl0
       rintro ⟨j, us⟩ ⟨hj1, hj2, hQ, hSz⟩
       dsimp only at *
       have hul : us.length = xs.length := hQ.len
       refine sq (sq (rg ?_))
       refine cmpS hT 2 rfl fun b103 h103 => ?_
       refine fin hT 0 rfl (th (ifP h103 rfl (fun e17 => ?_) (fun e17 => ?_)))
       ·refine sk (th (sq (bk (sq (sq (rga [pt g (uA pre us post) 23] 11 [0, 2, 4, 6, 8, 10, 12, 14, 16, 19, 20] (by simp) (by kernel_rfl) (by kernel_rfl) ?_))))))
        refine dixs hT (by kernel_rfl) 2 j rfl rfl (by omega) ?_
        simp only [add_mk, Nat.mul_one]
        refine dldp hT (by kernel_rfl) 0 0 rfl rfl (uA_get (by omega)) ?_
        refine dar hT (by kernel_rfl) 2 rfl (v' := .int .i64 ((j - 1 : Nat) : Int)) (by rw [show ((j : Nat) : Int) - 1 = ((j - 1 : Nat) : Int) from by omega]; exact i64w (by omega)) ?_
        refine dixs hT (by kernel_rfl) 0 (j - 1) rfl rfl (by omega) ?_
        simp only [add_mk, Nat.mul_one]
        refine dldp hT (by kernel_rfl) 0 0 rfl rfl (uA_get (by omega)) ?_
        refine dact hT (by kernel_rfl) 0 rfl ?_
        refine cl hT 0 rfl (lessC (us.getD j 0) (us.getD (j - 1) 0)) ?_
        rintro v30 K30 hs30 ⟨rfl, rfl, rfl⟩
        refine dnex [pt g (uA pre us post) 23] (by simp) (by simp) rfl ?_
        by_cases hlt : us.getD j 0 < us.getD (j - 1) 0
        ·rw [decide_eq_true hlt]
         refine dend hT (by kernel_rfl) 1 rfl (th (ifF rfl ?_))
         have hgj : (uA pre us post)[pre.length + j]? = some (.int .u64 ((us.getD j 0 : Nat) : Int)) := uA_get (by omega)
         have hgj1 : (uA pre us post)[pre.length + (j - 1)]? = some (.int .u64 ((us.getD (j - 1) 0 : Nat) : Int)) := uA_get (by omega)
         have hgj2 : (uA pre (us.set j (us.getD (j - 1) 0)) post)[pre.length + (j - 1)]? = some (.int .u64 (((us.set j (us.getD (j - 1) 0)).getD (j - 1) 0 : Nat) : Int)) := uA_get (by rw [List.length_set]; omega)
         refine sk (th (rga [pt g (uA pre us post) 23] 15 [0, 2, 4, 6, 8, 10, 12, 14, 16, 18, 20, 22, 24, 26, 28, 31, 32, 35] (by simp) (by kernel_rfl) (by kernel_rfl) ?_))
         refine dar hT (by kernel_rfl) 4 rfl (v' := .int .i64 ((j - 1 : Nat) : Int)) (by rw [show ((j : Nat) : Int) - 1 = ((j - 1 : Nat) : Int) from by omega]; exact i64w (by omega)) ?_
         refine dar hT (by kernel_rfl) 2 rfl (v' := .int .i64 ((j - 1 : Nat) : Int)) (by rw [show ((j : Nat) : Int) - 1 = ((j - 1 : Nat) : Int) from by omega]; exact i64w (by omega)) ?_
         refine dixs hT (by kernel_rfl) 0 (j - 1) rfl rfl (by omega) ?_
         simp only [add_mk, Nat.mul_one]
         refine dldpw hT (by kernel_rfl) 0 0 rfl (by kernel_rfl) rfl hgj1 ?_
         refine dixs hT (by kernel_rfl) 2 j rfl rfl (by omega) ?_
         simp only [add_mk, Nat.mul_one]
         refine dldpw hT (by kernel_rfl) 0 0 rfl (by kernel_rfl) rfl hgj ?_
         refine dixs hT (by kernel_rfl) 0 j rfl rfl (by omega) ?_
         simp only [add_mk, Nat.mul_one]
         refine dact hT (by kernel_rfl) 0 rfl ?_
         refine stp hT 0 0 rfl rfl hgj rfl ?_
         refine dnext (.inl (by kernel_rfl)) ?_
         refine dixs hT (by kernel_rfl) 0 (j - 1) rfl rfl (by omega) ?_
         simp only [add_mk, Nat.mul_one]
         refine dact hT (by kernel_rfl) 0 rfl ?_
         refine WL.hs (pt g (uA pre (us.set j (us.getD (j - 1) 0)) post) 23 :: hs) (congrArg (fun z => pt g z 23 :: hs) (uA_set (by omega))) ?_
         refine stp hT 0 0 rfl rfl hgj2 rfl ?_
         refine WL.hs (pt g (uA pre (swp j (j - 1) us) post) 23 :: hs) (congrArg (fun z => pt g z 23 :: hs) (uA_set (by rw [List.length_set]; omega))) ?_
         refine dnext (.inl (by kernel_rfl)) ?_
         refine dend hT (by kernel_rfl) 0 rfl (bl (th (rg ?_)))
         refine ar hT 1 rfl (i64w (x := ((j + 1 : Nat) : Int)) (by omega)) ?_
         refine fin hT 1 rfl ?_
         exact again (x := (j, us)) (j + 1, swp j (j - 1) us) ⟨rfl, rfl, rfl, rfl, rfl, rfl, trivial⟩ rfl rfl ⟨by dsimp only; omega, by dsimp only; omega, hQ.trans (SegP.swp ⟨by omega, by omega⟩ ⟨by omega, by omega⟩ (by omega)), hSz.same fun p p1 p2 => by rw [swp_getD (by omega) (by omega), if_neg (by omega), if_neg (by omega)]⟩ (by dsimp only; omega)
        ·rw [decide_eq_false hlt]
         refine dend hT (by kernel_rfl) 1 rfl (th (ifT rfl ?_))
         refine ex (xt (xn rfl (xt (xt (xb (bl (th (rg ?_))))))))
         refine ar hT 1 rfl (i64w (x := ((k + 1 : Nat) : Int)) (by omega)) ?_
         refine fin hT 1 rfl ?_
         exact again (x := (k, i0, ys)) (k + 1, i, us) ⟨rfl, rfl, rfl, rfl, rfl, trivial⟩ rfl rfl ⟨by dsimp only; omega, hi1, hi2, hQ, hSz⟩ (by dsimp only; omega)
       ·refine ex (xt (xt (xb (bl (th (rg ?_))))))
        refine ar hT 1 rfl (i64w (x := ((k + 1 : Nat) : Int)) (by omega)) ?_
        refine fin hT 1 rfl ?_
        exact again (x := (k, i0, ys)) (k + 1, i, us) ⟨rfl, rfl, rfl, rfl, rfl, trivial⟩ rfl rfl ⟨by dsimp only; omega, hi1, hi2, hQ, hSz⟩ (by dsimp only; omega)
      ·refine sk (bl (th (rg ?_)))
       refine ar hT 1 rfl (i64w (x := ((k + 1 : Nat) : Int)) (by omega)) ?_
       refine fin hT 1 rfl ?_
       exact again (x := (k, i0, ys)) (k + 1, i, zs) ⟨rfl, rfl, rfl, rfl, rfl, trivial⟩ rfl rfl ⟨by dsimp only; omega, hi1, hi2, hQ, hSz⟩ (by dsimp only; omega)
 ·refine ex (xt (xt (xb (th (sq (rg ?_))))))
  refine fin hT 1 rfl (th (rt ?_))
  exact ret1 rfl rfl ⟨rfl, ys, false, rfl, rfl, hP, fun h => by cases h⟩
end Go.Proofs.YtneeeblghijmgaaGreat
end
section
namespace Go.En
theorem u64shr (m : Nat) (b : Int) (k : Nat) (hb : b = ((k : Nat) : Int)) (hk : k <= 64) : Value.int .u64 (((m : Nat) : Int).fdiv (2 ^ (min b.toNat IntKind.u64.bits))) = .int .u64 ((m / 2 ^ k : Nat) : Int) := by
 have e : min b.toNat IntKind.u64.bits = k := by
  have : IntKind.u64.bits = 64 := rfl
  omega
 rw [e]
 have h2 : ((2 : Int) ^ k) = ((2 ^ k : Nat) : Int) := by push_cast; rfl
 rw [h2, Int.fdiv_eq_ediv_of_nonneg _ (Int.natCast_nonneg _)]
 rfl
theorem u64any (x : Int) : ∃ m : Nat, m < 18446744073709551616 /\ Value.int .u64 (IntKind.u64.wrap x) = .int .u64 ((m : Nat) : Int) := by
 have e : IntKind.u64.wrap x = x % 18446744073709551616 := by simp [IntKind.wrap, IntKind.bits, IntKind.signed]
 refine ⟨(x % 18446744073709551616).toNat, by omega, ?_⟩
 rw [e, Int.toNat_of_nonneg (by omega)]
theorem u64andM (m n : Nat) (hm : m < 18446744073709551616) (hn : n <= 63) :
  Value.int .u64 (IntKind.u64.wrap (BitVec.ofInt 64 ((m : Nat) : Int) &&& BitVec.ofInt 64 ((2 ^ n - 1 : Nat) : Int)).toNat) = .int .u64 ((m % 2 ^ n : Nat) : Int) := by
 have hp : 2 ^ n < 18446744073709551616 := Nat.lt_of_le_of_lt (Nat.pow_le_pow_right (by decide) hn) (by decide)
 have h1 : m % 2 ^ n <= m := Nat.mod_le _ _
 rw [BitVec.toNat_and, BitVec.ofInt_natCast, BitVec.ofInt_natCast, BitVec.toNat_ofNat, BitVec.toNat_ofNat, Nat.mod_eq_of_lt (a := m) (by omega), Nat.mod_eq_of_lt (a := 2 ^ n - 1) (by omega), Nat.and_two_pow_sub_one_eq_mod, u64m, Nat.mod_eq_of_lt (by omega)]
def L8 : List UInt8 := (List.range 256).map fun b => if b = 0 then 0 else UInt8.ofNat (Nat.log2 b + 1)
theorem L8_get (b : Nat) (h : b < 256) : ∃ c : UInt8, L8[b]? = some c /\ c.toNat <= 8 /\ b < 2 ^ c.toNat /\ (0 < b -> 2 ^ c.toNat <= 2 * b) := by
 have hd : ∀ b : Fin 256, ((L8[b.1]?).map fun c => decide (c.toNat <= 8 /\ b.1 < 2 ^ c.toNat /\ (0 < b.1 -> 2 ^ c.toNat <= 2 * b.1))) = some true := by decide +kernel
 have := hd ⟨b, h⟩
 cases hc : L8[b]? with
 | none => rw [hc] at this; cases this
 | some c =>
  rw [hc] at this
  simp only [Option.map_some, Option.some.injEq] at this
  exact ⟨c, rfl, of_decide_eq_true this⟩
def LenI (x n y : Nat) : Prop := y * 2 ^ n <= x /\ x < (y + 1) * 2 ^ n /\ (0 < x -> 0 < y)
theorem LenI.start (x : Nat) : LenI x 0 x := ⟨by simp, by simp, id⟩
theorem LenI.up {x n y k : Nat} (h : LenI x n y) (hy : 2 ^ k <= y) : LenI x (n + k) (y / 2 ^ k) := by
 have hp : 0 < 2 ^ k := Nat.pow_pos (by decide)
 obtain ⟨h1, h2, h3⟩ := h
 have e : 2 ^ (n + k) = 2 ^ k * 2 ^ n := by rw [Nat.pow_add, Nat.mul_comm]
 refine ⟨?_, ?_, fun _ => Nat.div_pos hy hp⟩
 ·rw [e, <- Nat.mul_assoc]
  exact Nat.le_trans (Nat.mul_le_mul_right _ (Nat.div_mul_le_self y _)) h1
 ·rw [e, <- Nat.mul_assoc]
  refine Nat.lt_of_lt_of_le h2 (Nat.mul_le_mul_right _ ?_)
  have := Nat.lt_div_mul_add (a := y) hp
  rw [Nat.add_mul, Nat.one_mul]
  omega
theorem LenI.done {x n y c : Nat} (h : LenI x n y) (h1 : y < 2 ^ c) (h2 : 0 < y -> 2 ^ c <= 2 * y) : x < 2 ^ (n + c) /\ (0 < x -> 2 ^ (n + c) <= 2 * x) := by
 obtain ⟨g1, g2, g3⟩ := h
 have e : 2 ^ (n + c) = 2 ^ c * 2 ^ n := by rw [Nat.pow_add, Nat.mul_comm]
 refine ⟨?_, fun hx => ?_⟩
 ·rw [e]; exact Nat.lt_of_lt_of_le g2 (Nat.mul_le_mul_right _ h1)
 ·rw [e]
  refine Nat.le_trans (Nat.mul_le_mul_right _ (h2 (g3 hx))) ?_
  rw [Nat.mul_assoc]
  exact Nat.mul_le_mul_left _ g1
end Go.En
namespace Go.Proofs.YtneeeblghijmgaaGreat
open Go.En
attribute [local irreducible] Code.wp wpList Calls
theorem len64C {w0 : World} {K : PH} {hs : List PH} (x : Nat) (hx : x < 18446744073709551616) : Ct Tryz.prog w0 162 [.int .u64 ((x : Nat) : Int)] K hs
  (fun v K' hs' => K' = K /\ hs' = hs /\ ∃ n : Nat, v = .int .i64 ((n : Nat) : Int) /\ n <= 64 /\ x < 2 ^ n /\ (0 < x -> 2 ^ n <= 2 * x)) := by
 refine enter Tryz.func162 (by kernel_rfl) rfl rfl rfl ?_
 refine sq (rg ?_)
 refine fin hT 1 rfl (th (jn (σ := Nat × Nat) (fun s => [(0, .int .u64 ((s.1 : Nat) : Int)), (2, .int .i64 ((s.2 : Nat) : Int))]) (fun _ => hs) (fun s => LenI x s.2 s.1 /\ s.1 < 4294967296 /\ s.2 <= 32) ?_ ?_))
 ·refine sq (rg ?_)
  refine cmpS hT 1 rfl fun b4 h4 => ?_
  refine fin hT 0 rfl (th (ifP h4 rfl (fun e2 => ?_) (fun e2 => ?_)))
  ·refine sq (rg ?_)
   refine ar hT 1 rfl (u64shr x _ 32 rfl (by omega)) ?_
   refine fin hT 1 rfl (th (rg ?_))
   refine fin hT 1 rfl ?_
   exact jx (x / 2 ^ 32, 32) ⟨by simpa using (LenI.start x).up (k := 32) (by omega), by dsimp only; omega, Nat.le_refl _⟩ ⟨rfl, rfl, trivial⟩ rfl rfl
  ·refine sk ?_
   exact jx (x, 0) ⟨LenI.start x, by dsimp only; omega, by dsimp only; omega⟩ ⟨rfl, rfl, trivial⟩ rfl rfl
 ·rintro ⟨y, n⟩ ⟨hL, hy, hn⟩
  dsimp only at *
  refine jn (σ := Nat × Nat) (fun s => [(0, .int .u64 ((s.1 : Nat) : Int)), (2, .int .i64 ((s.2 : Nat) : Int))]) (fun _ => hs) (fun s => LenI x s.2 s.1 /\ s.1 < 65536 /\ s.2 <= 48) ?_ ?_
  ·refine sq (rg ?_)
   refine cmpS hT 1 rfl fun b8 h8 => ?_
   refine fin hT 0 rfl (th (ifP h8 rfl (fun e4 => ?_) (fun e4 => ?_)))
   ·refine sq (rg ?_)
    refine ar hT 1 rfl (u64shr y _ 16 rfl (by omega)) ?_
    refine fin hT 1 rfl (th (rg ?_))
    refine ar hT 1 rfl (i64w (x := ((n + 16 : Nat) : Int)) (by omega)) ?_
    refine fin hT 1 rfl ?_
    exact jx (y / 2 ^ 16, n + 16) ⟨hL.up (by omega), by dsimp only; omega, by dsimp only; omega⟩ ⟨rfl, rfl, trivial⟩ rfl rfl
   ·refine sk ?_
    exact jx (y, n) ⟨hL, by dsimp only; omega, by dsimp only; omega⟩ ⟨rfl, rfl, trivial⟩ rfl rfl
  ·clear hL hy hn
   rintro ⟨y, n⟩ ⟨hL, hy, hn⟩
   dsimp only at *
   refine jn (σ := Nat × Nat) (fun s => [(0, .int .u64 ((s.1 : Nat) : Int)), (2, .int .i64 ((s.2 : Nat) : Int))]) (fun _ => hs) (fun s => LenI x s.2 s.1 /\ s.1 < 256 /\ s.2 <= 56) ?_ ?_
   ·refine sq (rg ?_)
    refine cmpS hT 1 rfl fun b14 h14 => ?_
    refine fin hT 0 rfl (th (ifP h14 rfl (fun e6 => ?_) (fun e6 => ?_)))
    ·refine sq (rg ?_)
     refine ar hT 1 rfl (u64shr y _ 8 rfl (by omega)) ?_
     refine fin hT 1 rfl (th (rg ?_))
     refine ar hT 1 rfl (i64w (x := ((n + 8 : Nat) : Int)) (by omega)) ?_
     refine fin hT 1 rfl ?_
     exact jx (y / 2 ^ 8, n + 8) ⟨hL.up (by omega), by dsimp only; omega, by dsimp only; omega⟩ ⟨rfl, rfl, trivial⟩ rfl rfl
    ·refine sk ?_
     exact jx (y, n) ⟨hL, by dsimp only; omega, by dsimp only; omega⟩ ⟨rfl, rfl, trivial⟩ rfl rfl
   ·clear hL hy hn
    rintro ⟨y, n⟩ ⟨hL, hy, hn⟩
    dsimp only at *
    obtain ⟨c, hc, hc8, hc1, hc2⟩ := L8_get y hy
    refine sq (rg ?_)
    refine ar hT 2 rfl (u8w (by omega)) ?_
    refine six hT 0 L8 y rfl (by kernel_rfl) rfl hc ?_
    refine ar hT 0 rfl (i64w (by omega)) ?_
    refine ar hT 0 rfl (i64w (x := ((n + c.toNat : Nat) : Int)) (by omega)) ?_
    refine fin hT 1 rfl (th (rt ?_))
    exact ret1 rfl rfl ⟨rfl, rfl, n + c.toNat, rfl, by omega, hL.done hc1 hc2⟩
theorem lenC {w0 : World} {K : PH} {hs : List PH} (x : Nat) (hx : x < 18446744073709551616) : Ct Tryz.prog w0 136 [.int .u64 ((x : Nat) : Int)] K hs
  (fun v K' hs' => K' = K /\ hs' = hs /\ ∃ n : Nat, v = .int .i64 ((n : Nat) : Int) /\ n <= 64 /\ x < 2 ^ n /\ (0 < x -> 2 ^ n <= 2 * x)) := by
 refine enter Tryz.func136 (by kernel_rfl) rfl rfl rfl ?_
 refine sq (rg ?_)
 refine fin hT 1 rfl (th (sq (ifF rfl (sk (th (sq (rg ?_)))))))
 refine cl hT 1 rfl (len64C x hx) ?_
 rintro v7 K7 hs7 ⟨rfl, rfl, n, rfl, h1, h2, h3⟩
 refine fin hT 1 rfl (th (rt ?_))
 exact ret1 rfl rfl ⟨rfl, rfl, n, rfl, h1, h2, h3⟩
theorem npC {w0 : World} {K : PH} {hs : List PH} (x : Nat) (hx : 0 < x /\ x <= 1099511627776) : Ct Tryz.prog w0 178 [.int .i64 ((x : Nat) : Int)] K hs
  (fun v K' hs' => K' = K /\ hs' = hs /\ ∃ n : Nat, v = .int .u64 ((2 ^ n : Nat) : Int) /\ n <= 41 /\ 2 ^ n <= 2 * x) := by
 refine enter Tryz.func178 (by kernel_rfl) rfl rfl rfl ?_
 refine sq (rg ?_)
 refine fin hT 1 rfl (th (sq (rg ?_)))
 refine ar hT 1 rfl (u64w (by omega)) ?_
 refine cl hT 0 rfl (lenC x (by omega)) ?_
 rintro v5 K5 hs5 ⟨rfl, rfl, n, rfl, h1, h2, h3⟩
 have h4 := h3 hx.1
 have h5 : n <= 41 := by
  rcases Nat.lt_or_ge 41 n with h | h
  ·have : 2 ^ 42 <= 2 ^ n := Nat.pow_le_pow_right (by decide) h
   omega
  ·exact h
 refine shf hT 0 rfl (by omega) (.inl ⟨rfl, (show Value.int .u64 (IntKind.u64.wrap ((1 : Int) * 2 ^ (min ((n : Nat) : Int).toNat IntKind.u64.bits))) = .int .u64 ((2 ^ n : Nat) : Int) from by
  have e : min ((n : Nat) : Int).toNat IntKind.u64.bits = n := by
   have : IntKind.u64.bits = 64 := rfl
   omega
  rw [e, Int.one_mul, show ((2 : Int) ^ n) = ((2 ^ n : Nat) : Int) from by push_cast; rfl]
  exact u64w (by omega))⟩) ?_
 refine fin hT 1 rfl (th (rt ?_))
 exact ret1 rfl rfl ⟨rfl, rfl, n, rfl, h5, h4⟩
theorem xorC {w0 : World} {K : PH} {hs : List PH} (r : Nat) (x : Int) : Ct Tryz.prog w0 179 [.pointer (some ⟨r, 0, none⟩)] K (pt r #[.int .u64 x] 241 :: hs)
  (fun v K' hs' => K' = K /\ ∃ m : Nat, m < 18446744073709551616 /\ hs' = pt r #[.int .u64 ((m : Nat) : Int)] 241 :: hs /\ v = .int .u64 ((m : Nat) : Int)) := by
 refine enter Tryz.func179 (by kernel_rfl) rfl rfl rfl ?_
 refine sq (rg ?_)
 refine fin hT 1 rfl (th (sq (rga [pt r #[.int .u64 x] 241] 9 [0, 2, 4, 6, 8, 10, 12, 14, 16, 19] (by simp) (by kernel_rfl) (by kernel_rfl) ?_)))
 refine dldpw hT (by kernel_rfl) 2 0 rfl (by kernel_rfl) rfl rfl ?_
 refine dldpw hT (by kernel_rfl) 2 0 rfl (by kernel_rfl) rfl rfl ?_
 refine dar hT (by kernel_rfl) 0 rfl rfl ?_
 refine dar hT (by kernel_rfl) 0 rfl rfl ?_
 refine dact hT (by kernel_rfl) 1 rfl ?_
 refine stp hT 0 0 rfl rfl rfl rfl ?_
 refine dnext (.inl (by kernel_rfl)) ?_
 obtain ⟨x1, hx1⟩ : ∃ x1, x1 = (IntKind.u64.wrap (BitVec.ofInt 64 x ^^^ BitVec.ofInt 64 (IntKind.u64.wrap (x * 2 ^ (min (13 : Int).toNat IntKind.u64.bits)))).toNat : Int) := ⟨_, rfl⟩
 refine dend hT (by kernel_rfl) 0 rfl (th (sq ?_))
 refine WC.perm (hs' := pt r #[.int .u64 x1] 241 :: hs) (by rw [hx1]; exact List.Perm.refl _) ?_
 refine rga [pt r #[.int .u64 x1] 241] 9 [0, 2, 4, 6, 8, 10, 12, 14, 16, 19] (by simp) (by kernel_rfl) (by kernel_rfl) ?_
 refine dldpw hT (by kernel_rfl) 2 0 rfl (by kernel_rfl) rfl rfl ?_
 refine dldpw hT (by kernel_rfl) 2 0 rfl (by kernel_rfl) rfl rfl ?_
 refine dar hT (by kernel_rfl) 0 rfl rfl ?_
 refine dar hT (by kernel_rfl) 0 rfl rfl ?_
 refine dact hT (by kernel_rfl) 1 rfl ?_
 refine stp hT 0 0 rfl rfl rfl rfl ?_
 refine dnext (.inl (by kernel_rfl)) ?_
 obtain ⟨x2, hx2⟩ : ∃ x2, x2 = (IntKind.u64.wrap (BitVec.ofInt 64 x1 ^^^ BitVec.ofInt 64 (x1.fdiv (2 ^ (min (7 : Int).toNat IntKind.u64.bits)))).toNat : Int) := ⟨_, rfl⟩
 refine dend hT (by kernel_rfl) 0 rfl (th (sq ?_))
 refine WC.perm (hs' := pt r #[.int .u64 x2] 241 :: hs) (by rw [hx2]; exact List.Perm.refl _) ?_
 refine rga [pt r #[.int .u64 x2] 241] 9 [0, 2, 4, 6, 8, 10, 12, 14, 16, 19] (by simp) (by kernel_rfl) (by kernel_rfl) ?_
 refine dldpw hT (by kernel_rfl) 2 0 rfl (by kernel_rfl) rfl rfl ?_
 refine dldpw hT (by kernel_rfl) 2 0 rfl (by kernel_rfl) rfl rfl ?_
 refine dar hT (by kernel_rfl) 0 rfl rfl ?_
 obtain ⟨m, hm, he⟩ := u64any (BitVec.ofInt 64 x2 ^^^ BitVec.ofInt 64 (IntKind.u64.wrap (x2 * 2 ^ (min (17 : Int).toNat IntKind.u64.bits)))).toNat
 refine dar hT (by kernel_rfl) 0 rfl he ?_
 refine dact hT (by kernel_rfl) 1 rfl ?_
 refine stp hT 0 0 rfl rfl rfl rfl ?_
 refine dnext (.inl (by kernel_rfl)) ?_
 refine dend hT (by kernel_rfl) 0 rfl (th (sq (rg ?_)))
 refine ldp hT 2 0 rfl rfl rfl ?_
 refine fin hT 1 rfl (th (rt ?_))
 exact ret1 rfl rfl ⟨rfl, m, hm, rfl, rfl⟩
end Go.Proofs.YtneeeblghijmgaaGreat
end
section
namespace Go.Proofs.YtneeeblghijmgaaGreat
open Go.En
attribute [local irreducible] Code.wp wpList Calls
theorem brkC {w0 : World} {K : PH} {hs : List PH} (g cap : Nat) (pre post : List Value) (xs : List Nat) (a b : Nat) (hab : a + 8 <= b) (hb : b <= xs.length) (hc : xs.length <= cap) (hl : xs.length <= 1099511627776) :
  Ct Tryz.prog w0 170 [.slice (some ⟨g, pre.length, none⟩) xs.length cap, .int .i64 ((a : Nat) : Int), .int .i64 ((b : Nat) : Int)] K (pt g (uA pre xs post) 23 :: hs)
   (fun v K' hs' => K' = K /\ ∃ ys, hs' = pt g (uA pre ys post) 23 :: hs /\ SegP a b xs ys) := by
 obtain ⟨n, hn⟩ : ∃ n, n = b - a := ⟨_, rfl⟩
 refine enter Tryz.func170 (by kernel_rfl) rfl rfl rfl ?_
 refine sq (rg ?_)
 refine ar hT 2 rfl (v' := .int .i64 ((n : Nat) : Int)) (by rw [show ((b : Nat) : Int) - ((a : Nat) : Int) = ((n : Nat) : Int) from by omega]; exact i64w (by omega)) ?_
 refine fin hT 1 rfl (th (sq (rg ?_)))
 refine cmpS hT 1 rfl fun b15 h15 => ?_
 refine fin hT 0 rfl (th (ifPT h15 (by omega) rfl ?_))
 refine sq (rg ?_)
 refine ar hT 1 rfl (u64w (by omega)) ?_
 refine al hT 0 (.int .u64 0) rfl (by kernel_rfl) fun r => ?_
 refine stp hT 0 0 rfl rfl rfl rfl ?_
 refine fin hT 0 rfl (th (sq (rg ?_)))
 refine cl hT 1 rfl (npC n (by omega)) ?_
 rintro v19 K19 hs19 ⟨rfl, rfl, w, rfl, hw, hw2⟩
 have hq1 : n / 4 * 2 + 1 < n := by omega
 have hq2 : 2 <= n / 4 := by omega
 refine fin hT 1 rfl (th (sq (rg ?_)))
 refine ar hT 2 rfl (quoN n 4 (by omega)) ?_
 refine ar hT 0 rfl (i64w (x := ((n / 4 * 2 : Nat) : Int)) (by omega)) ?_
 refine ar hT 0 rfl (i64w (x := ((a + n / 4 * 2 : Nat) : Int)) (by omega)) ?_
 refine ar hT 0 rfl (v' := .int .i64 ((a + n / 4 * 2 - 1 : Nat) : Int)) (by rw [show ((a + n / 4 * 2 : Nat) : Int) - 1 = ((a + n / 4 * 2 - 1 : Nat) : Int) from by omega]; exact i64w (by omega)) ?_
 refine fin hT 1 rfl (th (bk ?_))
 refine loop (σ := Nat × Nat × List Nat) (fun s => [(0, .slice (some ⟨g, pre.length, none⟩) xs.length cap), (1, .int .i64 ((a : Nat) : Int)), (6, .int .i64 ((n : Nat) : Int)), (7, .pointer (some ⟨r, 0, none⟩)), (8, .int .u64 ((2 ^ w : Nat) : Int)), (9, .int .i64 ((s.1 : Nat) : Int))]) (fun _ => K19) (fun s => pt r #[.int .u64 ((s.2.1 : Nat) : Int)] 241 :: pt g (uA pre s.2.2 post) 23 :: hs)
  (fun s => a <= s.1 /\ s.1 <= a + n / 4 * 2 + 2 /\ SegP a b xs s.2.2) (fun s => b - s.1) (a + n / 4 * 2 - 1, n, xs) ⟨by dsimp only; omega, by dsimp only; omega, SegP.refl _ _ _⟩ ⟨rfl, rfl, rfl, rfl, rfl, rfl, trivial⟩ rfl rfl ?_
 rintro ⟨i, m0, ys⟩ ⟨hi1, hi2, hP⟩
 dsimp only at *
 have hyl : ys.length = xs.length := hP.len
 refine sq (sq (rg ?_))
 refine ar hT 3 rfl (quoN n 4 (by omega)) ?_
 refine ar hT 0 rfl (i64w (x := ((n / 4 * 2 : Nat) : Int)) (by omega)) ?_
 refine ar hT 0 rfl (i64w (x := ((a + n / 4 * 2 : Nat) : Int)) (by omega)) ?_
 refine ar hT 0 rfl (i64w (x := ((a + n / 4 * 2 + 1 : Nat) : Int)) (by omega)) ?_
 refine cmpS hT 0 rfl fun b33 h33 => ?_
 refine fin hT 0 rfl (th (ifP h33 rfl (fun e4 => ?_) (fun e4 => ?_)))
 ·refine sk (th (sq (bk (sq (rg ?_)))))
  refine cl hT 0 rfl (xorC r ((m0 : Nat) : Int)) ?_
  rintro v36 K36 hs36 ⟨rfl, m, hm, rfl, rfl⟩
  have hwp : 0 < 2 ^ w := Nat.pow_pos (by decide)
  refine ar hT 1 rfl (v' := .int .u64 ((2 ^ w - 1 : Nat) : Int)) (by rw [show ((2 ^ w : Nat) : Int) - 1 = ((2 ^ w - 1 : Nat) : Int) from by omega]; exact u64w (by omega)) ?_
  refine ar hT 0 rfl (u64andM m w hm (by omega)) ?_
  have hmm : m % 2 ^ w < 2 ^ w := Nat.mod_lt _ hwp
  obtain ⟨o, ho⟩ : ∃ o, o = m % 2 ^ w := ⟨_, rfl⟩
  rw [<- ho] at hmm ⊢
  refine ar hT 0 rfl (i64w (x := ((o : Nat) : Int)) (by omega)) ?_
  refine fin hT 1 rfl (th (jn (σ := Nat) (fun o => [(0, .slice (some ⟨g, pre.length, none⟩) xs.length cap), (1, .int .i64 ((a : Nat) : Int)), (6, .int .i64 ((n : Nat) : Int)), (7, .pointer (some ⟨r, 0, none⟩)), (8, .int .u64 ((2 ^ w : Nat) : Int)), (9, .int .i64 ((i : Nat) : Int)), (10, .int .i64 ((o : Nat) : Int))]) (fun _ => pt r #[.int .u64 ((m : Nat) : Int)] 241 :: pt g (uA pre ys post) 23 :: hs) (fun o => o < n) ?_ ?_))
  ·refine sq (rg ?_)
   refine cmpS hT 2 rfl fun b43 h43 => ?_
   refine fin hT 0 rfl (th (ifP h43 rfl (fun e6 => ?_) (fun e6 => ?_)))
   ·refine rg ?_
    refine ar hT 2 rfl (v' := .int .i64 ((o - n : Nat) : Int)) (by rw [show ((o : Nat) : Int) - ((n : Nat) : Int) = ((o - n : Nat) : Int) from by omega]; exact i64w (by omega)) ?_
    refine fin hT 1 rfl ?_
    exact jx (o - n) (by omega) ⟨rfl, rfl, rfl, rfl, rfl, rfl, rfl, trivial⟩ rfl rfl
   ·refine sk ?_
    exact jx o (by omega) ⟨rfl, rfl, rfl, rfl, rfl, rfl, rfl, trivial⟩ rfl rfl
  ·clear ho hmm o
   intro o ho
   have hgi : (uA pre ys post)[pre.length + i]? = some (.int .u64 ((ys.getD i 0 : Nat) : Int)) := uA_get (by omega)
   have hgo : (uA pre ys post)[pre.length + (a + o)]? = some (.int .u64 ((ys.getD (a + o) 0 : Nat) : Int)) := uA_get (by omega)
   have hgo2 : (uA pre (ys.set i (ys.getD (a + o) 0)) post)[pre.length + (a + o)]? = some (.int .u64 (((ys.set i (ys.getD (a + o) 0)).getD (a + o) 0 : Nat) : Int)) := uA_get (by rw [List.length_set]; omega)
   refine rga [pt g (uA pre ys post) 23] 17 [0, 2, 4, 6, 8, 10, 12, 14, 16, 18, 20, 22, 24, 26, 28, 30, 32, 35, 36, 39] (by simp) (by kernel_rfl) (by kernel_rfl) ?_
   refine dar hT (by kernel_rfl) 5 rfl (i64w (x := ((a + o : Nat) : Int)) (by omega)) ?_
   refine dar hT (by kernel_rfl) 3 rfl (i64w (x := ((a + o : Nat) : Int)) (by omega)) ?_
   refine dixs hT (by kernel_rfl) 0 (a + o) rfl rfl (by omega) ?_
   simp only [add_mk, Nat.mul_one]
   refine dldpw hT (by kernel_rfl) 0 0 rfl (by kernel_rfl) rfl hgo ?_
   refine dixs hT (by kernel_rfl) 2 i rfl rfl (by omega) ?_
   simp only [add_mk, Nat.mul_one]
   refine dldpw hT (by kernel_rfl) 0 0 rfl (by kernel_rfl) rfl hgi ?_
   refine dixs hT (by kernel_rfl) 0 i rfl rfl (by omega) ?_
   simp only [add_mk, Nat.mul_one]
   refine dact hT (by kernel_rfl) 0 rfl ?_
   refine stp hT 0 1 rfl rfl hgi rfl ?_
   refine dnext (.inl (by kernel_rfl)) ?_
   refine dixs hT (by kernel_rfl) 0 (a + o) rfl rfl (by omega) ?_
   simp only [add_mk, Nat.mul_one]
   refine dact hT (by kernel_rfl) 0 rfl ?_
   refine WL.hs (pt r #[.int .u64 ((m : Nat) : Int)] 241 :: pt g (uA pre (ys.set i (ys.getD (a + o) 0)) post) 23 :: hs) (congrArg (fun z => pt r #[.int .u64 ((m : Nat) : Int)] 241 :: pt g z 23 :: hs) (uA_set (by omega))) ?_
   refine stp hT 0 1 rfl rfl hgo2 rfl ?_
   refine WL.hs (pt r #[.int .u64 ((m : Nat) : Int)] 241 :: pt g (uA pre (swp i (a + o) ys) post) 23 :: hs) (congrArg (fun z => pt r #[.int .u64 ((m : Nat) : Int)] 241 :: pt g z 23 :: hs) (uA_set (by rw [List.length_set]; omega))) ?_
   refine dnext (.inl (by kernel_rfl)) ?_
   refine dend hT (by kernel_rfl) 0 rfl (bl (th (rg ?_)))
   refine ar hT 1 rfl (i64w (x := ((i + 1 : Nat) : Int)) (by omega)) ?_
   refine fin hT 1 rfl ?_
   exact again (x := (i, m0, ys)) (i + 1, m, swp i (a + o) ys) ⟨rfl, rfl, rfl, rfl, rfl, rfl, trivial⟩ rfl rfl ⟨by dsimp only; omega, by dsimp only; omega, hP.trans (SegP.swp ⟨by omega, by omega⟩ ⟨by omega, by omega⟩ (by omega))⟩ (by dsimp only; omega)
 ·refine ex (xt (xt (xb ?_)))
  refine WQ.drop ?_
  exact end0 rfl ⟨rfl, ys, rfl, hP⟩
end Go.Proofs.YtneeeblghijmgaaGreat
end
section
namespace Go.Proofs.YtneeeblghijmgaaGreat
open Go.En
attribute [local irreducible] Code.wp wpList Calls
theorem pdqC (n : Nat) : ∀ {w0 : World} {K : PH} {hs : List PH} (g cap : Nat) (pre post : List Value) (xs : List Nat) (a b lim : Nat) (hab : a <= b) (hb : b <= xs.length) (hc : xs.length <= cap) (hl : xs.length <= 1099511627776) (hlim : lim <= 64) (hlo : LoB a b xs) (hn : b - a <= n),
  Ct Tryz.prog w0 151 [.slice (some ⟨g, pre.length, none⟩) xs.length cap, .int .i64 ((a : Nat) : Int), .int .i64 ((b : Nat) : Int), .int .i64 ((lim : Nat) : Int)] K (pt g (uA pre xs post) 23 :: hs)
   (fun v K' hs' => K' = K /\ ∃ ys, hs' = pt g (uA pre ys post) 23 :: hs /\ SegP a b xs ys /\ Srt a b ys) := by
 induction n using Nat.strongRecOn with
 | ind n ih =>
 intro w0 K hs g cap pre post xs a b lim hab hb hc hl hlim hlo hn
 refine enter Tryz.func151 (by kernel_rfl) rfl rfl rfl ?_
 refine sq (rg ?_)
 refine fin hT 1 rfl (th (sq (rg ?_)))
 refine fin hT 1 rfl (th (bk ?_))
 refine loop (σ := (Nat × Nat × Nat) × (Bool × Bool) × List Nat) (fun s => [(0, .slice (some ⟨g, pre.length, none⟩) xs.length cap), (1, .int .i64 ((s.1.1 : Nat) : Int)), (2, .int .i64 ((s.1.2.1 : Nat) : Int)), (3, .int .i64 ((s.1.2.2 : Nat) : Int)), (8, .bool s.2.1.1), (9, .bool s.2.1.2)]) (fun _ => K) (fun s => pt g (uA pre s.2.2 post) 23 :: hs)
  (fun s => s.1.2.2 <= 64 /\ a <= s.1.1 /\ s.1.2.1 <= b /\ s.1.1 <= s.1.2.1 /\ SegP a b xs s.2.2 /\ Rst a b s.1.1 s.1.2.1 s.2.2 /\ LoB s.1.1 s.1.2.1 s.2.2) (fun s => s.1.2.1 - s.1.1) ((a, b, lim), (true, true), xs) ⟨hlim, Nat.le_refl _, Nat.le_refl _, hab, SegP.refl _ _ _, Rst.self _ _ _, hlo⟩ ⟨rfl, rfl, rfl, rfl, rfl, rfl, trivial⟩ rfl rfl ?_
 rintro ⟨⟨c, d, lm⟩, ⟨wb, wp⟩, ys⟩ ⟨hlm, hac, hdb, hcd, hP, hR, hL⟩
 dsimp only at *
 have hyl : ys.length = xs.length := hP.len
 obtain ⟨n1, hn1⟩ : ∃ n1, n1 = d - c := ⟨_, rfl⟩
 refine bk (sq (rg ?_))
 refine ar hT 2 rfl (v' := .int .i64 ((n1 : Nat) : Int)) (by rw [show ((d : Nat) : Int) - ((c : Nat) : Int) = ((n1 : Nat) : Int) from by omega]; exact i64w (by omega)) ?_
 refine fin hT 1 rfl (th (sq (sq (rg ?_))))
 refine cmpS hT 1 rfl fun b23 h23 => ?_
 refine fin hT 0 rfl (th (ifP h23 rfl (fun e2 => ?_) (fun e2 => ?_)))
 ·refine sq (rg ?_)
  have hs1 := insC (w0 := w0) (K := K) (hs := hs) g cap pre post ys c d hcd (by omega) (by omega) (by omega)
  rw [hyl] at hs1
  refine cl hT 3 rfl hs1 ?_
  rintro v27 K27 hs27 ⟨rfl, zs, rfl, hQ, hS⟩
  refine fin hT 0 rfl (th (rt (rT (rB (rT (rB ?_))))))
  exact ret0 rfl ⟨rfl, zs, rfl, hP.trans (hQ.wide hac hdb), hR zs hQ hS⟩
 ·refine sk (th (sq (sq (rg ?_))))
  refine cmpS hT 1 rfl fun b29 h29 => ?_
  refine fin hT 0 rfl (th (ifP h29 rfl (fun e4 => ?_) (fun e4 => ?_)))
  ·refine sq (rg ?_)
   have hs1 := heapC (w0 := w0) (K := K) (hs := hs) g cap pre post ys c d (by omega) (by omega) (by omega) (by omega)
   rw [hyl] at hs1
   refine cl hT 3 rfl hs1 ?_
   rintro v33 K33 hs33 ⟨rfl, zs, rfl, hQ, hS⟩
   refine fin hT 0 rfl (th (rt (rT (rB (rT (rB ?_))))))
   exact ret0 rfl ⟨rfl, zs, rfl, hP.trans (hQ.wide hac hdb), hR zs hQ hS⟩
  ·refine sk (th (jn (σ := Nat × List Nat) (fun s => [(0, .slice (some ⟨g, pre.length, none⟩) xs.length cap), (1, .int .i64 ((c : Nat) : Int)), (2, .int .i64 ((d : Nat) : Int)), (3, .int .i64 ((s.1 : Nat) : Int)), (8, .bool wb), (9, .bool wp), (10, .int .i64 ((n1 : Nat) : Int))]) (fun s => pt g (uA pre s.2 post) 23 :: hs) (fun s => s.1 <= 64 /\ a <= c /\ d <= b /\ c <= d /\ SegP a b xs s.2 /\ Rst a b c d s.2 /\ LoB c d s.2) ?_ ?_))
   ·refine sq (rg ?_)
    cases wb with
    | false =>
     refine fin hT 2 rfl (th (ifT rfl ?_))
     refine sq (rg ?_)
     have hs1 := brkC (w0 := w0) (K := K) (hs := hs) g cap pre post ys c d (by omega) (by omega) (by omega) (by omega)
     rw [hyl] at hs1
     refine cl hT 3 rfl hs1 ?_
     rintro v39 K39 hs39 ⟨rfl, zs, rfl, hQ⟩
     refine fin hT 0 rfl (th (rg ?_))
     refine ar hT 1 rfl (v' := .int .i64 ((lm - 1 : Nat) : Int)) (by rw [show ((lm : Nat) : Int) - 1 = ((lm - 1 : Nat) : Int) from by omega]; exact i64w (by omega)) ?_
     refine fin hT 1 rfl ?_
     exact jx (lm - 1, zs) ⟨by dsimp only; omega, hac, hdb, hcd, hP.trans (hQ.wide hac hdb), hR.step hQ, hL.perm hQ (by omega)⟩ ⟨rfl, rfl, rfl, rfl, rfl, rfl, rfl, trivial⟩ rfl rfl
    | true =>
     refine fin hT 2 rfl (th (ifF rfl ?_))
     refine sk ?_
     exact jx (lm, ys) ⟨hlm, hac, hdb, hcd, hP, hR, hL⟩ ⟨rfl, rfl, rfl, rfl, rfl, rfl, rfl, trivial⟩ rfl rfl
   ·clear hP hR hL hyl
    clear ys hlm e4 h29 b29
    clear lm
    rintro ⟨lm, ys⟩ ⟨hlm, -, -, -, hP, hR, hL⟩
    dsimp only at *
    have hyl : ys.length = xs.length := hP.len
    refine sq (rg ?_)
    have hs1 := pivC (w0 := w0) (K := K) (hs := hs) g cap pre post ys c d (by omega) (by omega) (by omega) (by omega)
    rw [hyl] at hs1
    refine cl hT 3 rfl hs1 ?_
    rintro v46 K46 hs46 ⟨rfl, rfl, pv, h, rfl, hpv, hh⟩
    refine fin hT 5 rfl (th (jn (σ := (Nat × Nat) × List Nat) (fun s => [(0, .slice (some ⟨g, pre.length, none⟩) xs.length cap), (1, .int .i64 ((c : Nat) : Int)), (2, .int .i64 ((d : Nat) : Int)), (3, .int .i64 ((lm : Nat) : Int)), (8, .bool wb), (9, .bool wp), (10, .int .i64 ((n1 : Nat) : Int)), (11, .int .i64 ((s.1.1 : Nat) : Int)), (12, .int .i64 ((s.1.2 : Nat) : Int))]) (fun s => pt g (uA pre s.2 post) 23 :: hs) (fun s => (c <= s.1.1 /\ s.1.1 < d) /\ a <= c /\ d <= b /\ c <= d /\ SegP a b xs s.2 /\ Rst a b c d s.2 /\ LoB c d s.2) ?_ ?_))
    ·refine sq (rg ?_)
     refine cmpS hT 1 rfl fun b50 h50 => ?_
     refine fin hT 0 rfl (th (ifP h50 rfl (fun e7 => ?_) (fun e7 => ?_)))
     ·refine sq (rg ?_)
      have hs1 := revRC (w0 := w0) (K := K46) (hs := hs) g cap pre post ys c d (by omega) (by omega) (by omega) (by omega)
      rw [hyl] at hs1
      refine cl hT 3 rfl hs1 ?_
      rintro v54 K54 hs54 ⟨rfl, zs, rfl, hQ⟩
      refine fin hT 0 rfl (th (sq (rg ?_)))
      refine ar hT 1 rfl (i64w (by omega)) ?_
      refine ar hT 2 rfl (i64w (by omega)) ?_
      refine ar hT 0 rfl (v' := .int .i64 ((d - 1 - (pv - c) : Nat) : Int)) (by rw [show ((d : Nat) : Int) - 1 - (((pv : Nat) : Int) - ((c : Nat) : Int)) = ((d - 1 - (pv - c) : Nat) : Int) from by omega]; exact i64w (by omega)) ?_
      refine fin hT 1 rfl (th (rg ?_))
      refine fin hT 1 rfl ?_
      exact jx ((d - 1 - (pv - c), 1), zs) ⟨by dsimp only; omega, hac, hdb, hcd, hP.trans (hQ.wide hac hdb), hR.step hQ, hL.perm hQ (by omega)⟩ ⟨rfl, rfl, rfl, rfl, rfl, rfl, rfl, rfl, rfl, trivial⟩ rfl rfl
     ·refine sk ?_
      exact jx ((pv, h), ys) ⟨hpv, hac, hdb, hcd, hP, hR, hL⟩ ⟨rfl, rfl, rfl, rfl, rfl, rfl, rfl, rfl, rfl, trivial⟩ rfl rfl
    ·clear hs1 hP hR hL hyl hpv hh
     clear ys
     clear pv h
     rintro ⟨⟨pv, h⟩, ys⟩ ⟨hpv, -, -, -, hP, hR, hL⟩
     dsimp only at *
     have hyl : ys.length = xs.length := hP.len
     refine jn (σ := List Nat) (fun s => [(0, .slice (some ⟨g, pre.length, none⟩) xs.length cap), (1, .int .i64 ((c : Nat) : Int)), (2, .int .i64 ((d : Nat) : Int)), (3, .int .i64 ((lm : Nat) : Int)), (8, .bool wb), (9, .bool wp), (10, .int .i64 ((n1 : Nat) : Int)), (11, .int .i64 ((pv : Nat) : Int))]) (fun s => pt g (uA pre s post) 23 :: hs) (fun s => a <= c /\ d <= b /\ c <= d /\ SegP a b xs s /\ Rst a b c d s /\ LoB c d s) ?_ ?_
     ·refine sq (rg ?_)
      cases wb with
      | false =>
       refine fin hT 8 rfl (th (ifF rfl ?_))
       refine sk ?_
       exact jx ys ⟨hac, hdb, hcd, hP, hR, hL⟩ ⟨rfl, rfl, rfl, rfl, rfl, rfl, rfl, rfl, trivial⟩ rfl rfl
      | true =>
      cases wp with
      | false =>
       refine fin hT 8 rfl (th (ifF rfl ?_))
       refine sk ?_
       exact jx ys ⟨hac, hdb, hcd, hP, hR, hL⟩ ⟨rfl, rfl, rfl, rfl, rfl, rfl, rfl, rfl, trivial⟩ rfl rfl
      | true =>
       refine cmpS hT 6 rfl fun b67 h67 => ?_
       refine fin hT 1 rfl (th (ifP h67 rfl (fun h9 => ?_) (fun h9 => ?_)))
       ·refine sq (rg ?_)
        have hs1 := pisC (w0 := w0) (K := K46) (hs := hs) g cap pre post ys c d (by omega) (by omega) (by omega) (by omega) hL
        rw [hyl] at hs1
        refine cl hT 3 rfl hs1 ?_
        rintro v72 K72 hs72 ⟨rfl, zs, t, rfl, rfl, hQ, hS⟩
        refine fin hT 0 rfl (th (ifB rfl (fun e10 => ?_) (fun e10 => ?_)))
        ·refine rt (jr (rB (rT (rB ?_))))
         exact ret0 rfl ⟨rfl, zs, rfl, hP.trans (hQ.wide hac hdb), hR zs hQ (hS e10)⟩
        ·refine sk ?_
         exact jx zs ⟨hac, hdb, hcd, hP.trans (hQ.wide hac hdb), hR.step hQ, hL.perm hQ (by omega)⟩ ⟨rfl, rfl, rfl, rfl, rfl, rfl, rfl, rfl, trivial⟩ rfl rfl
       ·refine sk ?_
        exact jx ys ⟨hac, hdb, hcd, hP, hR, hL⟩ ⟨rfl, rfl, rfl, rfl, rfl, rfl, rfl, rfl, trivial⟩ rfl rfl
     ·clear hP hR hL hyl
      clear ys
      rintro ys ⟨-, -, -, hP, hR, hL⟩
      have hyl : ys.length = xs.length := hP.len
      refine jn (σ := Unit) (fun _ => [(0, .slice (some ⟨g, pre.length, none⟩) xs.length cap), (1, .int .i64 ((c : Nat) : Int)), (2, .int .i64 ((d : Nat) : Int)), (3, .int .i64 ((lm : Nat) : Int)), (8, .bool wb), (9, .bool wp), (10, .int .i64 ((n1 : Nat) : Int)), (11, .int .i64 ((pv : Nat) : Int))]) (fun _ => pt g (uA pre ys post) 23 :: hs) (fun _ => True) ?_ ?_
      ·refine sq (rga [pt g (uA pre ys post) 23] 15 [0, 2, 4, 6, 8, 10, 12, 14, 16, 18, 20, 22, 25, 26, 28] (by simp) (by kernel_rfl) (by kernel_rfl) ?_)
       refine dcmp hT (by kernel_rfl) 1 (0 < c) rfl (by simp) (fun h11 => ?_) (fun h11 => ?_)
       ·refine dar hT (by kernel_rfl) 3 rfl (v' := .int .i64 ((c - 1 : Nat) : Int)) (by rw [show ((c : Nat) : Int) - 1 = ((c - 1 : Nat) : Int) from by omega]; exact i64w (by omega)) ?_
        refine dixs hT (by kernel_rfl) 0 (c - 1) rfl rfl (by omega) ?_
        simp only [add_mk, Nat.mul_one]
        refine dldp hT (by kernel_rfl) 0 0 rfl rfl (uA_get (by omega)) ?_
        refine dixs hT (by kernel_rfl) 2 pv rfl rfl (by omega) ?_
        simp only [add_mk, Nat.mul_one]
        refine dldp hT (by kernel_rfl) 0 0 rfl rfl (uA_get (by omega)) ?_
        refine dact hT (by kernel_rfl) 0 rfl ?_
        refine cl hT 0 rfl (lessC (ys.getD (c - 1) 0) (ys.getD pv 0)) ?_
        rintro v85 K85 hs85 ⟨rfl, rfl, rfl⟩
        refine dnex [pt g (uA pre ys post) 23] (by simp) (by simp) rfl ?_
        by_cases hlt : ys.getD (c - 1) 0 < ys.getD pv 0
        ·rw [decide_eq_true hlt]
         refine dend hT (by kernel_rfl) 2 rfl (th (ifF rfl ?_))
         refine sk ?_
         exact jx () trivial ⟨rfl, rfl, rfl, rfl, rfl, rfl, rfl, rfl, trivial⟩ rfl rfl
        ·rw [decide_eq_false hlt]
         refine dend hT (by kernel_rfl) 2 rfl (th (ifT rfl ?_))
         refine sq (rg ?_)
         have hs1 := parEC (w0 := w0) (K := K85) (hs := hs) g cap pre post ys c d pv (by omega) hpv (by omega) (by omega) (by omega)
         rw [hyl] at hs1
         refine cl hT 4 rfl hs1 ?_
         rintro v92 K92 hs92 ⟨rfl, zs, i, rfl, rfl, hQ, hi1, hi2, hz1, hz2, hz3⟩
         have hzl : zs.length = ys.length := hQ.len
         obtain ⟨hR2, hL2⟩ := (hR.step hQ).equal h11 hi1 hi2 (by omega) (hL.perm hQ (by omega)) (by rw [hQ.outD (i := c - 1) (.inl (by omega)), hz3]; exact Nat.le_of_not_lt hlt) hz1 hz2
         refine fin hT 1 rfl (th (sq (rg ?_)))
         refine fin hT 2 rfl (th (ex (je (xb ?_))))
         exact again (x := ((c, d, lm), (wb, wp), zs)) ((i, d, lm), (wb, wp), zs) ⟨rfl, rfl, rfl, rfl, rfl, rfl, trivial⟩ rfl rfl ⟨hlm, by dsimp only; omega, hdb, hi2, hP.trans (hQ.wide hac hdb), hR2, hL2⟩ (by dsimp only; omega)
       ·refine dact hT (by kernel_rfl) 10 rfl ?_
        refine WL.pures hT 1 rfl ?_
        refine dnex [pt g (uA pre ys post) 23] (by simp) (by simp) rfl ?_
        refine dend hT (by kernel_rfl) 2 rfl (th (ifF rfl ?_))
        refine sk ?_
        exact jx () trivial ⟨rfl, rfl, rfl, rfl, rfl, rfl, rfl, rfl, trivial⟩ rfl rfl
      ·rintro - -
       refine sq (rg ?_)
       have hs1 := parC (w0 := w0) (K := K46) (hs := hs) g cap pre post ys c d pv (by omega) hpv (by omega) (by omega) (by omega)
       rw [hyl] at hs1
       refine cl hT 4 rfl hs1 ?_
       rintro v99 K99 hs99 ⟨rfl, zs, m, t, rfl, rfl, hQ, hA⟩
       have hm1 := hA.m1
       have hm2 := hA.m2
       have hzl : zs.length = xs.length := hQ.len.trans hyl
       have hLz := hL.perm hQ (by omega)
       have hPz := hP.trans (hQ.wide hac hdb)
       refine fin hT 5 rfl (th (sq (rg ?_)))
       refine fin hT 2 rfl (th (sq (rg ?_)))
       refine ar hT 2 rfl (v' := .int .i64 ((m - c : Nat) : Int)) (by rw [show ((m : Nat) : Int) - ((c : Nat) : Int) = ((m - c : Nat) : Int) from by omega]; exact i64w (by omega)) ?_
       refine ar hT 2 rfl (v' := .int .i64 ((d - m : Nat) : Int)) (by rw [show ((d : Nat) : Int) - ((m : Nat) : Int) = ((d - m : Nat) : Int) from by omega]; exact i64w (by omega)) ?_
       refine fin hT 2 rfl (th (sq (rg ?_)))
       refine ar hT 1 rfl (quoN n1 8 (by omega)) ?_
       refine fin hT 1 rfl (th (sq (rg ?_)))
       refine cmpS hT 2 rfl fun b113 h113 => ?_
       refine fin hT 0 rfl (th (ifP h113 rfl (fun e14 => ?_) (fun e14 => ?_)))
       ·refine sq (rg ?_)
        refine cmpS hT 2 rfl fun b116 h116 => ?_
        refine fin hT 1 rfl (th (sq (rg ?_)))
        have hs1 := ih (n - 1) (by omega) (w0 := w0) (K := K99) (hs := hs) g cap pre post zs c m lm hm1 (by omega) (by omega) (by omega) hlm (hLz.cut (by omega)) (by omega)
        rw [hzl] at hs1
        refine cl hT 4 rfl hs1 ?_
        rintro v121 K121 hs121 ⟨rfl, us, rfl, hU, hS⟩
        have hul : us.length = xs.length := hU.len.trans hzl
        refine fin hT 0 rfl (th (rg ?_))
        refine ar hT 1 rfl (i64w (x := ((m + 1 : Nat) : Int)) (by omega)) ?_
        refine fin hT 1 rfl (bl ?_)
        exact again (x := ((c, d, lm), (wb, wp), zs)) ((m + 1, d, lm), (b116, t), us) ⟨rfl, rfl, rfl, rfl, rfl, rfl, trivial⟩ rfl rfl ⟨hlm, by dsimp only; omega, hdb, hm2, hPz.trans (hU.wide hac (by omega)), (hR.step hQ).left hA (by omega) hU hS, (hA.left hU (by omega)).loB (hLz.perm (hU.wide (Nat.le_refl _) (by omega)) (by omega))⟩ (by dsimp only; omega)
       ·refine sq (rg ?_)
        refine cmpS hT 2 rfl fun b126 h126 => ?_
        refine fin hT 1 rfl (th (sq (rg ?_)))
        refine ar hT 2 rfl (i64w (x := ((m + 1 : Nat) : Int)) (by omega)) ?_
        have hs1 := ih (n - 1) (by omega) (w0 := w0) (K := K99) (hs := hs) g cap pre post zs (m + 1) d lm hm2 (by omega) (by omega) (by omega) hlm (hA.loB hLz) (by omega)
        rw [hzl] at hs1
        refine cl hT 2 rfl hs1 ?_
        rintro v132 K132 hs132 ⟨rfl, us, rfl, hU, hS⟩
        have hul : us.length = xs.length := hU.len.trans hzl
        refine fin hT 0 rfl (th (rg ?_))
        refine fin hT 2 rfl (bl ?_)
        exact again (x := ((c, d, lm), (wb, wp), zs)) ((c, m, lm), (b126, t), us) ⟨rfl, rfl, rfl, rfl, rfl, rfl, trivial⟩ rfl rfl ⟨hlm, hac, by dsimp only; omega, hm1, hPz.trans (hU.wide (by omega) hdb), (hR.step hQ).right hA (by omega) hU hS, (hLz.perm (hU.wide (by omega) (Nat.le_refl _)) (by omega)).cut (by dsimp only; omega)⟩ (by dsimp only; omega)
end Go.Proofs.YtneeeblghijmgaaGreat
end
section
namespace Go.En
attribute [local irreducible] Code.wp wpList Calls
def todoL (l : List Int) (ks : List Int) : Nat := (l.filter fun x => decide (x ∉ ks)).length
theorem todoL_lt {ks : List Int} {k : Int} (hk : k ∉ ks) : ∀ {l : List Int}, k ∈ l -> todoL l (ks ++ [k]) < todoL l ks := by
 have hle : ∀ l : List Int, todoL l (ks ++ [k]) <= todoL l ks := fun l => by
  unfold todoL
  rw [<- List.countP_eq_length_filter, <- List.countP_eq_length_filter]
  exact List.countP_mono_left fun x _ hx => by simp at hx ⊢; exact hx.1
 intro l
 induction l with
 | nil => intro h; simp at h
 | cons x l ih =>
  intro h
  by_cases e : x = k
  ·subst e
   have := hle l
   unfold todoL at this ⊢
   rw [List.filter_cons_of_neg (by simp), List.filter_cons_of_pos (by simp [hk])]
   simp only [List.length_cons]
   omega
  ·have := ih (by rcases List.mem_cons.1 h with h | h; exact absurd h.symm e; exact h)
   unfold todoL at this ⊢
   by_cases hx : x ∈ ks
   ·rw [List.filter_cons_of_neg (by simp [hx]), List.filter_cons_of_neg (by simp [hx])]; exact this
   ·rw [List.filter_cons_of_pos (by simp [hx, e]), List.filter_cons_of_pos (by simp [hx])]
    simp only [List.length_cons]
    omega
abbrev KsOf {ν : Type} (m : List (Int × ν)) := {l : List Int // l.Nodup /\ ∀ k ∈ l, k ∈ m.map (·.1)}
def KsOf.add {ν : Type} {m : List (Int × ν)} (s : KsOf m) (k : Int) (h1 : k ∈ m.map (·.1)) (h2 : k ∉ s.1) : KsOf m := ⟨s.1 ++ [k], by
 refine List.nodup_append.2 ⟨s.2.1, by simp, ?_⟩
 intro a ha b hb
 simp only [List.mem_singleton] at hb
 subst hb
 intro e
 subst e
 exact h2 ha, fun j hj => by
 rcases List.mem_append.1 hj with hj | hj
 ·exact s.2.2 j hj
 ·simp only [List.mem_singleton] at hj; rw [hj]; exact h1⟩
theorem KsOf.len {ν : Type} {m : List (Int × ν)} (s : KsOf m) : s.1.length <= m.length := by
 have h := s.2.1.length_le_of_subset (l₂ := m.map (·.1)) (fun k hk => s.2.2 k hk)
 simpa using h
def stepN {ν : Type} (enc : Int -> Value) (m : List (Int × ν)) (s : KsOf m) (vs : List Value) (s' : KsOf m) : Prop := ∃ k h1 h2, vs = [enc k] /\ s' = s.add k h1 h2
def KsOf.nil {ν : Type} (m : List (Int × ν)) : KsOf m := ⟨[], by simp, by simp⟩
def overN {ν : Type} (m : List (Int × ν)) (s : KsOf m) : Prop := ∀ k ∈ m.map (·.1), k ∈ s.1
def KeyRd (hm : PH) (b1 bo : Nat) (K : PH) (hs : List PH) : Prop := (∃ h, In K hs h /\ Cell h ⟨b1, 0, none⟩ (.map (some bo))) /\ In K hs hm
theorem KsOf.perm {ν : Type} {m : List (Int × ν)} (hnd : (m.map (·.1)).Nodup) (s : KsOf m) (h : overN m s) : s.1.Perm (m.map (·.1)) :=
 (List.perm_ext_iff_of_nodup s.2.1 hnd).2 fun k => ⟨s.2.2 k, h k⟩
def ivu (ks : List Int) : List Value := ks.map fun k => Value.int .u64 k
end Go.En
namespace Go.Proofs.YtneeeblghijmgaaGreat
open Go.En
attribute [local irreducible] Code.wp wpList Calls
theorem keysC {w0 : World} {K : PH} {hs : List PH} (bo : Nat) : Ct Tryz.prog w0 89 [.map (some bo)] K hs
  (fun v K' hs' => K' = K /\ ∃ b, hs' = pt b #[.map (some bo)] 106 :: hs /\ v = .func (.func 133) #[] #[.pointer (some ⟨b, 0, none⟩)]) := by
 refine enter Tryz.func89 (by kernel_rfl) rfl rfl rfl ?_
 refine sq (rg ?_)
 refine bx hT 0 rfl fun b1 => ?_
 refine fin hT 1 rfl (th (sq (rg ?_)))
 refine fin hT 2 rfl (th (rt ?_))
 exact ret1 rfl rfl ⟨rfl, b1, rfl, rfl⟩
theorem keysI {w0 : World} {ν : Type} (encv : ν -> Value) (hm : PH) (b1 bo : Nat) (m : List (Int × ν)) (hnd : (m.map (·.1)).Nodup) (hO : MpO encU encv hm bo m) :
  ItG Tryz.prog w0 133 [.pointer (some ⟨b1, 0, none⟩)] (stepN encU m) (overN m) (KsOf.nil m) (KeyRd hm b1 bo) := by
 intro L St Sp hRd hY K hs h0
 refine enterX Tryz.func133 (by kernel_rfl) rfl rfl rfl ?_
 obtain ⟨⟨h1, m1, c1⟩, m2⟩ := hRd _ K hs h0
 refine sqX (rgX ?_)
 refine ld hT 0 rfl m1 c1 ?_
 refine mrg hT 0 rfl Tryz.underlying106 m2 hO fun r hi hI0 => ?_
 refine fin hT 0 rfl (nxX (thX (bkX ?_)))
 refine loopX (σ := PH × KsOf m × PH × List PH) (fun _ => [(0, .func (.yield L) #[] #[]), (1, .pointer (some ⟨b1, 0, none⟩)), (5, .pointer (some ⟨r, 0, none⟩))]) (fun s => s.2.2.1) (fun s => s.1 :: s.2.2.2)
  (fun s => MpI encU encv hm s.1 bo r m s.2.1.1 /\ St s.2.1 s.2.2.1 s.2.2.2) (fun s => todoL (m.map (·.1)) s.2.1.1) (hi, KsOf.nil m, K, hs) ⟨hI0, h0⟩ ⟨rfl, rfl, rfl, trivial⟩ rfl rfl ?_
 rintro ⟨hi, ks, K, hs⟩ ⟨hI, hst⟩
 dsimp only at *
 obtain ⟨_, m2⟩ := hRd ks K hs hst
 refine sqX (rgX ?_)
 refine mnx hT 0 0 rfl m2.cons rfl hI hnd (fun k v hi' hmem hnk hS => ?_) (fun hall => ?_)
 ·have hkm : k ∈ m.map (·.1) := List.mem_map.2 ⟨_, hmem, rfl⟩
  refine fin hT 1 rfl (nxX (thX (sqX (ifTX rfl ?_))))
  refine skX (thX (bkX (sqX (rgX ?_))))
  refine men hT 0 rfl m2.cons (.inr ⟨0, rfl⟩) hS ?_
  refine fin hT 2 rfl (nxX (thX (sqX (rgI (WLI.cut 2 ?_)))))
  refine fin hT 2 rfl (cutX ?_)
  refine yld rfl ((hY ks [encU k] (ks.add k hkm hnk) K hs [hi'] ⟨k, hkm, hnk, rfl, rfl⟩ hst).perm (List.perm_append_singleton hi' hs).symm) ?_
  rintro v12 K12 hs12 ⟨hs1, rfl, ⟨rfl, hn⟩ | ⟨rfl, hp⟩⟩
  ·refine WLI.fin ?_
   refine fin hT 1 rfl (nxX (thX (ifFX rfl ?_)))
   refine skX (blX (WQX.perm (List.perm_append_singleton hi' hs1) ?_))
   exact againX (x := (hi, ks, K, hs)) (hi', ks.add k hkm hnk, K12, hs1) ⟨rfl, rfl, rfl, trivial⟩ rfl rfl ⟨hS.1, hn⟩ (todoL_lt hnk hkm)
  ·refine WLI.fin ?_
   refine fin hT 1 rfl (nxX (thX (ifTX rfl ?_)))
   refine rtX (rBX (rTX (rBX (WQX.perm (List.perm_append_singleton hi' hs1) (WQX.drop ?_)))))
   exact ret0X rfl (.inr hp)
 ·refine fin hT 1 rfl (nxX (thX (sqX (ifFX rfl ?_))))
  refine exX (xtX (xtX (xbX (WQX.drop ?_))))
  exact end0X rfl (.inl ⟨ks, fun k hk => by obtain ⟨x, hx, rfl⟩ := List.mem_map.1 hk; exact hall x hx, hst⟩)
theorem appSeqC {w0 : World} {ν : Type} {K : PH} {hs : List PH} (f : Nat) (cap : List Value) (m : List (Int × ν)) (Rd : PH -> List PH -> Prop) (it : ItG Tryz.prog w0 f cap (stepN encU m) (overN m) (KsOf.nil m) Rd) (hcal : callable Tryz.prog f = true)
  (hl : m.length <= 1000000000) (hR : ∀ x y fr, Rd K (x :: y :: (hs ++ fr))) :
  Ct Tryz.prog w0 150 [.slice none 0 0, .func (.func f) #[] cap.toArray] K hs
   (fun v K' hs' => K' = K /\ ∃ (s : KsOf m) (ao : Option Addr) (c : Nat) (g : PH), overN m s /\ hs' = g :: hs /\ v = .slice ao s.1.length c /\ Own g ao s.1.length c 23 1 (ivu s.1)) := by
 refine enterX Tryz.func150 (by kernel_rfl) rfl rfl rfl ?_
 refine sqX (rgX ?_)
 refine bx hT 0 rfl fun b2 => ?_
 refine fin hT 1 rfl (nxX (thX (sqX (sqX (rgX ?_)))))
 refine fin hT 1 rfl (nxX (thX (bkX (WX.em (WX.perm (List.Perm.swap _ _ _) ?_)))))
 refine rgG cap (stepN encU m) (overN m) (KsOf.nil m) Rd rfl it hcal (fun s vs s' h => by obtain ⟨k, _, _, rfl, _⟩ := h; rfl) rfl
  (fun s K' hs' => K' = K /\ ∃ ao c g, hs' = pt b2 #[.slice ao s.1.length c] 111 :: g :: hs /\ Own g ao s.1.length c 23 1 (ivu s.1))
  (fun _ _ _ => False) ⟨rfl, none, 0, em, rfl, Own.nil _ _⟩ (fun s K' hs' t u h => by obtain ⟨rfl, ao, c, g, rfl, _⟩ := h; exact hR _ _ _) ?_ ?_ ?_
 ·rintro L s vs s' K' hs' fr t u ⟨k, hk, hnk, rfl, rfl⟩ ⟨rfl, ao, c, g, rfl, o⟩
  have hlen := (s.add k hk hnk).len
  have hlen2 : (s.add k hk hnk).1.length = s.1.length + 1 := by simp [KsOf.add]
  refine rgX ?_
  refine fin hT 1 rfl (nxX (asgX (hs' := pt b2 #[.slice ao s.1.length c] 111 :: g :: (hs ++ fr)) (by simp) fun u => ?_))
  refine bkX (rgX ?_)
  refine ldp hT 0 0 rfl rfl rfl ?_
  refine lit hT 1 #[encU k] rfl (by decide) (by kernel_rfl) fun b10 => ?_
  refine app hT 0 2 rfl rfl o (.inr ⟨0, rfl⟩) (Own.ofPt rfl (by decide)).isS rfl (by decide) (by simp [encU, Value.oneCell']) (by show (s.1.length + 1) * 8 <= _; omega) (by simp only [maxLen]; omega) fun ao11 c11 g11 o11 => ?_
  refine stp hT 0 1 rfl rfl rfl rfl ?_
  refine fin hT 0 rfl (nxX (blX (WQX.drop (rndX (hs' := pt b2 #[.slice ao11 (s.1.length + 1) c11] 111 :: g11 :: (hs ++ fr)) rfl ?_))))
  refine ⟨pt b2 #[.slice ao11 (s.1.length + 1) c11] 111 :: g11 :: hs, rfl, rfl, ao11, c11, g11, by rw [hlen2], ?_⟩
  rw [hlen2]
  have : ivu (s.add k hk hnk).1 = ivu s.1 ++ [encU k] := by simp [KsOf.add, ivu, encU]
  rw [this]
  exact o11
 ·rintro D s K' hs' hov ⟨rfl, ao, c, g, rfl, o⟩
  refine id (blX (thX (sqX (rgX ?_))))
  refine ldp hT 0 0 rfl rfl rfl ?_
  refine fin hT 1 rfl (nxX (thX (rtX (WQX.drop ?_))))
  exact ret1M D (hs' := g :: hs) rfl rfl rfl ⟨rfl, s, ao, c, g, hov, rfl, rfl, o⟩
 ·rintro D c K hs hj
  exact hj.elim
end Go.Proofs.YtneeeblghijmgaaGreat
end
section
namespace Go.En
def insI (x : Int) : List Int -> List Int
 | [] => [x]
 | y :: l => if x <= y then x :: y :: l else y :: insI x l
def srtI : List Int -> List Int
 | [] => []
 | x :: l => insI x (srtI l)
theorem insI_perm (x : Int) : ∀ l, (insI x l).Perm (x :: l)
 | [] => List.Perm.refl _
 | y :: l => by
  unfold insI
  split
  ·exact List.Perm.refl _
  ·exact ((insI_perm x l).cons y).trans (List.Perm.swap x y l)
theorem srtI_perm : ∀ l, (srtI l).Perm l
 | [] => List.Perm.refl _
 | x :: l => (insI_perm x _).trans ((srtI_perm l).cons x)
theorem insI_srt (x : Int) : ∀ {l}, l.Pairwise (· <= ·) -> (insI x l).Pairwise (· <= ·)
 | [], _ => by simp [insI]
 | y :: l, h => by
  unfold insI
  have h1 := List.pairwise_cons.1 h
  split
  ·rename_i hxy
   refine List.pairwise_cons.2 ⟨fun z hz => ?_, h⟩
   rcases List.mem_cons.1 hz with rfl | hz
   ·exact hxy
   ·exact Int.le_trans hxy (h1.1 z hz)
  ·rename_i hxy
   refine List.pairwise_cons.2 ⟨fun z hz => ?_, insI_srt x h1.2⟩
   rcases List.mem_cons.1 ((insI_perm x l).mem_iff.1 hz) with rfl | hz
   ·omega
   ·exact h1.1 z hz
theorem srtI_srt : ∀ l, (srtI l).Pairwise (· <= ·)
 | [] => List.Pairwise.nil
 | x :: l => insI_srt x (srtI_srt l)
theorem srtI_eq {l ys : List Int} (hp : ys.Perm l) (hs : ys.Pairwise (· <= ·)) : ys = srtI l :=
 List.Perm.eq_of_pairwise (le := (· <= ·)) (fun a b _ _ h1 h2 => Int.le_antisymm h1 h2) hs (srtI_srt l) (hp.trans (srtI_perm l).symm)
theorem Srt.pw {ys : List Nat} (h : Srt 0 ys.length ys) : (ys.map fun x => ((x : Nat) : Int)).Pairwise (· <= ·) := by
 rw [List.pairwise_map, List.pairwise_iff_getElem]
 intro i j hi hj hij
 have := h i j (Nat.zero_le _) hij hj
 rw [List.getD_eq_getElem?_getD, List.getD_eq_getElem?_getD, List.getElem?_eq_getElem hi, List.getElem?_eq_getElem hj] at this
 simp only [Option.getD_some] at this
 omega
theorem ivu_nat (ks : List Int) (h : ∀ k ∈ ks, 0 <= k) : ivu ks = uvv (ks.map Int.toNat) := by
 unfold ivu uvv
 rw [List.map_map]
 refine List.map_congr_left fun k hk => ?_
 have := h k hk
 simp only [Function.comp_apply]
 rw [Int.toNat_of_nonneg this]
theorem uvv_ivu (ys : List Nat) : uvv ys = ivu (ys.map fun x => ((x : Nat) : Int)) := by
 unfold ivu uvv
 rw [List.map_map]
 rfl
theorem nat_back (ks : List Int) (h : ∀ k ∈ ks, 0 <= k) : (ks.map Int.toNat).map (fun x => ((x : Nat) : Int)) = ks := by
 rw [List.map_map]
 conv => rhs; rw [<- List.map_id ks]
 refine List.map_congr_left fun k hk => ?_
 have := h k hk
 simp only [Function.comp_apply, id]
 rw [Int.toNat_of_nonneg this]
theorem Own.uA {g : PH} {ao : Option Addr} {c e : Nat} {xs : List Nat} (o : Own g ao xs.length c e 1 (uvv xs)) (hne : ao ≠ none) : ∃ b pre post, ao = some ⟨b, pre.length, none⟩ /\ g = pt b (uA pre xs post) e /\ xs.length <= c := by
 obtain ⟨h1, h2, h3, ⟨h4, _⟩ | ⟨b, off, cur, h4, h5, h6, h7⟩⟩ := o
 ·exact absurd h4 hne
 ·have hl : cur.toList.length = cur.size := Array.length_toList
  have hoff : off <= cur.toList.length := by rw [hl, h6]; omega
  refine ⟨b, cur.toList.take off, cur.toList.drop (off + xs.length), ?_, ?_, h2⟩
  ·rw [h4, List.length_take, Nat.min_eq_left hoff]
  ·rw [h5]
   congr 1
   unfold En.uA
   rw [Nat.mul_one] at h7
   rw [<- h7, List.append_assoc, <- List.drop_drop, List.take_append_drop, List.take_append_drop]
def areasL (D : Dk) : List Int := srtI (D.areas.map (·.1))
end Go.En
namespace Go.Proofs.YtneeeblghijmgaaGreat
open Go.En
attribute [local irreducible] Code.wp wpList Calls
theorem collectC {w0 : World} {ν : Type} {K : PH} {hs : List PH} (f : Nat) (cap : List Value) (m : List (Int × ν)) (Rd : PH -> List PH -> Prop) (it : ItG Tryz.prog w0 f cap (stepN encU m) (overN m) (KsOf.nil m) Rd) (hcal : callable Tryz.prog f = true)
  (hl : m.length <= 1000000000) (hR : ∀ x y fr, Rd K (x :: y :: (hs ++ fr))) :
  Ct Tryz.prog w0 131 [.func (.func f) #[] cap.toArray] K hs
   (fun v K' hs' => K' = K /\ ∃ (s : KsOf m) (ao : Option Addr) (c : Nat) (g : PH), overN m s /\ hs' = g :: hs /\ v = .slice ao s.1.length c /\ Own g ao s.1.length c 23 1 (ivu s.1)) := by
 refine enter Tryz.func131 (by kernel_rfl) rfl rfl rfl ?_
 refine sq (rg ?_)
 refine fin hT 1 rfl (th (sq (rg ?_)))
 refine cl hT 1 rfl (appSeqC f cap m Rd it hcal hl hR) ?_
 rintro v4 K4 hs4 ⟨rfl, s, ao, c, g, h1, rfl, rfl, h4⟩
 refine fin hT 1 rfl (th (rt ?_))
 exact ret1 rfl rfl ⟨rfl, s, ao, c, g, h1, rfl, rfl, h4⟩
theorem sortC {w0 : World} {K : PH} {hs : List PH} (g cap : Nat) (pre post : List Value) (xs : List Nat) (hc : xs.length <= cap) (hl : xs.length <= 1099511627776) :
  Ct Tryz.prog w0 132 [.slice (some ⟨g, pre.length, none⟩) xs.length cap] K (pt g (uA pre xs post) 23 :: hs)
   (fun v K' hs' => K' = K /\ ∃ ys, hs' = pt g (uA pre ys post) 23 :: hs /\ SegP 0 xs.length xs ys /\ Srt 0 xs.length ys) := by
 refine enter Tryz.func132 (by kernel_rfl) rfl rfl rfl ?_
 refine sq (rg ?_)
 refine fin hT 3 rfl (th (rg ?_))
 refine ar hT 3 rfl (u64w (by omega)) ?_
 refine cl hT 0 rfl (lenC xs.length (by omega)) ?_
 rintro v9 K9 hs9 ⟨rfl, rfl, n, rfl, h1, -⟩
 have hs1 := pdqC xs.length (w0 := w0) (K := K9) (hs := hs) g cap pre post xs 0 xs.length n (Nat.zero_le _) (Nat.le_refl _) hc hl h1 (LoB.zero _ _) (by omega)
 refine cl hT 0 rfl hs1 ?_
 rintro v10 K10 hs10 ⟨rfl, ys, rfl, h2, h3⟩
 refine fin hT 0 rfl ?_
 exact end0 rfl ⟨rfl, ys, rfl, h2, h3⟩
theorem insNilC {w0 : World} {K : PH} {hs : List PH} : Ct Tryz.prog w0 168 [.slice none 0 0, .int .i64 0, .int .i64 0] K hs (fun v K' hs' => K' = K /\ hs' = hs) := by
 refine enter Tryz.func168 (by kernel_rfl) rfl rfl rfl ?_
 refine sq (rg ?_)
 refine ar hT 1 rfl (i64w (x := 1) (by omega)) ?_
 refine fin hT 1 rfl (th (bk ?_))
 refine loop (σ := Unit) (fun _ => [(2, .int .i64 0), (6, .int .i64 1)]) (fun _ => K) (fun _ => hs) (fun _ => True) (fun _ => 0) () trivial ⟨rfl, rfl, trivial⟩ rfl rfl ?_
 rintro - -
 refine sq (sq (rg ?_))
 refine cmpS hT 2 rfl fun b12 h12 => ?_
 refine fin hT 0 rfl (th (ifPF h12 (by omega) rfl ?_))
 refine ex (xt (xt (xb ?_)))
 exact end0 rfl ⟨rfl, rfl⟩
theorem sortNilC {w0 : World} {K : PH} {hs : List PH} : Ct Tryz.prog w0 132 [.slice none 0 0] K hs (fun v K' hs' => K' = K /\ hs' = hs) := by
 have pdqN : ∀ {w0 : World} {K : PH} {hs : List PH} (n : Nat), Ct Tryz.prog w0 151 [.slice none 0 0, .int .i64 0, .int .i64 0, .int .i64 ((n : Nat) : Int)] K hs (fun v K' hs' => K' = K /\ hs' = hs) := fun {w0 K hs} n => by
  refine enter Tryz.func151 (by kernel_rfl) rfl rfl rfl ?_
  refine sq (rg ?_)
  refine fin hT 1 rfl (th (sq (rg ?_)))
  refine fin hT 1 rfl (th (bk ?_))
  refine loop (σ := Unit) (fun _ => [(0, .slice none 0 0), (1, .int .i64 0), (2, .int .i64 0)]) (fun _ => K) (fun _ => hs) (fun _ => True) (fun _ => 0) () trivial ⟨rfl, rfl, rfl, trivial⟩ rfl rfl ?_
  rintro - -
  refine bk (sq (rg ?_))
  refine ar hT 2 rfl (i64w (x := 0) (by omega)) ?_
  refine fin hT 1 rfl (th (sq (sq (rg ?_))))
  refine cmpS hT 1 rfl fun b23 h23 => ?_
  refine fin hT 0 rfl (th (ifPT h23 (by omega) rfl ?_))
  refine sq (rg ?_)
  refine cl hT 3 rfl insNilC ?_
  rintro v27 K27 hs27 ⟨rfl, rfl⟩
  refine fin hT 0 rfl (th (rt (rT (rB (rT (rB ?_))))))
  exact ret0 rfl ⟨rfl, rfl⟩
 refine enter Tryz.func132 (by kernel_rfl) rfl rfl rfl ?_
 refine sq (rg ?_)
 refine fin hT 3 rfl (th (rg ?_))
 refine ar hT 3 rfl (u64w (x := 0) (by omega)) ?_
 refine cl hT 0 rfl (lenC 0 (by omega)) ?_
 rintro v9 K9 hs9 ⟨rfl, rfl, n, rfl, h1, -⟩
 refine cl hT 0 rfl (pdqN n) ?_
 rintro v10 K10 hs10 ⟨rfl, rfl⟩
 refine fin hT 0 rfl ?_
 exact end0 rfl ⟨rfl, rfl⟩
theorem sortedC {w0 : World} {ν : Type} {K : PH} {hs : List PH} (f : Nat) (cap : List Value) (m : List (Int × ν)) (hnd : (m.map (·.1)).Nodup) (h0 : ∀ k ∈ m.map (·.1), 0 <= k) (Rd : PH -> List PH -> Prop) (it : ItG Tryz.prog w0 f cap (stepN encU m) (overN m) (KsOf.nil m) Rd) (hcal : callable Tryz.prog f = true)
  (hl : m.length <= 1000000000) (hR : ∀ x y fr, Rd K (x :: y :: (hs ++ fr))) :
  Ct Tryz.prog w0 88 [.func (.func f) #[] cap.toArray] K hs
   (fun v K' hs' => Le K K' /\ hs' = hs /\ ∃ ao c, v = .slice ao m.length c /\ IsS K' ao m.length c 1 (ivu (srtI (m.map (·.1))))) := by
 refine enter Tryz.func88 (by kernel_rfl) rfl rfl rfl ?_
 refine sq (rg ?_)
 refine fin hT 1 rfl (th (sq (rg ?_)))
 refine cl hT 1 rfl (collectC f cap m Rd it hcal hl hR) ?_
 rintro v5 K5 hs5 ⟨rfl, s, ao, c, g, hov, rfl, rfl, o⟩
 have hp := s.perm hnd hov
 have hsl : s.1.length = m.length := by have := hp.length_eq; simpa using this
 have hs0 : ∀ k ∈ s.1, 0 <= k := fun k hk => h0 k (hp.mem_iff.1 hk)
 obtain ⟨xs, hxs⟩ : ∃ xs, xs = s.1.map Int.toNat := ⟨_, rfl⟩
 have hxl : xs.length = m.length := by rw [hxs]; simpa using hsl
 rw [hsl, ivu_nat s.1 hs0, <- hxs, <- hxl] at o
 rw [hsl, <- hxl]
 refine fin hT 1 rfl (th (sq (rg ?_)))
 cases ao with
 | none =>
  have hcz : xs.length = 0 /\ c = 0 := by
   obtain ⟨_, h2, _, ⟨_, h4, _⟩ | ⟨_, _, _, h4, _⟩⟩ := o
   ·omega
   ·cases h4
  obtain ⟨hz, rfl⟩ := hcz
  rw [hz]
  refine cl hT 1 rfl sortNilC ?_
  rintro v7 K7 hs7 ⟨rfl, rfl⟩
  refine fin hT 0 rfl (th (sq (rg ?_)))
  refine fin hT 2 rfl (th (rt (WQ.drop ?_)))
  refine ret1 rfl rfl ⟨Le.refl _, rfl, none, 0, rfl, ?_⟩
  have hm0 : m = [] := List.length_eq_zero_iff.1 (hxl.symm.trans hz)
  subst hm0
  exact IsS.nil _ _ _ _
 | some a =>
  obtain ⟨b, pre, post, ha, rfl, hc⟩ := o.uA (by simp)
  rw [ha]
  refine cl hT 1 rfl (sortC b c pre post xs hc (by omega)) ?_
  rintro v7 K7 hs7 ⟨rfl, ys, rfl, hQ, hS⟩
  refine fin hT 0 rfl (th (sq (rg ?_)))
  refine fin hT 2 rfl (th (rt (WQ.frz fun K' le1 le2 => ?_)))
  have hyl := hQ.len
  have hsort : (ys.map fun x => ((x : Nat) : Int)) = srtI (m.map (·.1)) := by
   refine srtI_eq ?_ ?_
   ·have h1 := hQ.perm.map (fun x : Nat => ((x : Nat) : Int))
    rw [hxs, nat_back s.1 hs0] at h1
    exact h1.trans hp
   ·rw [<- hyl] at hS; exact hS.pw
  refine ret1 rfl rfl ⟨le1, rfl, _, c, rfl, ?_⟩
  rw [<- hsort, <- uvv_ivu, <- hyl]
  exact (uA_isS (by omega)).le le2
theorem areasC {w0 : World} {K : PH} {hs m : List PH} (b : Nat) (D : Dk) (c : Nat) (o : D.Ok c) (hl : D.areas.length <= 1000000000) (h0 : ∀ k ∈ D.areas.map (·.1), 0 <= k) (hm : DskM K b D m) :
  Ct Tryz.prog w0 52 [.pointer (some ⟨b, 0, none⟩)] K (m ++ hs)
   (fun v K' hs' => Le K K' /\ hs' = m ++ hs /\ ∃ ao c, v = .slice ao (areasL D).length c /\ IsS K' ao (areasL D).length c 1 (ivu (areasL D))) := by
 obtain ⟨bo, ho, ins, rfl, hO, hI⟩ := hm
 have hk : (insO ins).map (·.1) = D.areas.map (·.1) := by rw [insO_keys, insKeys hI]
 have hlen : (insO ins).length = D.areas.length := by have := congrArg List.length hk; simpa using this
 refine enter Tryz.func52 (by kernel_rfl) rfl rfl rfl ?_
 refine sq (rg ?_)
 refine fin hT 1 rfl (th (sq (rg ?_)))
 refine ldp hT 3 0 rfl rfl rfl ?_
 refine cl hT 0 rfl (keysC bo) ?_
 rintro v7 K7 hs7 ⟨rfl, b1, rfl, rfl⟩
 refine cl hT 0 rfl (sortedC (m := insO ins) _ [.pointer (some ⟨b1, 0, none⟩)] (by rw [hk]; exact o.keys) (by rw [hk]; exact h0) (KeyRd ho b1 bo) (keysI encB ho b1 bo (insO ins) (by rw [hk]; exact o.keys) hO) (by kernel_rfl) (by omega)
  (fun x y fr => ⟨⟨_, .inr ⟨2, rfl⟩, Cell.pt rfl⟩, .inr ⟨4, rfl⟩⟩)) ?_
 rintro v8 K8 hs8 ⟨le, rfl, ao, cc, rfl, hx⟩
 refine fin hT 1 rfl (th (rt (WQ.drop ?_)))
 have e : areasL D = srtI ((insO ins).map (·.1)) := by unfold areasL; rw [hk]
 have e2 : (areasL D).length = (insO ins).length := by rw [e, (srtI_perm _).length_eq, List.length_map]
 exact ret1 rfl rfl ⟨le, rfl, ao, cc, by rw [e2], by rw [e2, e]; exact hx⟩
end Go.Proofs.YtneeeblghijmgaaGreat
end
section
namespace Go.En
theorem Ct.bun {P : Program} {w0 : World} {f : FuncId} {args : List Value} {K : PH} {m hs : List PH} {R R' : Value -> PH -> List PH -> Prop} (d : Djs m) (c : Ct P w0 f args K (m ++ hs) R)
  (h : ∀ v K' hs', R v K' hs' -> ∃ m', hs' = m' ++ hs /\ (Djs m' -> R' v K' (uns m' :: hs))) : Ct P w0 f args K (uns m :: hs) R' :=
 ⟨c.1, fun w hw => (c.2 w (hw.split d)).mono fun e w' he => by
  obtain ⟨v, K', hs', rfl, hR, hS⟩ := he
  obtain ⟨m', rfl, h2⟩ := h v K' hs' hR
  obtain ⟨d', hS'⟩ := Sat.join m' hS
  exact ⟨v, K', _, rfl, h2 d', hS'⟩⟩
theorem Ct.fix2 {P : Program} {w0 : World} {f : FuncId} {args : List Value} {K : PH} {hs : List PH} {R R' : Value -> PH -> List PH -> Prop} (c : Ct P w0 f args K hs R)
  (h : ∀ w v K' hs', Sat w0 w K' hs' -> R v K' hs' -> ∃ K2 hs2, R' v K2 hs2 /\ Sat w0 w K2 hs2) : Ct P w0 f args K hs R' :=
 ⟨c.1, fun w hw => (c.2 w hw).mono fun e w' he => by
  obtain ⟨v, K', hs', rfl, hR, hS⟩ := he
  obtain ⟨K2, hs2, h1, h2⟩ := h w' v K' hs' hS hR
  exact ⟨v, K2, hs2, rfl, h1, h2⟩⟩
def totA (m : List (Int × Ar)) : Nat := (m.map fun x => x.2.length).sum
theorem totA_mset {a : Int} {l : Ar} : ∀ (m : List (Int × Ar)), totA (mset a l m) + ((mget a m).getD []).length = totA m + l.length
 | [] => by simp [mset, mget, totA]
 | (k, u) :: m => by
  by_cases e : a = k
  ·simp only [mset, mget, e, if_true, totA, List.map_cons, List.sum_cons, Option.getD_some]; omega
  ·have := totA_mset (a := a) (l := l) m
   simp only [mset, mget, e, if_false, totA, List.map_cons, List.sum_cons] at this ⊢; omega
theorem totA_mdel {a : Int} : ∀ (m : List (Int × Ar)), (m.map (·.1)).Nodup -> totA (mdel a m) + ((mget a m).getD []).length = totA m
 | [], _ => by simp [mdel, mget, totA]
 | (k, u) :: m, h => by
  simp only [List.map_cons, List.nodup_cons] at h
  by_cases e : a = k
  ·subst e
   have hn : mget a m = none := mget_none.2 h.1
   simp only [mdel, mget, if_true, totA, List.map_cons, List.sum_cons, Option.getD_some]
   first | omega | (rw [mdel_none hn]; omega)
  ·have := totA_mdel (a := a) m h.2
   simp only [mdel, mget, e, if_false, totA, List.map_cons, List.sum_cons] at this ⊢; omega
structure DOk (c : Nat) (D : Dk) : Prop where
 ok : D.Ok c
 ar : ∀ k ∈ D.areas.map (·.1), 0 <= k /\ k <= 18446744073709551615
 len : D.areas.length <= c
 cap : D.room + (totA D.areas : Int) <= 1073741824
theorem DOk.up {c d : Nat} {D : Dk} (o : DOk c D) (h : c <= d) : DOk d D := ⟨o.ok.up h, o.ar, by have := o.len; omega, o.cap⟩
theorem DOk.write {c : Nat} {D : Dk} (o : DOk c D) (a n : Int) (b : List UInt8) (ha : 0 <= a /\ a <= 18446744073709551615) : DOk (c + 1) (D.write a n b).1 := by
 refine ⟨o.ok.write a n b, ?_, ?_, ?_⟩
 ·unfold Dk.write
  split
  ·exact o.ar
  ·split
   ·exact o.ar
   ·split
    ·exact o.ar
    ·intro k hk
     obtain ⟨x, hx, rfl⟩ := List.mem_map.1 hk
     rcases mset_mem hx with rfl | hx
     ·exact ha
     ·exact o.ar _ (List.mem_map.2 ⟨x, hx, rfl⟩)
 ·have := o.len
  unfold Dk.write
  split
  ·dsimp only; omega
  ·split
   ·dsimp only; omega
   ·split
    ·dsimp only; omega
    ·show (mset a _ D.areas).length <= c + 1
     rw [mset_length]
     split <;> omega
 ·have hc := o.cap
  unfold Dk.write
  split
  ·exact hc
  ·split
   ·exact hc
   ·split
    ·exact hc
    ·show (D.laid a n b).room + (totA (D.laid a n b).areas : Int) <= _
     unfold Dk.laid
     dsimp only
     have h1 := totA_mset (a := a) (l := mset n (secW (D.sec a n) b) (D.ar a)) D.areas
     have h2 : ((mget a D.areas).getD []).length = (D.ar a).length := rfl
     have h3 := mset_length n (secW (D.sec a n) b) (D.ar a)
     have h4 : D.sec a n = mget n (D.ar a) := rfl
     rw [h4] at h1 h3 ⊢
     split at h3 <;> rename_i h5
     ·rw [if_pos h5]; omega
     ·rw [if_neg h5]; omega
theorem synA_keys (D : Dk) (a : Int) : (D.synA a).map (·.1) = D.areas.map (·.1) := by
 unfold Dk.synA
 cases hg : mget a D.areas with
 | none => rfl
 | some l =>
  rw [mset_keys, hg]
  rfl
theorem synA_tot (D : Dk) (a : Int) : totA (D.synA a) = totA D.areas := by
 unfold Dk.synA
 cases hg : mget a D.areas with
 | none => rfl
 | some l =>
  have := totA_mset (a := a) (l := l.map fun x => (x.1, secS x.2)) D.areas
  rw [hg] at this
  simp only [Option.getD_some, List.length_map] at this
  dsimp only
  omega
theorem DOk.sync {c : Nat} {D : Dk} (o : DOk c D) (a : Int) : DOk (c + 1) (D.sync a).1 := by
 refine ⟨o.ok.sync a, ?_, ?_, ?_⟩
 ·unfold Dk.sync
  split
  ·exact o.ar
  ·split
   ·exact o.ar
   ·show ∀ k ∈ (D.synA a).map (·.1), _
    rw [synA_keys]; exact o.ar
 ·have := o.len
  unfold Dk.sync
  split
  ·dsimp only; omega
  ·split
   ·show D.areas.length <= c + 1; omega
   ·have h := congrArg List.length (synA_keys D a)
    simp only [List.length_map] at h
    show (D.synA a).length <= c + 1
    omega
 ·have hc := o.cap
  unfold Dk.sync
  split
  ·exact hc
  ·split
   ·exact hc
   ·show D.room + (totA (D.synA a) : Int) <= _
    rw [synA_tot]; exact hc
theorem DOk.arLen {c : Nat} {D : Dk} (o : DOk c D) (a : Int) : ((D.ar a).length : Int) <= totA D.areas := by
 have h := totA_mdel (a := a) D.areas o.ok.keys
 have h2 : ((mget a D.areas).getD []).length = (D.ar a).length := rfl
 omega
theorem DOk.free {c : Nat} {D : Dk} (o : DOk c D) (a : Int) : DOk (c + 1) (D.free a).1 := by
 have hs := mdel_sub (k := a) D.areas
 have hc := o.cap
 refine ⟨o.ok.free a (by have := o.arLen a; omega), ?_, ?_, ?_⟩
 ·unfold Dk.free
  split
  ·exact o.ar
  ·split
   ·exact o.ar
   ·intro k hk
    obtain ⟨x, hx, rfl⟩ := List.mem_map.1 hk
    exact o.ar _ (List.mem_map.2 ⟨x, hs.subset hx, rfl⟩)
 ·have := o.len
  unfold Dk.free
  split
  ·dsimp only; omega
  ·split
   ·show D.areas.length <= c + 1; omega
   ·have := hs.length_le
    show (mdel a D.areas).length <= c + 1
    omega
 ·unfold Dk.free
  split
  ·exact hc
  ·split
   ·exact hc
   ·show D.room + ((D.ar a).length : Int) + (totA (mdel a D.areas) : Int) <= _
    have h := totA_mdel (a := a) D.areas o.ok.keys
    have h2 : ((mget a D.areas).getD []).length = (D.ar a).length := rfl
    omega
end Go.En
namespace Go.Proofs.YtneeeblghijmgaaGreat
open Go.En
attribute [local irreducible] Code.wp wpList Calls
def DskH (K : PH) (b : Nat) (D : Dk) (h : PH) : Prop := ∃ m, h = uns m /\ Djs m /\ DskM K b D m
theorem DskH.le {K K' : PH} (l : Le K K') {b : Nat} {D : Dk} {h : PH} (x : DskH K b D h) : DskH K' b D h := let ⟨m, h1, h2, h3⟩ := x; ⟨m, h1, h2, h3.le l⟩
theorem newH {w0 : World} {K : PH} {hs : List PH} (r : Int) (hr : 0 <= r /\ r <= 1099511627776) : Ct Tryz.prog w0 24 [.int .i64 r] K hs
  (fun v K' hs' => K' = K /\ ∃ b h, hs' = h :: hs /\ DskH K b (dk0 r) h /\ v = .pointer (some ⟨b, 0, none⟩)) := by
 refine Ct.fix2 (newDC r hr) ?_
 rintro w v K' hs' hS ⟨rfl, b, m, rfl, hm, rfl⟩
 obtain ⟨d, hS'⟩ := Sat.join m hS
 exact ⟨K', _, ⟨rfl, b, uns m, rfl, ⟨m, rfl, d, hm⟩, rfl⟩, hS'⟩
theorem deadH {w0 : World} {K h : PH} {hs : List PH} (b : Nat) (D : Dk) (hm : DskH K b D h) : Ct Tryz.prog w0 51 [.pointer (some ⟨b, 0, none⟩)] K (h :: hs)
  (fun v K' hs' => K' = K /\ hs' = h :: hs /\ v = .bool D.dead) := by
 obtain ⟨m, rfl, d, hm⟩ := hm
 refine Ct.bun d (deadC b D hm) ?_
 rintro v K' hs' ⟨rfl, rfl, rfl⟩
 exact ⟨m, rfl, fun _ => ⟨rfl, rfl, rfl⟩⟩
theorem readH {w0 : World} {K h : PH} {hs : List PH} (b : Nat) (D : Dk) (c : Nat) (o : D.Ok c) (hc : c <= 1099511627) (hm : DskH K b D h) (area n : Int) :
  Ct Tryz.prog w0 101 [.pointer (some ⟨b, 0, none⟩), .int .u64 area, .int .i64 n] K (h :: hs)
   (fun v K' hs' => ∃ h', hs' = h' :: hs /\ h' = h /\ Le K K' /\ ((D.read area n = none /\ v = .tuple #[.slice none 0 0, .bool false]) \/
    ∃ bs ao cap, D.read area n = some bs /\ bs.length = 64 /\ v = .tuple #[.slice ao bs.length cap, .bool true] /\ IsS K' ao bs.length cap 1 (bv bs))) := by
 obtain ⟨m, rfl, d, hm⟩ := hm
 refine Ct.bun d (readDC b D c o hc hm area n) ?_
 rintro v K' hs' ⟨le, rfl, hR⟩
 exact ⟨m, rfl, fun _ => ⟨_, rfl, rfl, le, hR⟩⟩
theorem writeH {w0 : World} {K hv h : PH} {hs : List PH} (b : Nat) (D : Dk) (c : Nat) (o : D.Ok c) (hc : c <= 1099511627) (hm : DskH K b D h) (area n : Int) (ha : 0 <= area /\ area <= 18446744073709551615) (ao : Option Addr) (cap : Nat) (bs : List UInt8) (hin : In K hs hv) (x : IsS hv ao bs.length cap 1 (bv bs)) :
  Ct Tryz.prog w0 124 [.pointer (some ⟨b, 0, none⟩), .int .u64 area, .int .i64 n, .slice ao bs.length cap] K (h :: hs)
   (fun v K' hs' => ∃ h', hs' = h' :: hs /\ Le K K' /\ DskH K' b (D.write area n bs).1 h' /\ v = .int .i64 (D.write area n bs).2) := by
 obtain ⟨m, rfl, d, hm⟩ := hm
 refine Ct.bun d (writeC b D c o hc hm area n ha ao cap bs hin x) ?_
 rintro v K' hs' ⟨le, m', rfl, hm', rfl⟩
 exact ⟨m', rfl, fun d' => ⟨_, rfl, le, ⟨m', rfl, d', hm'⟩, rfl⟩⟩
theorem syncH {w0 : World} {K h : PH} {hs : List PH} (b : Nat) (D : Dk) (c : Nat) (o : D.Ok c) (hc : c <= 1099511627) (hm : DskH K b D h) (area : Int) :
  Ct Tryz.prog w0 125 [.pointer (some ⟨b, 0, none⟩), .int .u64 area] K (h :: hs)
   (fun v K' hs' => ∃ h', hs' = h' :: hs /\ K' = K /\ DskH K b (D.sync area).1 h' /\ v = .int .i64 (D.sync area).2) := by
 obtain ⟨m, rfl, d, hm⟩ := hm
 refine Ct.bun d (syncC b D c o hc hm area) ?_
 rintro v K' hs' ⟨rfl, m', rfl, hm', rfl⟩
 exact ⟨m', rfl, fun d' => ⟨_, rfl, rfl, ⟨m', rfl, d', hm'⟩, rfl⟩⟩
theorem freeH {w0 : World} {K h : PH} {hs : List PH} (b : Nat) (D : Dk) (c : Nat) (o : D.Ok c) (hc : c <= 1099511627) (hm : DskH K b D h) (area : Int) :
  Ct Tryz.prog w0 62 [.pointer (some ⟨b, 0, none⟩), .int .u64 area] K (h :: hs)
   (fun v K' hs' => ∃ h', hs' = h' :: hs /\ K' = K /\ DskH K b (D.free area).1 h' /\ v = .int .i64 (D.free area).2) := by
 obtain ⟨m, rfl, d, hm⟩ := hm
 refine Ct.bun d (freeC b D c o hc hm area) ?_
 rintro v K' hs' ⟨rfl, m', rfl, hm', rfl⟩
 exact ⟨m', rfl, fun d' => ⟨_, rfl, rfl, ⟨m', rfl, d', hm'⟩, rfl⟩⟩
theorem areasH {w0 : World} {K h : PH} {hs : List PH} (b : Nat) (D : Dk) (c : Nat) (o : DOk c D) (hc : c <= 1000000000) (hm : DskH K b D h) :
  Ct Tryz.prog w0 52 [.pointer (some ⟨b, 0, none⟩)] K (h :: hs)
   (fun v K' hs' => ∃ h', hs' = h' :: hs /\ h' = h /\ Le K K' /\ ∃ ao c, v = .slice ao (areasL D).length c /\ IsS K' ao (areasL D).length c 1 (ivu (areasL D))) := by
 obtain ⟨m, rfl, d, hm⟩ := hm
 refine Ct.bun d (areasC b D c o.ok (by have := o.len; omega) (fun k hk => (o.ar k hk).1) hm) ?_
 rintro v K' hs' ⟨le, rfl, hR⟩
 exact ⟨m, rfl, fun _ => ⟨_, rfl, rfl, le, hR⟩⟩
end Go.Proofs.YtneeeblghijmgaaGreat
end
section
namespace Go.En
attribute [local irreducible] Code.wp wpList Calls
theorem Sat.loss {w0 w : World} {K : PH} {hs : List PH} (s : Sat w0 w K hs) (i : Nat) {h h' : PH} (hi : hs[i]? = some h) (hh : h' = h \/ h' = em) : Sat w0 w K (hs.set i h') := by
 rcases hh with rfl | rfl
 ·have : hs.set i h' = hs := by
   apply List.ext_getElem?
   intro j
   rw [List.getElem?_set]
   split
   ·rename_i e; subst e
    split
    ·exact hi.symm
    ·rename_i e; rw [List.getElem?_eq_none (by omega)]
   ·rfl
  rw [this]; exact s
 ·exact ((s.perm (perm_front hs i h hi)).dropHead.addEm).perm (perm_set hs i h em hi)
section loss
variable {P : Program} {T : Tab} {w0 : World} {ops : Array Oper} {Q : Exit -> Act -> World -> Prop} {rest : List Oper} {n : Nat} {l : Sl} {K : PH} {hs : List PH} {c : Code} {e : Exit}
theorem WL.loss (i : Nat) {h : PH} (h' : PH) (hi : hs[i]? = some h) (hh : h' = h \/ h' = En.em) (hk : WL P w0 ops Q rest n l K (hs.set i h')) : WL P w0 ops Q rest n l K hs := fun a w ha hw => hk a w ha (hw.loss i hi hh)
theorem WC.loss (i : Nat) {h : PH} (h' : PH) (hi : hs[i]? = some h) (hh : h' = h \/ h' = En.em) (hk : WC P w0 c Q n l K (hs.set i h')) : WC P w0 c Q n l K hs := fun a w ha hw => hk a w ha (hw.loss i hi hh)
theorem WQ.loss (i : Nat) {h : PH} (h' : PH) (hi : hs[i]? = some h) (hh : h' = h \/ h' = En.em) (hk : WQ w0 Q e n l K (hs.set i h')) : WQ w0 Q e n l K hs := fun a w ha hw => hk a w ha (hw.loss i hi hh)
end loss
def OwnZ (h : PH) (ao : Option Addr) (n cap e size : Nat) (xs : List Value) : Prop := Own h ao n cap e size xs \/ (n = 0 /\ cap = 0 /\ xs = [] /\ h = em)
theorem OwnZ.nil (e size : Nat) : OwnZ em none 0 0 e size [] := .inl (Own.nil e size)
theorem OwnZ.isS {h : PH} {ao : Option Addr} {n cap e size : Nat} {xs : List Value} (o : OwnZ h ao n cap e size xs) : IsS h ao n cap size xs := by
 rcases o with o | ⟨rfl, rfl, rfl, rfl⟩
 ·exact o.isS
 ·exact IsS.nil _ _ _ _
theorem OwnZ.caps {h : PH} {ao : Option Addr} {n cap e size : Nat} {xs : List Value} (o : OwnZ h ao n cap e size xs) : n <= cap := o.isS.2.1
theorem OwnZ.cut {h : PH} {ao : Option Addr} {n cap e size : Nat} {xs ys : List Value} (o : OwnZ h ao n cap e size xs) (L N : Nat) (hN : L + N <= n) (hy : (xs.drop (L * size)).take (N * size) = ys) :
  ∃ h', (h' = h \/ h' = em) /\ OwnZ h' (cutA ao cap L size) N (cap - L) e size ys := by
 have hcap := o.caps
 rcases o with o | ⟨rfl, rfl, rfl, rfl⟩
 ·obtain ⟨h1, h2, h3, h4⟩ := o
  have hys : ys.length = N * size := by
   rw [<- hy, List.length_take, List.length_drop, h1]
   have : (L + N) * size <= n * size := Nat.mul_le_mul_right _ hN
   rw [Nat.add_mul] at this
   omega
  by_cases hL : L = cap
  ·subst hL
   obtain rfl : N = 0 := by omega
   refine ⟨em, .inr rfl, .inr ⟨rfl, by omega, ?_, rfl⟩⟩
   rw [Nat.zero_mul] at hys
   exact List.length_eq_zero_iff.1 hys
  ·rcases h4 with ⟨_, h5, _⟩ | ⟨g, off, cur, rfl, rfl, e3, e4⟩
   ·omega
   ·refine ⟨_, .inl rfl, .inl ⟨hys, by omega, by omega, .inr ⟨g, off + L * size, cur, cutA_lt (by omega), rfl, ?_, ?_⟩⟩⟩
    ·rw [e3]
     have : cap * size = L * size + (cap - L) * size := by rw [<- Nat.add_mul]; congr 1; omega
     omega
    ·rw [<- hy, <- e4, List.drop_take, List.take_take, List.drop_drop]
     have : N * size <= n * size - L * size := by
      have : (L + N) * size <= n * size := Nat.mul_le_mul_right _ hN
      rw [Nat.add_mul] at this
      omega
     rw [Nat.min_eq_left this]
 ·obtain rfl : L = 0 := by omega
  obtain rfl : N = 0 := by omega
  refine ⟨em, .inl rfl, .inr ⟨rfl, rfl, ?_, rfl⟩⟩
  rw [<- hy]; simp
section rules
variable {P : Program} {T : Tab} {w0 : World} {ops : Array Oper} {Q : Exit -> Act -> World -> Prop} {rest rest' : List Oper} {n : Nat} {l l' : Sl} {K : PH} {hs : List PH}
theorem appq (hT : TabOK P T) (k i : Nat) {d : Nat} {si : SlI} {ao ao2 : Option Addr} {n1 c1 n2 c2 : Nat} {h h2 : PH} {xs news : List Value} (h0 : apAt T ops n k rest l = some (d, si, (ao, n1, c1), (ao2, n2, c2), rest', l'))
  (hi : hs[i]? = some h) (o : OwnZ h ao n1 c1 si.elem si.size xs) (hm : In K hs h2) (x : IsS h2 ao2 n2 c2 si.size news) (hz : si.zero.cells.size = si.size) (hsz : 0 < si.size) (h1 : ∀ u ∈ news, u.oneCell' = true) (hn2 : 0 < n2)
  (hb : (n1 + n2) * si.bytes <= 140737488355328) (h63 : n1 + n2 <= maxLen)
  (hk : ∀ ao' cap' h', Own h' ao' (n1 + n2) cap' si.elem si.size (xs ++ news) -> WL P w0 ops Q rest' n ((d, .slice ao' (n1 + n2) cap') :: l') K (hs.set i h')) : WL P w0 ops Q rest n l K hs := by
 rcases o with o | ⟨rfl, rfl, rfl, rfl⟩
 ·exact app hT k i h0 hi o hm x hz hsz h1 hb h63 hk
 ·refine appf hT k h0 (.inl rfl) (IsS.nil _ _ _ _) (fun _ => rfl) hm x hz hsz (by omega) hb h63 fun ao' cap' h' o' => ?_
  have p : (h' :: hs).Perm (em :: hs.set i h') := ((perm_front hs i em hi).cons h').trans ((List.Perm.swap em h' _).trans ((perm_set hs i em h' hi).cons em))
  exact WL.perm p (WL.drop (hk ao' cap' h' o'))
end rules
def SlZ {α : Type} (size e : Nat) (R : List Value -> α -> Prop) (h : PH) (ao : Option Addr) (n cap : Nat) (xs : List α) : Prop :=
 ∃ css : List (List Value), n = xs.length /\ OwnZ h ao n cap e size css.flatten /\ Al2 R css xs /\ ∀ d ∈ css, d.length = size
section slz
variable {α : Type} {R R' : List Value -> α -> Prop} {size e : Nat} {h : PH} {ao : Option Addr} {n cap : Nat} {xs : List α}
theorem SlZ.nil (size e : Nat) : SlZ size e R em none 0 0 [] := ⟨[], rfl, OwnZ.nil e size, trivial, by simp⟩
theorem SlZ.slS (x : SlZ size e R h ao n cap xs) : SlS size R h ao n cap xs := by
 obtain ⟨css, h1, h2, h3, h4⟩ := x
 exact ⟨css, h1, h2.isS, h3, h4⟩
theorem SlZ.imp (hR : ∀ c x, R c x -> R' c x) (x : SlZ size e R h ao n cap xs) : SlZ size e R' h ao n cap xs := by
 obtain ⟨css, h1, h2, h3, h4⟩ := x
 exact ⟨css, h1, h2, h3.imp hR, h4⟩
theorem SlZ.caps (x : SlZ size e R h ao n cap xs) : n <= cap := let ⟨_, _, h2, _⟩ := x; h2.caps
theorem SlZ.cut (x : SlZ size e R h ao n cap xs) (L N : Nat) (hN : L + N <= n) : ∃ h', (h' = h \/ h' = em) /\ SlZ size e R h' (cutA ao cap L size) N (cap - L) ((xs.drop L).take N) := by
 obtain ⟨css, h1, h2, h3, h4⟩ := x
 have hl : css.length = n := by rw [h3.len, h1]
 obtain ⟨h', g1, g2⟩ := h2.cut L N hN (ys := ((css.drop L).take N).flatten) (by rw [flat_drop L h4, flat_take N (fun d hd => h4 d (List.mem_of_mem_drop hd))])
 refine ⟨h', g1, (css.drop L).take N, by rw [List.length_take, List.length_drop]; omega, g2, (h3.drop L).take N, fun d hd => h4 d (List.mem_of_mem_drop (List.mem_of_mem_take hd))⟩
theorem appSq {P : Program} {T : Tab} {w0 : World} {ops : Array Oper} {Q : Exit -> Act -> World -> Prop} {rest rest' : List Oper} {n : Nat} {l l' : Sl} {K : PH} {hs : List PH}
  (hT : TabOK P T) (k i : Nat) {d : Nat} {si : SlI} {ao : Option Addr} {n1 c1 b : Nat} {h : PH} {xs : List α} (c : List Value) (x : α) (h0 : apAt T ops n k rest l = some (d, si, (ao, n1, c1), (some ⟨b, 0, none⟩, 1, 1), rest', l'))
  (h2 : hs[0]? = some (pt b c.toArray si.elem)) (hi : hs[i]? = some h) (o : SlZ si.size si.elem R h ao n1 c1 xs) (hc : R c x) (hl : c.length = si.size) (h1 : ∀ u ∈ c, u.oneCell' = true) (hz : si.zero.cells.size = si.size) (hsz : 0 < si.size) (hb : (n1 + 1) * si.bytes <= 140737488355328) (h63 : n1 + 1 <= maxLen)
  (hk : ∀ ao' cap' h', SlZ si.size si.elem R h' ao' (n1 + 1) cap' (xs ++ [x]) -> WL P w0 ops Q rest' n ((d, .slice ao' (n1 + 1) cap') :: l') K (hs.set i h')) : WL P w0 ops Q rest n l K hs := by
 obtain ⟨css, q1, q2, q3, q4⟩ := o
 have xv : IsS (pt b c.toArray si.elem) (some ⟨b, 0, none⟩) 1 1 si.size c := by
  simpa using (Own.ofPt (b := b) (c := c.toArray) (e := si.elem) (n := 1) (size := si.size) (by simpa using hl) (by simp [maxLen])).isS
 refine appq hT k i h0 hi q2 (.inr ⟨0, h2⟩) xv hz hsz h1 (by omega) hb h63 fun ao' cap' h' o' => hk ao' cap' h' ?_
 refine ⟨css ++ [c], by simp [q1], .inl (by simpa using o'), q3.append ⟨hc, trivial⟩, ?_⟩
 intro d hd
 rcases List.mem_append.1 hd with hd | hd
 ·exact q4 d hd
 ·simp only [List.mem_singleton] at hd; rw [hd]; exact hl
end slz
def waitsP (ops : Array Oper) (z : Nat) : List Nat -> Nat -> Bool
 | [], i => Region.waitsFor .any ops z i
 | y :: ys, i => Region.waitsFor .any ops z y && waitsP ops y ys i
theorem waits1 {ops : Array Oper} {L : Array Bool} (c : Closed .any ops L) {z i : Nat} (hw : Region.waitsFor .any ops z i = true) (hz : L.getD z false = true) : L.getD i false = true := by
 obtain ⟨oj, hoj, e, he, hbb, hon⟩ := Region.waitsFor_spec hw
 have := c.2 z oj hoj hz e he hbb
 rwa [hon] at this
theorem waitsP_spec {ops : Array Oper} {L : Array Bool} (c : Closed .any ops L) : ∀ (ys : List Nat) {z i : Nat}, waitsP ops z ys i = true -> L.getD z false = true -> L.getD i false = true
 | [], z, i, hw, hz => waits1 c hw hz
 | y :: ys, z, i, hw, hz => by
  simp only [waitsP, Bool.and_eq_true] at hw
  exact waitsP_spec c ys hw.2 (waits1 c hw.1 hz)
theorem closed_waitsP {ops : Array Oper} {L : Array Bool} {i z : Nat} (c : Closed .any ops L) (ys : List Nat) (hi : L.getD i true = false) (hw : waitsP ops z ys i = true) : L.getD z false = false := by
 cases hz : L.getD z false with
 | false => rfl
 | true =>
  have := waitsP_spec c ys hw hz
  rcases Nat.lt_or_ge i L.size with h' | h'
  ·simp [h'] at hi this; rw [hi] at this; cases this
  ·simp [Array.getElem?_eq_none h'] at this
section path
variable {P : Program} {T : Tab} {w0 : World} {ops : Array Oper} {Q : Exit -> Act -> World -> Prop} {plan plan' : List Nat} {z : Nat} {listed listed' : Array Bool} {n : Nat} {l l' : Sl} {K K0 : PH} {hs A : List PH}
theorem dldt (ys : List Nat) (hT : TabOK P T) (hsel : Region.noSelect ops = true) (k : Nat) {p d : Nat} {a : Addr} {v : Value} {h : PH} (h0 : dldwAt T ops n z k plan listed l = some (p, d, a, plan', listed', l')) (hwf : waitsP ops z ys (p / 2) = true) (hm : In K0 A h) (hc : Cell h a v)
  (hk : WA P w0 ops Q K0 A z plan' listed' n ((d, v) :: l') K hs) : WA P w0 ops Q K0 A z plan listed n l K hs := by
 unfold dldwAt at h0
 split at h0
 ·rename_i p' o r L' l2 hh
  split at h0
  ·rename_i dd t x hp hz hg hd hop
   split at h0
   ·rename_i kd a' hb hkd hx
    cases h1 : kd.one with
    | false => simp [h1] at h0
    | true =>
     simp only [h1, cond_true, Option.some.injEq, Prod.mk.injEq] at h0
     obtain ⟨rfl, rfl, rfl, rfl, rfl, rfl⟩ := h0
     obtain ⟨g1, g2⟩ := headAt_spec hh
     refine WA.pures hT hsel k g1 ?_
     have hp2 : p' = 2 * (p' / 2) := by have := Nat.eq_of_beq_eq_true hp; omega
     rw [hp2]
     refine WA.look g2 hsel hz hd hb (fun A' ha => .inl ⟨gOK_wanted ha hg, fun w hw => ?_⟩) hk
     obtain ⟨L, hcl, hun, hst⟩ := hw
     have hcell := (hst (closed_waitsP hcl ys hun hwf)).cell hm hc
     have h2 := run_load1 (P := P) hT hkd h1 hcell
     simp only [execOp, hop, ha.ev hx]
     simp [h2]
   ·simp at h0
  ·simp at h0
 ·simp at h0
theorem dldtp (ys : List Nat) (hT : TabOK P T) (hsel : Region.noSelect ops = true) (k i : Nat) {p d b off ty : Nat} {v : Value} {c : Array Value} {fr : Nat × Nat} (h0 : dldwAt T ops n z k plan listed l = some (p, d, ⟨b, off, none⟩, plan', listed', l')) (hwf : waitsP ops z ys (p / 2) = true)
  (hi : A[i]? = some (pt b c ty fr)) (hv : c[off]? = some v) (hk : WA P w0 ops Q K0 A z plan' listed' n ((d, v) :: l') K hs) : WA P w0 ops Q K0 A z plan listed n l K hs :=
 dldt ys hT hsel k h0 hwf (.inr ⟨i, hi⟩) (Cell.pt hv) hk
end path
end Go.En
end
section
namespace Go.En
def segA (num : Nat) : Int := ((4 * num + 1 : Nat) : Int)
def usedB (s : List UInt8) : Nat := min (s.getD 0 0).toNat 63
def wtx (D : Dk) (num : Nat) : Nat -> Nat -> List UInt8
 | 0, _ => []
 | f + 1, n => match D.read (segA num) n with
  | none => []
  | some s => (s.drop 1).take (usedB s) ++ (if usedB s < 63 then [] else wtx D num f (n + 1))
def wtext (D : Dk) (num : Nat) : List UInt8 := wtx D num 65537 0
def wTop : Nat := 4611686018427387904
def wMany : Nat := 1152921504606846976
def wrecs : Nat -> Rd -> List (List UInt8)
 | 0, _ => []
 | f + 1, r => if (rBytes 512 r).2.2 = 0 then (rBytes 512 r).1 :: wrecs f (rBytes 512 r).2 else []
structure WOp where
 num : Nat
 idx : Nat
 full : Nat
 rest : List UInt8
structure Wl where
 op : Option WOp
 first : Nat
 recs : List (List UInt8)
 old : List (Nat × Nat)
 next : Nat
 code : Int
def Wl.follows (W : Wl) (n idx : Nat) : Wl × Bool :=
 if W.old.length = 0 \/ idx < W.first then ({ W with first := idx, recs := [], old := W.old ++ [(n, idx)] }, true)
 else if W.recs.length < idx - W.first then (W, false)
 else ({ W with recs := W.recs.take (idx - W.first), old := W.old ++ [(n, idx)] }, true)
def wread (D : Dk) (n : Nat) (W : Wl) : Wl × Bool × Bool :=
 if (rUint wTop (wtext D n, 0)).2.2 ≠ 0 then (W, true, true)
 else if (W.follows n (rUint wTop (wtext D n, 0)).1).2 = false then ((W.follows n (rUint wTop (wtext D n, 0)).1).1, false, false)
 else ({ (W.follows n (rUint wTop (wtext D n, 0)).1).1 with recs := (W.follows n (rUint wTop (wtext D n, 0)).1).1.recs ++ wrecs ((wtext D n).length + 1) (rUint wTop (wtext D n, 0)).2 }, true, false)
def wnums (ars : List Int) : List Nat := (ars.filter fun a => decide (a % 4 = 1)).map fun a => a.toNat / 4
def wnext (ars : List Int) : Nat := (wnums ars).foldl (fun _ n => n + 1) 0
def wstep (D : Dk) (fr n : Nat) (W : Wl) : Wl × Bool × Bool := if n < fr then (W, true, true) else wread D n W
def wscan (D : Dk) (fr : Nat) : List Nat -> Wl -> List Nat -> Wl × List Nat × Bool
 | [], W, g => (W, g, true)
 | n :: r, W, g =>
  if (wstep D fr n W).2.1 = false \/ wTop < (wstep D fr n W).1.first + (wstep D fr n W).1.recs.length then ((wstep D fr n W).1, if (wstep D fr n W).2.2 then g ++ [n] else g, false)
  else wscan D fr r (wstep D fr n W).1 (if (wstep D fr n W).2.2 then g ++ [n] else g)
def wset1 (D : Dk) (g : List Nat) (n : Nat) : Dk × Int := if n ∈ g then D.free (segA n) else D.sync (segA n)
def wsettle (g : List Nat) : List Nat -> Dk -> Dk × Int
 | [], D => (D, 0)
 | n :: r, D => if (wset1 D g n).2 = 0 then wsettle g r (wset1 D g n).1 else wset1 D g n
def wl0 (fr first : Nat) (ars : List Int) : Wl := ⟨none, first, [], [], max (wnext ars) fr, 0⟩
def wOpen (D : Dk) (fr first : Nat) : Option Wl × Dk × Int :=
 if D.dead = true then (none, D, 30)
 else if wTop < first then (none, D, 52)
 else if wMany < (wl0 fr first (areasL D)).next then (none, D, 52)
 else if (wscan D fr (wnums (areasL D)) (wl0 fr first (areasL D)) []).2.2 = false then (none, D, 52)
 else if (wsettle (wscan D fr (wnums (areasL D)) (wl0 fr first (areasL D)) []).2.1 (wnums (areasL D)) D).2 ≠ 0 then (none, wsettle (wscan D fr (wnums (areasL D)) (wl0 fr first (areasL D)) []).2.1 (wnums (areasL D)) D)
 else (some (wscan D fr (wnums (areasL D)) (wl0 fr first (areasL D)) []).1, (wsettle (wscan D fr (wnums (areasL D)) (wl0 fr first (areasL D)) []).2.1 (wnums (areasL D)) D).1, 0)
def wrL : Nat -> WOp -> Dk -> WOp × Dk × Int
 | 0, o, D => (o, D, 0)
 | f + 1, o, D =>
  if (D.write (segA o.num) o.full (UInt8.ofNat (min o.rest.length 63) :: o.rest.take (min o.rest.length 63))).2 ≠ 0 \/ o.rest.length < 63 then
   (o, (D.write (segA o.num) o.full (UInt8.ofNat (min o.rest.length 63) :: o.rest.take (min o.rest.length 63))).1, (D.write (segA o.num) o.full (UInt8.ofNat (min o.rest.length 63) :: o.rest.take (min o.rest.length 63))).2)
  else if o.rest.length = 63 then ({ o with full := o.full + 1, rest := [] }, (D.write (segA o.num) o.full (UInt8.ofNat (min o.rest.length 63) :: o.rest.take (min o.rest.length 63))).1, 0)
  else wrL f { o with full := o.full + 1, rest := o.rest.drop 63 } (D.write (segA o.num) o.full (UInt8.ofNat (min o.rest.length 63) :: o.rest.take (min o.rest.length 63))).1
def wrO (o : WOp) (b : List UInt8) (D : Dk) : WOp × Dk × Int := wrL (o.rest.length + b.length + 1) { o with rest := o.rest ++ b } D
def Wl.sync (W : Wl) (D : Dk) : Wl × Dk :=
 if W.code ≠ 0 then (W, D) else match W.op with
 | none => (W, D)
 | some o => ({ W with code := (D.sync (segA o.num)).2 }, (D.sync (segA o.num)).1)
def Wl.begin (W : Wl) (i : Nat) (D : Dk) : Wl × Dk :=
 if (W.sync D).1.code ≠ 0 then W.sync D
 else ({ (W.sync D).1 with op := some (wrO ⟨W.next, i, 0, []⟩ (uint i) (W.sync D).2).1, next := W.next + 1, old := W.old ++ [(W.next, i)], code := (wrO ⟨W.next, i, 0, []⟩ (uint i) (W.sync D).2).2.2 }, (wrO ⟨W.next, i, 0, []⟩ (uint i) (W.sync D).2).2.1)
def wNeed : Option WOp -> Bool
 | none => true
 | some o => decide (16 <= o.full)
def wLay (W : Wl) (b : List UInt8) (D : Dk) : Wl × Dk × Int := match W.op with
 | none => (W, D, W.code)
 | some o => ({ W with op := some (wrO o (putBytes b) D).1, code := (wrO o (putBytes b) D).2.2, recs := if (wrO o (putBytes b) D).2.2 = 0 then W.recs ++ [b] else W.recs }, (wrO o (putBytes b) D).2.1, (wrO o (putBytes b) D).2.2)
def Wl.append (W : Wl) (b : List UInt8) (D : Dk) : Wl × Dk × Int :=
 if W.code ≠ 0 then (W, D, W.code)
 else if 512 < b.length then (W, D, 50)
 else if W.first + W.recs.length = wTop then (W, D, 51)
 else if wNeed W.op = true then
  (if (W.begin (W.first + W.recs.length) D).1.code ≠ 0 then ((W.begin (W.first + W.recs.length) D).1, (W.begin (W.first + W.recs.length) D).2, (W.begin (W.first + W.recs.length) D).1.code)
   else wLay (W.begin (W.first + W.recs.length) D).1 b (W.begin (W.first + W.recs.length) D).2)
 else wLay W b D
def Wl.truncate (W : Wl) (i : Nat) (D : Dk) : Wl × Dk × Int :=
 if W.code ≠ 0 then (W, D, W.code)
 else if i < W.first \/ W.recs.length < i - W.first then (W, D, 51)
 else if i - W.first = W.recs.length then (W, D, 0)
 else (if (W.begin i D).1.code = 0 then { (W.begin i D).1 with recs := W.recs.take (i - W.first) } else (W.begin i D).1, (W.begin i D).2, (W.begin i D).1.code)
def wfreed (old : List (Nat × Nat)) (i : Nat) : Bool := (old.drop 1).any fun s => decide (s.2 <= i)
def wfree (i : Nat) : Nat -> List (Nat × Nat) -> Dk -> List (Nat × Nat) × Dk × Int
 | 0, old, D => (old, D, 0)
 | f + 1, old, D => if 1 < old.length /\ wfreed old i = true then
   (if (D.free (segA (old.headD (0, 0)).1)).2 ≠ 0 then (old, (D.free (segA (old.headD (0, 0)).1)).1, (D.free (segA (old.headD (0, 0)).1)).2)
    else wfree i f (old.drop 1) (D.free (segA (old.headD (0, 0)).1)).1)
  else (old, D, 0)
def Wl.compact1 (W : Wl) (i : Nat) (D : Dk) : Wl × Dk := if i = W.first + W.recs.length then W.begin i D else (W, D)
def Wl.compact2 (W : Wl) (i : Nat) (D : Dk) : Wl × Dk := (W.compact1 i D).1.sync (W.compact1 i D).2
def Wl.compact (W : Wl) (i : Nat) (D : Dk) : Wl × Dk × Int :=
 if W.code ≠ 0 then (W, D, W.code)
 else if i <= W.first then (W, D, 0)
 else if W.recs.length < i - W.first then (W, D, 51)
 else if (W.compact2 i D).1.code ≠ 0 then ((W.compact2 i D).1, (W.compact2 i D).2, (W.compact2 i D).1.code)
 else if (wfree i ((W.compact2 i D).1.old.length + 1) (W.compact2 i D).1.old (W.compact2 i D).2).2.2 ≠ 0 then
  ({ (W.compact2 i D).1 with old := (wfree i ((W.compact2 i D).1.old.length + 1) (W.compact2 i D).1.old (W.compact2 i D).2).1, code := (wfree i ((W.compact2 i D).1.old.length + 1) (W.compact2 i D).1.old (W.compact2 i D).2).2.2 }, (wfree i ((W.compact2 i D).1.old.length + 1) (W.compact2 i D).1.old (W.compact2 i D).2).2.1, (wfree i ((W.compact2 i D).1.old.length + 1) (W.compact2 i D).1.old (W.compact2 i D).2).2.2)
 else ({ (W.compact2 i D).1 with old := (wfree i ((W.compact2 i D).1.old.length + 1) (W.compact2 i D).1.old (W.compact2 i D).2).1, recs := W.recs.drop (i - W.first), first := i }, (wfree i ((W.compact2 i D).1.old.length + 1) (W.compact2 i D).1.old (W.compact2 i D).2).2.1, 0)
def wreset : List Int -> Dk -> Dk × Int
 | [], D => (D, 0)
 | a :: r, D => if a % 4 = 1 then (if (D.free a).2 = 0 then wreset r (D.free a).1 else D.free a) else wreset r D
def Wl.reset (W : Wl) (first : Nat) (D : Dk) : Wl × Dk × Int :=
 if W.code ≠ 0 then (W, D, W.code)
 else if wTop < first then (W, D, 51)
 else if (wreset (areasL D) D).2 ≠ 0 then ({ W with code := (wreset (areasL D) D).2 }, wreset (areasL D) D)
 else ({ W with op := none, old := [], recs := [], first := first }, (wreset (areasL D) D).1, 0)
end Go.En
end
section
namespace Go.En
def leB : Nat -> Nat -> List UInt8
 | 0, _ => []
 | k + 1, n => UInt8.ofNat n :: leB k (n / 256)
theorem leB_length : ∀ (k n : Nat), (leB k n).length = k
 | 0, _ => rfl
 | k + 1, n => by simp [leB, leB_length k]
theorem leB_get : ∀ (k n i : Nat), i < k -> (leB k n)[i]? = some (UInt8.ofNat (n / 256 ^ i))
 | 0, _, _, h => by omega
 | k + 1, n, 0, _ => by simp [leB]
 | k + 1, n, i + 1, h => by
  rw [leB, List.getElem?_cons_succ, leB_get k (n / 256) i (by omega), Nat.div_div_eq_div_mul, Nat.pow_succ, Nat.mul_comm]
def sectH (n : Nat) (v : List UInt8) : List UInt8 := leB 8 n ++ (UInt8.ofNat v.length :: (v ++ List.replicate (51 - v.length) 0))
def sect (n : Nat) (v : List UInt8) : List UInt8 := sectH n v ++ leB 4 (crc (sectH n v)).toNat
theorem sectH_length {n : Nat} {v : List UInt8} (h : v.length <= 48) : (sectH n v).length = 60 := by simp [sectH, leB_length]; omega
theorem sect_length {n : Nat} {v : List UInt8} (h : v.length <= 48) : (sect n v).length = 64 := by simp [sect, leB_length, sectH_length h]
def sltSay (b : List UInt8) (i : Nat) : Nat × List UInt8 :=
 if 48 < (b.getD 8 0).toNat then (0, [])
 else if un4 (b.take 8) % 2 = i /\ b = sect (un4 (b.take 8)) ((b.drop 9).take (b.getD 8 0).toNat) then (un4 (b.take 8), (b.drop 9).take (b.getD 8 0).toNat) else (0, [])
def sltRd (D : Dk) (area i : Nat) : Nat × List UInt8 := match D.read area i with
 | none => (0, [])
 | some b => sltSay b i
structure Slt where
 num : Nat
 val : List UInt8
def Slt.pick (s : Slt) (r : Nat × List UInt8) : Slt := if s.num < r.1 then ⟨r.1, r.2⟩ else s
def sltOpen (D : Dk) (area : Nat) : Slt := (Slt.pick ⟨0, []⟩ (sltRd D area 0)).pick (sltRd D area 1)
def Slt.save (s : Slt) (area : Nat) (D : Dk) (v : List UInt8) : Slt × Dk × Int :=
 if 48 < v.length \/ s.num = 18446744073709551615 then (s, D, 40)
 else if (D.write area (((s.num + 1) % 2 : Nat) : Int) (sect (s.num + 1) v)).2 = 0 then
  (if ((D.write area (((s.num + 1) % 2 : Nat) : Int) (sect (s.num + 1) v)).1.sync area).2 = 0 then ⟨s.num + 1, v⟩ else s, ((D.write area (((s.num + 1) % 2 : Nat) : Int) (sect (s.num + 1) v)).1.sync area).1, ((D.write area (((s.num + 1) % 2 : Nat) : Int) (sect (s.num + 1) v)).1.sync area).2)
 else (s, (D.write area (((s.num + 1) % 2 : Nat) : Int) (sect (s.num + 1) v)).1, (D.write area (((s.num + 1) % 2 : Nat) : Int) (sect (s.num + 1) v)).2)
end Go.En
end
section
namespace Go.En
theorem bA_isS {g ty : Nat} {A B C : List UInt8} {off n cap : Nat} (ho : off = A.length) (hn : n = B.length) (hc : n <= cap) : IsS (pt g (bv (A ++ B ++ C)).toArray ty) (some ⟨g, off, none⟩) n cap 1 (bv B) := by
 subst ho
 subst hn
 refine ⟨by simp [bv], hc, fun j u hu => ⟨_, rfl, ?_⟩⟩
 have hj : j < B.length := by
  have := (List.getElem?_eq_some_iff.1 hu).1
  simpa [bv] using this
 rw [add_mk]
 refine Cell.pt ?_
 rw [List.getElem?_toArray, bv_append, bv_append, List.append_assoc, List.getElem?_append_right (by simp [bv]), List.getElem?_append_left (by simpa [bv] using hj)]
 simpa [bv] using hu
theorem bA_get {l : List UInt8} {i : Nat} (h : i < l.length) : (bv l).toArray[i]? = some (.int .u8 ((l[i].toNat : Nat) : Int)) := by rw [List.getElem?_toArray, bv_get h]
theorem bA_set (l : List UInt8) (i m : Nat) : (bv l).toArray.setIfInBounds i (.int .u8 ((m % 256 : Nat) : Int)) = (bv (l.set i (UInt8.ofNat m))).toArray := by
 rw [List.setIfInBounds_toArray]
 unfold bv
 rw [List.map_set]
 have : (UInt8.ofNat m).toNat = m % 256 := by simp
 rw [this]
theorem leB_step {k n i : Nat} {B : List UInt8} (hB : B.length = k) (hi : i < k) : ((leB k n).take i ++ B.drop i).set i (UInt8.ofNat (n / 2 ^ (8 * i))) = (leB k n).take (i + 1) ++ B.drop (i + 1) := by
 have hl : ((leB k n).take i).length = i := by rw [List.length_take, leB_length]; omega
 have hp : (2 : Nat) ^ (8 * i) = 256 ^ i := by rw [Nat.pow_mul]
 rw [List.set_append_right _ _ (by omega), hl, Nat.sub_self, List.drop_eq_getElem_cons (by omega), List.set_cons_zero, hp, List.take_add_one, leB_get k n i hi]
 simp
theorem cpyAt {X v Z W : List UInt8} {k : Nat} (hk : k = X.length) (hz : Z.length = v.length) : (List.take k (bv (X ++ (Z ++ W))) ++ List.take (v.length * 1) (bv v) ++ List.drop (k + v.length * 1) (bv (X ++ (Z ++ W)))).toArray = (bv (X ++ (v ++ W))).toArray := by
 subst hk
 congr 1
 have hb : ∀ l : List UInt8, (bv l).length = l.length := fun l => by simp [bv]
 have h1 : List.take (v.length * 1) (bv v) = bv v := List.take_of_length_le (by rw [hb]; omega)
 have h2 : List.take X.length (bv (X ++ (Z ++ W))) = bv X := by rw [bv_append, List.take_append_of_le_length (by rw [hb]; exact Nat.le_refl _), List.take_of_length_le (by rw [hb]; exact Nat.le_refl _)]
 have h3 : List.drop (X.length + v.length * 1) (bv (X ++ (Z ++ W))) = bv W := by
  rw [<- List.append_assoc, bv_append, List.drop_append, hb, List.drop_of_length_le (by rw [hb, List.length_append]; omega), List.nil_append, List.length_append, show X.length + v.length * 1 - (X.length + Z.length) = 0 from by omega, List.drop_zero]
 rw [h1, h2, h3, bv_append, bv_append, List.append_assoc]
end Go.En
namespace Go.Proofs.YtneeeblghijmgaaGreat
open Go.En
attribute [local irreducible] Code.wp wpList Calls
theorem layC {w0 : World} {K : PH} {hs : List PH} (g off k cap ty n : Nat) (A B C : List UInt8) (ho : off = A.length) (hB : B.length = k) (hk : k <= 8) (hc : k <= cap) :
  Ct Tryz.prog w0 146 [.slice (some ⟨g, off, none⟩) k cap, .int .u64 ((n : Nat) : Int)] K (pt g (bv (A ++ B ++ C)).toArray ty :: hs)
   (fun v K' hs' => K' = K /\ hs' = pt g (bv (A ++ leB k n ++ C)).toArray ty :: hs) := by
 refine enter Tryz.func146 (by kernel_rfl) rfl rfl rfl ?_
 refine sq (rg ?_)
 refine fin hT 3 rfl (th (bk ?_))
 refine loop (σ := Nat) (fun i => [(0, .slice (some ⟨g, off, none⟩) k cap), (1, .int .u64 ((n : Nat) : Int)), (6, .int .i64 ((k : Nat) : Int)), (7, .int .i64 ((i : Nat) : Int))]) (fun _ => K) (fun i => pt g (bv (A ++ ((leB k n).take i ++ B.drop i) ++ C)).toArray ty :: hs)
  (fun i => i <= k) (fun i => k - i) 0 (Nat.zero_le _) ⟨rfl, rfl, rfl, rfl, trivial⟩ rfl (by simp) ?_
 intro i hi
 refine sq (rg ?_)
 refine cmpS hT 0 rfl fun b8 h8 => ?_
 refine fin hT 0 rfl (th (sq (ifP h8 rfl (fun e2 => ?_) (fun e2 => ?_))))
 ·have hik : i < k := by omega
  obtain ⟨M, hM⟩ : ∃ M, M = (leB k n).take i ++ B.drop i := ⟨_, rfl⟩
  have hMl : M.length = k := by rw [hM, List.length_append, List.length_take, List.length_drop, leB_length]; omega
  rw [<- hM]
  refine sk (th (sq (bk (sq (rg ?_)))))
  refine fin hT 2 rfl (th (rg ?_))
  refine ar hT 4 rfl (i64w (x := ((8 * i : Nat) : Int)) (by omega)) ?_
  refine shf hT 0 rfl (by omega) (.inr ⟨rfl, u64shr n _ (8 * i) rfl (by omega)⟩) ?_
  refine ar hT 0 rfl (u8m _) ?_
  refine ixs hT 0 i rfl rfl (bA_isS (g := g) (ty := ty) (C := C) ho hMl.symm hc) hik (by decide) fun a17 ha => ?_
  cases ha
  simp only [add_mk, Nat.mul_one]
  refine stp hT 0 0 rfl rfl (bA_get (l := A ++ M ++ C) (i := off + i) (by simp only [List.length_append]; omega)) rfl ?_
  refine fin hT 0 rfl (bl (th (rg ?_)))
  refine ar hT 0 rfl (i64w (x := ((i + 1 : Nat) : Int)) (by omega)) ?_
  refine fin hT 1 rfl ?_
  refine again (x := i) (i + 1) ⟨rfl, rfl, rfl, rfl, trivial⟩ rfl ?_ hik (by omega)
  show pt g _ ty :: hs = _
  rw [bA_set, List.set_append_left _ _ (by rw [List.length_append]; omega), List.set_append_right _ _ (by omega), show off + i - A.length = i from by omega, hM, leB_step hB hik]
 ·refine ex (xt (xt (xb ?_)))
  obtain rfl : i = k := by omega
  refine end0 rfl ⟨rfl, ?_⟩
  rw [List.take_of_length_le (by rw [leB_length]; omega), List.drop_of_length_le (by omega), List.append_nil]
theorem sectorC {w0 : World} {K hv : PH} {hs : List PH} (n : Nat) (v : List UInt8) (ao : Option Addr) (cap : Nat) (hl : v.length <= 48) (hin : In K hs hv) (x : IsS hv ao v.length cap 1 (bv v)) :
  Ct Tryz.prog w0 123 [.int .u64 ((n : Nat) : Int), .slice ao v.length cap] K hs (fun u K' hs' => K' = K /\ hs' = hs /\ u = .agg (bv (sect n v)).toArray) := by
 have hHl := sectH_length (n := n) hl
 refine enter Tryz.func123 (by kernel_rfl) rfl rfl rfl ?_
 refine sq (rg ?_)
 refine al hT 0 (.agg (bv (List.replicate 64 0)).toArray) rfl (by kernel_rfl) fun b4 => ?_
 refine fin hT 0 rfl (th (sq (rg ?_)))
 refine al hT 0 (.agg (bv (List.replicate 64 0)).toArray) rfl (by kernel_rfl) fun b5 => ?_
 refine fin hT 0 rfl (th (sq (rg ?_)))
 refine sla hT 0 (sz := 1) 0 8 rfl rfl Tryz.underlying191 (by kernel_rfl) rfl rfl (by decide) (by decide) ?_
 simp only [add_mk, Nat.zero_mul, Nat.add_zero]
 refine cl hT 1 rfl (layC b5 0 8 64 191 n [] (List.replicate 8 0) (List.replicate 56 0) rfl (by simp) (by decide) (by decide)) ?_
 rintro v8 K8 hs8 ⟨rfl, rfl⟩
 refine fin hT 0 rfl (th (sq (rg ?_)))
 refine ar hT 2 rfl (u8m _) ?_
 refine ixa hT 0 (sz := 1) 8 rfl Tryz.underlying191 (by kernel_rfl) rfl (by decide) ?_
 simp only [add_mk, Nat.zero_add, Nat.mul_one]
 refine stp hT 0 0 rfl rfl (bA_get (l := [] ++ leB 8 n ++ List.replicate 56 0) (i := 8) (by simp [leB_length])) rfl ?_
 refine WL.hs (pt b5 (bv (leB 8 n ++ (UInt8.ofNat v.length :: List.replicate 55 0))).toArray 191 :: pt b4 (bv (List.replicate 64 0)).toArray 191 :: hs) (congrArg (fun z => pt b5 z 191 :: pt b4 (bv (List.replicate 64 0)).toArray 191 :: hs) (by
  rw [bA_set, List.nil_append, List.set_append_right _ _ (by rw [leB_length]; exact Nat.le_refl _), leB_length]
  rfl)) ?_
 refine fin hT 0 rfl (th (sq (rg ?_)))
 refine sla hT 0 (sz := 1) 9 55 rfl rfl Tryz.underlying191 (by kernel_rfl) rfl rfl (by decide) (by decide) ?_
 simp only [add_mk, Nat.zero_add, Nat.mul_one]
 refine cpy hT 1 0 v.length rfl rfl rfl (In.cons (In.cons hin)) x (by omega) (fun u hu => bv_one v u (List.mem_of_mem_take hu)) (by show 9 + v.length * 1 <= (bv (leB 8 n ++ (UInt8.ofNat v.length :: List.replicate 55 0))).toArray.size; simp [bv, leB_length]; omega) ?_
 refine WL.hs (pt b5 (bv (sectH n v ++ List.replicate 4 0)).toArray 191 :: pt b4 (bv (List.replicate 64 0)).toArray 191 :: hs) (congrArg (fun z => pt b5 z 191 :: pt b4 (bv (List.replicate 64 0)).toArray 191 :: hs) (by
  have e2 : List.replicate 55 (0 : UInt8) = List.replicate v.length 0 ++ (List.replicate (51 - v.length) 0 ++ List.replicate 4 0) := by
   rw [List.replicate_append_replicate, List.replicate_append_replicate]
   congr 1
   omega
  have e3 : leB 8 n ++ (UInt8.ofNat v.length :: List.replicate 55 0) = (leB 8 n ++ [UInt8.ofNat v.length]) ++ (List.replicate v.length 0 ++ (List.replicate (51 - v.length) 0 ++ List.replicate 4 0)) := by rw [<- e2]; simp
  rw [e3]
  refine (cpyAt (by simp [leB_length]) (by simp)).trans ?_
  unfold sectH
  simp)) ?_
 refine fin hT 0 rfl (th (sq (rga [] 5 [0, 2, 5, 6, 9] (by simp) (by kernel_rfl) (by kernel_rfl) ?_)))
 refine dsla hT (by kernel_rfl) 0 (sz := 1) 60 4 rfl rfl Tryz.underlying191 (by kernel_rfl) rfl rfl (by decide) (by decide) ?_
 refine dsla hT (by kernel_rfl) 0 (sz := 1) 0 60 rfl rfl Tryz.underlying191 (by kernel_rfl) rfl rfl (by decide) (by decide) ?_
 simp only [add_mk, Nat.zero_add, Nat.mul_one, Nat.zero_mul, Nat.sub_zero, Nat.reduceSub, Nat.reduceAdd]
 refine dact hT (by kernel_rfl) 0 rfl ?_
 have xH : IsS (pt b5 (bv (sectH n v ++ List.replicate 4 0)).toArray 191) (some ⟨b5, 0, none⟩) (sectH n v).length 64 1 (bv (sectH n v)) := by
  have := bA_isS (g := b5) (ty := 191) (A := []) (B := sectH n v) (C := List.replicate 4 0) (off := 0) (n := (sectH n v).length) (cap := 64) rfl rfl (by omega)
  simpa using this
 have hsum := sumC (w0 := w0) (K := K8) (hs := pt b5 (bv (sectH n v ++ List.replicate 4 0)).toArray 191 :: pt b4 (bv (List.replicate 64 0)).toArray 191 :: hs) (some ⟨b5, 0, none⟩) 64 (sectH n v) (.inr ⟨0, rfl⟩) xH (by omega)
 rw [hHl] at hsum
 refine cl hT 0 rfl hsum ?_
 rintro v18 K18 hs18 ⟨rfl, rfl, rfl⟩
 refine dnex [] (by simp) (by simp) rfl ?_
 have hcl := (crc (sectH n v)).isLt
 refine dar hT (by kernel_rfl) 0 rfl (u64w (by omega)) ?_
 refine dact hT (by kernel_rfl) 0 rfl ?_
 have hlay := layC (w0 := w0) (K := K18) (hs := pt b4 (bv (List.replicate 64 0)).toArray 191 :: hs) b5 60 4 4 191 (crc (sectH n v)).toNat (sectH n v) (List.replicate 4 0) [] hHl.symm (by simp) (by decide) (by decide)
 rw [List.append_nil, List.append_nil] at hlay
 refine cl hT 0 rfl hlay ?_
 rintro v20 K20 hs20 ⟨rfl, rfl⟩
 have hsl : (sect n v).length = 64 := sect_length hl
 have hss : (bv (sect n v)).toArray.size = 64 := by simp [bv, hsl]
 refine dnex [] (by simp) (by simp) rfl ?_
 refine dend hT (by kernel_rfl) 0 rfl (th (sq (rg ?_)))
 refine ldS hT 0 0 rfl rfl (by show aggOK Tryz.prog _ (bv (sect n v)).toArray.size = true; rw [hss]; kernel_rfl) ?_
 refine stS hT 0 1 rfl rfl (by show _ = some (bv (sect n v)).toArray.size; rw [hss]; kernel_rfl) (by show (bv (sect n v)).toArray.size = _; rw [hss]; rfl) (by simp only [Array.all_toList, List.all_eq_true]; first | exact bv_one (sect n v) | (simp; intro u hu; exact bv_one (sect n v) u hu)) ?_
 refine fin hT 0 rfl (th (rt (WQ.drop ?_)))
 exact retcA 0 1 rfl rfl rfl (by show aggOK Tryz.prog _ (bv (sect n v)).toArray.size = true; rw [hss]; kernel_rfl) ⟨rfl, rfl, rfl⟩
end Go.Proofs.YtneeeblghijmgaaGreat
end
section
namespace Go.Proofs.YtneeeblghijmgaaGreat
open Go.En
attribute [local irreducible] Code.wp wpList Calls
theorem equalC {w0 : World} {K h1 h2 : PH} {hs : List PH} (a1 a2 : Option Addr) (c1 c2 : Nat) (l1 l2 : List UInt8) (m1 : In K hs h1) (m2 : In K hs h2) (x1 : IsS h1 a1 l1.length c1 1 (bv l1)) (x2 : IsS h2 a2 l2.length c2 1 (bv l2)) (hl : l1.length < 1099511627776) :
  Ct Tryz.prog w0 137 [.slice a1 l1.length c1, .slice a2 l2.length c2] K hs (fun v K' hs' => K' = K /\ hs' = hs /\ ∃ b : Bool, v = .bool b /\ (b = true ↔ l1 = l2)) := by
 refine enter Tryz.func137 (by kernel_rfl) rfl rfl rfl ?_
 refine sq (rg ?_)
 refine fin hT 1 rfl (th (sq (sq (rg ?_))))
 refine cmpS hT 4 rfl fun b10 h10 => ?_
 refine fin hT 0 rfl (th (ifP h10 rfl (fun e2 => ?_) (fun e2 => ?_)))
 ·refine sq (rg ?_)
  refine fin hT 1 rfl (th (rt (rT ?_)))
  exact ret1 rfl rfl ⟨rfl, rfl, false, rfl, by simp; intro h; subst h; exact e2 rfl⟩
 ·have hll : l1.length = l2.length := by omega
  refine sk (th (sq (sq (rg ?_))))
  refine fin hT 3 rfl (th (bk ?_))
  refine loop (σ := Nat) (fun i => [(0, .slice a1 l1.length c1), (1, .slice a2 l2.length c2), (12, .int .i64 (l1.length : Nat)), (13, .int .i64 (i : Nat))]) (fun _ => K) (fun _ => hs) (fun i => i <= l1.length /\ l1.take i = l2.take i) (fun i => l1.length - i) 0 ⟨Nat.zero_le _, rfl⟩ ⟨rfl, rfl, rfl, rfl, trivial⟩ rfl rfl ?_
  rintro i ⟨hi, he⟩
  refine sq (rg ?_)
  refine cmpS hT 0 rfl fun b14 h14 => ?_
  refine fin hT 0 rfl (th (sq (ifP h14 rfl (fun e4 => ?_) (fun e4 => ?_))))
  ·have hi1 : i < l1.length := by omega
   refine sk (th (sq (bk (sq (rg ?_)))))
   have hi2 : i < l2.length := by omega
   obtain ⟨a1, rfl⟩ := x1.addr hi1 (by decide)
   obtain ⟨a2, rfl⟩ := x2.addr hi2 (by decide)
   obtain ⟨a1', ha1, hc1⟩ := x1.2.2 i _ (bv_get hi1)
   obtain ⟨a2', ha2, hc2⟩ := x2.2.2 i _ (bv_get hi2)
   cases ha1
   cases ha2
   refine fin hT 2 rfl (th (sq (rga hs 9 [0, 2, 4, 6, 8, 10, 12, 14, 16] (by simp) (by kernel_rfl) (by kernel_rfl) ?_)))
   refine dixs hT (by kernel_rfl) 2 i rfl rfl hi1 ?_
   refine dld hT (by kernel_rfl) 0 rfl m1 (by simpa using hc1) ?_
   refine dixs hT (by kernel_rfl) 2 i rfl rfl hi2 ?_
   refine dld hT (by kernel_rfl) 0 rfl m2 (by simpa using hc2) ?_
   refine dcbS hT (by kernel_rfl) 0 (((l1[i].toNat : Nat) : Int) ≠ (l2[i].toNat : Nat)) rfl (by simp) fun b24 h24 => ?_
   refine dend hT (by kernel_rfl) 0 rfl (th (ifP h24 rfl (fun e5 => ?_) (fun e5 => ?_)))
   ·refine sq (rg ?_)
    refine fin hT 1 rfl (th (rt (rB (rT (rT (rB (rT ?_)))))))
    exact ret1 rfl rfl ⟨rfl, rfl, false, rfl, by simp; intro h; subst h; exact e5 rfl⟩
   ·refine sk (bl (th (rg ?_)))
    refine ar hT 0 rfl (i64w (by omega)) ?_
    refine fin hT 1 rfl ?_
    exact again (x := i) (i + 1) ⟨rfl, rfl, rfl, rfl, trivial⟩ rfl rfl ⟨by omega, by rw [take_succ_get l1 i hi1, take_succ_get l2 i hi2, he, UInt8.toNat_inj.1 (Int.ofNat_inj.1 (Decidable.not_not.1 e5))]⟩ (by (try dsimp only); omega)
  ·obtain rfl : i = l1.length := by omega
   refine ex (xt (xt (xb (th (sq (rg ?_))))))
   refine fin hT 1 rfl (th (rt ?_))
   exact ret1 rfl rfl ⟨rfl, rfl, true, rfl, by simp; rw [List.take_of_length_le (Nat.le_refl _), hll, List.take_of_length_le (Nat.le_refl _)] at he; exact he⟩
end Go.Proofs.YtneeeblghijmgaaGreat
namespace Go.Proofs.YtneeeblghijmgaaGreat
open Go.En
attribute [local irreducible] Code.wp wpList Calls
end Go.Proofs.YtneeeblghijmgaaGreat
namespace Go.Proofs.YtneeeblghijmgaaGreat
open Go.En
attribute [local irreducible] Code.wp wpList Calls
end Go.Proofs.YtneeeblghijmgaaGreat
namespace Go.Proofs.YtneeeblghijmgaaGreat
open Go.En
attribute [local irreducible] Code.wp wpList Calls
def p0 : MA := ⟨none, 0, none, 0, none, 0⟩
end Go.Proofs.YtneeeblghijmgaaGreat
end
