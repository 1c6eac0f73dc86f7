/-
  Part 5 of what the proof needs (texts Jj Jk Jl Jm Jn Jo Jp Jq Np Ra Rb Rc Rd Re Rf Rg Rh Qa Qb Qc).
-/
import Derived.Test.YtneeeblghijmgaaGreatSD4
set_option linter.unusedSectionVars false
set_option linter.unusedSimpArgs false
set_option linter.unusedVariables false
section
namespace Go.En
def okM (r : Nat × Bool × Int) : Value := .tuple #[.int .u64 ((r.1 : Nat) : Int), .bool r.2.1, .int .i64 r.2.2]
theorem merge2_nil {L : Lg} {x : List Ent} {B : Bool} {last : Nat} {D : Dk} (h : skp L.sn L.l x true = ([], B)) : L.merge2 x last D = L.merge3 [] last D := by
 unfold Lg.merge2
 split
 ·rfl
 ·rename_i h2; rw [h] at h2; cases h2
theorem merge2_cons {L : Lg} {x : List Ent} {e : Ent} {r : List Ent} {B : Bool} {last : Nat} {D : Dk} (h : skp L.sn L.l x true = (e :: r, B)) : L.merge2 x last D = if B = true then
    (if (L.w.truncate e.idx D).2.2 ≠ 0 then ({ L with w := (L.w.truncate e.idx D).1, code := (L.w.truncate e.idx D).2.2 }, (L.w.truncate e.idx D).2.1, 0, false, (L.w.truncate e.idx D).2.2)
     else (L.cutAt e.idx (L.w.truncate e.idx D).1).merge3 (e :: r) last (L.w.truncate e.idx D).2.1)
   else L.merge3 (e :: r) last D := by
 unfold Lg.merge2
 split
 ·rename_i h2; rw [h] at h2; cases h2
 ·rename_i e' r' h2
  rw [h] at h2 ⊢
  cases h2
  rfl
end Go.En
namespace Go.Proofs.YtneeeblghijmgaaGreat
open Go.En
attribute [local irreducible] Code.wp wpList Calls
theorem mergeLC {w0 : World} {K : PH} {m hs : List PH} (lb db : Nat) (L : Lg) (D : Dk) (c : Nat) (hb : LBd c L) (oD : DOk c D) (hm : LgM K lb db L D m) (i t : Nat) (hi : i <= mxU) (ht : t <= mxU) (ao : Option Addr) (cap : Nat) (x : List Ent) (xs : SlS 4 (EntC K) K ao x.length cap x) (hx : ∀ e ∈ x, entB e) (hc : c + 2 + 12 * x.length <= 999999000) :
  Ct Tryz.prog w0 12 [.pointer (some ⟨lb, 0, none⟩), .int .u64 ((i : Nat) : Int), .int .u64 ((t : Nat) : Int), .slice ao x.length cap] K (m ++ hs)
   (fun u K' hs' => Le K K' /\ ∃ m', hs' = m' ++ hs /\ LgM K' lb db (L.merge i t x D).1 (L.merge i t x D).2.1 m' /\ u = okM (L.merge i t x D).2.2) := by
 have hm0 := hm
 obtain ⟨wb, hb', eb, aV, cV, aD, cD, aL, cL, wh, hh, eh, gl, dh, rfl, hW, hH, hE, hG, hD, xV, xD⟩ := hm
 have hidx := hb.idx
 have hlen := hb.len
 unfold lgTop at hidx
 obtain ⟨R, hR⟩ : ∃ R, R = L.merge i t x D := ⟨_, rfl⟩
 rw [<- hR]
 unfold Lg.merge at hR
 refine enter Tryz.func12 (by kernel_rfl) rfl rfl rfl ?_
 refine sq (rg ?_)
 refine fin hT 3 rfl (th (sq (sq (rg ?_))))
 refine ldp hT 3 0 rfl rfl rfl ?_
 refine cmpS hT 0 rfl fun b21 h21 => ?_
 refine fin hT 0 rfl (th (ifP h21 rfl (fun e2 => ?_) (fun e2 => ?_)))
 ·rw [if_pos e2] at hR
  refine sq (rga [pt lb (lgA wb db hb' eb L (.slice aV L.sn.vot.length cV) (.slice aD L.sn.data.length cD) (.slice aL L.l.length cL)) 91] 7 [0, 2, 4, 6, 8, 10, 12] (by simp) (by kernel_rfl) (by kernel_rfl) ?_)
  refine dldp hT (by kernel_rfl) 3 0 rfl rfl rfl ?_
  refine dend hT (by kernel_rfl) 3 rfl (th (rt (rT ?_)))
  rw [hR]
  exact ret3 rfl rfl rfl rfl ⟨Le.refl _, [_, _, _, _, _, _], rfl, hm0, rfl⟩
 ·rw [if_neg e2] at hR
  have hcode := Decidable.not_not.1 e2
  refine sk (th (sq (rg ?_)))
  refine cl hT 3 rfl (followLC i t hi ht ao cap x xs hx (by omega)) ?_
  rintro v29 K29 hs29 ⟨rfl, rfl, rfl⟩
  refine fin hT 1 rfl (th (sq (sq (rg ?_))))
  refine cmpS hT 1 rfl fun b31 h31 => ?_
  refine fin hT 0 rfl (th (ifP h31 rfl (fun e4 => ?_) (fun e4 => ?_)))
  ·rw [if_pos e4] at hR
   refine sq (rg ?_)
   refine fin hT 4 rfl (th (rt (rT ?_)))
   rw [hR]
   exact ret3 rfl rfl rfl rfl ⟨Le.refl _, [_, _, _, _, _, _], rfl, hm0, rfl⟩
  ·rw [if_neg e4] at hR
   have hfol := fol_folR (Decidable.not_not.1 e4)
   have hlast : i + x.length <= mxU := by
    rcases Nat.eq_zero_or_pos x.length with h | h
    ·omega
    ·obtain ⟨e, he⟩ : ∃ e, x[x.length - 1]? = some e := ⟨x[x.length - 1], List.getElem?_eq_getElem (by omega)⟩
     have h1 := folR_idx x i t hfol _ e he
     have h2 := (hx e (List.mem_of_getElem? he)).1
     omega
   obtain ⟨last, hla⟩ : ∃ last, last = i + x.length := ⟨_, rfl⟩
   rw [<- hla] at hR hlast
   unfold mxU at hi ht hlast
   refine sk (th (sq (rg ?_)))
   refine ar hT 3 rfl (u64w (x := ((x.length : Nat) : Int)) (by omega)) ?_
   refine ar hT 0 rfl (v' := .int .u64 ((last : Nat) : Int)) (by rw [show ((i : Nat) : Int) + ((x.length : Nat) : Int) = ((last : Nat) : Int) from by omega]; exact u64w (by omega)) ?_
   refine fin hT 1 rfl (th (jn (σ := (Nat × Nat × List Ent) × (Option Addr × Nat)) (fun s => [(0, .pointer (some ⟨lb, 0, none⟩)), (1, .int .u64 ((s.1.1 : Nat) : Int)), (2, .int .u64 ((s.1.2.1 : Nat) : Int)), (3, .slice s.2.1 s.1.2.2.length s.2.2), (12, .int .u64 ((last : Nat) : Int))])
    (fun _ => [pt lb (lgA wb db hb' eb L (.slice aV L.sn.vot.length cV) (.slice aD L.sn.data.length cD) (.slice aL L.l.length cL)) 91, wh, hh, eh, gl, dh] ++ hs)
    (fun s => L.merge1 s.1.1 s.1.2.1 s.1.2.2 last D = R /\ s.1.1 <= 18446744073709551615 /\ SlS 4 (EntC K29) K29 s.2.1 s.1.2.2.length s.2.2 s.1.2.2 /\ (∀ e ∈ s.1.2.2, entB e) /\ s.1.2.2.length <= x.length) ?_ ?_))
   ·refine sq (rg ?_)
    refine ldp hT 5 0 rfl rfl rfl ?_
    refine cmpS hT 0 rfl fun b44 h44 => ?_
    refine fin hT 0 rfl (th (ifP h44 rfl (fun e6 => ?_) (fun e6 => ?_)))
    ·rw [if_pos (by omega)] at hR
     refine sq (sq (rg ?_))
     refine ldp hT 5 0 rfl rfl rfl ?_
     refine cmpS hT 0 rfl fun b51 h51 => ?_
     refine fin hT 0 rfl (th (ifP h51 rfl (fun e8 => ?_) (fun e8 => ?_)))
     ·rw [if_pos (by omega)] at hR
      refine sq (rg ?_)
      refine fin hT 4 rfl (th (rt (rT (jr ?_))))
      rw [hR]
      exact ret3 rfl rfl rfl rfl ⟨Le.refl _, [_, _, _, _, _, _], rfl, hm0, rfl⟩
     ·rw [if_neg (by omega)] at hR
      obtain ⟨y, hy⟩ : ∃ y, y = x.drop (L.sn.idx - i) := ⟨_, rfl⟩
      have hyl : y.length = x.length - (L.sn.idx - i) := by rw [hy, List.length_drop]
      have ysl := xs.cut (L.sn.idx - i) (by omega)
      rw [<- hyl, <- hy] at ysl
      rw [<- hy] at hR
      have hyx : ∀ e ∈ y, entB e := fun e he => hx e (by rw [hy] at he; exact List.mem_of_mem_drop he)
      have hcap : x.length <= cap := by obtain ⟨_, hh⟩ := xs.isS; exact hh.2.1
      refine sk (th (sq (rg ?_)))
      refine ldp hT 5 0 rfl rfl rfl ?_
      refine ar hT 1 rfl (u64s (by omega) (by omega)) ?_
      refine slx hT 0 (L.sn.idx - i) y.length rfl rfl (by show ((x.length : Nat) : Int) = _; omega) (by omega) ?_
      refine fin hT 1 rfl (th (sq (rga [pt lb (lgA wb db hb' eb L (.slice aV L.sn.vot.length cV) (.slice aD L.sn.data.length cD) (.slice aL L.l.length cL)) 91] 12 [0, 2, 4, 6, 8, 10, 12, 14, 16, 18, 20, 22] (by simp) (by kernel_rfl) (by kernel_rfl) ?_)))
      refine dldp hT (by kernel_rfl) 4 0 rfl rfl rfl ?_
      refine dldp hT (by kernel_rfl) 4 0 rfl rfl rfl ?_
      refine dend hT (by kernel_rfl) 2 rfl (th (sq (rg ?_)))
      cases y with
      | nil =>
       rw [if_neg (by simp)] at hR
       refine cmp hT 2 rfl (fun h => absurd h (by simp)) (fun _ => ?_)
       refine fin hT 8 rfl (th (ifF rfl ?_))
       refine sk ?_
       exact jx ((L.sn.idx, L.sn.term, []), (_, _)) ⟨hR.symm, by dsimp only; omega, ysl, by simp, Nat.zero_le _⟩ ⟨rfl, rfl, rfl, rfl, rfl, trivial⟩ rfl rfl
      | cons e r =>
       obtain ⟨zs, hzs⟩ := ysl.isS
       obtain ⟨a, ha⟩ := ysl.addr (by simp) (by decide)
       have ysl2 := ysl
       rw [ha] at ysl2 hzs ⊢
       obtain ⟨cc, ⟨ae, ce, rfl, xe⟩, _, hcell⟩ := ysl2.cells (i := 0) (x := e) rfl
       refine cmp hT 2 rfl (fun _ => ?_) (fun h => absurd (show ((0 : Int) < (((e :: r).length : Nat) : Int)) by simp) h)
       refine ixs hT 2 0 rfl rfl hzs (by simp) (by decide) fun a77 h77 => ?_
       cases h77
       refine ld hT 1 rfl (.inl rfl) (hcell 1 _ rfl) ?_
       refine cmpS hT 1 rfl fun b81 h81 => ?_
       refine fin hT 1 rfl (th (ifP h81 rfl (fun e12 => ?_) (fun e12 => ?_)))
       ·rw [if_pos (by simp; omega)] at hR
        refine sq (rg ?_)
        refine fin hT 3 rfl (th (rt (jr ?_)))
        rw [hR]
        exact ret3 rfl rfl rfl rfl ⟨Le.refl _, [_, _, _, _, _, _], rfl, hm0, rfl⟩
       ·rw [if_neg (by simp; omega)] at hR
        refine sk ?_
        exact jx ((L.sn.idx, L.sn.term, e :: r), (_, _)) ⟨hR.symm, by dsimp only; omega, ysl2, hyx, by dsimp only; omega⟩ ⟨rfl, rfl, rfl, rfl, rfl, trivial⟩ rfl rfl
    ·rw [if_neg (by omega)] at hR
     refine sk ?_
     exact jx ((i, t, x), (ao, cap)) ⟨hR.symm, hi, xs, hx, Nat.le_refl _⟩ ⟨rfl, rfl, rfl, rfl, rfl, trivial⟩ rfl rfl
   ·clear hR hfol hla hi ht xs hx e4
    clear h31
    rintro ⟨⟨i, t, y⟩, ⟨ao, cap⟩⟩ ⟨hR, hi, xs, hx, hyl⟩
    dsimp only at *
    unfold Lg.merge1 at hR
    refine sq (rg ?_)
    refine cl hT 2 rfl (termLC lb db L D c hb (by omega) hm0 i (by omega)) ?_
    rintro v86 K86 hs86 ⟨rfl, rfl, rfl⟩
    obtain ⟨T, hTT⟩ : ∃ T, T = trm L.sn L.l i := ⟨_, rfl⟩
    rw [<- hTT] at hR ⊢
    obtain ⟨u, b⟩ := T
    dsimp only at hR
    refine fin hT 5 rfl (th (sq (sq (rg ?_))))
    refine cbS hT 1 (b = false) rfl (by cases b <;> simp) fun b90 h90 => ?_
    refine' bjo (q := u ≠ t) hT 1 4 95 [90, 91] h90 rfl rfl rfl rfl rfl rfl rfl (fun _ => ?x13) (fun b95 h95 => ?_)
    case x13 =>
     refine cmpS hT 2 rfl fun b94 h94 => ?_
     exact fin hT 1 rfl (bjx (h94.trans (by omega)) rfl rfl rfl)
    refine fin hT 0 rfl (th (ifP h95 rfl (fun e15 => ?_) (fun e15 => ?_)))
    ·rw [if_pos e15] at hR
     refine sq (rg ?_)
     refine cl hT 2 rfl (backLC lb db L D c hb (by omega) hm0 i (by omega)) ?_
     rintro v98 K98 hs98 ⟨rfl, rfl, rfl⟩
     refine fin hT 3 rfl (th (rt (rT ?_)))
     rw [<- hR]
     exact ret3 rfl rfl rfl rfl ⟨Le.refl _, [_, _, _, _, _, _], rfl, hm0, rfl⟩
    ·rw [if_neg e15] at hR
     obtain ⟨X, B, hXB⟩ : ∃ X B, skp L.sn L.l y true = (X, B) := ⟨_, _, rfl⟩
     have hXs : X <:+ y := by have := skp_suf L.sn L.l y true; rw [hXB] at this; exact this
     have hXl := hXs.length_le
     have hXe : ∀ e ∈ X, entB e := fun e he => hx e (hXs.subset he)
     obtain rfl : b = true := by cases b with | true => rfl | false => exact absurd (.inl rfl) e15
     refine sk (th (jn (σ := Option Addr × Nat) (fun s => [(0, .pointer (some ⟨lb, 0, none⟩)), (3, .slice s.1 X.length s.2), (12, .int .u64 ((last : Nat) : Int)), (14, .bool B)])
      (fun _ => [pt lb (lgA wb db hb' eb L (.slice aV L.sn.vot.length cV) (.slice aD L.sn.data.length cD) (.slice aL L.l.length cL)) 91, wh, hh, eh, gl, dh] ++ hs)
      (fun s => SlS 4 (EntC K86) K86 s.1 X.length s.2 X) ?_ ?_))
     ·refine bk ?_
      refine loop (σ := (List Ent × Bool) × (Option Addr × Nat)) (fun s => [(0, .pointer (some ⟨lb, 0, none⟩)), (3, .slice s.2.1 s.1.1.length s.2.2), (12, .int .u64 ((last : Nat) : Int)), (14, .bool s.1.2)]) (fun _ => K86)
       (fun _ => [pt lb (lgA wb db hb' eb L (.slice aV L.sn.vot.length cV) (.slice aD L.sn.data.length cD) (.slice aL L.l.length cL)) 91, wh, hh, eh, gl, dh] ++ hs)
       (fun s => skp L.sn L.l s.1.1 s.1.2 = (X, B) /\ SlS 4 (EntC K86) K86 s.2.1 s.1.1.length s.2.2 s.1.1 /\ (∀ e ∈ s.1.1, entB e) /\ s.1.1.length <= y.length) (fun s => s.1.1.length)
       ((y, true), (ao, cap)) ⟨hXB, xs, hx, Nat.le_refl _⟩ ⟨rfl, rfl, rfl, rfl, trivial⟩ rfl rfl ?_
      rintro ⟨⟨z, B0⟩, ⟨az, cz⟩⟩ ⟨hz, zs, hze, hzl⟩
      dsimp only at *
      refine sq (sq (rg ?_))
      cases z with
      | nil =>
       have hz : (([], B0) : List Ent × Bool) = (X, B) := hz
       cases hz
       refine cmp hT 2 rfl (fun h => absurd h (by simp)) (fun _ => ?_)
       refine fin hT 0 rfl (th (ifF rfl ?_))
       refine ex (xt (xt (xb ?_)))
       exact jx (az, cz) zs ⟨rfl, rfl, rfl, rfl, trivial⟩ rfl rfl
      | cons e r =>
       rw [skp_cons] at hz
       obtain ⟨ws, hws⟩ := zs.isS
       obtain ⟨a, rfl⟩ := zs.addr (by simp) (by decide)
       obtain ⟨cc, ⟨ae, ce, rfl, xe⟩, _, hcell⟩ := zs.cells (i := 0) (x := e) rfl
       obtain ⟨q1, q2, q3⟩ := hze e (by simp)
       unfold mxU at q1 q2
       refine cmp hT 2 rfl (fun _ => ?_) (fun h => absurd (show ((0 : Int) < (((e :: r).length : Nat) : Int)) by simp) h)
       refine fin hT 0 rfl (th (ifT rfl ?_))
       refine sk (th (bk (sq (rg ?_))))
       refine ixs hT 2 0 rfl rfl hws (by simp) (by decide) fun a105 h105 => ?_
       cases h105
       refine ld hT 1 rfl (.inl rfl) (hcell 0 _ rfl) ?_
       refine cl hT 0 rfl (termLC lb db L D c hb (by omega) hm0 e.idx (by omega)) ?_
       rintro v108 K108 hs108 ⟨rfl, rfl, rfl⟩
       obtain ⟨V, hV⟩ : ∃ V, V = trm L.sn L.l e.idx := ⟨_, rfl⟩
       rw [<- hV] at hz ⊢
       obtain ⟨v, b'⟩ := V
       dsimp only at hz
       refine fin hT 5 rfl (th (sq (sq (rg ?_))))
       refine cbS hT 1 (b' = false) rfl (by cases b' <;> simp) fun b112 h112 => ?_
       refine' bjo (q := v ≠ e.term) hT 1 7 120 [112, 113] h112 rfl rfl rfl rfl rfl rfl rfl (fun _ => ?x18) (fun b120 h120 => ?_)
       case x18 =>
        refine ixs hT 2 0 rfl rfl hws (by simp) (by decide) fun a116 h116 => ?_
        cases h116
        refine ld hT 1 rfl (.inl rfl) (hcell 1 _ rfl) ?_
        refine cmpS hT 0 rfl fun b119 h119 => ?_
        exact fin hT 1 rfl (bjx (h119.trans (by omega)) rfl rfl rfl)
       refine fin hT 0 rfl (th (ifP h120 rfl (fun e20 => ?_) (fun e20 => ?_)))
       ·rw [if_pos e20] at hz
        cases hz
        refine ex (xt (xn rfl (xt (xb ?_))))
        exact jx (_, cz) zs ⟨rfl, rfl, rfl, rfl, trivial⟩ rfl rfl
       ·rw [if_neg e20] at hz
        obtain rfl : b' = true := by cases b' with | true => rfl | false => exact absurd (.inl rfl) e20
        refine sk (th (rg ?_))
        have hcz : (e :: r).length <= cz := hws.2.1
        refine slx hT 1 1 r.length rfl rfl (by show (((e :: r).length : Nat) : Int) = _; simp; omega) (by simp at hcz; omega) ?_
        refine fin hT 1 rfl (bl ?_)
        have zs2 := zs.cut 1 (by simp)
        exact again (x := ((e :: r, B0), (none, 0))) ((r, true), (_, _)) ⟨rfl, rfl, rfl, rfl, trivial⟩ rfl rfl ⟨hz, zs2, fun y hy => hze y (by simp [hy]), by dsimp only; simp only [List.length_cons] at hzl; omega⟩ (by simp)
     ·clear xs
      rintro ⟨az, cz⟩ zs
      dsimp only at *
      have hR3 : ∀ (L' : Lg) (D' : Dk), LBd (c + 2) L' -> DOk (c + 2) D' -> True := fun _ _ _ _ => trivial
      refine jnK (σ := (Lg × Dk) × List PH × PH) (fun _ => [(0, .pointer (some ⟨lb, 0, none⟩)), (3, .slice az X.length cz), (12, .int .u64 ((last : Nat) : Int))]) (fun s => s.2.2) (fun s => s.2.1 ++ hs)
       (fun s => s.1.1.merge3 X last s.1.2 = R /\ LBd (c + 2) s.1.1 /\ DOk (c + 2) s.1.2 /\ Le K86 s.2.2 /\ LgM s.2.2 lb db s.1.1 s.1.2 s.2.1) ?_ ?_
      ·refine sq (rg ?_)
       cases X with
       | nil =>
        rw [merge2_nil hXB] at hR
        refine cmp hT 2 rfl (fun h => absurd h (by simp)) (fun _ => ?_)
        refine fin hT 3 rfl (th (ifF rfl ?_))
        refine sk ?_
        exact jxK ((L, D), [_, _, _, _, _, _], _) ⟨hR, hb.up (by omega), oD.up (by omega), Le.refl _, hm0⟩ ⟨rfl, rfl, rfl, trivial⟩ rfl rfl
       | cons e r =>
        rw [merge2_cons hXB] at hR
        obtain ⟨q1, q2, q3⟩ := hXe e (by simp)
        have q1' := q1
        unfold mxU at q1 q2
        refine cmp hT 2 rfl (fun _ => ?_) (fun h => absurd (show ((0 : Int) < (((e :: r).length : Nat) : Int)) by simp) h)
        cases B with
        | false =>
         rw [if_neg (by simp)] at hR
         refine fin hT 3 rfl (th (ifF rfl ?_))
         refine sk ?_
         exact jxK ((L, D), [_, _, _, _, _, _], _) ⟨hR, hb.up (by omega), oD.up (by omega), Le.refl _, hm0⟩ ⟨rfl, rfl, rfl, trivial⟩ rfl rfl
        | true =>
         rw [if_pos rfl] at hR
         obtain ⟨ws, hws⟩ := zs.isS
         obtain ⟨a, rfl⟩ := zs.addr (by simp) (by decide)
         obtain ⟨cc, ⟨ae, ce, rfl, xe⟩, _, hcell⟩ := zs.cells (i := 0) (x := e) rfl
         obtain ⟨V, hV⟩ : ∃ V, V = L.w.truncate e.idx D := ⟨_, rfl⟩
         have hbc := hb.cutAt e.idx D
         have hdc := oD.truncate hb.w (by omega) e.idx (by omega)
         rw [<- hV] at hR hbc hdc
         refine fin hT 3 rfl (th (ifT rfl ?_))
         refine sq (sq (rga [pt lb (lgA wb db hb' eb L (.slice aV L.sn.vot.length cV) (.slice aD L.sn.data.length cD) (.slice aL L.l.length cL)) 91] 9 [0, 2, 4, 6, 8, 10, 12, 14, 16, 19, 21, 22] (by simp) (by kernel_rfl) (by kernel_rfl) ?_))
         refine dldpw hT (by kernel_rfl) 4 0 rfl (by kernel_rfl) rfl rfl ?_
         refine dixs hT (by kernel_rfl) 1 0 rfl rfl (by simp) ?_
         refine dldw hT (by kernel_rfl) 1 rfl (by kernel_rfl) (.inl rfl) (hcell 0 _ rfl) ?_
         refine dact hT (by kernel_rfl) 0 rfl ?_
         refine cl hT 0 rfl (Ct.at2 1 4 rfl rfl (truncWH wb db L.w hW D c oD (by omega) hb.w hD e.idx (by omega))) ?_
         rintro v138 K138 hs138 ⟨wh', dh', rfl, le2, hW', hD', rfl⟩
         rw [<- hV] at hW' hD' ⊢
         refine dnext (.inl (by kernel_rfl)) ?_
         refine dact hT (by kernel_rfl) 0 rfl ?_
         refine cl hT 0 rfl (didLC lb wb db hb' eb L _ _ _ _) ?_
         rintro v139 K139 hs139 ⟨_, rfl, rfl, rfl, rfl⟩
         have ed : didV L.code V.2.2 = V.2.2 := by unfold didV; rw [if_pos hcode]
         rw [ed]
         refine dnext (.inl (by kernel_rfl)) ?_
         refine dcbS hT (by kernel_rfl) 0 (V.2.2 ≠ 0) rfl (by simp) fun b140 h140 => ?_
         refine dend hT (by kernel_rfl) 0 rfl (th (ifP h140 rfl (fun e24 => ?_) (fun e24 => ?_)))
         ·rw [if_pos e24] at hR
          refine sq (rga [pt lb (lgA wb db hb' eb { L with code := V.2.2 } (.slice aV L.sn.vot.length cV) (.slice aD L.sn.data.length cD) (.slice aL L.l.length cL)) 91] 7 [0, 2, 4, 6, 8, 10, 12] (by simp) (by kernel_rfl) (by kernel_rfl) ?_)
          refine dldp hT (by kernel_rfl) 3 0 rfl rfl rfl ?_
          refine dend hT (by kernel_rfl) 3 rfl (th (rt (rT (jrK ?_))))
          rw [<- hR]
          exact ret3 rfl rfl rfl rfl ⟨le2, [_, _, _, _, _, _], rfl, ⟨wb, hb', eb, aV, cV, aD, cD, aL, cL, wh', hh, eh, gl, dh', rfl, hW', hH.le le2, hE.le le2, hG.imp fun _ _ h => h.le le2, hD', xV.le le2, xD.le le2⟩, rfl⟩
         ·have e24 := Decidable.not_not.1 e24
          rw [if_neg (by rw [e24]; simp)] at hR
          have eL : ({ L with code := V.2.2 } : Lg) = L := by rw [e24, <- hcode]
          rw [eL]
          have hm2 : LgM K139 lb db { L with w := V.1 } V.2.1 [pt lb (lgA wb db hb' eb L (.slice aV L.sn.vot.length cV) (.slice aD L.sn.data.length cD) (.slice aL L.l.length cL)) 91, wh', hh, eh, gl, dh'] :=
           ⟨wb, hb', eb, aV, cV, aD, cD, aL, cL, wh', hh, eh, gl, dh', rfl, hW', hH.le le2, hE.le le2, hG.imp fun _ _ h => h.le le2, hD', xV.le le2, xD.le le2⟩
          have hbw : LBd (c + 1) { L with w := V.1 } := by have := hb.wc (hb.w.truncate e.idx D) (Nat.le_succ c) L.code; rw [<- hV] at this; exact this
          refine sk (th (sq (rg ?_)))
          refine ixs hT 2 0 rfl rfl (hws.le le2) (by simp) (by decide) fun a148 h148 => ?_
          cases h148
          refine ld hT 1 rfl (.inl rfl) ((hcell 0 _ rfl).le le2) ?_
          refine cl hT 0 rfl (atLC lb db { L with w := V.1 } V.2.1 (c + 1) hbw (by omega) hm2 e.idx (by omega)) ?_
          rintro v151 K151 hs151 ⟨rfl, rfl, rfl⟩
          have hkl := lgAt_le L.sn L.l e.idx
          obtain ⟨k, hk⟩ : ∃ k, k = (lgAt L.sn L.l e.idx).getD 0 := ⟨_, rfl⟩
          have hcG := hG.caps
          refine fin hT 5 rfl (th (rg ?_))
          refine ldp hT 4 0 rfl rfl rfl ?_
          rw [<- hk] at hkl
          refine slx hT 1 0 k rfl rfl (by show (((lgAt L.sn L.l e.idx).getD 0 : Nat) : Int) = _; rw [<- hk]; simp) (by omega) ?_
          refine stp hT 2 0 rfl rfl rfl rfl ?_
          obtain ⟨gl3, hg3, hG3⟩ := hG.cut 0 k (by omega)
          refine fin hT 0 rfl (WQ.loss 4 gl3 rfl hg3 ?_)
          have hln : (L.l.take k).length = k := by rw [List.length_take]; omega
          refine jxK ((L.cutAt e.idx V.1, V.2.1), [_, _, _, _, _, _], _) ⟨hR, hbc.up (by omega), hdc, le2, ⟨wb, hb', eb, aV, cV, aD, cD, cutA aL cL 0 4, cL - 0, wh', hh, eh, gl3, dh', ?_, hW', hH.le le2, hE.le le2, ?_, hD', xV.le le2, xD.le le2⟩⟩ ⟨rfl, rfl, rfl, trivial⟩ rfl rfl
          ·unfold Lg.cutAt; dsimp only; rw [<- hk, hln]; rfl
          ·unfold Lg.cutAt; dsimp only; rw [<- hk, hln]
           have := hG3.imp (R' := EntC K151) fun _ _ h => h.le le2
           rwa [List.drop_zero] at this
      ·clear hR
       rintro ⟨⟨L', D'⟩, m', K'⟩ ⟨hR, hb2, oD2, le2, hm2⟩
       dsimp only at *
       unfold Lg.merge3 at hR
       refine sq (rg ?_)
       refine cl hT 2 rfl (appendLC lb db L' D' (c + 2) hb2 oD2 hm2 az cz X (zs.le le2 fun _ _ h => h.le le2) hXe (by omega)) ?_
       rintro v165 K165 hs165 ⟨le3, m3, rfl, hm3, rfl⟩
       refine fin hT 1 rfl (th (sq (sq (rg ?_))))
       refine cmpS hT 1 rfl fun b167 h167 => ?_
       refine fin hT 0 rfl (th (ifP h167 rfl (fun e26 => ?_) (fun e26 => ?_)))
       ·rw [if_pos e26] at hR
        refine sq (rg ?_)
        refine fin hT 4 rfl (th (rt (rT ?_)))
        rw [<- hR]
        exact ret3 rfl rfl rfl rfl ⟨le2.trans le3, m3, rfl, hm3, rfl⟩
       ·rw [if_neg e26] at hR
        refine sk (th (sq (rg ?_)))
        refine fin hT 4 rfl (th (rt ?_))
        rw [<- hR]
        exact ret3 rfl rfl rfl rfl ⟨le2.trans le3, m3, rfl, hm3, rfl⟩
end Go.Proofs.YtneeeblghijmgaaGreat
end
section
namespace Go.En
def chk1 (ao : Option Addr) (n i : Nat) : List Value := [.slice (cutA ao (64 * i + min 64 (n - 64 * i)) (64 * i) 1) (min 64 (n - 64 * i)) (min 64 (n - 64 * i))]
def chk (ao : Option Addr) (n : Nat) : List (List Value) := (List.range ((n + 63) / 64)).map (chk1 ao n)
theorem chk_len (ao : Option Addr) (n : Nat) : (chk ao n).length = (n + 63) / 64 := by simp [chk]
theorem chk_get (ao : Option Addr) {n i : Nat} (h : i < (n + 63) / 64) : (chk ao n)[i]? = some (chk1 ao n i) := by simp [chk, h]
theorem IsS.sub3 {h : PH} {ao : Option Addr} {n cap : Nat} {xs : List Value} (x : IsS h ao n cap 1 xs) (L N : Nat) (hN : L + N <= n) : IsS h (cutA ao (L + N) L 1) N N 1 ((xs.drop L).take N) := by
 have hl : xs.length = n := by have := x.1; omega
 rcases Nat.eq_zero_or_pos N with h0 | h0
 ·subst h0
  rw [List.take_zero]
  exact IsS.nil _ _ _ _
 ·refine ⟨by rw [List.length_take, List.length_drop]; omega, Nat.le_refl _, fun j v hv => ?_⟩
  have hj : j < N := by have := (List.getElem?_eq_some_iff.1 hv).1; rw [List.length_take] at this; omega
  rw [List.getElem?_take_of_lt hj, List.getElem?_drop] at hv
  obtain ⟨a, rfl, hc⟩ := x.2.2 _ v hv
  refine ⟨a.add (L * 1), by rw [cutA, if_neg (by omega)]; rfl, ?_⟩
  rw [Deep.add_add, Nat.mul_one]
  exact hc
attribute [local irreducible] Code.wp wpList Calls
section joinx
variable {P : Program} {w0 : World} {Q : Exit -> Act -> World -> Prop} {n : Nat} {l : Sl} {K : PH} {hs : List PH} {r : Option Nat} {ds : List Deferred}
def JZ (ds : List Deferred) (w0 : World) {σ : Type} (F : σ -> Sl) (HK : σ -> PH) (H : σ -> List PH) (J : σ -> Prop) (n : Nat) (Q : Exit -> Act -> World -> Prop) : Exit -> Act -> World -> Prop
 | .normal, a', w => ∃ s a, J s /\ a' = wd ds a /\ Ag n (F s) a /\ Sat w0 w (HK s) (H s)
 | e, a, w => Q e a w
theorem jnZ {σ : Type} {x y : Code} (F : σ -> Sl) (HK : σ -> PH) (H : σ -> List PH) (J : σ -> Prop) (h1 : WX P w0 r ds x (JZ ds w0 F HK H J n Q) n l K hs) (h2 : ∀ s, J s -> WX P w0 r ds y Q n (F s) (HK s) (H s)) : WX P w0 r ds (.seq x y) Q n l K hs :=
 sqX fun a w ha hw => wpIn_mono (h1 a w ha hw) (fun e a w h => by
  cases e with
  | normal => obtain ⟨s, a1, hJ, rfl, ha, hw⟩ := h; exact h2 s hJ a1 w ha hw
  | _ => exact h)
theorem jxZ {σ : Type} {F : σ -> Sl} {HK : σ -> PH} {H : σ -> List PH} {J : σ -> Prop} (s : σ) (hJ : J s) (hF : Sub l (F s)) (hK : K = HK s) (hH : hs = H s) : WQX ds w0 (JZ ds w0 F HK H J n Q) .normal n l K hs :=
 fun a w ha hw => ⟨s, a, hJ, rfl, ha.sub hF, by rw [<- hK, <- hH]; exact hw⟩
end joinx
end Go.En
namespace Go.Proofs.YtneeeblghijmgaaGreat
open Go.En
attribute [local irreducible] Code.wp wpList Calls
theorem ents_one {K : PH} : ∀ {css : List (List Value)} {l : List Ent}, Al2 (EntC K) css l -> ∀ u ∈ css.flatten, u.oneCell' = true
 | [], [], _, u, hu => by simp at hu
 | c :: css, x :: l, h, u, hu => by
  rw [List.flatten_cons, List.mem_append] at hu
  rcases hu with hu | hu
  ·obtain ⟨ao, cap, rfl, _⟩ := h.1
   simp [Ent.v] at hu
   rcases hu with rfl | rfl | rfl | rfl <;> rfl
  ·exact ents_one h.2 u hu
 | _ :: _, [], h, _, _ => h.elim
 | [], _ :: _, h, _, _ => h.elim
theorem chunkC {w0 : World} {K : PH} {hs : List PH} (ao : Option Addr) (n c : Nat) : Ct Tryz.prog w0 128 [.slice ao n c, .int .i64 64] K hs
  (fun v K' hs' => Le K K' /\ hs' = hs /\ ∃ b2 b3, v = .func (.func 149) #[] #[.pointer (some ⟨b2, 0, none⟩), .pointer (some ⟨b3, 0, none⟩)] /\ Cell K' ⟨b2, 0, none⟩ (.slice ao n c) /\ Cell K' ⟨b3, 0, none⟩ (.int .i64 64)) := by
 refine enter Tryz.func128 (by kernel_rfl) rfl rfl rfl ?_
 refine sq (rg ?_)
 refine bx hT 0 rfl fun b2 => ?_
 refine bx hT 0 rfl fun b3 => ?_
 refine fin hT 1 rfl (th (sq (sq (rg ?_))))
 refine ldp hT 0 0 rfl rfl rfl ?_
 refine cmp hT 0 rfl (fun h => absurd h (by decide)) (fun _ => ?_)
 refine fin hT 0 rfl (th (ifF rfl ?_))
 refine sk (th (sq (rg ?_)))
 refine fin hT 2 rfl (th (rt (WQ.frz fun K1 l1 l2 => WQ.frz fun K2 l3 l4 => ?_)))
 exact ret1 rfl rfl ⟨l1.trans l3, rfl, b2, b3, rfl, (Cell.pt rfl).le l4, ((Cell.pt rfl).le l2).le l3⟩
theorem chunkI {w0 : World} (b2 b3 : Nat) (ao : Option Addr) (n c : Nat) (hn : n <= 1099511627776) (hnc : n <= c) : ItCt Tryz.prog w0 149 [.pointer (some ⟨b2, 0, none⟩), .pointer (some ⟨b3, 0, none⟩)] (chk ao n)
  (fun K _ => Cell K ⟨b2, 0, none⟩ (.slice ao n c) /\ Cell K ⟨b3, 0, none⟩ (.int .i64 64)) := by
 intro L St Sp hRd hY K hs h0
 refine enterX Tryz.func149 (by kernel_rfl) rfl rfl rfl ?_
 refine sqX (rgX ?_)
 refine fin hT 1 rfl (nxX (thX (bkX ?_)))
 refine loopX (σ := Nat × PH × List PH) (fun s => [(0, .func (.yield L) #[] #[]), (1, .pointer (some ⟨b2, 0, none⟩)), (2, .pointer (some ⟨b3, 0, none⟩)), (4, .int .i64 ((64 * s.1 : Nat) : Int))]) (fun s => s.2.1) (fun s => s.2.2) (fun s => s.1 <= (n + 63) / 64 /\ St s.1 s.2.1 s.2.2) (fun s => (n + 63) / 64 - s.1) (0, K, hs) ⟨Nat.zero_le _, h0⟩ ⟨rfl, rfl, rfl, rfl, trivial⟩ rfl rfl ?_
 rintro ⟨i, K, hs⟩ ⟨hi, hst⟩
 dsimp only at *
 obtain ⟨c1, c2⟩ := hRd i K hs hst
 refine sqX (sqX (rgX ?_))
 refine ld hT 1 rfl (.inl rfl) c1 ?_
 refine cmpS hT 1 rfl fun b9 h9 => ?_
 refine fin hT 0 rfl (nxX (thX (ifPX h9 rfl (fun e2 => ?_) (fun e2 => ?_))))
 ·have hil : i < (n + 63) / 64 := by omega
  obtain ⟨N, hN⟩ : ∃ N, N = min 64 (n - 64 * i) := ⟨_, rfl⟩
  refine skX (thX (sqX (bkX (sqX (rgaX [] 7 [0, 2, 4, 6, 8, 10, 12] (by simp) (by kernel_rfl) (by kernel_rfl) ?_)))))
  refine dld hT (by kernel_rfl) 0 rfl (.inl rfl) c2 ?_
  refine dld hT (by kernel_rfl) 0 rfl (.inl rfl) c1 ?_
  refine dslx hT (by kernel_rfl) 1 (64 * i) (n - 64 * i) rfl rfl rfl (by show ((n : Nat) : Int) = _; omega) (by omega) ?_
  refine dar hT (by kernel_rfl) 1 rfl (v' := .int .i64 ((N : Nat) : Int)) (by
   congr 1
   rw [hN]
   split <;> omega) ?_
  refine dend hT (by kernel_rfl) 1 rfl (nxX (thX (sqX (rgI (WLI.cut 10 ?_)))))
  refine ld hT 1 rfl (.inl rfl) c1 ?_
  refine ar hT 3 rfl (i64w (x := ((64 * i + N : Nat) : Int)) (by omega)) ?_
  refine ar hT 2 rfl (i64w (x := ((64 * i + N : Nat) : Int)) (by omega)) ?_
  refine sl3g hT 0 (64 * i) N (64 * i + N) rfl rfl rfl rfl (Nat.le_refl _) (by omega) ?_
  refine fin hT 0 rfl (cutX ?_)
  have hv : (chk ao n)[i]? = some [.slice (cutA ao (64 * i + N) (64 * i) 1) N (64 * i + N - 64 * i)] := by
   rw [chk_get ao hil, chk1, <- hN, Nat.add_sub_cancel_left]
  refine yld rfl (hY i _ K hs hv hst) ?_
  rintro v17 K17 hs17 (⟨rfl, hn'⟩ | ⟨rfl, hp⟩)
  ·refine WLI.fin ?_
   refine fin hT 1 rfl (nxX (thX (ifFX rfl ?_)))
   refine skX (blX (thX (rgX ?_)))
   obtain ⟨c1', c2'⟩ := hRd (i + 1) K17 hs17 hn'
   refine ld hT 1 rfl (.inl rfl) c2' ?_
   refine ar hT 0 rfl (v' := .int .i64 ((64 * (i + 1) : Nat) : Int)) (by rw [i64w (by omega)]; congr 1) ?_
   refine fin hT 1 rfl (nxX ?_)
   exact againX (x := (i, K, hs)) (i + 1, K17, hs17) ⟨rfl, rfl, rfl, rfl, trivial⟩ rfl rfl ⟨by dsimp only; omega, hn'⟩ (by dsimp only; omega)
  ·refine WLI.fin ?_
   refine fin hT 1 rfl (nxX (thX (ifTX rfl ?_)))
   refine rtX (rBX (rTX (rTX (rBX ?_))))
   exact ret0X rfl (.inr hp)
 ·refine exX (xtX (xtX (xbX ?_)))
  obtain rfl : i = (n + 63) / 64 := by omega
  exact end0X rfl (.inl (by rw [chk_len]; exact hst))
theorem cloneEC {w0 : World} {K hv : PH} {hs : List PH} (ao : Option Addr) (n c : Nat) (l : List Ent) (hm : In K hs hv) (x : SlS 4 (EntC K) hv ao n c l) (hl : n <= 1000000000000) : Ct Tryz.prog w0 129 [.slice ao n c] K hs
  (fun v K' hs' => K' = K /\ ∃ h' ao' c', hs' = h' :: hs /\ v = .slice ao' n c' /\ SlZ 4 46 (EntC K) h' ao' n c' l) := by
 cases ao with
 | none =>
  obtain rfl : n = 0 := by
   rcases Nat.eq_zero_or_pos n with h | h
   ·exact h
   ·obtain ⟨a, ha⟩ := x.addr h (by decide); cases ha
  have hl0 : l = [] := List.eq_nil_of_length_eq_zero x.len.symm
  subst hl0
  refine enter Tryz.func129 (by kernel_rfl) rfl rfl rfl ?_
  refine sq (rg ?_)
  refine fin hT 1 rfl (th (sq (sq (rg ?_))))
  refine cbS hT 1 True rfl (by simp) fun b4 h4 => ?_
  refine fin hT 0 rfl (th (ifP h4 rfl (fun e2 => ?_) (fun e2 => absurd trivial e2)))
  refine sq (rg ?_)
  refine fin hT 1 rfl (th (rt (rT (WQ.em ?_))))
  exact ret1 rfl rfl ⟨rfl, em, none, 0, rfl, rfl, SlZ.nil _ _⟩
 | some a =>
  obtain rfl := x.len
  obtain ⟨css, hn, hS, hal, hcl⟩ := x
  refine enter Tryz.func129 (by kernel_rfl) rfl rfl rfl ?_
  refine sq (rg ?_)
  refine fin hT 1 rfl (th (sq (sq (rg ?_))))
  refine cbS hT 1 False rfl (by simp) fun b4 h4 => ?_
  refine fin hT 0 rfl (th (ifP h4 rfl (fun e2 => e2.elim) (fun e2 => ?_)))
  refine sk (th (sq (rg ?_)))
  refine lit hT 0 #[] rfl (by decide) (by kernel_rfl) fun b5 => ?_
  refine app hT 1 0 rfl rfl (Own.ofPt (c := #[]) (n := 0) (by simp) (by simp [maxLen])) (In.cons hm) hS rfl (by decide) (ents_one hal) (by show (0 + l.length) * 48 <= _; omega) (by simp [maxLen]; omega) fun ao7 c7 g7 o7 => ?_
  refine fin hT 1 rfl (th (rt ?_))
  have e : 0 + l.length = l.length := Nat.zero_add _
  rw [e] at o7
  exact ret1 rfl (by rw [e]; rfl) ⟨rfl, g7, ao7, c7, rfl, rfl, css, rfl, .inl (by simpa using o7), hal, hcl⟩
end Go.Proofs.YtneeeblghijmgaaGreat
end
section
namespace Go.En
theorem res_c1 {P : Program} {w0 : World} {fn : Func} {n : Nat} {l : Sl} {K : PH} {hs : List PH} {T : Tab} (hT : TabOK P T) (j : Nat) {u tu b2 ty2 : Nat} {k : UK} {x : Value} {fr2 : Nat × Nat} (hr : fn.results = #[.cell u tu]) (hu : look l u = some (.pointer (some ⟨b2, 0, none⟩))) (hj : hs[j]? = some (pt b2 #[x] ty2 fr2))
  (hk : asc T.kinds tu = some k) (h1 : k.one = true) : ∀ a w, Ag n l a -> Sat w0 w K hs -> (results fn a.tmps).run P w = .ok x w := by
 intro a w ha hw
 have h3 : (loadVar tu ⟨b2, 0, none⟩).run P w = .ok x w := by
  have := run_load1 (P := P) (w := w) hT hk h1 (a := ⟨b2, 0, none⟩) (v := x) (hw.cell (.inr ⟨j, hj⟩) (Cell.pt rfl))
  simpa [Instr.loadAt, Instr.sureAddr] using this
 simp [results, hr, ha.slot u _ hu, asAddr, h3]
theorem lgW_step (place f n : Nat) (b : List UInt8) (D : Dk) : lgW place (f + 1) n b D = if b = [] then (D, 0)
  else if (D.write (lgA4 place) n (b.take 64)).2 ≠ 0 then D.write (lgA4 place) n (b.take 64)
  else lgW place f (n + 1) (b.drop 64) (D.write (lgA4 place) n (b.take 64)).1 := rfl
end Go.En
namespace Go.Proofs.YtneeeblghijmgaaGreat
open Go.En
attribute [local irreducible] Code.wp wpList Calls
theorem layLC {w0 : World} {K : PH} {m hs : List PH} (lb db : Nat) (L : Lg) (D : Dk) (c : Nat) (hb : LBd c L) (hc : c <= 999000000) (oD : DOk c D) (hm : LgM K lb db L D m) (hcode : L.code = 0) (s : Snp) (hsi : s.idx <= lgTop) (hlt : L.sn.idx < s.idx) (hst : s.term <= mxU) (hsd : s.data.length <= 2097152) (hsv : s.vot.length <= 1000)
  (aS : Option Addr) (cS : Nat) (aT : Option Addr) (cT : Nat) (xS : IsS K aS s.vot.length cS 1 (iv s.vot)) (xT : IsS K aT s.data.length cT 1 (bv s.data)) (fr : Nat) (hfr : fr < 18446744073709551616) :
  Ct Tryz.prog w0 82 [.pointer (some ⟨lb, 0, none⟩), .agg (snV s aS cS aT cT), .int .u64 ((fr : Nat) : Int)] K (m ++ hs)
   (fun u K' hs' => Le K K' /\ ∃ m', hs' = m' ++ hs /\ LgM K' lb db (L.lay s fr D).1 (L.lay s fr D).2.1 m' /\ u = .int .i64 (L.lay s fr D).2.2) := by
 have hm0 := hm
 obtain ⟨wb, hb', eb, aV, cV, aD, cD, aL, cL, wh, hh, eh, gl, dh, rfl, hW, hH, hE, hG, hD, xV, xD⟩ := hm
 have hpl := hb.place
 have hlen := hb.len
 have hidx := hb.idx
 unfold lgTop at hpl hidx hsi
 obtain ⟨pl, hplE⟩ : ∃ pl, pl = L.place + 1 := ⟨_, rfl⟩
 obtain ⟨R0, hR0⟩ : ∃ R0, R0 = lgW pl (s.data.length + 1) 0 s.data D := ⟨_, rfl⟩
 obtain ⟨R, hR⟩ : ∃ R, R = L.lay s fr D := ⟨_, rfl⟩
 rw [<- hR]
 unfold Lg.lay at hR
 rw [<- hplE, <- hR0] at hR
 have hcapT : s.data.length <= cT := xT.2.1
 refine enterX Tryz.func82 (by kernel_rfl) rfl rfl rfl ?_
 refine sqX (rgX ?_)
 refine bx hT 0 rfl fun b3 => ?_
 refine bx hT 0 rfl fun b4 => ?_
 refine al hT 0 (.int .i64 0) rfl (by kernel_rfl) fun b6 => ?_
 refine fin hT 0 rfl (nxX (thX (sqX (rgX ?_))))
 refine ldp hT 0 2 rfl rfl rfl ?_
 refine ldp hT 2 3 rfl rfl rfl ?_
 refine fin hT 1 rfl (nxX (thX (sqX (rgX ?_))))
 refine ar hT 1 rfl (v' := .int .u64 ((pl : Nat) : Int)) (by rw [show ((L.place : Nat) : Int) + 1 = ((pl : Nat) : Int) from by omega]; exact u64w (by omega)) ?_
 refine al hT 0 (.int .u64 0) rfl (by kernel_rfl) fun b8 => ?_
 refine stp hT 0 0 rfl rfl rfl rfl ?_
 refine fin hT 0 rfl (nxX (thX (sqX (rgX ?_))))
 refine al hT 0 (.int .i64 0) rfl (by kernel_rfl) fun b9 => ?_
 refine stp hT 0 0 rfl rfl rfl rfl ?_
 refine WL.hs (pt b9 #[.int .i64 0] 3 :: pt b8 #[.int .u64 ((pl : Nat) : Int)] 23 :: pt b6 #[.int .i64 0] 42 :: pt b4 (snV s aS cS aT cT) 32 :: pt b3 #[.pointer (some ⟨lb, 0, none⟩)] 35 :: pt lb (lgA wb db hb' eb L (.slice aV L.sn.vot.length cV) (.slice aD L.sn.data.length cD) (.slice aL L.l.length cL)) 91 :: wh :: hh :: eh :: gl :: dh :: hs) rfl ?_
 refine fin hT 0 rfl (nxX (thX (sqX (sqX (rgX ?_)))))
 refine ldp hT 1 3 rfl rfl rfl ?_
 refine cl hT 0 rfl (chunkC aT s.data.length cT) ?_
 rintro v26 K1 hs26 ⟨le1, rfl, d2, d3, rfl, k2, k3⟩
 refine fin hT 0 rfl (nxX (thX (bkX ?_)))
 refine rgf [.pointer (some ⟨d2, 0, none⟩), .pointer (some ⟨d3, 0, none⟩)] (chk aT s.data.length) (fun K _ => Cell K ⟨d2, 0, none⟩ (.slice aT s.data.length cT) /\ Cell K ⟨d3, 0, none⟩ (.int .i64 64)) rfl (chunkI d2 d3 aT s.data.length cT (by omega) hcapT) (by kernel_rfl) (fun vs hv => ?_) rfl
  (fun i K' hs' => Le K1 K' /\ ∃ D' dh', hs' = pt b9 #[.int .i64 ((i : Nat) : Int)] 3 :: pt b8 #[.int .u64 ((pl : Nat) : Int)] 23 :: pt b6 #[.int .i64 0] 42 :: pt b4 (snV s aS cS aT cT) 32 :: pt b3 #[.pointer (some ⟨lb, 0, none⟩)] 35 :: pt lb (lgA wb db hb' eb L (.slice aV L.sn.vot.length cV) (.slice aD L.sn.data.length cD) (.slice aL L.l.length cL)) 91 :: wh :: hh :: eh :: gl :: dh' :: hs /\
   lgW pl (s.data.length + 1 - i) i (s.data.drop (64 * i)) D' = R0 /\ DOk (c + i) D' /\ DskH K' db D' dh')
  (fun cc K' hs' => cc = .ret /\ Le K1 K' /\ R0.2 ≠ 0 /\ ∃ x dh', hs' = x :: pt b8 #[.int .u64 ((pl : Nat) : Int)] 23 :: pt b6 #[.int .i64 R0.2] 42 :: pt b4 (snV s aS cS aT cT) 32 :: pt b3 #[.pointer (some ⟨lb, 0, none⟩)] 35 :: pt lb (lgA wb db hb' eb { L with code := R0.2 } (.slice aV L.sn.vot.length cV) (.slice aD L.sn.data.length cD) (.slice aL L.l.length cL)) 91 :: wh :: hh :: eh :: gl :: dh' :: hs /\ DskH K' db R0.1 dh')
  ⟨Le.refl _, D, dh, rfl, hR0.symm, oD, hD.le le1⟩ (fun i K' hs' t u h => ⟨k2.le h.1, k3.le h.1⟩) ?_ ?_ ?_
 ·obtain ⟨y, _, rfl⟩ := List.mem_map.1 hv
  rfl
 ·rintro LL i vs K' hs' t u hvs ⟨le2, D', dh', rfl, hw, oD', hD'⟩
  have hi : i < (s.data.length + 63) / 64 := by have := (List.getElem?_eq_some_iff.1 hvs).1; rw [chk_len] at this; exact this
  rw [chk_get aT hi] at hvs
  cases hvs
  obtain ⟨b, hbE⟩ : ∃ b, b = (s.data.drop (64 * i)).take 64 := ⟨_, rfl⟩
  have hbl : b.length = min 64 (s.data.length - 64 * i) := by rw [hbE, List.length_take, List.length_drop]
  have hb0 : s.data.drop (64 * i) ≠ [] := fun h => by have := congrArg List.length h; rw [List.length_drop] at this; simp at this; omega
  have xb : IsS K' (cutA aT (64 * i + b.length) (64 * i) 1) b.length b.length 1 (bv b) := by
   have := (xT.le (le1.trans le2)).sub3 (64 * i) b.length (by omega)
   have e : ((bv s.data).drop (64 * i)).take b.length = bv b := by
    rw [hbE]
    simp [bv]
   rwa [e] at this
  obtain ⟨f, hf⟩ : ∃ f, s.data.length + 1 - i = f + 1 := ⟨s.data.length - i, by omega⟩
  obtain ⟨E, hE'⟩ : ∃ E, E = D'.write (lgA4 pl) i b := ⟨_, rfl⟩
  have oE := oD'.write (lgA4 pl) i b (by unfold lgA4; omega)
  rw [hf, lgW_step, if_neg hb0, <- hbE, <- hE'] at hw
  rw [<- hE'] at oE
  rw [chk1, <- hbl]
  refine rgX ?_
  refine fin hT 1 rfl (nxX (asgX (hs' := pt b9 #[.int .i64 ((i : Nat) : Int)] 3 :: pt b8 #[.int .u64 ((pl : Nat) : Int)] 23 :: pt b6 #[.int .i64 0] 42 :: pt b4 (snV s aS cS aT cT) 32 :: pt b3 #[.pointer (some ⟨lb, 0, none⟩)] 35 :: pt lb (lgA wb db hb' eb L (.slice aV L.sn.vot.length cV) (.slice aD L.sn.data.length cD) (.slice aL L.l.length cL)) 91 :: wh :: hh :: eh :: gl :: dh' :: hs) rfl fun u => ?_))
  refine bkX (sqX (sqX (rgaX [pt b3 #[.pointer (some ⟨lb, 0, none⟩)] 35, pt lb (lgA wb db hb' eb L (.slice aV L.sn.vot.length cV) (.slice aD L.sn.data.length cD) (.slice aL L.l.length cL)) 91, pt b8 #[.int .u64 ((pl : Nat) : Int)] 23, pt b9 #[.int .i64 ((i : Nat) : Int)] 3] 10 [0, 2, 4, 6, 8, 10, 14, 16, 13, 19, 21, 22] (by simp) (by kernel_rfl) (by kernel_rfl) ?_)))
  refine dldtp [] hT (by kernel_rfl) 0 0 rfl (by kernel_rfl) rfl rfl ?_
  refine dldtp [9, 4, 3, 2] hT (by kernel_rfl) 0 0 rfl (by kernel_rfl) rfl rfl ?_
  refine dldtp [9] hT (by kernel_rfl) 2 1 rfl (by kernel_rfl) rfl rfl ?_
  refine dldtp [9, 6] hT (by kernel_rfl) 0 2 rfl (by kernel_rfl) rfl rfl ?_
  refine dldtp [9] hT (by kernel_rfl) 0 3 rfl (by kernel_rfl) rfl rfl ?_
  refine dact hT (by kernel_rfl) 1 rfl ?_
  refine cl hT 0 rfl (areaLC pl (by omega)) ?_
  rintro v34 K34 hs34 ⟨rfl, rfl, rfl⟩
  refine dnex [pt b3 #[.pointer (some ⟨lb, 0, none⟩)] 35, pt lb (lgA wb db hb' eb L (.slice aV L.sn.vot.length cV) (.slice aD L.sn.data.length cD) (.slice aL L.l.length cL)) 91, pt b8 #[.int .u64 ((pl : Nat) : Int)] 23, pt b9 #[.int .i64 ((i : Nat) : Int)] 3] (by simp) (by simp) rfl ?_
  refine dact hT (by kernel_rfl) 0 rfl ?_
  refine cl hT 0 rfl (Ct.at 10 rfl (writeH db D' (c + i) oD'.ok (by omega) hD' (lgA4 pl) i (by unfold lgA4; omega) _ b.length b (.inl rfl) xb)) ?_
  rintro v37 K37 hs37 ⟨dh2, rfl, le3, hD2, rfl⟩
  rw [<- hE'] at hD2 ⊢
  refine dnexL [pt b3 #[.pointer (some ⟨lb, 0, none⟩)] 35, pt lb (lgA wb db hb' eb L (.slice aV L.sn.vot.length cV) (.slice aD L.sn.data.length cD) (.slice aL L.l.length cL)) 91, pt b8 #[.int .u64 ((pl : Nat) : Int)] 23, pt b9 #[.int .i64 ((i : Nat) : Int)] 3] (by simp) (by simp) le3 ?_
  refine dact hT (by kernel_rfl) 0 rfl ?_
  refine cl hT 0 rfl (Ct.at 5 rfl (didLC lb wb db hb' eb L _ _ _ _)) ?_
  rintro v38 K38 hs38 ⟨_, rfl, rfl, rfl, rfl⟩
  have ed : didV L.code E.2 = E.2 := by unfold didV; rw [if_pos hcode]
  rw [ed]
  refine dnext (.inl (by kernel_rfl)) ?_
  refine dcbS hT (by kernel_rfl) 0 (E.2 ≠ 0) rfl (by simp) fun b39 h39 => ?_
  refine dend hT (by kernel_rfl) 0 rfl (nxX (thX (ifPX h39 rfl (fun e1 => ?_) (fun e1 => ?_))))
  ·rw [if_pos e1] at hw
   refine sqX (rgX ?_)
   refine ldp hT 0 4 rfl rfl rfl ?_
   refine ldp hT 2 5 rfl rfl rfl ?_
   refine stp hT 0 2 rfl rfl rfl rfl ?_
   refine fin hT 0 rfl (nxX (thX (rtX (rTX (rBX ?_)))))
   refine jmpR (hs' := pt b9 #[.int .i64 ((i : Nat) : Int)] 3 :: pt b8 #[.int .u64 ((pl : Nat) : Int)] 23 :: pt b6 #[.int .i64 E.2] 42 :: pt b4 (snV s aS cS aT cT) 32 :: pt b3 #[.pointer (some ⟨lb, 0, none⟩)] 35 :: pt lb (lgA wb db hb' eb { L with code := E.2 } (.slice aV L.sn.vot.length cV) (.slice aD L.sn.data.length cD) (.slice aL L.l.length cL)) 91 :: wh :: hh :: eh :: gl :: dh2 :: hs) rfl ?_
   rw [<- hw]
   exact ⟨rfl, le2.trans le3, e1, _, dh2, rfl, hD2⟩
  ·have e1 := Decidable.not_not.1 e1
   rw [if_neg (by rw [e1]; simp)] at hw
   have eL : ({ L with code := E.2 } : Lg) = L := by rw [e1, <- hcode]
   rw [eL]
   refine skX (thX (rgX ?_))
   refine ldp hT 0 0 rfl rfl rfl ?_
   refine ar hT 0 rfl (i64w (x := ((i + 1 : Nat) : Int)) (by omega)) ?_
   refine stp hT 0 0 rfl rfl rfl rfl ?_
   refine fin hT 0 rfl (nxX (blX (rndX (hs' := pt b9 #[.int .i64 ((i + 1 : Nat) : Int)] 3 :: pt b8 #[.int .u64 ((pl : Nat) : Int)] 23 :: pt b6 #[.int .i64 0] 42 :: pt b4 (snV s aS cS aT cT) 32 :: pt b3 #[.pointer (some ⟨lb, 0, none⟩)] 35 :: pt lb (lgA wb db hb' eb L (.slice aV L.sn.vot.length cV) (.slice aD L.sn.data.length cD) (.slice aL L.l.length cL)) 91 :: wh :: hh :: eh :: gl :: dh2 :: hs) rfl ?_)))
   refine ⟨le2.trans le3, E.1, dh2, rfl, ?_, oE, hD2⟩
   rw [List.drop_drop] at hw
   rw [show s.data.length + 1 - (i + 1) = f from by omega, show 64 * (i + 1) = 64 * i + 64 from by omega]
   exact hw
 ·rintro DD K2 hs' ⟨le2, D', dh', rfl, hw, oD1, hD'⟩
  rw [chk_len] at hw oD1
  have hdr : s.data.drop (64 * ((s.data.length + 63) / 64)) = [] := List.drop_eq_nil_of_le (by omega)
  obtain ⟨f, hf⟩ : ∃ f, s.data.length + 1 - (s.data.length + 63) / 64 = f + 1 := ⟨s.data.length - (s.data.length + 63) / 64, by omega⟩
  rw [hdr, hf, lgW_step, if_pos rfl] at hw
  rw [<- hw] at hR
  rw [if_neg (by simp)] at hR
  dsimp only at hR
  unfold Lg.lay1 at hR
  rw [<- hplE] at hR
  have le12 := le1.trans le2
  obtain ⟨c1, hc1⟩ : ∃ c1, c1 = c + (s.data.length + 63) / 64 := ⟨_, rfl⟩
  rw [<- hc1] at oD1
  have hc1b : c1 <= c + 32768 := by omega
  obtain ⟨E, hEE⟩ : ∃ E, E = D'.sync (lgA4 pl) := ⟨_, rfl⟩
  have oE := oD1.sync (lgA4 pl)
  rw [<- hEE] at hR oE
  refine blX (thX (WX.perm (hs' := pt b9 #[.int .i64 (((chk aT s.data.length).length : Nat) : Int)] 3 :: pt b8 #[.int .u64 ((pl : Nat) : Int)] 23 :: pt b6 #[.int .i64 0] 42 :: pt b4 (snV s aS cS aT cT) 32 :: pt b3 #[.pointer (some ⟨lb, 0, none⟩)] 35 :: pt lb (lgA wb db hb' eb L (.slice aV L.sn.vot.length cV) (.slice aD L.sn.data.length cD) (.slice aL L.l.length cL)) 91 :: wh :: hh :: eh :: gl :: dh' :: (hs ++ [dfr DD])) (List.Perm.refl _) (WX.drop ?_)))
  refine sqX (sqX (rgaX [pt b3 #[.pointer (some ⟨lb, 0, none⟩)] 35, pt lb (lgA wb db hb' eb L (.slice aV L.sn.vot.length cV) (.slice aD L.sn.data.length cD) (.slice aL L.l.length cL)) 91, pt b8 #[.int .u64 ((pl : Nat) : Int)] 23] 8 [0, 2, 4, 6, 8, 10, 13, 15, 17, 18] (by simp) (by kernel_rfl) (by kernel_rfl) ?_))
  refine dldtp [] hT (by kernel_rfl) 0 0 rfl (by kernel_rfl) rfl rfl ?_
  refine dldtp [7, 4, 3, 2] hT (by kernel_rfl) 0 0 rfl (by kernel_rfl) rfl rfl ?_
  refine dldtp [7] hT (by kernel_rfl) 2 1 rfl (by kernel_rfl) rfl rfl ?_
  refine dldtp [7, 6] hT (by kernel_rfl) 0 2 rfl (by kernel_rfl) rfl rfl ?_
  refine dact hT (by kernel_rfl) 0 rfl ?_
  refine cl hT 0 rfl (areaLC pl (by omega)) ?_
  rintro v52 K52 hs52 ⟨rfl, rfl, rfl⟩
  refine dnex [pt b3 #[.pointer (some ⟨lb, 0, none⟩)] 35, pt lb (lgA wb db hb' eb L (.slice aV L.sn.vot.length cV) (.slice aD L.sn.data.length cD) (.slice aL L.l.length cL)) 91, pt b8 #[.int .u64 ((pl : Nat) : Int)] 23] (by simp) (by simp) rfl ?_
  refine dact hT (by kernel_rfl) 0 rfl ?_
  refine cl hT 0 rfl (Ct.at 9 rfl (syncH db D' c1 oD1.ok (by omega) hD' (lgA4 pl))) ?_
  rintro v53 K53 hs53 ⟨dh2, rfl, rfl, hD2, rfl⟩
  rw [<- hEE] at hD2 ⊢
  refine dnex [pt b3 #[.pointer (some ⟨lb, 0, none⟩)] 35, pt lb (lgA wb db hb' eb L (.slice aV L.sn.vot.length cV) (.slice aD L.sn.data.length cD) (.slice aL L.l.length cL)) 91, pt b8 #[.int .u64 ((pl : Nat) : Int)] 23] (by simp) (by simp) rfl ?_
  refine dact hT (by kernel_rfl) 0 rfl ?_
  refine cl hT 0 rfl (Ct.at 4 rfl (didLC lb wb db hb' eb L _ _ _ _)) ?_
  rintro v54 K54 hs54 ⟨_, rfl, rfl, rfl, rfl⟩
  have ed : didV L.code E.2 = E.2 := by unfold didV; rw [if_pos hcode]
  rw [ed]
  refine dnext (.inl (by kernel_rfl)) ?_
  refine dcbS hT (by kernel_rfl) 0 (E.2 ≠ 0) rfl (by simp) fun b55 h55 => ?_
  refine dend hT (by kernel_rfl) 0 rfl (nxX (thX (ifPX h55 rfl (fun e2 => ?_) (fun e2 => ?_))))
  ·rw [if_pos e2] at hR
   refine sqX (rgX ?_)
   refine ldp hT 0 3 rfl rfl rfl ?_
   refine ldp hT 2 4 rfl rfl rfl ?_
   refine stp hT 0 1 rfl rfl rfl rfl ?_
   refine fin hT 0 rfl (nxX (thX (rtX (rTX ?_))))
   refine retmD DD 4 (hs' := pt b8 #[.int .u64 ((pl : Nat) : Int)] 23 :: pt b6 #[.int .i64 E.2] 42 :: pt b4 (snV s aS cS aT cT) 32 :: pt b3 #[.pointer (some ⟨lb, 0, none⟩)] 35 :: pt lb (lgA wb db hb' eb { L with code := E.2 } (.slice aV L.sn.vot.length cV) (.slice aD L.sn.data.length cD) (.slice aL L.l.length cL)) 91 :: wh :: hh :: eh :: gl :: dh2 :: hs) rfl (.inl rfl) (res_c1 hT 1 rfl rfl rfl rfl rfl) ?_
   rw [hR]
   exact ⟨le12, [_, _, _, _, _, _], rfl, ⟨wb, hb', eb, aV, cV, aD, cD, aL, cL, wh, hh, eh, gl, dh2, rfl, hW.le le12, hH.le le12, hE.le le12, hG.imp fun _ _ h => h.le le12, hD2, xV.le le12, xD.le le12⟩, rfl⟩
  ·have e2 := Decidable.not_not.1 e2
   rw [if_neg (by rw [e2]; simp)] at hR
   have eL : ({ L with code := E.2 } : Lg) = L := by rw [e2, <- hcode]
   rw [eL]
   clear eL
   obtain ⟨E, Ee⟩ := E
   dsimp only at hR hD2 oE
   clear ed h55
   clear hw
   refine skX (thX (sqX (rgX ?_)))
   refine lds hT 1 [.slice aS s.vot.length cS] rfl (by kernel_rfl) (.inr ⟨2, rfl⟩) (cells_sub _ rfl) ?_
   refine cl hT 0 rfl (putConfC aS cS s.vot (.inl rfl) (xS.le le12) (by omega)) ?_
   rintro v63 K63 hs63 ⟨rfl, h63, ao63, c63, rfl, rfl, o63⟩
   unfold Lg.lay2 at hR
   rw [<- hplE] at hR
   obtain ⟨ns, hns⟩ : ∃ ns : List Nat, ns = [s.idx, s.term, pl, s.data.length, fr] := ⟨_, rfl⟩
   have hnsl : ns.length = 5 := by rw [hns]; rfl
   have hnsb : ∀ n ∈ ns, n < 18446744073709551616 := by
    unfold mxU at hst
    rw [hns]
    simp
    omega
   have hfl : ∀ j, ((ns.take j).flatMap uint).length <= 10 * 5 := fun j => by
    have : ∀ l : List Nat, (∀ n ∈ l, n < 18446744073709551616) -> (l.flatMap uint).length <= 10 * l.length := fun l => by
     induction l with
     | nil => simp
     | cons a l ih =>
      intro h
      have h1 := uint_le10 (h a (by simp))
      have h2 := ih (fun n hn => h n (by simp [hn]))
      simp only [List.flatMap_cons, List.length_append, List.length_cons]
      omega
    have h1 := this (ns.take j) (fun n hn => hnsb n (List.mem_of_mem_take hn))
    have h2 : (ns.take j).length <= 5 := by rw [List.length_take]; omega
    omega
   refine fin hT 5 rfl (nxX (thX (sqX (rgX ?_))))
   refine fin hT 1 rfl (nxX (thX (sqX (sqX (rgX ?_)))))
   refine ldp hT 1 3 rfl rfl rfl ?_
   refine ldp hT 1 3 rfl rfl rfl ?_
   refine ldp hT 0 1 rfl rfl rfl ?_
   refine ldp hT 1 3 rfl rfl rfl ?_
   refine ar hT 1 rfl (u64w (x := ((s.data.length : Nat) : Int)) (by omega)) ?_
   refine lit hT 1 #[.int .u64 ((s.idx : Nat) : Int), .int .u64 ((s.term : Nat) : Int), .int .u64 ((pl : Nat) : Int), .int .u64 ((s.data.length : Nat) : Int), .int .u64 ((fr : Nat) : Int)] rfl (by decide) (by kernel_rfl) fun b76 => ?_
   refine fin hT 2 rfl (nxX (thX (bkX (WX.em ?_))))
   refine loopX (σ := Nat × (Option Addr × Nat × PH)) (fun x => [(2, .int .u64 ((fr : Nat) : Int)), (3, .pointer (some ⟨b3, 0, none⟩)), (4, .pointer (some ⟨b4, 0, none⟩)), (6, .pointer (some ⟨b6, 0, none⟩)), (7, .int .u64 ((L.place : Nat) : Int)), (8, .pointer (some ⟨b8, 0, none⟩)), (11, .slice ao63 (ob (putConf s.vot)).length c63), (13, .slice x.2.1 ((ns.take x.1).flatMap uint).length x.2.2.1), (76, .slice (some ⟨b76, 0, none⟩) 5 5), (77, .int .i64 5), (78, .int .i64 ((x.1 : Nat) : Int))]) (fun _ => K63)
    (fun x => x.2.2.2 :: pt b76 #[.int .u64 ((s.idx : Nat) : Int), .int .u64 ((s.term : Nat) : Int), .int .u64 ((pl : Nat) : Int), .int .u64 ((s.data.length : Nat) : Int), .int .u64 ((fr : Nat) : Int)] 23 :: h63 :: pt b8 #[.int .u64 ((pl : Nat) : Int)] 23 :: pt b6 #[.int .i64 0] 42 :: pt b4 (snV s aS cS aT cT) 32 :: pt b3 #[.pointer (some ⟨lb, 0, none⟩)] 35 :: pt lb (lgA wb db hb' eb L (.slice aV L.sn.vot.length cV) (.slice aD L.sn.data.length cD) (.slice aL L.l.length cL)) 91 :: wh :: hh :: eh :: gl :: dh2 :: (hs ++ [dfr DD]))
    (fun x => x.1 <= 5 /\ Own x.2.2.2 x.2.1 ((ns.take x.1).flatMap uint).length x.2.2.1 5 1 (bv ((ns.take x.1).flatMap uint))) (fun x => 5 - x.1) (0, (none, 0, em)) ⟨by omega, Own.nil _ _⟩ ⟨rfl, rfl, rfl, rfl, rfl, rfl, rfl, rfl, rfl, rfl, rfl, trivial⟩ rfl rfl ?_
   rintro ⟨j, ⟨ag, cg, g⟩⟩ ⟨hj, og⟩
   dsimp only at *
   have hflj := hfl j
   refine sqX (rgX ?_)
   refine cmpS hT 0 rfl fun b79 h79 => ?_
   refine fin hT 0 rfl (nxX (thX (sqX (ifPX h79 rfl (fun e4 => ?_) (fun e4 => ?_)))))
   ·have hj5 : j < 5 := by omega
    obtain ⟨n, hn⟩ : ∃ n, ns[j]? = some n := ⟨ns[j], List.getElem?_eq_getElem (by omega)⟩
    have hnb := hnsb n (List.mem_of_getElem? hn)
    have x76 : IsS (pt b76 #[.int .u64 ((s.idx : Nat) : Int), .int .u64 ((s.term : Nat) : Int), .int .u64 ((pl : Nat) : Int), .int .u64 ((s.data.length : Nat) : Int), .int .u64 ((fr : Nat) : Int)] 23) (some ⟨b76, 0, none⟩) 5 5 1 (uvv ns) := by rw [hns]; exact (Own.ofPt (n := 5) (size := 1) rfl (by decide)).isS
    refine skX (thX (sqX (bkX (sqX (rgX ?_)))))
    refine ix1 hT 0 j rfl rfl rfl x76 (uvv_get hn) fun a80 hc80 => ?_
    refine ld hT 0 rfl (.inr ⟨1, rfl⟩) hc80 ?_
    refine fin hT 1 rfl (nxX (thX (rgX ?_)))
    refine cl hT 2 rfl (putUint ag cg _ n og hnb (by omega)) ?_
    rintro v84 K84 hs84 ⟨h84, rfl, rfl, ao84, c84, rfl, o84⟩
    have etk : (ns.take (j + 1)).flatMap uint = (ns.take j).flatMap uint ++ uint n := by rw [List.take_add_one, hn]; simp
    rw [<- etk] at o84 ⊢
    refine fin hT 1 rfl (nxX (blX (thX (rgX ?_))))
    refine ar hT 0 rfl (i64w (x := ((j + 1 : Nat) : Int)) (by omega)) ?_
    refine fin hT 1 rfl (nxX ?_)
    exact againX (x := (j, (ag, cg, g))) (j + 1, (ao84, c84, h84)) ⟨rfl, rfl, rfl, rfl, rfl, rfl, rfl, rfl, rfl, rfl, rfl, trivial⟩ rfl rfl ⟨by dsimp only; omega, o84⟩ (by dsimp only; omega)
   ·obtain rfl : j = 5 := by omega
    have ens : (ns.take 5).flatMap uint = uint s.idx ++ (uint s.term ++ (uint pl ++ (uint s.data.length ++ uint fr))) := by rw [hns]; simp
    obtain ⟨bb, hbb⟩ : ∃ bb, bb = (ns.take 5).flatMap uint := ⟨_, rfl⟩
    have esay : bb ++ ob (putConf s.vot) = Lg.say s pl fr := by rw [hbb, ens]; unfold Lg.say; simp only [List.append_assoc]
    rw [<- hbb] at og hflj ⊢
    have hcl : (ob (putConf s.vot)).length <= 1 := by
     unfold putConf
     split
     ·simp [ob]
     ·simp [ob]
    obtain ⟨F, hF⟩ : ∃ F, F = L.head.save 4 E (Lg.say s pl fr) := ⟨_, rfl⟩
    have oF := oE.save L.head 4 (by omega) (Lg.say s pl fr)
    have hsl : (Lg.say s pl fr).length <= 51 := by rw [<- esay, List.length_append]; omega
    have hHb := Slt.save_bd hb.head 4 E (Lg.say s pl fr)
    rw [<- hF] at oF hR hHb
    refine exX (xtX (xtX (xbX (thX (sqX (sqX (rgaX [pt b3 #[.pointer (some ⟨lb, 0, none⟩)] 35, pt lb (lgA wb db hb' eb L (.slice aV L.sn.vot.length cV) (.slice aD L.sn.data.length cD) (.slice aL L.l.length cL)) 91] 9 [0, 2, 4, 6, 8, 10, 12, 15, 17, 19, 20] (by simp) (by kernel_rfl) (by kernel_rfl) ?_)))))))
    refine dldtp [] hT (by kernel_rfl) 0 0 rfl (by kernel_rfl) rfl rfl ?_
    refine dldtp [8, 4, 3, 2] hT (by kernel_rfl) 0 0 rfl (by kernel_rfl) rfl rfl ?_
    refine dldtp [8] hT (by kernel_rfl) 2 1 rfl (by kernel_rfl) rfl rfl ?_
    refine dact hT (by kernel_rfl) 2 rfl ?_
    refine app hT 0 0 rfl rfl og (.inr ⟨2, rfl⟩) o63.isS rfl (by decide) (bv_one _) (by show (bb.length + (ob (putConf s.vot)).length) * 1 <= _; omega) (by simp only [maxLen]; omega) fun ao93 c93 g93 o93 => ?_
    have o93' : Own g93 ao93 (Lg.say s pl fr).length c93 5 1 (bv (Lg.say s pl fr)) := own_of o93 (by rw [<- esay, List.length_append]) (by rw [<- esay, bv_append])
    have elen : bb.length + (ob (putConf s.vot)).length = (Lg.say s pl fr).length := by rw [<- esay, List.length_append]
    rw [elen]
    refine dnex [pt b3 #[.pointer (some ⟨lb, 0, none⟩)] 35, pt lb (lgA wb db hb' eb L (.slice aV L.sn.vot.length cV) (.slice aD L.sn.data.length cD) (.slice aL L.l.length cL)) 91] (by simp) (by simp) rfl ?_
    refine dact hT (by kernel_rfl) 0 rfl ?_
    refine cl hT 0 rfl (Ct.at2 10 11 rfl rfl (saveSH eb db 4 L.head (hE.le le12) hb.head E (c1 + 1) oE.ok (by omega) hD2 (by omega) (Lg.say s pl fr) ao93 c93 (by omega) (.inr ⟨0, rfl⟩) o93'.isS)) ?_
    rintro v94 K3 hs94 ⟨eh3, dh3, rfl, le3, hE3, hD3, rfl⟩
    rw [<- hF] at hE3 hD3 ⊢
    have le13 := le12.trans le3
    refine dnexL [pt b3 #[.pointer (some ⟨lb, 0, none⟩)] 35, pt lb (lgA wb db hb' eb L (.slice aV L.sn.vot.length cV) (.slice aD L.sn.data.length cD) (.slice aL L.l.length cL)) 91] (by simp) (by simp) le3 ?_
    refine dact hT (by kernel_rfl) 0 rfl ?_
    refine cl hT 0 rfl (Ct.at 7 rfl (didLC lb wb db hb' eb L _ _ _ _)) ?_
    rintro v95 K95 hs95 ⟨_, rfl, rfl, rfl, rfl⟩
    have ed : didV L.code F.2.2 = F.2.2 := by unfold didV; rw [if_pos hcode]
    rw [ed]
    refine dnext (.inl (by kernel_rfl)) ?_
    refine dcbS hT (by kernel_rfl) 0 (F.2.2 ≠ 0) rfl (by simp) fun b96 h96 => ?_
    refine dend hT (by kernel_rfl) 0 rfl (nxX (thX (WX.drop (WX.drop (WX.drop (ifPX h96 rfl (fun e5 => ?_) (fun e5 => ?_)))))))
    ·rw [if_pos e5] at hR
     refine sqX (rgX ?_)
     refine ldp hT 0 3 rfl rfl rfl ?_
     refine ldp hT 2 4 rfl rfl rfl ?_
     refine stp hT 0 1 rfl rfl rfl rfl ?_
     refine fin hT 0 rfl (nxX (thX (rtX (rTX ?_))))
     refine retmD DD 4 (hs' := pt b8 #[.int .u64 ((pl : Nat) : Int)] 23 :: pt b6 #[.int .i64 F.2.2] 42 :: pt b4 (snV s aS cS aT cT) 32 :: pt b3 #[.pointer (some ⟨lb, 0, none⟩)] 35 :: pt lb (lgA wb db hb' eb { L with code := F.2.2 } (.slice aV L.sn.vot.length cV) (.slice aD L.sn.data.length cD) (.slice aL L.l.length cL)) 91 :: wh :: hh :: eh3 :: gl :: dh3 :: hs) rfl (.inl rfl) (res_c1 hT 1 rfl rfl rfl rfl rfl) ?_
     rw [hR]
     exact ⟨le13, [_, _, _, _, _, _], rfl, ⟨wb, hb', eb, aV, cV, aD, cD, aL, cL, wh, hh, eh3, gl, dh3, rfl, hW.le le13, hH.le le13, hE3, hG.imp fun _ _ h => h.le le13, hD3, xV.le le13, xD.le le13⟩, rfl⟩
    ·have e5 := Decidable.not_not.1 e5
     rw [if_neg (by rw [e5]; simp)] at hR
     have eL : ({ L with code := F.2.2 } : Lg) = L := by rw [e5, <- hcode]
     rw [eL]
     clear eL ed h96
     obtain ⟨H, D3, F2⟩ := F
     dsimp only at hR oF hHb hE3 hD3 e5
     subst e5
     unfold Lg.lay3 at hR
     have hbH : LBd c { L with head := H } := ⟨hb.w, hb.hard, hHb, hb.kt, hb.kv, hb.idx, hb.st, hb.vot, hb.data, hb.place, hb.fr, hb.len, hb.ents⟩
     have hmH : LgM K95 lb db { L with head := H } D3 [pt lb (lgA wb db hb' eb L (.slice aV L.sn.vot.length cV) (.slice aD L.sn.data.length cD) (.slice aL L.l.length cL)) 91, wh, hh, eh3, gl, dh3] :=
      ⟨wb, hb', eb, aV, cV, aD, cD, aL, cL, wh, hh, eh3, gl, dh3, rfl, hW.le le13, hH.le le13, hE3, hG.imp fun _ _ h => h.le le13, hD3, xV.le le13, xD.le le13⟩
     have hG3 := hG.imp (R' := EntC K95) fun _ _ h => h.le le13
     refine skX (thX (WX.perm (hs' := [pt lb (lgA wb db hb' eb L (.slice aV L.sn.vot.length cV) (.slice aD L.sn.data.length cD) (.slice aL L.l.length cL)) 91, wh, hh, eh3, gl, dh3] ++ (pt b8 #[.int .u64 ((pl : Nat) : Int)] 23 :: pt b6 #[.int .i64 0] 42 :: pt b4 (snV s aS cS aT cT) 32 :: pt b3 #[.pointer (some ⟨lb, 0, none⟩)] 35 :: (hs ++ [dfr DD]))) (List.perm_append_comm_assoc [_, _, _, _] [_, _, _, _, _, _] (hs ++ [dfr DD])) ?_))
     refine sqX (rgX ?_)
     refine ldp hT 0 9 rfl rfl rfl ?_
     refine ldp hT 1 8 rfl rfl rfl ?_
     refine cl hT 0 rfl (atLC lb db { L with head := H } D3 c hbH (by omega) hmH s.idx (by omega)) ?_
     rintro v105 K105 hs105 ⟨rfl, rfl, rfl⟩
     obtain ⟨NL, hNL⟩ : ∃ NL, NL = if lgHas L.sn L.l s = true then L.l.drop ((lgAt L.sn L.l s.idx).getD 0 + 1) else [] := ⟨_, rfl⟩
     have hNl : NL.length <= L.l.length := by rw [hNL]; split <;> simp
     refine fin hT 5 rfl (nxX (thX (jnZ (σ := Option Addr × Nat × PH) (fun _ => [(2, .int .u64 ((fr : Nat) : Int)), (3, .pointer (some ⟨b3, 0, none⟩)), (4, .pointer (some ⟨b4, 0, none⟩)), (6, .pointer (some ⟨b6, 0, none⟩)), (7, .int .u64 ((L.place : Nat) : Int)), (8, .pointer (some ⟨b8, 0, none⟩))]) (fun _ => K105)
      (fun x => pt lb (lgA wb db hb' eb L (.slice aV L.sn.vot.length cV) (.slice aD L.sn.data.length cD) (.slice x.1 NL.length x.2.1)) 91 :: wh :: hh :: eh3 :: x.2.2 :: dh3 :: pt b8 #[.int .u64 ((pl : Nat) : Int)] 23 :: pt b6 #[.int .i64 0] 42 :: pt b4 (snV s aS cS aT cT) 32 :: pt b3 #[.pointer (some ⟨lb, 0, none⟩)] 35 :: (hs ++ [dfr DD])) (fun x => SlZ 4 46 (EntC K105) x.2.2 x.1 NL.length x.2.1 NL) ?_ ?_)))
     ·refine sqX (rgX ?_)
      refine ldp hT 0 9 rfl rfl rfl ?_
      refine ldS hT 0 8 rfl rfl (by kernel_rfl) ?_
      refine cl hT 0 rfl (hasLC (hv := K105) lb db { L with head := H } D3 c hbH (by omega) hmH s (by omega) aS cS aT cT) ?_
      rintro v110 K110 hs110 ⟨rfl, rfl, rfl⟩
      refine fin hT 0 rfl (nxX (thX ?_))
      cases hhas : lgHas L.sn L.l s with
      | true =>
       rw [if_pos hhas] at hNL
       obtain ⟨k, hk, hkl⟩ : ∃ k, lgAt L.sn L.l s.idx = some k /\ k < L.l.length := by
        unfold lgHas at hhas
        rw [trm_at, if_neg (by omega)] at hhas
        cases h : lgAt L.sn L.l s.idx with
        | none => rw [h] at hhas; simp at hhas
        | some k => exact ⟨k, rfl, (lgAt_some h).2.2.2⟩
       have hk0 : (lgAt L.sn L.l s.idx).getD 0 = k := by rw [hk]; rfl
       rw [hk0] at hNL
       have hNL2 : NL.length = L.l.length - (k + 1) := by rw [hNL, List.length_drop]
       have hcap := hG3.caps
       have xcut := hG3.slS.cut (k + 1) (by omega)
       rw [<- hNL, <- hNL2] at xcut
       refine ifTX rfl ?_
       refine rgaX [pt b3 #[.pointer (some ⟨lb, 0, none⟩)] 35, pt lb (lgA wb db hb' eb L (.slice aV L.sn.vot.length cV) (.slice aD L.sn.data.length cD) (.slice aL L.l.length cL)) 91] 11 [0, 2, 4, 6, 8, 10, 12, 14, 17, 18, 20, 23] (by simp) (by kernel_rfl) (by kernel_rfl) ?_
       refine dldpw hT (by kernel_rfl) 0 0 rfl (by kernel_rfl) rfl rfl ?_
       refine dldpw hT (by kernel_rfl) 0 0 rfl (by kernel_rfl) rfl rfl ?_
       refine dldpw hT (by kernel_rfl) 2 1 rfl (by kernel_rfl) rfl rfl ?_
       refine dar hT (by kernel_rfl) 1 rfl (v' := .int .i64 ((k + 1 : Nat) : Int)) (by show Value.int .i64 (IntKind.i64.wrap ((((lgAt L.sn L.l s.idx).getD 0 : Nat) : Int) + 1)) = _; rw [hk0]; exact i64w (by omega)) ?_
       refine dslx hT (by kernel_rfl) 0 (k + 1) NL.length rfl rfl rfl (by show ((L.l.length : Nat) : Int) = _; omega) (by omega) ?_
       refine dact hT (by kernel_rfl) 0 rfl ?_
       refine cl hT 0 rfl (cloneEC _ NL.length _ NL (.inr ⟨4, rfl⟩) xcut (by omega)) ?_
       rintro v119 K119 hs119 ⟨rfl, h119, ao119, c119, rfl, rfl, o119⟩
       refine dnex [pt b3 #[.pointer (some ⟨lb, 0, none⟩)] 35, pt lb (lgA wb db hb' eb L (.slice aV L.sn.vot.length cV) (.slice aD L.sn.data.length cD) (.slice aL L.l.length cL)) 91] (by simp) (by simp) rfl ?_
       refine dact hT (by kernel_rfl) 2 rfl ?_
       refine stp hT 0 1 rfl rfl rfl rfl ?_
       refine WL.perm (hs' := [_, _, _, _] ++ (h119 :: _)) (List.perm_middle (l₁ := [_, _, _, _])).symm ?_
       refine dnext (.inl (by kernel_rfl)) ?_
       refine dend hT (by kernel_rfl) 0 rfl (nxX (WQX.perm (perm_front _ 5 gl rfl) (WQX.drop ?_)))
       exact jxZ (ao119, c119, h119) o119 ⟨rfl, rfl, rfl, rfl, rfl, rfl, trivial⟩ rfl rfl
      | false =>
       rw [if_neg (by rw [hhas]; simp)] at hNL
       refine ifFX rfl ?_
       refine rgX ?_
       refine ldp hT 0 9 rfl rfl rfl ?_
       refine stp hT 2 0 rfl rfl rfl rfl ?_
       refine WL.loss 4 em rfl (.inr rfl) ?_
       refine fin hT 0 rfl (nxX ?_)
       exact jxZ (none, 0, em) (by rw [hNL]; exact SlZ.nil _ _) ⟨rfl, rfl, rfl, rfl, rfl, rfl, trivial⟩ rfl (by rw [hNL]; rfl)
     ·rintro ⟨aN, cN, gN⟩ oN
      dsimp only at *
      have eLd : L.laid s fr H = { L with head := H, l := NL, place := pl, fr := fr, sn := s } := by unfold Lg.laid; rw [<- hNL, <- hplE]
      obtain ⟨G, hGE⟩ : ∃ G, G = D3.free (lgA4 L.place) := ⟨_, rfl⟩
      rw [eLd, <- hGE] at hR
      refine sqX (rgaX [pt b3 #[.pointer (some ⟨lb, 0, none⟩)] 35, pt b8 #[.int .u64 ((pl : Nat) : Int)] 23] 10 [0, 2, 4, 6, 8, 10, 13, 14, 16, 19] (by simp) (by kernel_rfl) (by kernel_rfl) ?_)
      refine dldpw hT (by kernel_rfl) 0 0 rfl (by kernel_rfl) rfl rfl ?_
      refine dldpw hT (by kernel_rfl) 0 0 rfl (by kernel_rfl) rfl rfl ?_
      refine dldpw hT (by kernel_rfl) 0 1 rfl (by kernel_rfl) rfl rfl ?_
      refine dact hT (by kernel_rfl) 3 rfl ?_
      refine stp hT 0 0 rfl rfl rfl rfl ?_
      refine dnex [pt b3 #[.pointer (some ⟨lb, 0, none⟩)] 35, pt b8 #[.int .u64 ((pl : Nat) : Int)] 23] (by simp) (by simp) rfl ?_
      refine dact hT (by kernel_rfl) 2 rfl ?_
      refine stp hT 0 0 rfl rfl rfl rfl ?_
      refine dnex [pt b3 #[.pointer (some ⟨lb, 0, none⟩)] 35, pt b8 #[.int .u64 ((pl : Nat) : Int)] 23] (by simp) (by simp) rfl ?_
      refine dend hT (by kernel_rfl) 0 rfl (nxX (thX (sqX (rgX ?_))))
      refine ldp hT 0 9 rfl rfl rfl ?_
      refine ldS hT 0 8 rfl rfl (by kernel_rfl) ?_
      refine sts hT 2 0 rfl rfl (by kernel_rfl) (by simp [lgA, snV]) (fun v hv => by simp [snV] at hv; rcases hv with rfl | rfl | rfl | rfl <;> rfl) ?_
      refine WL.hs (pt lb (lgA wb db hb' eb { L with head := H, l := NL, place := pl, fr := fr, sn := s } (.slice aS s.vot.length cS) (.slice aT s.data.length cT) (.slice aN NL.length cN)) 91 :: wh :: hh :: eh3 :: gN :: dh3 :: pt b8 #[.int .u64 ((pl : Nat) : Int)] 23 :: pt b6 #[.int .i64 0] 42 :: pt b4 (snV s aS cS aT cT) 32 :: pt b3 #[.pointer (some ⟨lb, 0, none⟩)] 35 :: (hs ++ [dfr DD])) rfl ?_
      refine fin hT 0 rfl (nxX (thX (sqX (rgaX [pt b3 #[.pointer (some ⟨lb, 0, none⟩)] 35, pt b4 (snV s aS cS aT cT) 32] 9 [0, 2, 4, 6, 9, 10, 12, 14, 16, 19] (by simp) (by kernel_rfl) (by kernel_rfl) ?_))))
      refine dldpw hT (by kernel_rfl) 0 0 rfl (by kernel_rfl) rfl rfl ?_
      refine dldpw hT (by kernel_rfl) 2 1 rfl (by kernel_rfl) rfl rfl ?_
      refine dact hT (by kernel_rfl) 0 rfl ?_
      refine cl hT 0 rfl (cloneIC aS cS s.vot (.inl rfl) (xS.le le13) (by omega)) ?_
      rintro v141 K4 hs141 ⟨le4, rfl, aV2, cV2, rfl, xV2⟩
      refine dnexL [pt b3 #[.pointer (some ⟨lb, 0, none⟩)] 35, pt b4 (snV s aS cS aT cT) 32] (by simp) (by simp) le4 ?_
      refine dact hT (by kernel_rfl) 4 rfl ?_
      refine stp hT 0 0 rfl rfl rfl rfl ?_
      refine dnex [pt b3 #[.pointer (some ⟨lb, 0, none⟩)] 35, pt b4 (snV s aS cS aT cT) 32] (by simp) (by simp) rfl ?_
      refine dend hT (by kernel_rfl) 0 rfl (nxX (thX (sqX (rgaX [pt b3 #[.pointer (some ⟨lb, 0, none⟩)] 35, pt b4 (snV s aS cS aT cT) 32] 7 [0, 2, 4, 7, 8, 10, 12, 15] (by simp) (by kernel_rfl) (by kernel_rfl) ?_))))
      refine dldpw hT (by kernel_rfl) 0 0 rfl (by kernel_rfl) rfl rfl ?_
      refine dldpw hT (by kernel_rfl) 1 1 rfl (by kernel_rfl) rfl rfl ?_
      refine dact hT (by kernel_rfl) 0 rfl ?_
      have le14 := le13.trans le4
      refine cl hT 0 rfl (cloneB aT cT s.data (.inl rfl) (xT.le le14) (by omega)) ?_
      rintro v149 K149 hs149 ⟨rfl, h149, aD2, cD2, rfl, rfl, oD2⟩
      refine WL.frz fun K5 le5 l5 => ?_
      have xD2 := oD2.isS.le l5
      refine dnexL [pt b3 #[.pointer (some ⟨lb, 0, none⟩)] 35, pt b4 (snV s aS cS aT cT) 32] (by simp) (by simp) le5 ?_
      refine dact hT (by kernel_rfl) 3 rfl ?_
      refine stp hT 0 0 rfl rfl rfl rfl ?_
      refine dnex [pt b3 #[.pointer (some ⟨lb, 0, none⟩)] 35, pt b4 (snV s aS cS aT cT) 32] (by simp) (by simp) rfl ?_
      refine dend hT (by kernel_rfl) 0 rfl (nxX (thX (WX.perm (hs' := pt lb (lgA wb db hb' eb { L with head := H, l := NL, place := pl, fr := fr, sn := s } (.slice aV2 s.vot.length cV2) (.slice aD2 s.data.length cD2) (.slice aN NL.length cN)) 91 :: wh :: hh :: eh3 :: gN :: dh3 :: pt b8 #[.int .u64 ((pl : Nat) : Int)] 23 :: pt b6 #[.int .i64 0] 42 :: pt b4 (snV s aS cS aT cT) 32 :: pt b3 #[.pointer (some ⟨lb, 0, none⟩)] 35 :: (hs ++ [dfr DD])) (List.Perm.refl _) (sqX (rgaX [pt b3 #[.pointer (some ⟨lb, 0, none⟩)] 35, pt lb (lgA wb db hb' eb { L with head := H, l := NL, place := pl, fr := fr, sn := s } (.slice aV2 s.vot.length cV2) (.slice aD2 s.data.length cD2) (.slice aN NL.length cN)) 91] 8 [0, 2, 4, 6, 8, 10, 13, 15, 17, 19] (by simp) (by kernel_rfl) (by kernel_rfl) ?_)))))
      refine dldtp [] hT (by kernel_rfl) 0 0 rfl (by kernel_rfl) rfl rfl ?_
      refine dldtp [7, 4, 3, 2] hT (by kernel_rfl) 0 0 rfl (by kernel_rfl) rfl rfl ?_
      refine dldtp [7] hT (by kernel_rfl) 2 1 rfl (by kernel_rfl) rfl rfl ?_
      refine dact hT (by kernel_rfl) 1 rfl ?_
      refine cl hT 0 rfl (areaLC L.place (by omega)) ?_
      rintro v159 K159 hs159 ⟨rfl, rfl, rfl⟩
      refine dnex [pt b3 #[.pointer (some ⟨lb, 0, none⟩)] 35, pt lb (lgA wb db hb' eb { L with head := H, l := NL, place := pl, fr := fr, sn := s } (.slice aV2 s.vot.length cV2) (.slice aD2 s.data.length cD2) (.slice aN NL.length cN)) 91] (by simp) (by simp) rfl ?_
      refine dact hT (by kernel_rfl) 0 rfl ?_
      have le45 := le4.trans le5
      refine cl hT 0 rfl (Ct.at 5 rfl (freeH db D3 (c1 + 1 + 2) oF.ok (by omega) (hD3.le le45) (lgA4 L.place))) ?_
      rintro v160 K160 hs160 ⟨dh4, rfl, rfl, hD4, rfl⟩
      rw [<- hGE] at hD4 ⊢
      refine dnex [pt b3 #[.pointer (some ⟨lb, 0, none⟩)] 35, pt lb (lgA wb db hb' eb { L with head := H, l := NL, place := pl, fr := fr, sn := s } (.slice aV2 s.vot.length cV2) (.slice aD2 s.data.length cD2) (.slice aN NL.length cN)) 91] (by simp) (by simp) rfl ?_
      refine dact hT (by kernel_rfl) 0 rfl ?_
      refine cl hT 0 rfl (didLC lb wb db hb' eb { L with head := H, l := NL, place := pl, fr := fr, sn := s } _ _ _ _) ?_
      rintro v161 K161 hs161 ⟨_, rfl, rfl, rfl, rfl⟩
      have ed : didV L.code G.2 = G.2 := by unfold didV; rw [if_pos hcode]
      rw [ed]
      refine dnext (.inl (by kernel_rfl)) ?_
      refine dact hT (by kernel_rfl) 0 rfl ?_
      refine stp hT 0 7 rfl rfl rfl rfl ?_
      refine dnext (.inl (by kernel_rfl)) ?_
      refine dend hT (by kernel_rfl) 0 rfl (nxX (thX (rtX ?_)))
      refine WQX.perm (hs' := [pt b8 #[.int .u64 ((pl : Nat) : Int)] 23, pt b6 #[.int .i64 G.2] 42, pt b4 (snV s aS cS aT cT) 32, pt b3 #[.pointer (some ⟨lb, 0, none⟩)] 35] ++ ([pt lb (lgA wb db hb' eb { L with head := H, l := NL, place := pl, fr := fr, sn := s, code := G.2 } (.slice aV2 s.vot.length cV2) (.slice aD2 s.data.length cD2) (.slice aN NL.length cN)) 91, wh, hh, eh3, gN, dh4] ++ (hs ++ [dfr DD]))) (List.perm_append_comm_assoc [_, _, _, _, _, _] [_, _, _, _] (hs ++ [dfr DD])) ?_
      refine retmD DD 4 (hs' := pt b8 #[.int .u64 ((pl : Nat) : Int)] 23 :: pt b6 #[.int .i64 G.2] 42 :: pt b4 (snV s aS cS aT cT) 32 :: pt b3 #[.pointer (some ⟨lb, 0, none⟩)] 35 :: pt lb (lgA wb db hb' eb { L with head := H, l := NL, place := pl, fr := fr, sn := s, code := G.2 } (.slice aV2 s.vot.length cV2) (.slice aD2 s.data.length cD2) (.slice aN NL.length cN)) 91 :: wh :: hh :: eh3 :: gN :: dh4 :: hs) rfl (.inl rfl) (res_c1 hT 1 rfl rfl rfl rfl rfl) ?_
      rw [hR]
      exact ⟨le13.trans le45, [_, _, _, _, _, _], rfl, ⟨wb, hb', eb, aV2, cV2, aD2, cD2, aN, cN, wh, hh, eh3, gN, dh4, rfl, (hW.le le13).le le45, (hH.le le13).le le45, hE3.le le45, oN.imp fun _ _ h => h.le le45, hD4, xV2.le le5, xD2⟩, rfl⟩
 ·rintro DD c' K' hs' ⟨rfl, le2, e0, x, dh', rfl, hD'⟩
  rw [if_pos e0] at hR
  refine rtX (retmD DD 5 (hs' := x :: pt b8 #[.int .u64 ((pl : Nat) : Int)] 23 :: pt b6 #[.int .i64 R0.2] 42 :: pt b4 (snV s aS cS aT cT) 32 :: pt b3 #[.pointer (some ⟨lb, 0, none⟩)] 35 :: pt lb (lgA wb db hb' eb { L with code := R0.2 } (.slice aV L.sn.vot.length cV) (.slice aD L.sn.data.length cD) (.slice aL L.l.length cL)) 91 :: wh :: hh :: eh :: gl :: dh' :: hs) rfl (.inl rfl) (res_c1 hT 2 rfl rfl rfl rfl rfl) ?_)
  have le := le1.trans le2
  rw [hR]
  exact ⟨le, [_, _, _, _, _, _], rfl, ⟨wb, hb', eb, aV, cV, aD, cD, aL, cL, wh, hh, eh, gl, dh', rfl, hW.le le, hH.le le, hE.le le, hG.imp fun _ _ h => h.le le, hD', xV.le le, xD.le le⟩, rfl⟩
end Go.Proofs.YtneeeblghijmgaaGreat
end
section
namespace Go.En
theorem putConf_len {l : List Int} (h : (putConf l).isSome = true) : l.length <= 7 := by
 unfold putConf at h
 split at h
 ·rename_i h1
  have := confOK_len l (-1) h1.2 (by omega) (by omega)
  omega
 ·simp at h
theorem DOk.lgW (place : Nat) (hp : lgA4 place <= 18446744073709551615) : ∀ (f n : Nat) (b : List UInt8) (D : Dk) (c : Nat), DOk c D -> DOk (c + (b.length + 63) / 64) (lgW place f n b D).1
 | 0, _, _, D, c, o => o.up (by omega)
 | f + 1, n, b, D, c, o => by
  rw [lgW_step]
  split
  ·exact o.up (by omega)
  ·rename_i hb
   have hbl : 0 < b.length := by cases b with | nil => exact absurd rfl hb | cons a l => simp
   have h1 := o.write (lgA4 place) n (b.take 64) (by omega)
   split
   ·exact h1.up (by omega)
   ·have := DOk.lgW place hp f (n + 1) (b.drop 64) _ _ h1
    rw [List.length_drop] at this
    exact this.up (by omega)
theorem lay_code (L : Lg) (s : Snp) (fr : Nat) (D : Dk) : (L.lay s fr D).1.code = (L.lay s fr D).2.2 := by
 unfold Lg.lay
 split
 ·rfl
 ·unfold Lg.lay1
  split
  ·rfl
  ·unfold Lg.lay2
   split
   ·rfl
   ·rfl
structure SBd (s : Snp) : Prop where
 idx : s.idx <= lgTop
 term : s.term <= mxU
 vot : s.vot.length <= 7
 data : s.data.length <= 2097152
theorem LBd.lay {c : Nat} {L : Lg} (o : LBd c L) (s : Snp) (hs : SBd s) (fr : Nat) (hfr : fr <= wMany + (c + 1)) (D : Dk) : LBd (c + 1) (L.lay s fr D).1 := by
 have hc : ∀ k, LBd (c + 1) { L with code := k } := fun k => o.wc (W := L.w) (o.w.up (Nat.le_succ c)) (Nat.le_succ c) k
 unfold Lg.lay
 split
 ·exact hc _
 ·unfold Lg.lay1
  split
  ·exact hc _
  ·unfold Lg.lay2
   have hH := Slt.save_bd o.head 4 ((lgW (L.place + 1) (s.data.length + 1) 0 s.data D).1.sync (lgA4 (L.place + 1))).1 (Lg.say s (L.place + 1) fr)
   split
   ·exact ⟨o.w.up (Nat.le_succ c), o.hard, hH, o.kt, o.kv, o.idx, o.st, o.vot, o.data, by have := o.place; dsimp only; omega, by have := o.fr; dsimp only; omega, by have := o.len; dsimp only; omega, o.ents⟩
   ·unfold Lg.lay3 Lg.laid
    refine ⟨o.w.up (Nat.le_succ c), o.hard, hH, o.kt, o.kv, hs.idx, hs.term, hs.vot, hs.data, by have := o.place; dsimp only; omega, hfr, ?_, ?_⟩
    ·have := o.len
     dsimp only
     split
     ·rw [List.length_drop]; omega
     ·exact Nat.zero_le _
    ·dsimp only
     split
     ·exact fun e he => o.ents e (List.mem_of_mem_drop he)
     ·exact fun e he => by simp at he
theorem DOk.layL {c : Nat} {D : Dk} (d : DOk c D) {L : Lg} (o : LBd c L) (hc : c <= 999000000) (s : Snp) (hs : SBd s) (fr : Nat) : DOk (c + ((s.data.length + 63) / 64 + 4)) (L.lay s fr D).2.1 := by
 have hp := o.place
 unfold lgTop at hp
 have h1 := DOk.lgW (L.place + 1) (by unfold lgA4; omega) (s.data.length + 1) 0 s.data D c d
 unfold Lg.lay
 split
 ·exact h1.up (by omega)
 ·unfold Lg.lay1
  have h2 := h1.sync (lgA4 (L.place + 1))
  split
  ·exact h2.up (by omega)
  ·unfold Lg.lay2
   have h3 := h2.save L.head 4 (by omega) (Lg.say s (L.place + 1) fr)
   split
   ·exact h3.up (by omega)
   ·unfold Lg.lay3
    exact (h3.free (lgA4 L.place)).up (by omega)
theorem DOk.syncL {c : Nat} {D : Dk} (d : DOk c D) (L : Lg) : DOk (c + 1) (L.sync D).2.1 := by
 unfold Lg.sync
 split
 ·exact d.up (by omega)
 ·exact d.syncW L.w
theorem sync_code (L : Lg) (D : Dk) : (L.sync D).1.code = (L.sync D).2.2 := by
 unfold Lg.sync
 split <;> rfl
theorem sync_sn (L : Lg) (D : Dk) : (L.sync D).1.sn = L.sn /\ (L.sync D).1.l = L.l /\ (L.sync D).1.fr = L.fr := by
 unfold Lg.sync
 split <;> exact ⟨rfl, rfl, rfl⟩
end Go.En
namespace Go.Proofs.YtneeeblghijmgaaGreat
open Go.En
attribute [local irreducible] Code.wp wpList Calls
theorem saveLC {w0 : World} {K : PH} {m hs : List PH} (lb db : Nat) (L : Lg) (D : Dk) (c : Nat) (hb : LBd c L) (hc : c <= 499900000) (oD : DOk c D) (hm : LgM K lb db L D m) (s : Snp) (hsi : s.idx < 18446744073709551616) (hst : s.term <= mxU) (hvl : s.vot.length < 1099511627776) (hdl : s.data.length < 1099511627776)
  (aS : Option Addr) (cS : Nat) (aT : Option Addr) (cT : Nat) (xS : IsS K aS s.vot.length cS 1 (iv s.vot)) (xT : IsS K aT s.data.length cT 1 (bv s.data)) :
  Ct Tryz.prog w0 44 [.pointer (some ⟨lb, 0, none⟩), .agg (snV s aS cS aT cT)] K (m ++ hs)
   (fun u K' hs' => Le K K' /\ ∃ m', hs' = m' ++ hs /\ LgM K' lb db (L.save s D).1 (L.save s D).2.1 m' /\ u = .int .i64 (L.save s D).2.2) := by
 have hm0 := hm
 obtain ⟨wb, hb', eb, aV, cV, aD, cD, aL, cL, wh, hh, eh, gl, dh, rfl, hW, hH, hE, hG, hD, xV, xD⟩ := hm
 obtain ⟨R, hR⟩ : ∃ R, R = L.save s D := ⟨_, rfl⟩
 rw [<- hR]
 unfold Lg.save at hR
 refine enter Tryz.func44 (by kernel_rfl) rfl rfl rfl ?_
 refine sq (rg ?_)
 refine bx hT 0 rfl fun b3 => ?_
 refine WL.hs (pt b3 (snV s aS cS aT cT) 32 :: ([_, _, _, _, _, _] ++ hs)) rfl ?_
 refine WL.perm (List.perm_middle (l₁ := [_, _, _, _, _, _])).symm ?_
 refine fin hT 1 rfl (th (sq (rg ?_)))
 refine ldS hT 1 6 rfl rfl (by kernel_rfl) ?_
 refine cl hT 0 rfl (fitsLC (hv := K) (hd' := K) lb db L D c hb (by omega) hm0 s hsi aS cS aT cT xS hvl hdl) ?_
 rintro v8 K8 hs8 ⟨rfl, rfl, rfl⟩
 refine fin hT 1 rfl (th ?_)
 by_cases hf : L.fits s = 0
 ·rw [if_neg (by rw [hf]; simp)] at hR
  have hfit := hf
  unfold Lg.fits at hfit
  have hcode : L.code = 0 := by
   by_cases h : L.code = 0
   ·exact h
   ·rw [if_pos h] at hfit; exact absurd hfit h
  rw [if_neg (by rw [hcode]; simp)] at hfit
  have hps : (putConf s.vot).isSome = true /\ s.data.length <= 2097152 := by
   by_cases h : (putConf s.vot).isSome = false \/ 2097152 < s.data.length
   ·rw [if_pos h] at hfit; cases hfit
   ·have h1 := not_or.1 h
    exact ⟨by cases h2 : (putConf s.vot).isSome with | true => rfl | false => exact absurd h2 h1.1, by omega⟩
  rw [if_neg (by rw [hps.1]; simp; exact hps.2)] at hfit
  have hix : L.sn.idx < s.idx /\ s.idx < lgTop := by
   by_cases h : s.idx <= L.sn.idx \/ lgTop <= s.idx
   ·rw [if_pos h] at hfit; cases hfit
   ·omega
  have hsB : SBd s := ⟨by omega, hst, putConf_len hps.1, hps.2⟩
  rw [hf]
  refine sq (sq (rg ?_))
  refine cmp hT 1 rfl (fun _ => ?_) (fun h => absurd rfl h)
  refine ldS hT 2 6 rfl rfl (by kernel_rfl) ?_
  refine cl hT 0 rfl (hasLC (hv := K8) lb db L D c hb (by omega) hm0 s hsi aS cS aT cT) ?_
  rintro v14 K14 hs14 ⟨rfl, rfl, rfl⟩
  cases hhas : lgHas L.sn L.l s with
  | false =>
   rw [if_pos hhas] at hR
   refine fin hT 2 rfl (th (ifT rfl ?_))
   refine rg ?_
   refine fin hT 1 rfl (th (sq (sq (rg ?_))))
   refine fin hT 2 rfl (th (ifT rfl ?_))
   refine sq (rg ?_)
   refine fin hT 2 rfl (th (rt (rT (WQ.del 6 rfl ?_))))
   rw [hR]
   exact ret1 rfl rfl ⟨Le.refl _, [_, _, _, _, _, _], rfl, hm0, rfl⟩
  | true =>
   rw [if_neg (by rw [hhas]; simp)] at hR
   refine fin hT 2 rfl (th (ifF rfl ?_))
   refine sk (th (sq (sq (rg ?_))))
   refine fin hT 2 rfl (th (ifF rfl ?_))
   refine sk (th ?_)
   unfold Lg.save1 at hR
   obtain ⟨Y, hY⟩ : ∃ Y, Y = L.sync D := ⟨_, rfl⟩
   have hYb := hb.sync D
   have hYd := oD.syncL L
   have hYc := sync_code L D
   obtain ⟨hYs, hYl, hYf⟩ := sync_sn L D
   rw [<- hY] at hR hYb hYd hYc hYs hYl hYf
   refine sq (sq (rga [pt b3 (snV s aS cS aT cT) 32] 10 [0, 3, 4, 6, 8, 10, 12, 14, 16, 18, 21, 22, 24] (by simp) (by kernel_rfl) (by kernel_rfl) ?_))
   refine dact hT (by kernel_rfl) 1 rfl ?_
   refine cl hT 0 rfl (syncLC lb db L D c hb (by omega) oD hm0) ?_
   rintro v21 K21 hs21 ⟨rfl, m2, rfl, hm2, rfl⟩
   rw [<- hY] at hm2 ⊢
   obtain ⟨L2, D2, C2⟩ := Y
   dsimp only at hm2 hR hYb hYd hYc hYs hYl hYf
   obtain ⟨wb2, hb2', eb2, aV2, cV2, aD2, cD2, aL2, cL2, wh2, hh2, eh2, gl2, dh2, rfl, hW2, hH2, hE2, hG2, hD2, xV2, xD2⟩ := id hm2
   refine dnex [pt b3 (snV s aS cS aT cT) 32, pt lb (lgA wb2 db hb2' eb2 L2 (.slice aV2 L2.sn.vot.length cV2) (.slice aD2 L2.sn.data.length cD2) (.slice aL2 L2.l.length cL2)) 91] (by simp) (by simp) rfl ?_
   refine dcmp hT (by kernel_rfl) 0 (C2 ≠ 0) rfl (by simp) (fun h6 => ?_) (fun h6 => ?_)
   ·rw [if_pos h6] at hR
    refine dact hT (by kernel_rfl) 7 rfl ?_
    refine WL.pures hT 1 rfl ?_
    refine dnext (.inl (by kernel_rfl)) ?_
    refine dend hT (by kernel_rfl) 2 rfl (th (ifT rfl (sq (rg ?_))))
    refine ldp hT 3 0 rfl rfl rfl ?_
    refine fin hT 1 rfl (th (rt (rT (WQ.del 6 rfl ?_))))
    rw [hR]
    exact ret1 rfl rfl ⟨Le.refl _, [_, _, _, _, _, _], rfl, hm2, by rw [<- hYc]; rfl⟩
   ·have h6 := Decidable.not_not.1 h6
    subst h6
    rw [if_neg (by simp)] at hR
    unfold Lg.save2 at hR
    have hfr := hYb.fr
    obtain ⟨Z, hZ⟩ : ∃ Z, Z = L2.lay s L2.fr D2 := ⟨_, rfl⟩
    have hZb := hYb.lay s hsB L2.fr (by omega) D2
    have hZd := hYd.layL (hYb.up (Nat.le_succ c)) (by omega) s hsB L2.fr
    have hZc := lay_code L2 s L2.fr D2
    have hdl2 := hsB.data
    rw [<- hZ] at hR hZb hZd hZc
    refine dldS hT (by kernel_rfl) 2 0 rfl (by kernel_rfl) rfl (by kernel_rfl) ?_
    refine dldpw hT (by kernel_rfl) 3 1 rfl (by kernel_rfl) rfl rfl ?_
    refine dact hT (by kernel_rfl) 0 rfl ?_
    unfold wMany at hfr
    refine cl hT 0 rfl (layLC lb db L2 D2 (c + 1) (hYb.up (Nat.le_succ c)) (by omega) hYd hm2 hYc s (by omega) (by rw [hYs]; exact hix.1) hst hps.2 (by have := hsB.vot; omega) aS cS aT cT xS xT L2.fr (by omega)) ?_
    rintro v30 K30 hs30 ⟨le, m3, rfl, hm3, rfl⟩
    rw [<- hZ] at hm3 ⊢
    obtain ⟨L3, D3, C3⟩ := Z
    dsimp only at hm3 hR hZb hZd hZc
    obtain ⟨wb3, hb3', eb3, aV3, cV3, aD3, cD3, aL3, cL3, wh3, hh3, eh3, gl3, dh3, rfl, hW3, hH3, hE3, hG3, hD3, xV3, xD3⟩ := id hm3
    refine dnext (.inl (by kernel_rfl)) ?_
    refine dcbS hT (by kernel_rfl) 0 (C3 ≠ 0) rfl (by simp) fun b31 h31 => ?_
    refine dend hT (by kernel_rfl) 1 rfl (th (ifP h31 rfl (fun e7 => ?_) (fun e7 => ?_)))
    ·rw [if_pos e7] at hR
     refine sq (rg ?_)
     refine ldp hT 3 0 rfl rfl rfl ?_
     refine fin hT 1 rfl (th (rt (rT (WQ.del 6 rfl ?_))))
     rw [hR]
     exact ret1 rfl rfl ⟨le, [_, _, _, _, _, _], rfl, hm3, by rw [<- hZc]; rfl⟩
    ·have e7 := Decidable.not_not.1 e7
     subst e7
     rw [if_neg (by simp)] at hR
     obtain ⟨V, hV⟩ : ∃ V, V = L3.w.compact (s.idx + 1) D3 := ⟨_, rfl⟩
     rw [<- hV] at hR
     unfold lgTop at hix
     refine sk (th (sq (rga [pt b3 (snV s aS cS aT cT) 32, pt lb (lgA wb3 db hb3' eb3 L3 (.slice aV3 L3.sn.vot.length cV3) (.slice aD3 L3.sn.data.length cD3) (.slice aL3 L3.l.length cL3)) 91] 9 [0, 2, 4, 6, 8, 10, 12, 14, 17, 19, 20] (by simp) (by kernel_rfl) (by kernel_rfl) ?_)))
     refine dldtp [8] hT (by kernel_rfl) 4 1 rfl (by kernel_rfl) rfl rfl ?_
     refine dldtp [8, 7] hT (by kernel_rfl) 1 0 rfl (by kernel_rfl) rfl rfl ?_
     refine dar hT (by kernel_rfl) 0 rfl (u64w (x := ((s.idx + 1 : Nat) : Int)) (by omega)) ?_
     refine dact hT (by kernel_rfl) 0 rfl ?_
     refine cl hT 0 rfl (Ct.at2 1 4 rfl rfl (compactWH wb3 db L3.w hW3 D3 (c + 1 + ((s.data.length + 63) / 64 + 4)) hZd (by omega) (hZb.w.up (by omega)) (by have := hZb.w.old; omega) hD3 (s.idx + 1) (by omega))) ?_
     rintro v45 K45 hs45 ⟨wh4, dh4, rfl, le4, hW4, hD4, rfl⟩
     rw [<- hV] at hW4 hD4 ⊢
     refine dnexL [pt b3 (snV s aS cS aT cT) 32, pt lb (lgA wb3 db hb3' eb3 L3 (.slice aV3 L3.sn.vot.length cV3) (.slice aD3 L3.sn.data.length cD3) (.slice aL3 L3.l.length cL3)) 91] (by simp) (by simp) le4 ?_
     refine dact hT (by kernel_rfl) 0 rfl ?_
     refine cl hT 0 rfl (didLC lb wb3 db hb3' eb3 L3 _ _ _ _) ?_
     rintro v46 K46 hs46 ⟨_, rfl, rfl, rfl, rfl⟩
     have ed : didV L3.code V.2.2 = V.2.2 := by unfold didV; rw [if_pos hZc]
     rw [ed]
     refine dnext (.inl (by kernel_rfl)) ?_
     refine dend hT (by kernel_rfl) 1 rfl (th (rt (WQ.del 6 rfl ?_)))
     rw [hR]
     exact ret1 rfl rfl ⟨le.trans le4, [_, _, _, _, _, _], rfl, ⟨wb3, hb3', eb3, aV3, cV3, aD3, cD3, aL3, cL3, wh4, hh3, eh3, gl3, dh4, rfl, hW4, hH3.le le4, hE3.le le4, hG3.imp fun _ _ h => h.le le4, hD4, xV3.le le4, xD3.le le4⟩, rfl⟩
 ·rw [if_pos hf] at hR
  refine sq (sq (rg ?_))
  refine cmp hT 1 rfl (fun h => absurd h hf) (fun _ => ?_)
  refine fin hT 6 rfl (th (ifF rfl ?_))
  refine sk (th (sq (sq (rg ?_))))
  refine cmp hT 1 rfl (fun _ => ?_) (fun h => absurd hf h)
  refine fin hT 0 rfl (th (ifT rfl ?_))
  refine sq (rg ?_)
  refine fin hT 2 rfl (th (rt (rT (WQ.del 6 rfl ?_))))
  rw [hR]
  exact ret1 rfl rfl ⟨Le.refl _, [_, _, _, _, _, _], rfl, hm0, rfl⟩
theorem installLC {w0 : World} {K : PH} {m hs : List PH} (lb db : Nat) (L : Lg) (D : Dk) (c : Nat) (hb : LBd c L) (hc : c <= 499900000) (oD : DOk c D) (hm : LgM K lb db L D m) (s : Snp) (hsi : s.idx < 18446744073709551616) (hst : s.term <= mxU) (hvl : s.vot.length < 1099511627776) (hdl : s.data.length < 1099511627776)
  (aS : Option Addr) (cS : Nat) (aT : Option Addr) (cT : Nat) (xS : IsS K aS s.vot.length cS 1 (iv s.vot)) (xT : IsS K aT s.data.length cT 1 (bv s.data)) :
  Ct Tryz.prog w0 45 [.pointer (some ⟨lb, 0, none⟩), .agg (snV s aS cS aT cT)] K (m ++ hs)
   (fun u K' hs' => Le K K' /\ ∃ m', hs' = m' ++ hs /\ LgM K' lb db (L.install s D).1 (L.install s D).2.1 m' /\ u = .int .i64 (L.install s D).2.2) := by
 have hm0 := hm
 obtain ⟨wb, hb', eb, aV, cV, aD, cD, aL, cL, wh, hh, eh, gl, dh, rfl, hW, hH, hE, hG, hD, xV, xD⟩ := hm
 obtain ⟨R, hR⟩ : ∃ R, R = L.install s D := ⟨_, rfl⟩
 rw [<- hR]
 unfold Lg.install at hR
 refine enter Tryz.func45 (by kernel_rfl) rfl rfl rfl ?_
 refine sq (rg ?_)
 refine bx hT 0 rfl fun b3 => ?_
 refine WL.hs (pt b3 (snV s aS cS aT cT) 32 :: ([_, _, _, _, _, _] ++ hs)) rfl ?_
 refine WL.perm (List.perm_middle (l₁ := [_, _, _, _, _, _])).symm ?_
 refine fin hT 1 rfl (th (sq (rg ?_)))
 refine ldS hT 1 6 rfl rfl (by kernel_rfl) ?_
 refine cl hT 0 rfl (fitsLC (hv := K) (hd' := K) lb db L D c hb (by omega) hm0 s hsi aS cS aT cT xS hvl hdl) ?_
 rintro v8 K8 hs8 ⟨rfl, rfl, rfl⟩
 refine fin hT 1 rfl (th (sq (sq (rg ?_))))
 refine cmpS hT 1 rfl fun b10 h10 => ?_
 refine fin hT 0 rfl (th (ifP h10 rfl (fun e2 => ?_) (fun e2 => ?_)))
 ·rw [if_pos e2] at hR
  refine sq (rg ?_)
  refine fin hT 2 rfl (th (rt (rT (WQ.del 6 rfl ?_))))
  rw [hR]
  exact ret1 rfl rfl ⟨Le.refl _, [_, _, _, _, _, _], rfl, hm0, rfl⟩
 ·rw [if_neg e2] at hR
  have hf := Decidable.not_not.1 e2
  have hfit := hf
  unfold Lg.fits at hfit
  have hcode : L.code = 0 := by
   by_cases h : L.code = 0
   ·exact h
   ·rw [if_pos h] at hfit; exact absurd hfit h
  rw [if_neg (by rw [hcode]; simp)] at hfit
  have hps : (putConf s.vot).isSome = true /\ s.data.length <= 2097152 := by
   by_cases h : (putConf s.vot).isSome = false \/ 2097152 < s.data.length
   ·rw [if_pos h] at hfit; cases hfit
   ·have h1 := not_or.1 h
    exact ⟨by cases h2 : (putConf s.vot).isSome with | true => rfl | false => exact absurd h2 h1.1, by omega⟩
  rw [if_neg (by rw [hps.1]; simp; exact hps.2)] at hfit
  have hix : L.sn.idx < s.idx /\ s.idx < lgTop := by
   by_cases h : s.idx <= L.sn.idx \/ lgTop <= s.idx
   ·rw [if_pos h] at hfit; cases hfit
   ·omega
  have hsB : SBd s := ⟨by omega, hst, putConf_len hps.1, hps.2⟩
  refine sk (th (sq (sq (rg ?_))))
  refine ldS hT 1 6 rfl rfl (by kernel_rfl) ?_
  refine cl hT 0 rfl (hasLC (hv := K8) lb db L D c hb (by omega) hm0 s hsi aS cS aT cT) ?_
  rintro v14 K14 hs14 ⟨rfl, rfl, rfl⟩
  cases hhas : lgHas L.sn L.l s with
  | true =>
   rw [if_pos hhas] at hR
   refine fin hT 0 rfl (th (ifT rfl ?_))
   refine sq (rg ?_)
   refine ldS hT 1 6 rfl rfl (by kernel_rfl) ?_
   refine cl hT 0 rfl (saveLC lb db L D c hb hc oD hm0 s hsi hst hvl hdl aS cS aT cT xS xT) ?_
   rintro v17 K17 hs17 ⟨le, m2, rfl, hm2, rfl⟩
   rw [<- hR] at hm2 ⊢
   obtain ⟨wb2, hb2', eb2, aV2, cV2, aD2, cD2, aL2, cL2, wh2, hh2, eh2, gl2, dh2, rfl, _⟩ := id hm2
   refine fin hT 1 rfl (th (rt (rT (WQ.del 6 rfl ?_))))
   exact ret1 rfl rfl ⟨le, [_, _, _, _, _, _], rfl, hm2, rfl⟩
  | false =>
   rw [if_neg (by rw [hhas]; simp)] at hR
   refine fin hT 0 rfl (th (ifF rfl ?_))
   refine sk (th ?_)
   unfold Lg.inst1 at hR
   have hnx := hb.w.next
   obtain ⟨Z, hZ⟩ : ∃ Z, Z = L.lay s L.w.next D := ⟨_, rfl⟩
   have hZb := hb.lay s hsB L.w.next (by omega) D
   have hZd := oD.layL hb (by omega) s hsB L.w.next
   have hZc := lay_code L s L.w.next D
   have hdl2 := hsB.data
   rw [<- hZ] at hR hZb hZd hZc
   unfold wMany at hnx
   refine sq (sq (rga [pt b3 (snV s aS cS aT cT) 32, pt lb (lgA wb db hb' eb L (.slice aV L.sn.vot.length cV) (.slice aD L.sn.data.length cD) (.slice aL L.l.length cL)) 91] 7 [0, 2, 4, 6, 8, 10, 13, 15, 16] (by simp) (by kernel_rfl) (by kernel_rfl) ?_))
   refine dldS hT (by kernel_rfl) 1 0 rfl (by kernel_rfl) rfl (by kernel_rfl) ?_
   refine dldtp [6] hT (by kernel_rfl) 3 1 rfl (by kernel_rfl) rfl rfl ?_
   refine dact hT (by kernel_rfl) 0 rfl ?_
   refine cl hT 0 rfl (Ct.keep 1 rfl (nextWH wb db L.w hW)) ?_
   rintro v24 K24 hs24 ⟨rfl, rfl, rfl⟩
   refine dnex [pt b3 (snV s aS cS aT cT) 32, pt lb (lgA wb db hb' eb L (.slice aV L.sn.vot.length cV) (.slice aD L.sn.data.length cD) (.slice aL L.l.length cL)) 91] (by simp) (by simp) rfl ?_
   refine dact hT (by kernel_rfl) 0 rfl ?_
   refine cl hT 0 rfl (layLC lb db L D c hb (by omega) oD hm0 hcode s (by omega) hix.1 hst hps.2 (by have := hsB.vot; omega) aS cS aT cT xS xT L.w.next (by omega)) ?_
   rintro v25 K25 hs25 ⟨le, m3, rfl, hm3, rfl⟩
   rw [<- hZ] at hm3 ⊢
   obtain ⟨L3, D3, C3⟩ := Z
   dsimp only at hm3 hR hZb hZd hZc
   obtain ⟨wb3, hb3', eb3, aV3, cV3, aD3, cD3, aL3, cL3, wh3, hh3, eh3, gl3, dh3, rfl, hW3, hH3, hE3, hG3, hD3, xV3, xD3⟩ := id hm3
   refine dnext (.inl (by kernel_rfl)) ?_
   refine dcbS hT (by kernel_rfl) 0 (C3 ≠ 0) rfl (by simp) fun b26 h26 => ?_
   refine dend hT (by kernel_rfl) 0 rfl (th (ifP h26 rfl (fun e4 => ?_) (fun e4 => ?_)))
   ·rw [if_pos e4] at hR
    refine sq (rg ?_)
    refine ldp hT 3 0 rfl rfl rfl ?_
    refine fin hT 1 rfl (th (rt (rT (WQ.del 6 rfl ?_))))
    rw [hR]
    exact ret1 rfl rfl ⟨le, [_, _, _, _, _, _], rfl, hm3, by rw [<- hZc]; rfl⟩
   ·have e4 := Decidable.not_not.1 e4
    subst e4
    rw [if_neg (by simp)] at hR
    obtain ⟨V, hV⟩ : ∃ V, V = L3.w.reset (s.idx + 1) D3 := ⟨_, rfl⟩
    rw [<- hV] at hR
    unfold lgTop at hix
    refine sk (th (sq (rga [pt b3 (snV s aS cS aT cT) 32, pt lb (lgA wb3 db hb3' eb3 L3 (.slice aV3 L3.sn.vot.length cV3) (.slice aD3 L3.sn.data.length cD3) (.slice aL3 L3.l.length cL3)) 91] 9 [0, 2, 4, 6, 8, 10, 12, 14, 17, 19, 20] (by simp) (by kernel_rfl) (by kernel_rfl) ?_)))
    refine dldtp [8] hT (by kernel_rfl) 4 1 rfl (by kernel_rfl) rfl rfl ?_
    refine dldtp [8, 7] hT (by kernel_rfl) 1 0 rfl (by kernel_rfl) rfl rfl ?_
    refine dar hT (by kernel_rfl) 0 rfl (u64w (x := ((s.idx + 1 : Nat) : Int)) (by omega)) ?_
    refine dact hT (by kernel_rfl) 0 rfl ?_
    refine cl hT 0 rfl (Ct.at2 1 4 rfl rfl (resetWH wb3 db L3.w hW3 D3 (c + ((s.data.length + 63) / 64 + 4)) hZd (by omega) (hZb.w.up (by omega)) hD3 (s.idx + 1) (by omega))) ?_
    rintro v39 K39 hs39 ⟨wh4, dh4, rfl, le4, hW4, hD4, rfl⟩
    rw [<- hV] at hW4 hD4 ⊢
    refine dnexL [pt b3 (snV s aS cS aT cT) 32, pt lb (lgA wb3 db hb3' eb3 L3 (.slice aV3 L3.sn.vot.length cV3) (.slice aD3 L3.sn.data.length cD3) (.slice aL3 L3.l.length cL3)) 91] (by simp) (by simp) le4 ?_
    refine dact hT (by kernel_rfl) 0 rfl ?_
    refine cl hT 0 rfl (didLC lb wb3 db hb3' eb3 L3 _ _ _ _) ?_
    rintro v40 K40 hs40 ⟨_, rfl, rfl, rfl, rfl⟩
    have ed : didV L3.code V.2.2 = V.2.2 := by unfold didV; rw [if_pos hZc]
    rw [ed]
    refine dnext (.inl (by kernel_rfl)) ?_
    refine dend hT (by kernel_rfl) 1 rfl (th (rt (WQ.del 6 rfl ?_)))
    rw [hR]
    exact ret1 rfl rfl ⟨le.trans le4, [_, _, _, _, _, _], rfl, ⟨wb3, hb3', eb3, aV3, cV3, aD3, cD3, aL3, cL3, wh4, hh3, eh3, gl3, dh4, rfl, hW4, hH3.le le4, hE3.le le4, hG3.imp fun _ _ h => h.le le4, hD4, xV3.le le4, xD3.le le4⟩, rfl⟩
end Go.Proofs.YtneeeblghijmgaaGreat
end
section
namespace Go.En
def rdHard (S : Slt) : Option (Nat × Int) :=
 if S.num = 0 then some (0, -1)
 else if rEnd (rUint 7 (rUint mxU (S.val, 0)).2).2 = 0 then some ((rUint mxU (S.val, 0)).1, (((rUint 7 (rUint mxU (S.val, 0)).2).1 : Nat) : Int) - 1) else none
def rdDat (D : Dk) (place size : Nat) : Nat -> Nat -> List UInt8 -> Option (List UInt8)
 | 0, _, acc => some acc
 | f + 1, n, acc => if acc.length < size then (match D.read (lgA4 place) n with
   | none => none
   | some b => rdDat D place size f (n + 1) (acc ++ b)) else some acc
def hd1 (b : List UInt8) : Nat × Rd := rUint lgTop (b, 0)
def hd2 (b : List UInt8) : Nat × Rd := rUint mxU (hd1 b).2
def hd3 (b : List UInt8) : Nat × Rd := rUint lgTop (hd2 b).2
def hd4 (b : List UInt8) : Nat × Rd := rUint 2097152 (hd3 b).2
def hd5 (b : List UInt8) : Nat × Rd := rUint lgTop (hd4 b).2
def hd6 (b : List UInt8) : Nat × Rd := rByte (hd5 b).2
def rdHead (D : Dk) (S : Slt) (vot0 : List Int) : Option (Snp × Nat × Nat) :=
 if S.num = 0 then some (⟨0, 0, vot0, []⟩, 0, 0)
 else if rEnd (hd6 S.val).2 ≠ 0 \/ (getConf [UInt8.ofNat (hd6 S.val).1]).isSome = false then none
 else match rdDat D (hd3 S.val).1 (hd4 S.val).1 32769 0 [] with
  | none => none
  | some d => some (⟨(hd1 S.val).1, (hd2 S.val).1, (getConf [UInt8.ofNat (hd6 S.val).1]).getD [], d.take (hd4 S.val).1⟩, (hd3 S.val).1, (hd5 S.val).1)
def rdE : Nat -> List (List UInt8) -> Option (List Ent)
 | _, [] => some []
 | i, b :: r => match getEnt b with
  | none => none
  | some e => if e.idx = i then (rdE (i + 1) r).map (e :: ·) else none
def rdEnts (s : Snp) (W : Wl) : Option (List Ent) :=
 if s.idx + 1 < W.first \/ W.first + W.recs.length < s.idx + 1 then none else rdE (s.idx + 1) (W.recs.drop (s.idx + 1 - W.first))
def lgFree (pl : Nat) : List Int -> Dk -> Dk × Int
 | [], D => (D, 0)
 | a :: r, D => if a % 4 = 2 /\ a ≠ ((lgA4 pl : Nat) : Int) then (if (D.free a).2 ≠ 0 then D.free a else lgFree pl r (D.free a).1) else lgFree pl r D
def lOpen3 (D : Dk) (kh : Nat × Int) (h : Snp × Nat × Nat) (F : Dk) : Option Lg × Dk × Int :=
 match (wOpen F h.2.2 (h.1.idx + 1)).1 with
 | none => (none, (wOpen F h.2.2 (h.1.idx + 1)).2.1, if (wOpen F h.2.2 (h.1.idx + 1)).2.2 = 52 then 181 else (wOpen F h.2.2 (h.1.idx + 1)).2.2)
 | some w => match rdEnts h.1 w with
  | none => (none, (wOpen F h.2.2 (h.1.idx + 1)).2.1, 181)
  | some l => (some ⟨w, sltOpen D 0, sltOpen D 4, kh.1, kh.2, h.1, h.2.1, h.2.2, l, 0⟩, (wOpen F h.2.2 (h.1.idx + 1)).2.1, 0)
def lOpen2 (D : Dk) (kh : Nat × Int) (h : Snp × Nat × Nat) : Option Lg × Dk × Int :=
 if (lgFree h.2.1 (areasL D) D).2 ≠ 0 then (none, lgFree h.2.1 (areasL D) D) else lOpen3 D kh h (lgFree h.2.1 (areasL D) D).1
def lOpen (D : Dk) (first : List Int) : Option Lg × Dk × Int :=
 if (putConf first).isSome = false then (none, D, 181)
 else if D.dead = true then (none, D, 30)
 else match rdHard (sltOpen D 0) with
  | none => (none, D, 181)
  | some kh => match rdHead D (sltOpen D 4) first with
   | none => (none, D, 181)
   | some h => lOpen2 D kh h
def lgB (wp : Option Nat) (db : Nat) (hp ep : Option Nat) (kt : Nat) (kv : Int) (si st : Nat) (vS dS : Value) (pl fr : Nat) (lS : Value) (cd : Int) : Array Value :=
 #[.pointer (wp.map fun b => ⟨b, 0, none⟩), .pointer (some ⟨db, 0, none⟩), .pointer (hp.map fun b => ⟨b, 0, none⟩), .pointer (ep.map fun b => ⟨b, 0, none⟩), .int .u64 ((kt : Nat) : Int), .int .i64 kv,
  .int .u64 ((si : Nat) : Int), .int .u64 ((st : Nat) : Int), vS, dS, .int .u64 ((pl : Nat) : Int), .int .u64 ((fr : Nat) : Int), lS, .int .i64 cd]
end Go.En
namespace Go.Proofs.YtneeeblghijmgaaGreat
open Go.En
attribute [local irreducible] Code.wp wpList Calls
theorem readHardC {w0 : World} {K hh : PH} {hs : List PH} (lb db hb : Nat) (wp ep : Option Nat) (si st : Nat) (vS dS : Value) (pl fr : Nat) (lS : Value) (cd : Int) (S : Slt) (hS : SltH K hb db 0 S hh) (hbd : S.bd) :
  Ct Tryz.prog w0 59 [.pointer (some ⟨lb, 0, none⟩)] K (pt lb (lgB wp db (some hb) ep 0 (-1) si st vS dS pl fr lS cd) 91 :: hh :: hs)
   (fun v K' hs' => Le K K' /\ ∃ kt kv, hs' = pt lb (lgB wp db (some hb) ep kt kv si st vS dS pl fr lS cd) 91 :: hh :: hs /\ v = .bool (rdHard S).isSome /\ ∀ p, rdHard S = some p -> p = (kt, kv)) := by
 unfold rdHard
 obtain ⟨hn, hv⟩ := hbd
 refine enter Tryz.func59 (by kernel_rfl) rfl rfl rfl ?_
 refine sq (rg ?_)
 refine fin hT 1 rfl (th (sq (sq (rg ?_))))
 refine ldp hT 3 0 rfl rfl rfl ?_
 refine cl hT 0 rfl (Ct.keep 1 rfl (numberSC hb db 0 S hS)) ?_
 rintro v8 K8 hs8 ⟨rfl, rfl, rfl⟩
 refine cmpS hT 0 rfl fun b9 h9 => ?_
 refine fin hT 0 rfl (th (ifP h9 rfl (fun e2 => ?_) (fun e2 => ?_)))
 ·rw [if_pos (by omega)]
  refine sq (rg ?_)
  refine fin hT 1 rfl (th (rt (rT ?_)))
  exact ret1 rfl rfl ⟨Le.refl _, 0, -1, rfl, rfl, fun p hp => (Option.some.inj hp).symm⟩
 ·rw [if_neg (by omega)]
  refine sk (th (sq (rg ?_)))
  refine ldp hT 3 0 rfl rfl rfl ?_
  refine cl hT 0 rfl (Ct.at 1 rfl (valueSC hb db 0 S hS ⟨hn, hv⟩)) ?_
  rintro v14 K14 hs14 ⟨hh, rfl, rfl, le, ao, k, rfl, x⟩
  refine cl hT 0 rfl (readC ao k S.val (.inl rfl) x (by omega)) ?_
  rintro v15 K15 hs15 ⟨rfl, rb, rd, rh, rfl, rfl, ir⟩
  obtain ⟨r1, hr1⟩ : ∃ r, r = rUint mxU (S.val, 0) := ⟨_, rfl⟩
  have hl1 := rUint_len mxU (S.val, 0)
  have hb1 := rUint_le mxU (S.val, 0)
  rw [<- hr1] at hl1 hb1 ⊢
  obtain ⟨r2, hr2⟩ : ∃ r, r = rUint 7 r1.2 := ⟨_, rfl⟩
  have hb2 := rUint_le 7 r1.2
  rw [<- hr2] at hb2 ⊢
  refine fin hT 1 rfl (th (sq (rg ?_)))
  refine cl hT 2 rfl (uintC (.inr ⟨0, rfl⟩) mxU (S.val, 0) (by dsimp only; omega) ir) ?_
  rintro v18 K18 hs18 ⟨rd2, rfl, rfl, rfl, ir2⟩
  rw [<- hr1] at ir2 ⊢
  refine stp hT 3 2 rfl rfl rfl rfl ?_
  refine fin hT 0 rfl (th (sq (rg ?_)))
  refine cl hT 2 rfl (uintC (.inr ⟨0, rfl⟩) 7 r1.2 (by dsimp only at hl1; omega) ir2) ?_
  rintro v24 K24 hs24 ⟨rd3, rfl, rfl, rfl, ir3⟩
  rw [<- hr2] at ir3 ⊢
  refine ar hT 0 rfl (i64w (by omega)) ?_
  refine ar hT 0 rfl (i64w (by omega)) ?_
  refine stp hT 3 2 rfl rfl rfl rfl ?_
  refine fin hT 0 rfl (th (sq (rg ?_)))
  refine cl hT 1 rfl (endC r2.2 ir3) ?_
  rintro v31 K31 hs31 ⟨rfl, rfl, rfl⟩
  refine cmpS hT 0 rfl fun b32 h32 => ?_
  refine fin hT 1 rfl (th (rt (WQ.drop (WQ.drop ?_))))
  by_cases e : rEnd r2.2 = 0
  ·rw [if_pos e]
   obtain rfl : b32 = true := h32.2 e
   exact ret1 rfl rfl ⟨le, r1.1, _, rfl, rfl, fun p hp => (Option.some.inj hp).symm⟩
  ·rw [if_neg e]
   obtain rfl : b32 = false := by cases b32 with | false => rfl | true => exact absurd (h32.1 rfl) e
   exact ret1 rfl rfl ⟨le, _, _, rfl, rfl, fun p hp => by cases hp⟩
end Go.Proofs.YtneeeblghijmgaaGreat
end
section
namespace Go.En
theorem rdDat_step (D : Dk) (place size f n : Nat) (acc : List UInt8) : rdDat D place size (f + 1) n acc = if acc.length < size then (match D.read (lgA4 place) n with
   | none => none
   | some b => rdDat D place size f (n + 1) (acc ++ b)) else some acc := rfl
end Go.En
namespace Go.Proofs.YtneeeblghijmgaaGreat
open Go.En
attribute [local irreducible] Code.wp wpList Calls
theorem readHeadC {w0 : World} {K eh dh : PH} {hs : List PH} (lb db eb : Nat) (wp hp : Option Nat) (kt : Nat) (kv : Int) (vot0 : List Int) (a0 : Option Addr) (c0 : Nat) (x0 : IsS K a0 vot0.length c0 1 (iv vot0)) (lS : Value) (cd : Int) (S : Slt) (hS : SltH K eb db 4 S eh) (hbd : S.bd) (D : Dk) (c : Nat) (oD : D.Ok c) (hc : c <= 1000000000) (hd : DskH K db D dh) :
  Ct Tryz.prog w0 60 [.pointer (some ⟨lb, 0, none⟩)] K (pt lb (lgB wp db hp (some eb) kt kv 0 0 (.slice a0 vot0.length c0) (.slice none 0 0) 0 0 lS cd) 91 :: eh :: dh :: hs)
   (fun v K' hs' => Le K K' /\ ∃ sn pl fr aV cV aD cD, hs' = pt lb (lgB wp db hp (some eb) kt kv (Snp.idx sn) sn.term (.slice aV sn.vot.length cV) (.slice aD sn.data.length cD) pl fr lS cd) 91 :: eh :: dh :: hs /\ v = .bool (rdHead D S vot0).isSome /\
    IsS K' aV sn.vot.length cV 1 (iv sn.vot) /\ IsS K' aD sn.data.length cD 1 (bv sn.data) /\ ∀ p, rdHead D S vot0 = some p -> p = (sn, pl, fr)) := by
 unfold rdHead
 obtain ⟨hn, hv⟩ := hbd
 refine enter Tryz.func60 (by kernel_rfl) rfl rfl rfl ?_
 refine sq (rg ?_)
 refine fin hT 1 rfl (th (sq (sq (rg ?_))))
 refine ldp hT 3 0 rfl rfl rfl ?_
 refine cl hT 0 rfl (Ct.keep 1 rfl (numberSC eb db 4 S hS)) ?_
 rintro v15 K15 hs15 ⟨rfl, rfl, rfl⟩
 refine cmpS hT 0 rfl fun b16 h16 => ?_
 refine fin hT 0 rfl (th (ifP h16 rfl (fun e2 => ?_) (fun e2 => ?_)))
 ·rw [if_pos (by omega)]
  refine sq (rg ?_)
  refine fin hT 1 rfl (th (rt (rT ?_)))
  exact ret1 rfl rfl ⟨Le.refl _, ⟨0, 0, vot0, []⟩, 0, 0, a0, c0, none, 0, rfl, rfl, x0, IsS.nil _ _ _ _, fun p hp => (Option.some.inj hp).symm⟩
 ·rw [if_neg (by omega)]
  obtain ⟨a1, h1⟩ : ∃ r, r = hd1 S.val := ⟨_, rfl⟩
  obtain ⟨a2, h2⟩ : ∃ r, r = hd2 S.val := ⟨_, rfl⟩
  obtain ⟨a3, h3⟩ : ∃ r, r = hd3 S.val := ⟨_, rfl⟩
  obtain ⟨a4, h4⟩ : ∃ r, r = hd4 S.val := ⟨_, rfl⟩
  obtain ⟨a5, h5⟩ : ∃ r, r = hd5 S.val := ⟨_, rfl⟩
  obtain ⟨a6, h6⟩ : ∃ r, r = hd6 S.val := ⟨_, rfl⟩
  have g1 : rUint lgTop (S.val, 0) = a1 := h1.symm
  have g2 : rUint mxU a1.2 = a2 := by rw [h2, h1]; rfl
  have g3 : rUint lgTop a2.2 = a3 := by rw [h3, h2]; rfl
  have g4 : rUint 2097152 a3.2 = a4 := by rw [h4, h3]; rfl
  have g5 : rUint lgTop a4.2 = a5 := by rw [h5, h4]; rfl
  have g6 : rByte a5.2 = a6 := by rw [h6, h5]; rfl
  rw [<- h1, <- h2, <- h3, <- h4, <- h5, <- h6]
  have l1 : a1.2.1.length <= 48 := by have := rUint_len lgTop (S.val, 0); rw [g1] at this; dsimp only at this; omega
  have l2 : a2.2.1.length <= 48 := by have := rUint_len mxU a1.2; rw [g2] at this; omega
  have l3 : a3.2.1.length <= 48 := by have := rUint_len lgTop a2.2; rw [g3] at this; omega
  have l4 : a4.2.1.length <= 48 := by have := rUint_len 2097152 a3.2; rw [g4] at this; omega
  have l5 : a5.2.1.length <= 48 := by have := rUint_len lgTop a4.2; rw [g5] at this; omega
  have m1 : a1.1 <= lgTop := by rw [<- g1]; exact rUint_le _ _
  have m3 : a3.1 <= lgTop := by rw [<- g3]; exact rUint_le _ _
  have m4 : a4.1 <= 2097152 := by rw [<- g4]; exact rUint_le _ _
  have m5 : a5.1 <= lgTop := by rw [<- g5]; exact rUint_le _ _
  clear h1 h2 h3 h4 h5 h6
  refine sk (th (sq (rg ?_)))
  refine ldp hT 3 0 rfl rfl rfl ?_
  refine cl hT 0 rfl (Ct.at 1 rfl (valueSC eb db 4 S hS ⟨hn, hv⟩)) ?_
  rintro v21 K21 hs21 ⟨eh, rfl, rfl, le, ao, k, rfl, x⟩
  refine cl hT 0 rfl (readC ao k S.val (.inl rfl) x (by omega)) ?_
  rintro v22 K22 hs22 ⟨rfl, rb, rd, rh, rfl, rfl, ir⟩
  refine fin hT 1 rfl (th (sq (rg ?_)))
  refine cl hT 1 rfl (uintC (.inr ⟨0, rfl⟩) lgTop (S.val, 0) (by dsimp only; omega) ir) ?_
  rintro v24 K24 hs24 ⟨rd1, rfl, rfl, rfl, ir⟩
  rw [g1] at ir ⊢
  refine cl hT 1 rfl (uintC (.inr ⟨0, rfl⟩) mxU a1.2 (by omega) ir) ?_
  rintro v26 K26 hs26 ⟨rd2, rfl, rfl, rfl, ir⟩
  rw [g2] at ir ⊢
  refine bd hT 0 (.agg #[.int .u64 ((a1.1 : Nat) : Int), .int .u64 ((a2.1 : Nat) : Int), .slice none 0 0, .slice none 0 0]) rfl (fun w => by kernel_rfl) ?_
  refine al hT 0 (.agg #[.int .u64 0, .int .u64 0, .slice none 0 0, .slice none 0 0]) rfl (by kernel_rfl) fun b4 => ?_
  refine stS hT 0 0 rfl rfl (by kernel_rfl) rfl rfl ?_
  refine fin hT 0 rfl (th (sq (rg ?_)))
  refine cl hT 2 rfl (Ct.at 1 rfl (uintC (.inr ⟨1, rfl⟩) lgTop a2.2 (by omega) ir)) ?_
  rintro v30 K30 hs30 ⟨rd3, rfl, rfl, rfl, ir⟩
  rw [g3] at ir ⊢
  refine stp hT 2 3 rfl rfl rfl rfl ?_
  refine fin hT 0 rfl (th (sq (rg ?_)))
  refine cl hT 1 rfl (Ct.at 1 rfl (uintC (.inr ⟨1, rfl⟩) 2097152 a3.2 (by omega) ir)) ?_
  rintro v34 K34 hs34 ⟨rd4, rfl, rfl, rfl, ir⟩
  rw [g4] at ir ⊢
  refine ar hT 0 rfl (i64w (x := ((a4.1 : Nat) : Int)) (by omega)) ?_
  refine fin hT 1 rfl (th (sq (rg ?_)))
  refine cl hT 2 rfl (Ct.at 1 rfl (uintC (.inr ⟨1, rfl⟩) lgTop a4.2 (by omega) ir)) ?_
  rintro v38 K38 hs38 ⟨rd5, rfl, rfl, rfl, ir⟩
  rw [g5] at ir ⊢
  refine stp hT 2 3 rfl rfl rfl rfl ?_
  refine WL.hs (pt b4 #[.int .u64 ((a1.1 : Nat) : Int), .int .u64 ((a2.1 : Nat) : Int), .slice none 0 0, .slice none 0 0] 32 :: rd5 :: rh :: pt lb (lgB wp db hp (some eb) kt kv 0 0 (.slice a0 vot0.length c0) (.slice none 0 0) a3.1 a5.1 lS cd) 91 :: eh :: dh :: hs) rfl ?_
  refine fin hT 0 rfl (th (sq (rg ?_)))
  refine cl hT 1 rfl (Ct.at 1 rfl (byteC (.inr ⟨1, rfl⟩) a5.2 ir)) ?_
  rintro v43 K43 hs43 ⟨rd6, rfl, rfl, rfl, ir⟩
  rw [g6] at ir ⊢
  have hb6 : a6.1 < 256 := by rw [<- g6]; exact rByte_lt _
  refine lit hT 0 #[.int .u8 ((a6.1 : Nat) : Int)] rfl (by decide) (by kernel_rfl) fun b44 => ?_
  have o44 := own_byte b44 a6.1 hb6
  refine cl hT 0 rfl (getConfC (some ⟨b44, 0, none⟩) 1 [UInt8.ofNat a6.1] (.inr ⟨0, rfl⟩) o44.isS (by simp)) ?_
  rintro v45 K45 hs45 ⟨rfl, h45, ao45, c45, rfl, rfl, o45⟩
  obtain ⟨C, hC⟩ : ∃ C, C = getConf [UInt8.ofNat a6.1] := ⟨_, rfl⟩
  rw [<- hC] at o45 ⊢
  refine al hT 3 (.agg #[.slice none 0 0]) rfl (by kernel_rfl) fun b6 => ?_
  refine stS hT 0 0 rfl rfl (by kernel_rfl) rfl rfl ?_
  refine WL.hs (pt b6 #[.slice ao45 (C.getD []).length c45] 29 :: h45 :: pt b44 #[.int .u8 ((a6.1 : Nat) : Int)] 5 :: pt b4 #[.int .u64 ((a1.1 : Nat) : Int), .int .u64 ((a2.1 : Nat) : Int), .slice none 0 0, .slice none 0 0] 32 :: rd6 :: rh :: pt lb (lgB wp db hp (some eb) kt kv 0 0 (.slice a0 vot0.length c0) (.slice none 0 0) a3.1 a5.1 lS cd) 91 :: eh :: dh :: hs) rfl ?_
  refine fin hT 1 rfl (th (sq (sq (rg ?_))))
  refine cl hT 1 rfl (Ct.keep 4 rfl (endC a6.2 ir)) ?_
  rintro v49 K49 hs49 ⟨rfl, rfl, rfl⟩
  refine cmpS hT 0 rfl fun b50 h50 => ?_
  refine' bjo (q := C.isSome = false) hT 1 3 54 [50, 51] h50 rfl rfl rfl rfl rfl rfl rfl (fun _ => ?x4) (fun b54 h54 => ?_)
  case x4 =>
   refine cmpS hT 1 rfl fun b53 h53 => ?_
   exact fin hT 1 rfl (bjx (h53.trans (by cases C <;> simp [ec])) rfl rfl rfl)
  refine fin hT 0 rfl (th (ifP h54 rfl (fun e6 => ?_) (fun e6 => ?_)))
  ·rw [if_pos e6]
   refine sq (rg ?_)
   refine fin hT 1 rfl (th (rt (rT (WQ.drop (WQ.drop (WQ.drop (WQ.drop (WQ.drop (WQ.drop ?_)))))))))
   exact ret1 rfl rfl ⟨le, ⟨0, 0, vot0, []⟩, a3.1, a5.1, a0, c0, none, 0, rfl, rfl, x0.le le, IsS.nil _ _ _ _, fun p hp => by cases hp⟩
  ·rw [if_neg e6]
   obtain ⟨cf, rfl⟩ : ∃ cf, C = some cf := by
    cases C with
    | none => exact absurd (.inr rfl) e6
    | some cf => exact ⟨cf, rfl⟩
   have o45 : Own h45 ao45 cf.length c45 3 1 (iv cf) := o45
   refine sk (th (sq (rg ?_)))
   refine ldS hT 0 0 rfl rfl (by kernel_rfl) ?_
   refine sts hT 1 3 rfl rfl (by kernel_rfl) (by simp) (fun v hv => by simp at hv; subst hv; rfl) ?_
   refine WL.drop (WL.frz fun K1 l1 l2 => WL.drop (WL.del 1 rfl (WL.del 1 rfl ?_)))
   have x45 := o45.isS.le l2
   have le1 := le.trans l1
   refine WL.hs (pt b4 #[.int .u64 ((a1.1 : Nat) : Int), .int .u64 ((a2.1 : Nat) : Int), .slice ao45 cf.length c45, .slice none 0 0] 32 :: pt lb (lgB wp db hp (some eb) kt kv 0 0 (.slice a0 vot0.length c0) (.slice none 0 0) a3.1 a5.1 lS cd) 91 :: eh :: dh :: hs) rfl ?_
   refine fin hT 0 rfl (th (sq (sq (rg ?_))))
   obtain ⟨R, hR⟩ : ∃ R, R = rdDat D a3.1 a4.1 32769 0 [] := ⟨_, rfl⟩
   rw [<- hR]
   refine fin hT 1 rfl (th (bk (WC.em ?_)))
   refine loop (σ := (Nat × List UInt8) × (Option Addr × Nat × PH) × PH) (fun s => [(0, .pointer (some ⟨lb, 0, none⟩)), (4, .pointer (some ⟨b4, 0, none⟩)), (5, .int .i64 ((a4.1 : Nat) : Int)), (8, .int .i64 ((s.1.1 : Nat) : Int))]) (fun s => s.2.2)
    (fun s => s.2.1.2.2 :: pt b4 #[.int .u64 ((a1.1 : Nat) : Int), .int .u64 ((a2.1 : Nat) : Int), .slice ao45 cf.length c45, .slice s.2.1.1 s.1.2.length s.2.1.2.1] 32 :: pt lb (lgB wp db hp (some eb) kt kv 0 0 (.slice a0 vot0.length c0) (.slice none 0 0) a3.1 a5.1 lS cd) 91 :: eh :: dh :: hs)
    (fun s => s.1.2.length = 64 * s.1.1 /\ s.1.1 <= 32768 /\ rdDat D a3.1 a4.1 (32769 - s.1.1) s.1.1 s.1.2 = R /\ Le K1 s.2.2 /\ Own s.2.1.2.2 s.2.1.1 s.1.2.length s.2.1.2.1 5 1 (bv s.1.2)) (fun s => 32769 - s.1.1)
    ((0, []), (none, 0, em), K1) ⟨rfl, Nat.zero_le _, hR.symm, Le.refl _, Own.nil _ _⟩ ⟨rfl, rfl, rfl, rfl, trivial⟩ rfl rfl ?_
   rintro ⟨⟨n, acc⟩, ⟨ag, cg, g⟩, K2⟩ ⟨hal, hn2, hw, le2, og⟩
   dsimp only at *
   have le12 := le1.trans le2
   rw [show 32769 - n = (32768 - n) + 1 from by omega, rdDat_step] at hw
   unfold lgTop at m3 m5 m1
   refine sq (sq (rg ?_))
   refine ldp hT 1 1 rfl rfl rfl ?_
   refine cmpS hT 2 rfl fun b61 h61 => ?_
   refine fin hT 0 rfl (th (ifP h61 rfl (fun e8 => ?_) (fun e8 => ?_)))
   ·rw [if_pos (by omega)] at hw
    have hn3 : n < 32768 := by omega
    refine sk (th (sq (bk (sq (rga [pt lb (lgB wp db hp (some eb) kt kv 0 0 (.slice a0 vot0.length c0) (.slice none 0 0) a3.1 a5.1 lS cd) 91] 16 [0, 2, 4, 6, 8, 10, 12, 14, 18, 17, 21, 22, 24, 26, 28, 30] (by simp) (by kernel_rfl) (by kernel_rfl) ?_)))))
    refine dldp hT (by kernel_rfl) 3 0 rfl rfl rfl ?_
    refine dldp hT (by kernel_rfl) 3 0 rfl rfl rfl ?_
    refine dact hT (by kernel_rfl) 1 rfl ?_
    refine cl hT 0 rfl (areaLC a3.1 (by omega)) ?_
    rintro v73 K73 hs73 ⟨rfl, rfl, rfl⟩
    refine dnex [pt lb (lgB wp db hp (some eb) kt kv 0 0 (.slice a0 vot0.length c0) (.slice none 0 0) a3.1 a5.1 lS cd) 91] (by simp) (by simp) rfl ?_
    refine dact hT (by kernel_rfl) 0 rfl ?_
    refine cl hT 0 rfl (Ct.at 4 rfl (readH db D c oD (by omega) (hd.le le12) (lgA4 a3.1) n)) ?_
    rintro v75 K75 hs75 ⟨dh, rfl, rfl, le3, hrd⟩
    refine dnexL [pt lb (lgB wp db hp (some eb) kt kv 0 0 (.slice a0 vot0.length c0) (.slice none 0 0) a3.1 a5.1 lS cd) 91] (by simp) (by simp) le3 ?_
    rcases hrd with ⟨hnone, rfl⟩ | ⟨bs, ab, kb, hsome, hbl, rfl, xb⟩
    ·rw [hnone] at hw
     refine dend hT (by kernel_rfl) 5 rfl (th (sq (sq (rg ?_))))
     refine fin hT 2 rfl (th (ifT rfl ?_))
     refine sq (rg ?_)
     refine fin hT 1 rfl (th (rt (rT (rB (rT (rT (rB (rT (WQ.drop (WQ.drop ?_))))))))))
     rw [<- hw]
     exact ret1 rfl rfl ⟨le12.trans le3, ⟨0, 0, vot0, []⟩, a3.1, a5.1, a0, c0, none, 0, rfl, rfl, x0.le (le12.trans le3), IsS.nil _ _ _ _, fun p hp => by cases hp⟩
    ·rw [hsome] at hw
     dsimp only at hw
     refine dend hT (by kernel_rfl) 5 rfl (th (sq (sq (rg ?_))))
     refine fin hT 2 rfl (th (ifF rfl ?_))
     refine sk (th (rg ?_))
     refine ldp hT 1 1 rfl rfl rfl ?_
     refine app hT 1 0 rfl rfl og (.inl rfl) xb rfl (by decide) (bv_one _) (by show (acc.length + bs.length) * 1 <= _; omega) (by simp only [maxLen]; omega) fun ao83 c83 g83 o83 => ?_
     have o83' : Own g83 ao83 (acc ++ bs).length c83 5 1 (bv (acc ++ bs)) := own_of o83 (by rw [List.length_append]) (by rw [bv_append])
     refine stp hT 1 1 rfl rfl rfl rfl ?_
     refine fin hT 0 rfl (bl (th (rg ?_)))
     refine ar hT 1 rfl (i64w (x := ((n + 1 : Nat) : Int)) (by omega)) ?_
     refine fin hT 1 rfl ?_
     refine again (x := ((n, acc), (ag, cg, g), em)) ((n + 1, acc ++ bs), (ao83, c83, g83), K75) ⟨rfl, rfl, rfl, rfl, trivial⟩ rfl (by dsimp only; rw [List.length_append]; rfl) ⟨by dsimp only; rw [List.length_append]; omega, by dsimp only; omega, ?_, le2.trans le3, o83'⟩ (by dsimp only; omega)
     dsimp only
     rw [show 32769 - (n + 1) = 32768 - n from by omega]
     exact hw
   ·rw [if_neg (by omega)] at hw
    rw [<- hw]
    dsimp only
    have hcg := og.isS.2.1
    refine ex (xt (xt (xb (th (sq (rg ?_))))))
    refine ldp hT 1 1 rfl rfl rfl ?_
    refine sl hT 1 0 a4.1 rfl og.isS rfl (by show ((a4.1 : Nat) : Int) = ((0 + a4.1 : Nat) : Int); omega) (by omega) (ys := bv (acc.take a4.1)) (by
     show ((bv acc).drop (0 * 1)).take (a4.1 * 1) = _
     simp [bv]) fun ao88 c88 x88 => ?_
    refine stp hT 1 1 rfl rfl rfl rfl ?_
    refine WL.frz fun K3 l3 l4 => ?_
    have x88' := x88.le l4
    have hln : (acc.take a4.1).length = a4.1 := by rw [List.length_take]; omega
    refine WL.hs (pt b4 #[.int .u64 ((a1.1 : Nat) : Int), .int .u64 ((a2.1 : Nat) : Int), .slice ao45 cf.length c45, .slice ao88 a4.1 c88] 32 :: pt lb (lgB wp db hp (some eb) kt kv 0 0 (.slice a0 vot0.length c0) (.slice none 0 0) a3.1 a5.1 lS cd) 91 :: eh :: dh :: hs) rfl ?_
    refine fin hT 0 rfl (th (sq (rg ?_)))
    refine ldS hT 1 0 rfl rfl (by kernel_rfl) ?_
    refine sts hT 2 1 rfl rfl (by kernel_rfl) (by simp [lgB]) (fun v hv => by simp at hv; rcases hv with rfl | rfl | rfl | rfl <;> rfl) ?_
    refine fin hT 0 rfl (th (sq (rg (WL.drop ?_))))
    refine fin hT 1 rfl (th (rt ?_))
    exact ret1 rfl rfl ⟨le12.trans l3, ⟨a1.1, a2.1, cf, acc.take a4.1⟩, a3.1, a5.1, ao45, c45, ao88, c88, by dsimp only; rw [hln]; rfl, rfl, x45.le (le2.trans l3), by dsimp only; rw [hln]; exact x88', fun p hp => (Option.some.inj hp).symm⟩
end Go.Proofs.YtneeeblghijmgaaGreat
end
section
namespace Go.En
theorem WL.fr {P : Program} {w0 : World} {ops : Array Oper} {Q : Exit -> Act -> World -> Prop} {rest : List Oper} {n : Nat} {l : Sl} {K : PH} {hs : List PH} (i : Nat) {h : PH} (hi : hs[i]? = some h) (hk : WL P w0 ops Q rest n l K (h :: hs.eraseIdx i)) : WL P w0 ops Q rest n l K hs := fun a w ha hw => hk a w ha (hw.perm (perm_front hs i h hi))
theorem WC.fr {P : Program} {w0 : World} {Q : Exit -> Act -> World -> Prop} {n : Nat} {l : Sl} {K : PH} {hs : List PH} {c : Code} (i : Nat) {h : PH} (hi : hs[i]? = some h) (hk : WC P w0 c Q n l K (h :: hs.eraseIdx i)) : WC P w0 c Q n l K hs := fun a w ha hw => hk a w ha (hw.perm (perm_front hs i h hi))
theorem WQ.fr {w0 : World} {Q : Exit -> Act -> World -> Prop} {e : Exit} {n : Nat} {l : Sl} {K : PH} {hs : List PH} (i : Nat) {h : PH} (hi : hs[i]? = some h) (hk : WQ w0 Q e n l K (h :: hs.eraseIdx i)) : WQ w0 Q e n l K hs := fun a w ha hw => hk a w ha (hw.perm (perm_front hs i h hi))
theorem rdE_cons (i : Nat) (b : List UInt8) (r : List (List UInt8)) : rdE i (b :: r) = match getEnt b with
  | none => none
  | some e => if e.idx = i then (rdE (i + 1) r).map (e :: ·) else none := rfl
end Go.En
namespace Go.Proofs.YtneeeblghijmgaaGreat
open Go.En
attribute [local irreducible] Code.wp wpList Calls
theorem readEntriesC {w0 : World} {K wh : PH} {hs : List PH} (lb db wb : Nat) (hp ep : Option Nat) (kt : Nat) (kv : Int) (s : Snp) (hsi : s.idx <= lgTop) (vS dS : Value) (pl fr : Nat) (cd : Int) (W : Wl) (hW : WalH K wb db W wh) (c : Nat) (hb : WBd c W) (hc : c <= 1000000000) :
  Ct Tryz.prog w0 64 [.pointer (some ⟨lb, 0, none⟩)] K (pt lb (lgB (some wb) db hp ep kt kv s.idx s.term vS dS pl fr (.slice none 0 0) cd) 91 :: wh :: hs)
   (fun v K' hs' => Le K K' /\ ∃ gl aL cL l, hs' = gl :: pt lb (lgB (some wb) db hp ep kt kv s.idx s.term vS dS pl fr (.slice aL (List.length l) cL) cd) 91 :: wh :: hs /\ v = .bool (rdEnts s W).isSome /\
    SlZ 4 46 (EntC K') gl aL l.length cL l /\ ∀ x, rdEnts s W = some x -> x = l) := by
 obtain ⟨R, hR⟩ : ∃ R, R = rdEnts s W := ⟨_, rfl⟩
 rw [<- hR]
 unfold rdEnts at hR
 have hlast := hb.last
 have hrecs := hb.recs
 unfold wTop at hlast
 unfold lgTop at hsi
 obtain ⟨total, htot⟩ : ∃ t, t = W.first + W.recs.length := ⟨_, rfl⟩
 have hlv : lastV total = if total = 0 then 18446744073709551615 else ((total : Nat) : Int) - 1 := rfl
 refine enter Tryz.func64 (by kernel_rfl) rfl rfl rfl ?_
 refine sq (rg ?_)
 refine fin hT 1 rfl (th (sq (rg ?_)))
 refine ldp hT 3 0 rfl rfl rfl ?_
 refine fin hT 1 rfl (th (sq (sq (rga [pt lb (lgB (some wb) db hp ep kt kv s.idx s.term vS dS pl fr (.slice none 0 0) cd) 91] 19 [0, 4, 6, 8, 10, 12, 14, 3, 16, 18, 20, 24, 26, 28, 30, 32, 23, 34, 36] (by simp) (by kernel_rfl) (by kernel_rfl) ?_))))
 refine dldp hT (by kernel_rfl) 5 0 rfl rfl rfl ?_
 refine dar hT (by kernel_rfl) 0 rfl (u64w (x := ((s.idx + 1 : Nat) : Int)) (by omega)) ?_
 refine dact hT (by kernel_rfl) 0 rfl ?_
 refine cl hT 0 rfl (Ct.keep 1 rfl (firstWH wb db W hW)) ?_
 rintro v14 K14 hs14 ⟨rfl, rfl, rfl⟩
 refine dnex [pt lb (lgB (some wb) db hp ep kt kv s.idx s.term vS dS pl fr (.slice none 0 0) cd) 91] (by simp) (by simp) rfl ?_
 refine dcmp hT (by kernel_rfl) 0 (s.idx + 1 < W.first) rfl (by simp; omega) (fun h1 => ?_) (fun h1 => ?_)
 ·rw [if_pos (.inl h1)] at hR
  refine dact hT (by kernel_rfl) 7 rfl ?_
  refine WL.pures hT 1 rfl ?_
  refine dnex [pt lb (lgB (some wb) db hp ep kt kv s.idx s.term vS dS pl fr (.slice none 0 0) cd) 91] (by simp) (by simp) rfl ?_
  refine dend hT (by kernel_rfl) 2 rfl (th (ifT rfl (sq (rg ?_))))
  refine fin hT 1 rfl (th (rt (rT (WQ.em ?_))))
  rw [hR]
  exact ret1 rfl rfl ⟨Le.refl _, em, none, 0, [], rfl, rfl, SlZ.nil _ _, fun x hx => by cases hx⟩
 ·refine dldp hT (by kernel_rfl) 6 0 rfl rfl rfl ?_
  refine dact hT (by kernel_rfl) 0 rfl ?_
  refine cl hT 0 rfl (Ct.keep 1 rfl (lastWH wb db W hW hb.last)) ?_
  rintro v24 K24 hs24 ⟨rfl, rfl, rfl⟩
  rw [<- htot] at hR ⊢
  refine dnex [pt lb (lgB (some wb) db hp ep kt kv s.idx s.term vS dS pl fr (.slice none 0 0) cd) 91] (by simp) (by simp) rfl ?_
  refine dcbS hT (by kernel_rfl) 0 (lastV total < ((s.idx : Nat) : Int)) rfl (by simp) fun b30 h30 => ?_
  refine dend hT (by kernel_rfl) 1 rfl (th (ifP h30 rfl (fun e2 => ?_) (fun e2 => ?_)))
  ·rw [if_pos (by right; rw [hlv] at e2; split at e2 <;> omega)] at hR
   refine sq (rg ?_)
   refine fin hT 1 rfl (th (rt (rT (WQ.em ?_))))
   rw [hR]
   exact ret1 rfl rfl ⟨Le.refl _, em, none, 0, [], rfl, rfl, SlZ.nil _ _, fun x hx => by cases hx⟩
  ·refine sk (th (sq (sq (rg ?_))))
   refine ldp hT 4 0 rfl rfl rfl ?_
   refine ar hT 0 rfl (u64w (x := ((s.idx + 1 + 0 : Nat) : Int)) (by omega)) ?_
   refine fin hT 1 rfl (th (bk (WC.em ?_)))
   have h0 : (total = 0 /\ R = none /\ 0 = 0) \/ (s.idx + 1 + 0 <= total /\ R = (rdE (s.idx + 1 + 0) (W.recs.drop (s.idx + 1 - W.first + 0))).map (([] : List Ent) ++ ·)) := by
    rw [hlv] at e2
    by_cases h : total = 0
    ·rw [if_pos (by omega)] at hR
     exact .inl ⟨h, hR, rfl⟩
    ·rw [if_neg h] at e2
     rw [if_neg (by omega)] at hR
     refine .inr ⟨by omega, ?_⟩
     rw [hR, Nat.add_zero, Nat.add_zero]
     simp
   refine loop (σ := (Nat × List Ent) × (Option Addr × Nat × PH) × PH) (fun x => [(0, .pointer (some ⟨lb, 0, none⟩)), (3, .pointer (some ⟨wb, 0, none⟩)), (4, .int .u64 ((s.idx + 1 + x.1.1 : Nat) : Int))]) (fun x => x.2.2)
    (fun x => x.2.1.2.2 :: pt lb (lgB (some wb) db hp ep kt kv s.idx s.term vS dS pl fr (.slice x.2.1.1 x.1.2.length x.2.1.2.1) cd) 91 :: wh :: hs)
    (fun x => ((total = 0 /\ R = none /\ x.1.1 = 0) \/ (s.idx + 1 + x.1.1 <= total /\ R = (rdE (s.idx + 1 + x.1.1) (W.recs.drop (s.idx + 1 - W.first + x.1.1))).map (x.1.2 ++ ·))) /\ x.1.2.length = x.1.1 /\ Le K24 x.2.2 /\ SlZ 4 46 (EntC x.2.2) x.2.1.2.2 x.2.1.1 x.1.2.length x.2.1.2.1 x.1.2) (fun x => W.recs.length + 1 - x.1.1)
    ((0, []), (none, 0, em), K24) ⟨h0, rfl, Le.refl _, SlZ.nil _ _⟩ ⟨rfl, rfl, rfl, trivial⟩ rfl rfl ?_
   clear h0 hR
   rintro ⟨⟨j, l⟩, ⟨aL, cL, gl⟩, K1⟩ ⟨hj, hl, le1, oL⟩
   dsimp only at *
   refine sq (sq (rg ?_))
   refine cl hT 2 rfl (Ct.keep 2 rfl (lastWH wb db W (hW.le le1) hb.last)) ?_
   rintro v40 K40 hs40 ⟨rfl, rfl, rfl⟩
   rw [<- htot]
   refine cmpS hT 0 rfl fun b41 h41 => ?_
   refine fin hT 0 rfl (th (ifP h41 rfl (fun e4 => ?_) (fun e4 => ?_)))
   ·obtain ⟨i, hi⟩ : ∃ i, i = s.idx + 1 + j := ⟨_, rfl⟩
    have hiB : i < 18446744073709551616 := by rw [hlv] at e4; split at e4 <;> omega
    refine sk (th (sq (bk (sq (rg ?_)))))
    refine cl hT 2 rfl (Ct.at 2 rfl (getWH wb db W c hc hb (hW.le le1) (s.idx + 1 + j) (by omega))) ?_
    rintro v47 K47 hs47 ⟨wh, rfl, rfl, le2, hv⟩
    have le12 := le1.trans le2
    obtain ⟨r0, ar0, kr, t0, rfl, xr, hcase⟩ : ∃ r0 ar0 kr t0, v47 = .tuple #[.slice ar0 (List.length r0) kr, .bool t0] /\ IsS K47 ar0 r0.length kr 1 (bv r0) /\ ((r0 = [] /\ ¬ (W.first <= s.idx + 1 + j /\ s.idx + 1 + j - W.first < W.recs.length)) \/ (W.first <= s.idx + 1 + j /\ W.recs[s.idx + 1 + j - W.first]? = some r0)) := by
     rcases hv with ⟨hno, rfl⟩ | ⟨r, ao, k, h1', h2', rfl, x⟩
     ·exact ⟨[], none, 0, false, rfl, IsS.nil _ _ _ _, .inl ⟨rfl, hno⟩⟩
     ·exact ⟨r, ao, k, true, rfl, x, .inr ⟨h1', h2'⟩⟩
    have hr0l : r0.length <= 512 := by
     rcases hcase with ⟨h, _⟩ | ⟨_, h⟩
     ·rw [h]; exact Nat.zero_le _
     ·exact hb.recl r0 (List.mem_of_getElem? h)
    have hstep : R = match getEnt r0 with
      | none => none
      | some e => if e.idx = i then (rdE (i + 1) (W.recs.drop (s.idx + 1 - W.first + (j + 1)))).map ((l ++ [e]) ++ ·) else none := by
     rcases hj with ⟨ht, hRn, _⟩ | ⟨ht, hRs⟩
     ·rcases hcase with ⟨h, _⟩ | ⟨_, h⟩
      ·rw [h, hRn]; rfl
      ·have := (List.getElem?_eq_some_iff.1 h).1; omega
     ·rcases hcase with ⟨_, h⟩ | ⟨hf, h⟩
      ·exfalso
       rw [hlv] at e4
       split at e4 <;> omega
      ·have hk : s.idx + 1 + j - W.first = s.idx + 1 - W.first + j := by omega
       rw [hk] at h
       have hkl := (List.getElem?_eq_some_iff.1 h).1
       rw [List.drop_eq_getElem_cons hkl, show W.recs[s.idx + 1 - W.first + j] = r0 from by rw [List.getElem?_eq_getElem hkl] at h; exact Option.some.inj h, rdE_cons, <- hi] at hRs
       rw [hRs]
       cases getEnt r0 with
       | none => rfl
       | some e =>
        dsimp only
        by_cases he : e.idx = i
        ·rw [if_pos he, if_pos he]
         cases rdE (i + 1) (W.recs.drop (s.idx + 1 - W.first + j + 1)) with
         | none => rfl
         | some t => simp
        ·rw [if_neg he, if_neg he]; rfl
    refine fin hT 5 rfl (th (sq (rg ?_)))
    refine cl hT 1 rfl (getEntC ar0 kr r0 (.inl rfl) xr (by omega)) ?_
    rintro v52 K52 hs52 ⟨rfl, h52, ao52, c52, rfl, rfl, o52⟩
    obtain ⟨oe, hoe⟩ : ∃ oe, oe = getEnt r0 := ⟨_, rfl⟩
    rw [<- hoe] at o52 hstep ⊢
    refine al hT 3 (.agg #[.int .u64 0, .int .u64 0, .int .i64 0, .slice none 0 0]) rfl (by kernel_rfl) fun b7 => ?_
    refine stS hT 0 0 rfl rfl (by kernel_rfl) rfl rfl ?_
    refine WL.hs (pt b7 ((oe.getD Ent.zero).v ao52 c52) 46 :: h52 :: gl :: pt lb (lgB (some wb) db hp ep kt kv s.idx s.term vS dS pl fr (.slice aL l.length cL) cd) 91 :: wh :: hs) rfl ?_
    refine fin hT 1 rfl (th (sq (sq (rg ?_))))
    refine cmpS hT 1 rfl fun b56 h56 => ?_
    refine' bjo (q := (oe.getD Ent.zero).idx ≠ i) hT 1 5 62 [56, 57] h56 rfl rfl rfl rfl rfl rfl rfl (fun _ => ?x6) (fun b62 h62 => ?_)
    case x6 =>
     refine ldp hT 1 0 rfl rfl rfl ?_
     refine cmpS hT 1 rfl fun b61 h61 => ?_
     exact fin hT 1 rfl (bjx (h61.trans (by rw [hi]; omega)) rfl rfl rfl)
    refine fin hT 0 rfl (th (ifP h62 rfl (fun e8 => ?_) (fun e8 => ?_)))
    ·have hRn : R = none := by
      rw [hstep]
      cases oe with
      | none => rfl
      | some e =>
       have : e.idx ≠ i := by
        rcases e8 with h | h
        ·simp [ec] at h
        ·exact h
       dsimp only
       rw [if_neg this]
     refine sq (rg (WL.drop (WL.drop ?_)))
     refine fin hT 1 rfl (th (rt (rT (rB (rT (rT (rB (rT ?_))))))))
     rw [hRn]
     exact ret1 rfl rfl ⟨le12, gl, aL, cL, l, rfl, rfl, oL.imp fun _ _ h => h.le le2, fun x hx => by cases hx⟩
    ·obtain ⟨e, rfl⟩ : ∃ e, oe = some e := by
      cases oe with
      | none => exact absurd (.inl (by simp [ec])) e8
      | some e => exact ⟨e, rfl⟩
     have hei : e.idx = i := by
      by_cases h : e.idx = i
      ·exact h
      ·exact absurd (.inr h) e8
     dsimp only at hstep
     rw [if_pos hei] at hstep
     have o52 : Own h52 ao52 e.data.length c52 5 1 (bv e.data) := o52
     have hjr : j <= W.recs.length := by
      rcases hj with ⟨h, hRn, _⟩ | ⟨h, _⟩
      ·rcases hcase with ⟨h9, _⟩ | ⟨_, h9⟩
       ·rw [h9] at hoe; cases hoe
       ·have := (List.getElem?_eq_some_iff.1 h9).1; omega
      ·omega
     have hnt : total ≠ 0 := fun ht => by
      rcases hcase with ⟨h9, _⟩ | ⟨_, h9⟩
      ·rw [h9] at hoe; cases hoe
      ·have := (List.getElem?_eq_some_iff.1 h9).1; omega
     have hit : i < total := by rw [hlv, if_neg hnt] at e4; omega
     refine sk (th (WC.fr 1 rfl (WC.frz fun K2 l1 l2 => ?_)))
     have le23 := le2.trans l1
     have x52 := o52.isS.le l2
     refine WC.perm (hs' := pt b7 (e.v ao52 c52) 46 :: gl :: pt lb (lgB (some wb) db hp ep kt kv s.idx s.term vS dS pl fr (.slice aL l.length cL) cd) 91 :: wh :: hs) (List.Perm.refl _) ?_
     refine rga [pt lb (lgB (some wb) db hp ep kt kv s.idx s.term vS dS pl fr (.slice aL l.length cL) cd) 91, pt b7 (e.v ao52 c52) 46] 10 [0, 2, 4, 6, 8, 10, 13, 15, 16, 18, 21] (by simp) (by kernel_rfl) (by kernel_rfl) ?_
     refine dldpw hT (by kernel_rfl) 4 0 rfl (by kernel_rfl) rfl rfl ?_
     refine dldS hT (by kernel_rfl) 0 1 rfl (by kernel_rfl) rfl (by kernel_rfl) ?_
     refine dact hT (by kernel_rfl) 0 rfl ?_
     refine lit hT 0 (e.v ao52 c52) rfl (by decide) (by kernel_rfl) fun b69 => ?_
     refine dnex [pt lb (lgB (some wb) db hp ep kt kv s.idx s.term vS dS pl fr (.slice aL l.length cL) cd) 91, pt b7 (e.v ao52 c52) 46] (by simp) (by simp) rfl ?_
     refine dact hT (by kernel_rfl) 0 rfl ?_
     refine appSq hT 0 2 (e.v ao52 c52).toList e rfl rfl rfl (oL.imp fun _ _ h => h.le le23) ⟨ao52, c52, rfl, x52⟩ rfl (by simp [Ent.v, Value.oneCell']) rfl (by decide) (by show (l.length + 1) * 48 <= _; omega) (by simp only [maxLen]; omega) fun ao70 c70 g70 o70 => ?_
     refine dnex [pt lb (lgB (some wb) db hp ep kt kv s.idx s.term vS dS pl fr (.slice aL l.length cL) cd) 91, pt b7 (e.v ao52 c52) 46] (by simp) (by simp) rfl ?_
     refine dact hT (by kernel_rfl) 2 rfl ?_
     refine stp hT 0 3 rfl rfl rfl rfl ?_
     refine dnext (.inl (by kernel_rfl)) ?_
     refine dend hT (by kernel_rfl) 0 rfl (bl (th (rg (WL.drop (WL.drop ?_)))))
     refine ar hT 1 rfl (u64w (x := ((s.idx + 1 + (j + 1) : Nat) : Int)) (by omega)) ?_
     refine fin hT 1 rfl ?_
     refine again (x := ((j, l), (aL, cL, gl), em)) ((j + 1, l ++ [e]), (ao70, c70, g70), K2) ⟨rfl, rfl, rfl, trivial⟩ rfl (by dsimp only; rw [List.length_append]; rfl) ⟨.inr ⟨by dsimp only; omega, ?_⟩, by dsimp only; rw [List.length_append]; simp only [List.length_cons, List.length_nil]; omega, le1.trans le23, by dsimp only; rw [List.length_append]; exact o70⟩ (by dsimp only; omega)
     dsimp only
     rw [hstep, show s.idx + 1 + (j + 1) = i + 1 from by omega]
   ·have hfin : R = some l := by
     rcases hj with ⟨h, hRn, hj0⟩ | ⟨h, hRs⟩
     ·rw [hlv, if_pos h] at e4; exfalso; omega
     ·have hit : s.idx + 1 + j = total := by
       rw [hlv] at e4
       split at e4 <;> omega
      rw [List.drop_eq_nil_of_le (by omega)] at hRs
      rw [hRs]
      simp [rdE]
    refine ex (xt (xt (xb (th (sq (rg ?_))))))
    refine fin hT 1 rfl (th (rt ?_))
    rw [hfin]
    exact ret1 rfl rfl ⟨le1, gl, aL, cL, l, rfl, rfl, oL, fun x hx => (Option.some.inj hx).symm⟩
end Go.Proofs.YtneeeblghijmgaaGreat
end
section
namespace Go.En
theorem lgFree_cons (pl : Nat) (a : Int) (r : List Int) (D : Dk) : lgFree pl (a :: r) D = if a % 4 = 2 /\ a ≠ ((lgA4 pl : Nat) : Int) then (if (D.free a).2 ≠ 0 then D.free a else lgFree pl r (D.free a).1) else lgFree pl r D := rfl
theorem DOk.lgFree (pl : Nat) : ∀ (l : List Int) (D : Dk) (c : Nat), DOk c D -> DOk (c + l.length) (lgFree pl l D).1
 | [], D, c, o => o
 | a :: r, D, c, o => by
  rw [lgFree_cons]
  simp only [List.length_cons]
  split
  ·split
   ·exact (o.free a).up (by omega)
   ·exact (DOk.lgFree pl r _ _ (o.free a)).up (by omega)
  ·exact (DOk.lgFree pl r D c o).up (by omega)
theorem wOpen_code {D : Dk} {fr first : Nat} : ((wOpen D fr first).1 = none -> (wOpen D fr first).2.2 ≠ 0) /\ (∀ W, (wOpen D fr first).1 = some W -> (wOpen D fr first).2.2 = 0) := by
 unfold wOpen
 split
 ·exact ⟨fun _ => (show (30 : Int) ≠ 0 by decide), fun W h => by cases h⟩
 ·split
  ·exact ⟨fun _ => (show (52 : Int) ≠ 0 by decide), fun W h => by cases h⟩
  ·split
   ·exact ⟨fun _ => (show (52 : Int) ≠ 0 by decide), fun W h => by cases h⟩
   ·split
    ·exact ⟨fun _ => (show (52 : Int) ≠ 0 by decide), fun W h => by cases h⟩
    ·split
     ·rename_i h
      exact ⟨fun _ => h, fun W h => by cases h⟩
     ·exact ⟨(fun h => by cases h), fun W h => rfl⟩
theorem rdHead_bd {D : Dk} {S : Slt} {v : List Int} {p : Snp × Nat × Nat} (h : rdHead D S v = some p) : p.1.idx <= lgTop /\ p.2.1 <= lgTop /\ p.2.2 <= lgTop := by
 unfold rdHead at h
 split at h
 ·cases h; exact ⟨Nat.zero_le _, Nat.zero_le _, Nat.zero_le _⟩
 ·split at h
  ·cases h
  ·split at h
   ·cases h
   ·cases h; exact ⟨rUint_le _ _, rUint_le _ _, rUint_le _ _⟩
end Go.En
namespace Go.Proofs.YtneeeblghijmgaaGreat
open Go.En
attribute [local irreducible] Code.wp wpList Calls
theorem openSH {w0 : World} {K h : PH} {hs : List PH} (b : Nat) (D : Dk) (c : Nat) (o : D.Ok c) (hc : c <= 1099511627) (hm : DskH K b D h) (area : Nat) :
  Ct Tryz.prog w0 58 [.pointer (some ⟨b, 0, none⟩), .int .u64 ((area : Nat) : Int)] K (h :: hs)
   (fun v K' hs' => ∃ h' new, hs' = new ++ h' :: hs /\ h' = h /\ Le K K' /\ ((D.dead = true /\ new = [] /\ v = .tuple #[.pointer none, .int .i64 30]) \/ (D.dead = false /\ ∃ sb s, new = [s] /\ SltH K' sb b area (sltOpen D area) s /\ v = .tuple #[.pointer (some ⟨sb, 0, none⟩), .int .i64 0]))) :=
 (openSC b D c o hc hm area).mono fun v K' hs' hR => by
  rcases hR with ⟨h1, rfl, rfl, rfl⟩ | ⟨h1, le, sb, s, rfl, hS, rfl⟩
  ·exact ⟨h, [], rfl, rfl, Le.refl _, .inl ⟨h1, rfl, rfl⟩⟩
  ·exact ⟨h, [s], rfl, rfl, le, .inr ⟨h1, sb, s, rfl, hS, rfl⟩⟩
theorem openWH {w0 : World} {K dh : PH} {hs : List PH} (db : Nat) (D : Dk) (c : Nat) (oD : DOk c D) (hc : c <= 400000000) (hd : DskH K db D dh) (fr first : Nat) (hfr : fr < 18446744073709551616) (hfi : first < 18446744073709551616) :
  Ct Tryz.prog w0 63 [.pointer (some ⟨db, 0, none⟩), .int .u64 ((fr : Nat) : Int), .int .u64 ((first : Nat) : Int)] K (dh :: hs)
   (fun v K' hs' => ∃ h' new, hs' = new ++ h' :: hs /\ Le K K' /\ DskH K' db (wOpen D fr first).2.1 h' /\ (((wOpen D fr first).1 = none /\ new = [] /\ v = .tuple #[.pointer none, .int .i64 (wOpen D fr first).2.2]) \/
    (∃ W wb wh, (wOpen D fr first).1 = some W /\ new = [wh] /\ WalH K' wb db W wh /\ v = .tuple #[.pointer (some ⟨wb, 0, none⟩), .int .i64 (wOpen D fr first).2.2]))) := by
 refine Ct.fix2 (openWC db D c oD hc hd fr first hfr hfi) ?_
 rintro w v K' hs' hS ⟨le, m', dh', rfl, hd', hR⟩
 cases hW : (wOpen D fr first).1 with
 | none =>
  rw [hW] at hR
  obtain ⟨rfl, rfl⟩ := hR
  exact ⟨K', _, ⟨dh', [], rfl, le, hd', .inl ⟨rfl, rfl, rfl⟩⟩, hS⟩
 | some W =>
  rw [hW] at hR
  obtain ⟨wb, hM, rfl⟩ := hR
  obtain ⟨d, hS'⟩ := Sat.join m' hS
  exact ⟨K', _, ⟨dh', [uns m'], rfl, le, hd', .inr ⟨W, wb, uns m', rfl, rfl, ⟨m', rfl, d, hM⟩, rfl⟩⟩, hS'⟩
theorem didLB {w0 : World} {K : PH} {hs : List PH} (lb : Nat) (wp : Option Nat) (db : Nat) (hp ep : Option Nat) (kt : Nat) (kv : Int) (si st : Nat) (vS dS : Value) (pl fr : Nat) (lS : Value) (cd e : Int) :
  Ct Tryz.prog w0 39 [.pointer (some ⟨lb, 0, none⟩), .int .i64 e] K (pt lb (lgB wp db hp ep kt kv si st vS dS pl fr lS cd) 91 :: hs)
   (fun v K' hs' => ∃ h', hs' = h' :: hs /\ K' = K /\ h' = pt lb (lgB wp db hp ep kt kv si st vS dS pl fr lS (didV cd e)) 91 /\ v = .int .i64 (didV cd e)) := by
 unfold didV
 refine enter Tryz.func39 (by kernel_rfl) rfl rfl rfl ?_
 refine sq (rg ?_)
 refine fin hT 1 rfl (th (sq (sq (rg ?_))))
 refine ldp hT 3 0 rfl rfl rfl ?_
 refine cmpS hT 0 rfl fun b9 h9 => ?_
 refine fin hT 0 rfl (th (ifP h9 rfl (fun e2 => ?_) (fun e2 => ?_)))
 ·rw [if_pos e2]
  refine rg ?_
  refine stp hT 4 0 rfl rfl rfl rfl ?_
  refine fin hT 0 rfl (th (sq (rg ?_)))
  refine ldp hT 3 0 rfl rfl rfl ?_
  refine fin hT 1 rfl (th (rt ?_))
  exact ret1 rfl rfl ⟨_, rfl, rfl, rfl, rfl⟩
 ·rw [if_neg e2]
  refine sk (th (sq (rg ?_)))
  refine ldp hT 3 0 rfl rfl rfl ?_
  refine fin hT 1 rfl (th (rt ?_))
  exact ret1 rfl rfl ⟨_, rfl, rfl, rfl, rfl⟩
theorem openLC {w0 : World} {K dh : PH} {hs : List PH} (db : Nat) (D : Dk) (c : Nat) (oD : DOk c D) (hc : c <= 199000000) (hd : DskH K db D dh) (first : List Int) (hfl : first.length <= 1000000) (aF : Option Addr) (cF : Nat) (xF : IsS K aF first.length cF 1 (iv first)) :
  Ct Tryz.prog w0 27 [.pointer (some ⟨db, 0, none⟩), .agg #[.slice aF first.length cF]] K (dh :: hs)
   (fun v K' hs' => Le K K' /\ (((lOpen D first).1 = none /\ v = .tuple #[.pointer none, .int .i64 (lOpen D first).2.2] /\ ∃ dh', hs' = dh' :: hs /\ DskH K' db (lOpen D first).2.1 dh') \/
    (∃ L lb m, (lOpen D first).1 = some L /\ v = .tuple #[.pointer (some ⟨lb, 0, none⟩), .int .i64 (lOpen D first).2.2] /\ hs' = m ++ hs /\ LgM K' lb db L (lOpen D first).2.1 m))) := by
 obtain ⟨R, hR⟩ : ∃ R, R = lOpen D first := ⟨_, rfl⟩
 rw [<- hR]
 unfold lOpen at hR
 have hlen := oD.len
 refine enter Tryz.func27 (by kernel_rfl) rfl rfl rfl ?_
 refine sq (rg ?_)
 refine bx hT 0 rfl fun b3 => ?_
 refine WL.hs (pt b3 #[.slice aF first.length cF] 29 :: dh :: hs) rfl ?_
 refine fin hT 2 rfl (th (sq (sq (rg ?_))))
 refine ldS hT 0 0 rfl rfl (by kernel_rfl) ?_
 refine cl hT 0 rfl (rightC aF cF first (.inl rfl) xF (by omega)) ?_
 rintro v13 K13 hs13 ⟨rfl, rfl, rfl⟩
 cases hps : (putConf first).isSome with
 | false =>
  rw [if_pos hps] at hR
  refine fin hT 1 rfl (th (ifT rfl ?_))
  refine sq (rg (WL.drop ?_))
  refine fin hT 2 rfl (th (rt (rT ?_)))
  rw [hR]
  exact ret2 rfl rfl rfl ⟨Le.refl _, .inl ⟨rfl, rfl, dh, rfl, hd⟩⟩
 | true =>
  rw [if_neg (by rw [hps]; simp)] at hR
  refine fin hT 1 rfl (th (ifF rfl ?_))
  refine sk (th (sq (rg ?_)))
  refine bd hT 1 (.agg #[.int .u64 0, .int .i64 (-1)]) rfl (fun w => by kernel_rfl) ?_
  refine ldp hT 1 0 rfl rfl rfl ?_
  refine cl hT 0 rfl (cloneIC aF cF first (.inl rfl) xF (by omega)) ?_
  rintro v19 K19 hs19 ⟨le1, rfl, a0, c0, rfl, x0⟩
  refine bd hT 0 (.agg #[.slice a0 first.length c0]) rfl (fun w => by kernel_rfl) ?_
  refine bd hT 0 (.agg #[.int .u64 0, .int .u64 0, .slice a0 first.length c0, .slice none 0 0]) rfl (fun w => by kernel_rfl) ?_
  refine bd hT 0 (.agg (lgB none db none none 0 (-1) 0 0 (.slice a0 first.length c0) (.slice none 0 0) 0 0 (.slice none 0 0) 0)) rfl (fun w => by kernel_rfl) ?_
  refine bx hT 0 rfl fun lb => ?_
  refine WL.hs (pt lb (lgB none db none none 0 (-1) 0 0 (.slice a0 first.length c0) (.slice none 0 0) 0 0 (.slice none 0 0) 0) 91 :: pt b3 #[.slice aF first.length cF] 29 :: dh :: hs) rfl (WL.del 1 rfl ?_)
  refine fin hT 1 rfl (th (sq (rg ?_)))
  refine fin hT 2 rfl (th (sq (rg ?_)))
  refine cl hT 2 rfl (Ct.atN 1 rfl (openSH db D c oD.ok (by omega) (hd.le le1) 0)) ?_
  rintro v27 K27 hs27 ⟨dh, new, rfl, rfl, le2, hA⟩
  have le12 := le1.trans le2
  rcases hA with ⟨hdead, rfl, rfl⟩ | ⟨hdead, hb, hh, rfl, hH, rfl⟩
  ·rw [if_pos hdead] at hR
   refine stp hT 5 0 rfl rfl rfl rfl ?_
   refine fin hT 1 rfl (th (sq (rg ?_)))
   refine cl hT 2 rfl (Ct.atN 1 rfl (openSH db D c oD.ok (by omega) (hd.le le12) 4)) ?_
   rintro v35 K35 hs35 ⟨dh, new, rfl, rfl, le3, hA⟩
   rcases hA with ⟨_, rfl, rfl⟩ | ⟨hx, _⟩
   ·refine stp hT 5 0 rfl rfl rfl rfl ?_
    refine fin hT 1 rfl (th (sq (sq (rg ?_))))
    refine fin hT 6 rfl (th (ifT rfl ?_))
    refine sq (rg (WL.drop ?_))
    refine fin hT 2 rfl (th (rt (rT ?_)))
    rw [hR]
    exact ret2 rfl rfl rfl ⟨le12.trans le3, .inl ⟨rfl, rfl, dh, rfl, hd.le (le12.trans le3)⟩⟩
   ·rw [hdead] at hx; cases hx
  ·rw [if_neg (by rw [hdead]; simp)] at hR
   refine stp hT 5 1 rfl rfl rfl rfl ?_
   refine fin hT 1 rfl (th (sq (rg ?_)))
   refine cl hT 2 rfl (Ct.atN 2 rfl (openSH db D c oD.ok (by omega) (hd.le le12) 4)) ?_
   rintro v35 K35 hs35 ⟨dh, new, rfl, rfl, le3, hA⟩
   have le13 := le12.trans le3
   rcases hA with ⟨hx, _⟩ | ⟨_, eb, eh, rfl, hE, rfl⟩
   ·rw [hdead] at hx; cases hx
   ·refine stp hT 5 2 rfl rfl rfl rfl ?_
    refine WL.fr 1 rfl (WL.fr 2 rfl ?_)
    refine WL.hs (pt lb (lgB none db (some hb) (some eb) 0 (-1) 0 0 (.slice a0 first.length c0) (.slice none 0 0) 0 0 (.slice none 0 0) 0) 91 :: hh :: eh :: dh :: hs) rfl ?_
    have hHb := sltUp_bd oD.ok 0 2
    have hEb := sltUp_bd oD.ok 4 2
    refine fin hT 1 rfl (th (sq (sq (rg ?_))))
    refine fin hT 6 rfl (th (ifF rfl ?_))
    refine sk (th (sq (sq (rg ?_))))
    refine cl hT 1 rfl (readHardC lb db hb none (some eb) 0 0 _ _ 0 0 _ 0 (sltOpen D 0) (hH.le le3) hHb) ?_
    rintro v47 K47 hs47 ⟨le4, kt, kv, rfl, rfl, hkh⟩
    have le14 := le13.trans le4
    cases hrh : rdHard (sltOpen D 0) with
    | none =>
     rw [hrh] at hR
     dsimp only at hR
     refine fin hT 6 rfl (th (ifT rfl ?_))
     refine sq (rg (WL.drop (WL.drop (WL.drop ?_))))
     refine fin hT 2 rfl (th (rt (rT ?_)))
     rw [hR]
     exact ret2 rfl rfl rfl ⟨le14, .inl ⟨rfl, rfl, dh, rfl, hd.le le14⟩⟩
    | some kh =>
     rw [hrh] at hR
     dsimp only at hR
     have hkh := hkh kh hrh
     subst hkh
     refine WL.fr 3 rfl (WL.fr 3 rfl (WL.fr 2 rfl ?_))
     refine cl hT 3 rfl (readHeadC lb db eb none (some hb) kt kv first a0 c0 (x0.le (le2.trans (le3.trans le4))) _ 0 (sltOpen D 4) (hE.le le4) hEb D c oD.ok (by omega) (hd.le le14)) ?_
     rintro v51 K51 hs51 ⟨le5, sn, pl, fr, aV, cV, aD, cD, rfl, rfl, xV, xD, hhd⟩
     have le15 := le14.trans le5
     cases hrd : rdHead D (sltOpen D 4) first with
     | none =>
      rw [hrd] at hR
      dsimp only at hR
      refine fin hT 2 rfl (th (ifT rfl ?_))
      refine sq (rg (WL.drop (WL.drop (WL.del 1 rfl ?_))))
      refine fin hT 2 rfl (th (rt (rT ?_)))
      rw [hR]
      exact ret2 rfl rfl rfl ⟨le15, .inl ⟨rfl, rfl, dh, rfl, hd.le le15⟩⟩
     | some hp =>
      rw [hrd] at hR
      dsimp only at hR
      obtain ⟨hB1, hB2, hB3⟩ := rdHead_bd hrd
      have hhd := hhd hp hrd
      subst hhd
      dsimp only at hB1 hB2 hB3
      unfold lgTop at hB1 hB2 hB3
      unfold lOpen2 at hR
      dsimp only at hR
      have hbd := areasL_bd oD
      have hal := areasL_len oD
      have hkH := hH.le (le3.trans (le4.trans le5))
      have hkE := hE.le (le4.trans le5)
      obtain ⟨l, hl⟩ : ∃ l, l = areasL D := ⟨_, rfl⟩
      obtain ⟨F, hF⟩ : ∃ F, F = lgFree pl l D := ⟨_, rfl⟩
      rw [<- hl] at hbd hal hR
      rw [<- hF] at hR
      refine fin hT 2 rfl (th (ifF rfl ?_))
      refine sk (th (sq (sq (rg ?_))))
      refine cl hT 1 rfl (Ct.at 2 rfl (areasH db D c oD (by omega) (hd.le le15))) ?_
      rintro v55 K55 hs55 ⟨dh, rfl, rfl, le6, aA, cA, rfl, xA⟩
      rw [<- hl] at xA ⊢
      have le16 := le15.trans le6
      refine fin hT 2 rfl (th (bk ?_))
      refine loop (σ := Nat × Dk × PH) (fun s => [(0, .pointer (some ⟨db, 0, none⟩)), (6, .pointer (some ⟨lb, 0, none⟩)), (55, .slice aA l.length cA), (56, .int .i64 ((l.length : Nat) : Int)), (57, .int .i64 ((s.1 : Nat) : Int))]) (fun _ => K55)
       (fun s => pt lb (lgB none db (some hb) (some eb) kt kv sn.idx sn.term (.slice aV sn.vot.length cV) (.slice aD sn.data.length cD) pl fr (.slice none 0 0) 0) 91 :: eh :: s.2.2 :: hh :: hs) (fun s => s.1 <= l.length /\ lgFree pl (l.drop s.1) s.2.1 = F /\ DOk (c + s.1) s.2.1 /\ DskH K55 db s.2.1 s.2.2) (fun s => l.length - s.1) (0, D, dh) ⟨Nat.zero_le _, hF.symm, oD, hd.le le16⟩ ⟨rfl, rfl, rfl, rfl, rfl, trivial⟩ rfl rfl ?_
      rintro ⟨j, D', dh'⟩ ⟨hj, hw, oD', hD'⟩
      dsimp only at *
      refine sq (rg ?_)
      refine cmpS hT 0 rfl fun b58 h58 => ?_
      refine fin hT 0 rfl (th (sq (ifP h58 rfl (fun e9 => ?_) (fun e9 => ?_))))
      ·have hjl : j < l.length := by omega
       obtain ⟨a, ha⟩ : ∃ a, l[j]? = some a := ⟨l[j], List.getElem?_eq_getElem hjl⟩
       have hab := hbd a (List.mem_of_getElem? ha)
       obtain ⟨n, rfl⟩ := Int.eq_ofNat_of_zero_le hab.1
       rw [List.drop_eq_getElem_cons hjl, show l[j] = ((n : Nat) : Int) from by rw [List.getElem?_eq_getElem hjl] at ha; exact Option.some.inj ha, lgFree_cons] at hw
       refine sk (th (sq (bk (sq (rg ?_)))))
       refine ix1 hT 0 j rfl rfl rfl xA (ivu_get ha) fun a59 hc59 => ?_
       refine ld hT 0 rfl (.inl rfl) hc59 ?_
       refine fin hT 1 rfl (th (sq (rg ?_)))
       refine ar hT 1 rfl (u_rem .u64 n 4) ?_
       have next : ∀ {l' : Sl}, lgFree pl (l.drop (j + 1)) D' = F -> True := fun _ => trivial
       by_cases q1 : n % 4 = 2
       ·refine cmp hT 0 rfl (fun _ => ?_) (fun h => absurd (show ((n % 4 : Nat) : Int) = 2 by omega) h)
        refine ldp hT 5 0 rfl rfl rfl ?_
        refine cl hT 0 rfl (areaLC pl (by omega)) ?_
        rintro v70 K70 hs70 ⟨rfl, rfl, rfl⟩
        by_cases q2 : n = lgA4 pl
        ·rw [if_neg (by rintro ⟨_, h⟩; exact h (by rw [q2]))] at hw
         refine cmp hT 0 rfl (fun h => absurd (show ((n : Nat) : Int) = ((lgA4 pl : Nat) : Int) by rw [q2]) h) (fun _ => ?_)
         refine fin hT 9 rfl (th (ifF rfl ?_))
         refine sk (bl (th (rg ?_)))
         refine ar hT 0 rfl (i64w (x := ((j + 1 : Nat) : Int)) (by omega)) ?_
         refine fin hT 1 rfl ?_
         exact again (x := (j, D', dh')) (j + 1, D', dh') ⟨rfl, rfl, rfl, rfl, rfl, trivial⟩ rfl rfl ⟨by dsimp only; omega, hw, oD'.up (by dsimp only; omega), hD'⟩ (by dsimp only; omega)
        ·rw [if_pos ⟨by omega, by omega⟩] at hw
         obtain ⟨E, hEE⟩ : ∃ E, E = D'.free ((n : Nat) : Int) := ⟨_, rfl⟩
         have oE := oD'.free ((n : Nat) : Int)
         rw [<- hEE] at hw oE
         refine cmp hT 0 rfl (fun _ => ?_) (fun h => absurd (show ¬ ((n : Nat) : Int) = ((lgA4 pl : Nat) : Int) by omega) h)
         refine cl hT 5 rfl (Ct.at 2 rfl (freeH db D' (c + j) oD'.ok (by omega) hD' ((n : Nat) : Int))) ?_
         rintro v77 K77 hs77 ⟨dh2, rfl, rfl, hD2, rfl⟩
         rw [<- hEE] at hD2 ⊢
         refine cl hT 0 rfl (didLB lb none db (some hb) (some eb) kt kv sn.idx sn.term _ _ pl fr _ 0 E.2) ?_
         rintro v78 K78 hs78 ⟨_, rfl, rfl, rfl, rfl⟩
         rw [show didV 0 E.2 = E.2 from rfl]
         refine cmpS hT 0 rfl fun b79 h79 => ?_
         refine fin hT 1 rfl (th (ifP h79 rfl (fun e15 => ?_) (fun e15 => ?_)))
         ·rw [if_pos e15] at hw
          rw [<- hw, if_pos e15] at hR
          refine sq (rga [pt lb (lgB none db (some hb) (some eb) kt kv sn.idx sn.term (.slice aV sn.vot.length cV) (.slice aD sn.data.length cD) pl fr (.slice none 0 0) E.2) 91] 6 [0, 2, 4, 6, 8, 10] (by simp) (by kernel_rfl) (by kernel_rfl) ?_)
          refine dldp hT (by kernel_rfl) 3 0 rfl rfl rfl ?_
          refine dend hT (by kernel_rfl) 2 rfl (th (rt (rB (rT (rT (rB (rT (WQ.drop (WQ.drop (WQ.del 1 rfl ?_))))))))))
          rw [hR]
          exact ret2 rfl rfl rfl ⟨le16, .inl ⟨rfl, rfl, dh2, rfl, hD2⟩⟩
         ·have e15 := Decidable.not_not.1 e15
          rw [if_neg (by rw [e15]; simp)] at hw
          rw [e15]
          refine sk (bl (th (rg ?_)))
          refine ar hT 0 rfl (i64w (x := ((j + 1 : Nat) : Int)) (by omega)) ?_
          refine fin hT 1 rfl ?_
          exact again (x := (j, D', dh')) (j + 1, E.1, dh2) ⟨rfl, rfl, rfl, rfl, rfl, trivial⟩ rfl rfl ⟨by dsimp only; omega, hw, oE.up (by dsimp only; omega), hD2⟩ (by dsimp only; omega)
       ·rw [if_neg (by rintro ⟨h, _⟩; omega)] at hw
        refine cmp hT 0 rfl (fun h => absurd (show ((n % 4 : Nat) : Int) = 2 from h) (by omega)) (fun _ => ?_)
        refine fin hT 17 rfl (th (ifF rfl ?_))
        refine sk (bl (th (rg ?_)))
        refine ar hT 0 rfl (i64w (x := ((j + 1 : Nat) : Int)) (by omega)) ?_
        refine fin hT 1 rfl ?_
        exact again (x := (j, D', dh')) (j + 1, D', dh') ⟨rfl, rfl, rfl, rfl, rfl, trivial⟩ rfl rfl ⟨by dsimp only; omega, hw, oD'.up (by dsimp only; omega), hD'⟩ (by dsimp only; omega)
      ·obtain rfl : j = l.length := by omega
       rw [List.drop_length] at hw
       have hw : (D', (0 : Int)) = F := hw
       rw [<- hw, if_neg (by simp)] at hR
       dsimp only at hR
       unfold lOpen3 at hR
       dsimp only at hR
       obtain ⟨X, hX⟩ : ∃ X, X = wOpen D' fr (sn.idx + 1) := ⟨_, rfl⟩
       obtain ⟨hXc, hXs⟩ := wOpen_code (D := D') (fr := fr) (first := sn.idx + 1)
       rw [<- hX] at hR hXc hXs
       refine ex (xt (xt (xb (th (sq (rga [pt lb (lgB none db (some hb) (some eb) kt kv sn.idx sn.term (.slice aV sn.vot.length cV) (.slice aD sn.data.length cD) pl fr (.slice none 0 0) 0) 91] 17 [0, 2, 4, 6, 8, 10, 12, 14, 16, 18, 20, 23, 24, 26, 28, 30, 32] (by simp) (by kernel_rfl) (by kernel_rfl) ?_))))))
       refine dldp hT (by kernel_rfl) 4 0 rfl rfl rfl ?_
       refine dldp hT (by kernel_rfl) 4 0 rfl rfl rfl ?_
       refine dar hT (by kernel_rfl) 0 rfl (u64w (x := ((sn.idx + 1 : Nat) : Int)) (by omega)) ?_
       refine dact hT (by kernel_rfl) 0 rfl ?_
       refine cl hT 0 rfl (Ct.atN 2 rfl (openWH db D' (c + l.length) oD' (by omega) hD' fr (sn.idx + 1) (by omega) (by omega))) ?_
       rintro v98 K98 hs98 ⟨dh2, new, rfl, le7, hD2, hA⟩
       rw [<- hX] at hD2 hA
       have le17 := le16.trans le7
       rcases hA with ⟨hn, rfl, rfl⟩ | ⟨W, wb, wh, hW, rfl, hWh, rfl⟩
       ·rw [hn] at hR
        dsimp only at hR
        have hXc := hXc hn
        refine dnexL [pt lb (lgB none db (some hb) (some eb) kt kv sn.idx sn.term (.slice aV sn.vot.length cV) (.slice aD sn.data.length cD) pl fr (.slice none 0 0) 0) 91] (by simp) (by simp) le7 ?_
        refine dend hT (by kernel_rfl) 5 rfl (th (sq (sq (rg ?_))))
        refine cmpS hT 1 rfl fun b102 h102 => ?_
        refine fin hT 0 rfl (th (ifP h102 rfl (fun e17 => ?_) (fun e17 => ?_)))
        ·rw [if_pos e17] at hR
         refine sq (rg (WL.drop (WL.drop (WL.del 1 rfl ?_))))
         refine fin hT 2 rfl (th (rt (rT ?_)))
         rw [hR]
         exact ret2 rfl rfl rfl ⟨le17, .inl ⟨rfl, rfl, dh2, rfl, hD2⟩⟩
        ·rw [if_neg e17] at hR
         refine sk (th (sq (sq (rg ?_))))
         refine cmpS hT 1 rfl fun b104 h104 => ?_
         refine fin hT 0 rfl (th (ifP h104 rfl (fun e19 => ?_) (fun e19 => absurd hXc e19)))
         refine sq (rg (WL.drop (WL.drop (WL.del 1 rfl ?_))))
         refine fin hT 3 rfl (th (rt (rT ?_)))
         rw [hR]
         exact ret2 rfl rfl rfl ⟨le17, .inl ⟨rfl, rfl, dh2, rfl, hD2⟩⟩
       ·rw [hW] at hR
        dsimp only at hR
        have hXs := hXs W hW
        rw [hXs]
        have hopen := WBd.opened oD' (fr := fr) (first := sn.idx + 1) (W := W) (E := X.2.1) (by rw [<- hX]; obtain ⟨x1, x2, x3⟩ := X; dsimp only at hW hXs ⊢; rw [hW, hXs])
        refine dnexL [pt lb (lgB none db (some hb) (some eb) kt kv sn.idx sn.term (.slice aV sn.vot.length cV) (.slice aD sn.data.length cD) pl fr (.slice none 0 0) 0) 91] (by simp) (by simp) le7 ?_
        refine dend hT (by kernel_rfl) 5 rfl (th (sq (sq (rg ?_))))
        refine fin hT 2 rfl (th (ifF rfl ?_))
        refine sk (th (sq (sq (rg ?_))))
        refine fin hT 2 rfl (th (ifF rfl ?_))
        refine sk (th (sq (rg (WL.fr 1 rfl ?_))))
        refine stp hT 4 0 rfl rfl rfl rfl ?_
        refine WL.hs (pt lb (lgB (some wb) db (some hb) (some eb) kt kv sn.idx sn.term (.slice aV sn.vot.length cV) (.slice aD sn.data.length cD) pl fr (.slice none 0 0) 0) 91 :: wh :: eh :: dh2 :: hh :: hs) rfl ?_
        refine fin hT 0 rfl (th (sq (sq (rg ?_))))
        refine cl hT 1 rfl (readEntriesC lb db wb (some hb) (some eb) kt kv sn (by unfold lgTop; omega) _ _ pl fr 0 W hWh (c + l.length) hopen.1 (by omega)) ?_
        rintro v111 K111 hs111 ⟨le8, gl, aL, cL, ll, rfl, rfl, hG, hll⟩
        have le18 := le17.trans le8
        cases hre : rdEnts sn W with
        | none =>
         rw [hre] at hR
         dsimp only at hR
         refine fin hT 1 rfl (th (ifT rfl ?_))
         refine sq (rg (WL.drop (WL.drop (WL.drop (WL.drop (WL.del 1 rfl ?_))))))
         refine fin hT 2 rfl (th (rt (rT ?_)))
         rw [hR]
         exact ret2 rfl rfl rfl ⟨le18, .inl ⟨rfl, rfl, dh2, rfl, hD2.le le8⟩⟩
        | some l2 =>
         rw [hre] at hR
         dsimp only at hR
         have hll := hll l2 hre
         subst hll
         refine fin hT 1 rfl (th (ifF rfl ?_))
         refine sk (th (sq (rg (WL.fr 4 rfl (WL.fr 1 rfl (WL.fr 4 rfl (WL.fr 5 rfl (WL.fr 5 rfl (WL.fr 5 rfl ?_)))))))))
         refine fin hT 3 rfl (th (rt ?_))
         rw [hR]
         have le78 := le7.trans le8
         exact ret2 rfl rfl rfl ⟨le18, .inr ⟨_, lb, [_, _, _, _, _, _], rfl, rfl, rfl, wb, hb, eb, aV, cV, aD, cD, aL, cL, wh, hh, eh, gl, dh2, rfl, hWh.le le8, hkH.le (le6.trans le78), hkE.le (le6.trans le78), hG, hD2.le le8, xV.le (le6.trans le78), xD.le (le6.trans le78)⟩⟩
end Go.Proofs.YtneeeblghijmgaaGreat
end
section
namespace Go.Proofs.YtneeeblghijmgaaGreat
open Go.En
attribute [local irreducible] Code.wp wpList Calls
def q0 : MA := ⟨none, 0, none, 0, none, 0⟩
end Go.Proofs.YtneeeblghijmgaaGreat
namespace Go.Proofs.YtneeeblghijmgaaGreat
open Go.En
attribute [local irreducible] Code.wp wpList Calls
end Go.Proofs.YtneeeblghijmgaaGreat
namespace Go.Proofs.YtneeeblghijmgaaGreat
open Go.En
attribute [local irreducible] Code.wp wpList Calls
end Go.Proofs.YtneeeblghijmgaaGreat
namespace Go.Proofs.YtneeeblghijmgaaGreat
open Go.En
attribute [local irreducible] Code.wp wpList Calls
end Go.Proofs.YtneeeblghijmgaaGreat
end
section
namespace Go.En
structure Rl where
 kt : Nat
 kv : Int
 sn : Snp
 l : List Ent
structure RBd (n : Nat) (r : Rl) : Prop where
 kt : r.kt <= mxU
 idx : r.sn.idx <= lgTop
 st : r.sn.term <= mxU
 vot : r.sn.vot.length <= 7
 data : r.sn.data.length <= 2097152
 len : r.l.length <= n
 ents : ∀ e ∈ r.l, entG e
def rl0 (vot : List Int) : Rl := ⟨0, -1, ⟨0, 0, vot, []⟩, []⟩
def rlV (r : Rl) (aV : Option Addr) (cV : Nat) (aD : Option Addr) (cD : Nat) (aL : Option Addr) (cL : Nat) : Array Value :=
 #[.int .u64 ((r.kt : Nat) : Int), .int .i64 r.kv, .int .u64 ((r.sn.idx : Nat) : Int), .int .u64 ((r.sn.term : Nat) : Int), .slice aV r.sn.vot.length cV, .slice aD r.sn.data.length cD, .slice aL r.l.length cL]
end Go.En
namespace Go.Proofs.YtneeeblghijmgaaGreat
open Go.En
attribute [local irreducible] Code.wp wpList Calls
def RlS (K : PH) (r : Rl) (v : Value) : Prop := ∃ aV cV aD cD aL cL, v = .agg (rlV r aV cV aD cD aL cL) /\ IsS K aV r.sn.vot.length cV 1 (iv r.sn.vot) /\ IsS K aD r.sn.data.length cD 1 (bv r.sn.data) /\ SlS 4 (EntC K) K aL r.l.length cL r.l
theorem RlS.le {K K' : PH} (l : Le K K') {r : Rl} {v : Value} (h : RlS K r v) : RlS K' r v := by
 obtain ⟨aV, cV, aD, cD, aL, cL, h1, h2, h3, h4⟩ := h
 exact ⟨aV, cV, aD, cD, aL, cL, h1, h2.le l, h3.le l, h4.le l fun _ _ h => h.le l⟩
theorem newRC {w0 : World} {K : PH} {hs : List PH} (ao : Option Addr) (cap : Nat) (vot : List Int) (x : IsS K ao vot.length cap 1 (iv vot)) :
  Ct Tryz.prog w0 31 [.agg #[.slice ao vot.length cap]] K hs (fun v K' hs' => K' = K /\ hs' = hs /\ RlS K (rl0 vot) v) := by
 refine enter Tryz.func31 (by kernel_rfl) rfl rfl rfl ?_
 refine sq (rg ?_)
 refine bx hT 0 rfl fun b1 => ?_
 refine al hT 0 (.agg #[.int .u64 0, .int .i64 0, .int .u64 0, .int .u64 0, .slice none 0 0, .slice none 0 0, .slice none 0 0]) rfl (by kernel_rfl) fun b2 => ?_
 refine WL.hs (pt b2 #[.int .u64 0, .int .i64 0, .int .u64 0, .int .u64 0, .slice none 0 0, .slice none 0 0, .slice none 0 0] 37 :: pt b1 #[.slice ao vot.length cap] 29 :: hs) rfl ?_
 refine fin hT 0 rfl (th (sq (rg ?_)))
 refine bd hT 0 (.agg #[.int .u64 0, .int .i64 (-1)]) rfl (fun w => by kernel_rfl) ?_
 refine ldS hT 0 1 rfl rfl (by kernel_rfl) ?_
 refine bd hT 0 (.agg #[.int .u64 0, .int .u64 0, .slice ao vot.length cap, .slice none 0 0]) rfl (fun w => by kernel_rfl) ?_
 refine bd hT 0 (.agg (rlV (rl0 vot) ao cap none 0 none 0)) rfl (fun w => by kernel_rfl) ?_
 refine stS hT 0 0 rfl rfl (by kernel_rfl) rfl rfl ?_
 refine fin hT 0 rfl (th (rt ?_))
 exact retcA 0 2 rfl rfl rfl (by kernel_rfl) ⟨rfl, rfl, ao, cap, none, 0, none, 0, rfl, x, IsS.nil _ _ _ _, SlS.nil _ _ _ _⟩
theorem lastRC {w0 : World} {K : PH} {hs : List PH} (r : Rl) (n : Nat) (hb : RBd n r) (hn : n <= 1099511627776) (v0 : Value) (hv : RlS K r v0) :
  Ct Tryz.prog w0 115 [v0] K hs (fun v K' hs' => K' = K /\ hs' = hs /\ v = .int .u64 ((r.sn.idx + r.l.length : Nat) : Int)) := by
 obtain ⟨aV, cV, aD, cD, aL, cL, rfl, xV, xD, xL⟩ := hv
 have h1 := hb.idx
 have h2 := hb.len
 unfold lgTop at h1
 refine enter Tryz.func115 (by kernel_rfl) rfl rfl rfl ?_
 refine sq (rg ?_)
 refine bx hT 0 rfl fun b1 => ?_
 refine WL.hs (pt b1 (rlV r aV cV aD cD aL cL) 37 :: hs) rfl ?_
 refine fin hT 1 rfl (th (sq (rg ?_)))
 refine ldp hT 2 0 rfl rfl rfl ?_
 refine ldp hT 1 0 rfl rfl rfl ?_
 refine ar hT 1 rfl (u64w (x := ((r.l.length : Nat) : Int)) (by omega)) ?_
 refine ar hT 0 rfl (u64w (x := ((r.sn.idx + r.l.length : Nat) : Int)) (by omega)) ?_
 refine fin hT 1 rfl (th (rt (WQ.drop ?_)))
 exact ret1 rfl rfl ⟨rfl, rfl, rfl⟩
theorem entR_cells {K : PH} {aL : Option Addr} {cL : Nat} {l : List Ent} (hG : SlS 4 (EntC K) K aL l.length cL l) {k : Nat} {e : Ent} (hk : l[k]? = some e) :
  ∃ a ao cap, aL = some a /\ IsS K ao e.data.length cap 1 (bv e.data) /\ ∀ (j : Nat) v, (e.v ao cap).toList[j]? = some v -> Cell K ((a.add (k * 4)).add j) v := by
 have hkl : k < l.length := (List.getElem?_eq_some_iff.1 hk).1
 obtain ⟨a, rfl⟩ := hG.addr (by omega) (by decide)
 obtain ⟨c, ⟨ao, cap, rfl, x⟩, _, hc⟩ := hG.cells hk
 exact ⟨a, ao, cap, rfl, x, hc⟩
theorem termRC {w0 : World} {K : PH} {hs : List PH} (r : Rl) (n : Nat) (hb : RBd n r) (hn : n <= 1099511627776) (v0 : Value) (hv : RlS K r v0) (i : Nat) (hi : i <= mxU) :
  Ct Tryz.prog w0 114 [v0, .int .u64 ((i : Nat) : Int)] K hs (fun v K' hs' => K' = K /\ hs' = hs /\ v = okT (trm r.sn r.l i)) := by
 have hv0 := hv
 obtain ⟨aV, cV, aD, cD, aL, cL, rfl, xV, xD, xL⟩ := hv
 have h1 := hb.idx
 have h2 := hb.len
 unfold lgTop at h1
 unfold mxU at hi
 unfold trm
 refine enter Tryz.func114 (by kernel_rfl) rfl rfl rfl ?_
 refine sq (rg ?_)
 refine bx hT 0 rfl fun b2 => ?_
 refine WL.hs (pt b2 (rlV r aV cV aD cD aL cL) 37 :: hs) rfl ?_
 refine fin hT 2 rfl (th (sq (sq (rg ?_))))
 refine ldp hT 3 0 rfl rfl rfl ?_
 refine cmpS hT 0 rfl fun b10 h10 => ?_
 refine fin hT 0 rfl (th (ifP h10 rfl (fun e2 => ?_) (fun e2 => ?_)))
 ·rw [if_pos (by omega)]
  refine sq (rg ?_)
  refine ldp hT 2 0 rfl rfl rfl ?_
  refine fin hT 2 rfl (th (rt (rT (WQ.drop ?_))))
  exact ret2 rfl rfl rfl ⟨rfl, rfl, rfl⟩
 ·rw [if_neg (by omega)]
  refine sk (th (sq (sq (rg ?_))))
  refine ldp hT 3 0 rfl rfl rfl ?_
  refine cmpS hT 0 rfl fun b18 h18 => ?_
  refine' bjo (q := r.sn.idx + r.l.length < i) hT 1 5 24 [18, 19] h18 rfl rfl rfl rfl rfl rfl rfl (fun _ => ?x1) (fun b24 h24 => ?_)
  case x1 =>
   refine ldS hT 1 0 rfl rfl (by kernel_rfl) ?_
   refine cl hT 0 rfl (lastRC r n hb hn _ hv0) ?_
   rintro v22 K22 hs22 ⟨rfl, rfl, rfl⟩
   refine cmpS hT 0 rfl fun b23 h23 => ?_
   exact fin hT 1 rfl (bjx (h23.trans (by omega)) rfl rfl rfl)
  refine fin hT 0 rfl (th (ifP h24 rfl (fun e4 => ?_) (fun e4 => ?_)))
  ·rw [if_pos (by omega)]
   refine sq (rg ?_)
   refine fin hT 2 rfl (th (rt (rT (WQ.drop ?_))))
   exact ret2 rfl rfl rfl ⟨rfl, rfl, rfl⟩
  ·rw [if_neg (by omega)]
   obtain ⟨e, he⟩ : ∃ e, r.l[i - r.sn.idx - 1]? = some e := ⟨r.l[i - r.sn.idx - 1]'(by omega), List.getElem?_eq_getElem (by omega)⟩
   obtain ⟨a, ao, cap, rfl, x, hcell⟩ := entR_cells xL he
   obtain ⟨xs, hxs⟩ := xL.isS
   rw [he]
   refine sk (th (sq (rg ?_)))
   refine ldp hT 1 0 rfl rfl rfl ?_
   refine ldp hT 3 0 rfl rfl rfl ?_
   refine ar hT 0 rfl (u64s (by omega) (by omega)) ?_
   refine ar hT 0 rfl (u64s1 (by omega) (by omega)) ?_
   refine ixs hT 0 (i - r.sn.idx - 1) rfl rfl hxs (by omega) (by decide) fun a33 h33 => ?_
   cases h33
   refine ld hT 1 rfl (.inl rfl) (hcell 1 _ rfl) ?_
   refine fin hT 2 rfl (th (rt (WQ.drop ?_)))
   exact ret2 rfl rfl rfl ⟨rfl, rfl, rfl⟩
end Go.Proofs.YtneeeblghijmgaaGreat
end
section
namespace Go.En
def Rl.append (r : Rl) (x : List Ent) : Rl × Int :=
 if fol (r.sn.idx + r.l.length) (trm r.sn r.l (r.sn.idx + r.l.length)).1 x ≠ 0 then (r, fol (r.sn.idx + r.l.length) (trm r.sn r.l (r.sn.idx + r.l.length)).1 x) else ({ r with l := r.l ++ x }, 0)
def Rl.setHard (r : Rl) (t : Nat) (v : Int) : Rl × Int :=
 if v < -1 \/ 6 < v then (r, 181) else if t < r.kt then (r, 180) else ({ r with kt := t, kv := v }, 0)
theorem trm_leR {n : Nat} {r : Rl} (hb : RBd n r) (i : Nat) : (trm r.sn r.l i).1 <= mxU := by
 unfold trm
 split
 ·exact hb.st
 ·split
  ·exact Nat.zero_le _
  ·cases hg : r.l[i - r.sn.idx - 1]? with
   | none => exact Nat.zero_le _
   | some e => exact (hb.ents e (List.mem_of_getElem? hg)).2.2
end Go.En
namespace Go.Proofs.YtneeeblghijmgaaGreat
open Go.En
attribute [local irreducible] Code.wp wpList Calls
theorem followRC {w0 : World} {K : PH} {hs : List PH} (i t : Nat) (hi : i <= mxU) (ht : t <= mxU) (ao : Option Addr) (cap : Nat) (x : List Ent) (xs : SlS 4 (EntC K) K ao x.length cap x) (hx : ∀ e ∈ x, entB e) (hxl : x.length <= 1099511627776) :
  Ct Tryz.prog w0 116 [.int .u64 ((i : Nat) : Int), .int .u64 ((t : Nat) : Int), .slice ao x.length cap] K hs (fun v K' hs' => K' = K /\ hs' = hs /\ v = .int .i64 (fol i t x)) := by
 obtain ⟨ys, hys⟩ := xs.isS
 refine enter Tryz.func116 (by kernel_rfl) rfl rfl rfl ?_
 refine sq (rg ?_)
 refine fin hT 1 rfl (th (sq (sq (rg ?_))))
 refine fin hT 1 rfl (th (bk ?_))
 refine loop (σ := Nat) (fun j => [(0, .int .u64 ((i : Nat) : Int)), (1, .int .u64 ((t : Nat) : Int)), (2, .slice ao x.length cap), (7, .int .i64 ((j : Nat) : Int))]) (fun _ => K) (fun _ => hs) (fun j => j <= x.length /\ ∀ e ∈ x.take j, e.ok) (fun j => x.length - j) 0 ⟨Nat.zero_le _, by simp⟩ ⟨rfl, rfl, rfl, rfl, trivial⟩ rfl rfl ?_
 rintro j ⟨hj, hok⟩
 refine sq (sq (rg ?_))
 refine cmpS hT 3 rfl fun b14 h14 => ?_
 refine fin hT 0 rfl (th (ifP h14 rfl (fun e2 => ?_) (fun e2 => ?_)))
 ·have hjx : j < x.length := by omega
  obtain ⟨e, he⟩ : ∃ e, x[j]? = some e := ⟨x[j], List.getElem?_eq_getElem hjx⟩
  have hem := List.mem_of_getElem? he
  obtain ⟨q1, q2, q3⟩ := hx e hem
  obtain ⟨a, ae, ce, rfl, xe, hcell⟩ := entR_cells xs he
  refine sk (th (sq (bk (sq (rg ?_)))))
  refine ixs hT 2 j rfl rfl hys hjx (by decide) fun a20 h20 => ?_
  cases h20
  refine lds hT 0 (e.v ae ce).toList rfl (by kernel_rfl) (.inl rfl) hcell ?_
  refine cl hT 0 rfl (putEntRef e ae ce q1 q2 (.inl rfl) xe q3) ?_
  rintro v22 K22 hs22 ⟨rfl, h22, ao22, c22, rfl, rfl, o22⟩
  refine fin hT 5 rfl (th (sq (rg (WL.drop ?_))))
  refine cmpS hT 1 rfl fun b26 h26 => ?_
  refine fin hT 0 rfl (th (ifP h26 rfl (fun e4 => ?_) (fun e4 => ?_)))
  ·have hno : ¬ e.ok := fun h => e4 (ec_zero.2 (putEnt_ok.2 h))
   refine sq (rg ?_)
   refine fin hT 1 rfl (th (rt (rB (rT (rT (rB (rT ?_)))))))
   refine ret1 rfl rfl ⟨rfl, rfl, ?_⟩
   unfold fol
   rw [if_neg]
   simp only [List.all_eq_true, putEnt_ok]
   exact fun h => hno (h e hem)
  ·have hyes : e.ok := putEnt_ok.1 (ec_zero.1 (Decidable.not_not.1 e4))
   refine sk (bl (th (rg ?_)))
   refine ar hT 1 rfl (i64w (x := ((j + 1 : Nat) : Int)) (by omega)) ?_
   refine fin hT 1 rfl ?_
   refine again (x := j) (j + 1) ⟨rfl, rfl, rfl, rfl, trivial⟩ rfl rfl ⟨by omega, ?_⟩ (by omega)
   rw [List.take_add_one, he]
   intro y hy
   rcases List.mem_append.1 hy with hy | hy
   ·exact hok y hy
   ·simp at hy; rw [hy]; exact hyes
 ·obtain rfl : j = x.length := by omega
  rw [List.take_length] at hok
  have e0 : fol i t x = folR i t x := by unfold fol; rw [if_pos (by simp only [List.all_eq_true, putEnt_ok]; exact hok)]
  rw [e0]
  refine ex (xt (xt (xb (th (sq (sq (rg ?_)))))))
  obtain ⟨R, hR⟩ : ∃ R, R = folR i t x := ⟨_, rfl⟩
  rw [<- hR]
  refine fin hT 1 rfl (th (bk ?_))
  refine loop (σ := Nat × Nat × Nat) (fun s => [(0, .int .u64 ((s.2.1 : Nat) : Int)), (1, .int .u64 ((s.2.2 : Nat) : Int)), (2, .slice ao x.length cap), (10, .int .i64 ((s.1 : Nat) : Int))]) (fun _ => K) (fun _ => hs) (fun s => s.1 <= x.length /\ s.2.1 <= mxU /\ s.2.2 <= mxU /\ folR s.2.1 s.2.2 (x.drop s.1) = R) (fun s => x.length - s.1) (0, i, t) ⟨Nat.zero_le _, hi, ht, hR.symm⟩ ⟨rfl, rfl, rfl, rfl, trivial⟩ rfl rfl ?_
  clear hi ht e0 hR
  clear i t
  rintro ⟨j, i, t⟩ ⟨hj, hi, ht, hw⟩
  dsimp only at *
  refine sq (sq (rg ?_))
  refine cmpS hT 3 rfl fun b30 h30 => ?_
  refine fin hT 0 rfl (th (ifP h30 rfl (fun e6 => ?_) (fun e6 => ?_)))
  ·have hjx : j < x.length := by omega
   obtain ⟨e, he⟩ : ∃ e, x[j]? = some e := ⟨x[j], List.getElem?_eq_getElem hjx⟩
   have hem := List.mem_of_getElem? he
   obtain ⟨q1, q2, q3⟩ := hx e hem
   have hne := (hok e hem).1
   obtain ⟨a, ae, ce, rfl, xe, hcell⟩ := entR_cells xs he
   rw [List.drop_eq_getElem_cons hjx, show x[j] = e from by rw [List.getElem?_eq_getElem hjx] at he; exact Option.some.inj he, folR] at hw
   refine sk (th (sq (bk (sq (sq (rg ?_))))))
   refine ixs hT 2 j rfl rfl hys hjx (by decide) fun a35 h35 => ?_
   cases h35
   refine ld hT 1 rfl (.inl rfl) (hcell 0 _ rfl) ?_
   refine ar hT 1 rfl (v' := .int .u64 (((i + 1) % 18446744073709551616 : Nat) : Int)) (by rw [<- u64m]; rfl) ?_
   refine cmpS hT 0 rfl fun b40 h40 => ?_
   unfold mxU at hi ht q1 q2
   refine' bjo (q := e.term < t) hT 1 8 49 [40, 41] (h40.trans (show _ ↔ e.idx ≠ i + 1 by omega)) rfl rfl rfl rfl rfl rfl rfl (fun _ => ?x8) (fun b49 h49 => ?_)
   case x8 =>
    refine ixs hT 2 j rfl rfl hys hjx (by decide) fun a44 h44 => ?_
    cases h44
    refine ld hT 1 rfl (.inl rfl) (hcell 1 _ rfl) ?_
    refine cmpS hT 1 rfl fun b48 h48 => ?_
    exact fin hT 1 rfl (bjx (h48.trans (by omega)) rfl rfl rfl)
   refine fin hT 0 rfl (th (ifP h49 rfl (fun e10 => ?_) (fun e10 => ?_)))
   ·rw [if_pos e10] at hw
    refine sq (rg ?_)
    refine fin hT 1 rfl (th (rt (rT (rB (rT (rT (rB (rT ?_))))))))
    rw [<- hw]
    exact ret1 rfl rfl ⟨rfl, rfl, rfl⟩
   ·rw [if_neg e10] at hw
    refine sk (th (sq (rg ?_)))
    refine ixs hT 2 j rfl rfl hys hjx (by decide) fun a52 h52 => ?_
    cases h52
    refine ld hT 1 rfl (.inl rfl) (hcell 0 _ rfl) ?_
    refine fin hT 1 rfl (th (rg ?_))
    refine ixs hT 2 j rfl rfl hys hjx (by decide) fun a57 h57 => ?_
    cases h57
    refine ld hT 1 rfl (.inl rfl) (hcell 1 _ rfl) ?_
    refine fin hT 1 rfl (bl (th (rg ?_)))
    refine ar hT 1 rfl (i64w (x := ((j + 1 : Nat) : Int)) (by omega)) ?_
    refine fin hT 1 rfl ?_
    exact again (x := (j, i, t)) (j + 1, e.idx, e.term) ⟨rfl, rfl, rfl, rfl, trivial⟩ rfl rfl ⟨by dsimp only; omega, q1, q2, hw⟩ (by dsimp only; omega)
  ·obtain rfl : j = x.length := by omega
   rw [List.drop_length] at hw
   refine ex (xt (xt (xb (th (sq (rg ?_))))))
   refine fin hT 1 rfl (th (rt ?_))
   rw [<- hw]
   exact ret1 rfl rfl ⟨rfl, rfl, rfl⟩
theorem withRC {w0 : World} {K : PH} {hs : List PH} (r : Rl) (v0 : Value) (hv : RlS K r v0) (aH : Option Addr) (cH : Nat) (x : List Ent) (xH : SlS 4 (EntC K) K aH x.length cH x) (aT : Option Addr) (cT : Nat) (y : List Ent) (yT : SlS 4 (EntC K) K aT y.length cT y) (hl : x.length + y.length <= 1099511627) :
  Ct Tryz.prog w0 117 [v0, .slice aH x.length cH, .slice aT y.length cT] K hs (fun v K' hs' => Le K K' /\ hs' = hs /\ RlS K' { r with l := x ++ y } v) := by
 obtain ⟨aV, cV, aD, cD, aL, cL, rfl, xV, xD, xL⟩ := hv
 obtain ⟨cs1, hn1, hS1, hal1, hcl1⟩ := xH
 obtain ⟨cs2, hn2, hS2, hal2, hcl2⟩ := yT
 refine enter Tryz.func117 (by kernel_rfl) rfl rfl rfl ?_
 refine sq (rg ?_)
 refine bx hT 0 rfl fun b3 => ?_
 refine al hT 0 (.agg #[.int .u64 0, .int .i64 0, .int .u64 0, .int .u64 0, .slice none 0 0, .slice none 0 0, .slice none 0 0]) rfl (by kernel_rfl) fun b6 => ?_
 refine WL.hs (pt b6 #[.int .u64 0, .int .i64 0, .int .u64 0, .int .u64 0, .slice none 0 0, .slice none 0 0, .slice none 0 0] 37 :: pt b3 (rlV r aV cV aD cD aL cL) 37 :: hs) rfl ?_
 refine fin hT 0 rfl (th (sq (rg ?_)))
 refine lit hT 0 #[] rfl (by decide) (by kernel_rfl) fun b8 => ?_
 refine app hT 1 0 rfl rfl (Own.ofPt (c := #[]) (n := 0) (by simp) (by simp [maxLen])) (.inl rfl) hS1 rfl (by decide) (ents_one hal1) (by show (0 + x.length) * 48 <= _; omega) (by simp [maxLen]; omega) fun ao10 c10 g10 o10 => ?_
 refine fin hT 1 rfl (th (sq (rg ?_)))
 refine app hT 2 0 rfl rfl o10 (.inl rfl) hS2 rfl (by decide) (ents_one hal2) (by show (0 + x.length + y.length) * 48 <= _; omega) (by simp [maxLen]; omega) fun ao13 c13 g13 o13 => ?_
 have e0 : 0 + x.length + y.length = (x ++ y).length := by rw [List.length_append]; omega
 rw [e0] at o13 ⊢
 refine stp hT 1 2 rfl rfl rfl rfl ?_
 refine WL.hs (g13 :: pt b6 #[.int .u64 0, .int .i64 0, .int .u64 0, .int .u64 0, .slice none 0 0, .slice none 0 0, .slice none 0 0] 37 :: pt b3 (rlV { r with l := x ++ y } aV cV aD cD ao13 c13) 37 :: hs) rfl ?_
 refine fin hT 0 rfl (th (sq (rg ?_)))
 refine ldS hT 0 2 rfl rfl (by kernel_rfl) ?_
 refine stS hT 0 1 rfl rfl (by kernel_rfl) rfl rfl ?_
 refine fin hT 0 rfl (th (rt (WQ.frz fun K2 l1 l2 => ?_)))
 have hal := (hal1.append hal2).imp (R' := EntC K2) fun _ _ h => h.le l1
 refine retcA 0 2 rfl rfl rfl (by kernel_rfl) ⟨l1, rfl, aV, cV, aD, cD, ao13, c13, rfl, xV.le l1, xD.le l1, cs1 ++ cs2, rfl, ?_, hal, ?_⟩
 ·have := o13.isS.le l2
  rw [List.nil_append] at this
  rw [List.flatten_append]
  exact this
 ·intro d hd
  rcases List.mem_append.1 hd with hd | hd
  ·exact hcl1 d hd
  ·exact hcl2 d hd
end Go.Proofs.YtneeeblghijmgaaGreat
end
section
namespace Go.En
def Rl.fits (r : Rl) (s : Snp) : Int :=
 if (putConf s.vot).isSome = false \/ 2097152 < s.data.length then 181 else if s.idx <= r.sn.idx \/ lgTop <= s.idx then 180 else 0
def z7 : Array Value := #[.int .u64 0, .int .i64 0, .int .u64 0, .int .u64 0, .slice none 0 0, .slice none 0 0, .slice none 0 0]
end Go.En
namespace Go.Proofs.YtneeeblghijmgaaGreat
open Go.En
attribute [local irreducible] Code.wp wpList Calls
theorem appendRC {w0 : World} {K : PH} {hs : List PH} (r : Rl) (n : Nat) (hb : RBd n r) (v0 : Value) (hv : RlS K r v0) (ao : Option Addr) (cap : Nat) (x : List Ent) (xs : SlS 4 (EntC K) K ao x.length cap x) (hx : ∀ e ∈ x, entB e) (hn : n + x.length <= 1099511627) :
  Ct Tryz.prog w0 68 [v0, .slice ao x.length cap] K hs (fun v K' hs' => Le K K' /\ hs' = hs /\ ∃ v1, v = .tuple #[v1, .int .i64 (r.append x).2] /\ RlS K' (r.append x).1 v1) := by
 have hv0 := hv
 obtain ⟨aV, cV, aD, cD, aL, cL, rfl, xV, xD, xL⟩ := hv
 have h1 := hb.idx
 have h2 := hb.len
 unfold lgTop at h1
 have ht := trm_leR hb (r.sn.idx + r.l.length)
 unfold Rl.append
 refine enter Tryz.func68 (by kernel_rfl) rfl rfl rfl ?_
 refine sq (rg ?_)
 refine bx hT 0 rfl fun b2 => ?_
 refine al hT 0 (.agg #[.int .u64 0, .int .i64 0, .int .u64 0, .int .u64 0, .slice none 0 0, .slice none 0 0, .slice none 0 0]) rfl (by kernel_rfl) fun b4 => ?_
 refine WL.hs (pt b4 z7 37 :: pt b2 (rlV r aV cV aD cD aL cL) 37 :: hs) rfl ?_
 refine fin hT 1 rfl (th (sq (rga [pt b2 (rlV r aV cV aD cD aL cL) 37] 9 [0, 2, 5, 7, 8, 10, 12, 14, 16] (by simp) (by kernel_rfl) (by kernel_rfl) ?_)))
 refine dldS hT (by kernel_rfl) 0 0 rfl (by kernel_rfl) rfl (by kernel_rfl) ?_
 refine dldS hT (by kernel_rfl) 0 0 rfl (by kernel_rfl) rfl (by kernel_rfl) ?_
 refine dact hT (by kernel_rfl) 0 rfl ?_
 refine cl hT 0 rfl (lastRC r n hb (by omega) _ hv0) ?_
 rintro v12 K12 hs12 ⟨rfl, rfl, rfl⟩
 refine dnex [pt b2 (rlV r aV cV aD cD aL cL) 37] (by simp) (by simp) rfl ?_
 refine dact hT (by kernel_rfl) 0 rfl ?_
 refine cl hT 0 rfl (termRC r n hb (by omega) _ hv0 (r.sn.idx + r.l.length) (by unfold mxU; omega)) ?_
 rintro v13 K13 hs13 ⟨rfl, rfl, rfl⟩
 refine dnex [pt b2 (rlV r aV cV aD cD aL cL) 37] (by simp) (by simp) rfl ?_
 refine dend hT (by kernel_rfl) 5 rfl (th (sq (rg ?_)))
 refine ldS hT 0 1 rfl rfl (by kernel_rfl) ?_
 refine cl hT 0 rfl (lastRC r n hb (by omega) _ hv0) ?_
 rintro v17 K17 hs17 ⟨rfl, rfl, rfl⟩
 refine cl hT 2 rfl (followRC _ _ (by unfold mxU; omega) ht ao cap x xs hx (by omega)) ?_
 rintro v20 K20 hs20 ⟨rfl, rfl, rfl⟩
 refine fin hT 1 rfl (th (sq (sq (rg ?_))))
 refine cmpS hT 1 rfl fun b22 h22 => ?_
 refine fin hT 0 rfl (th (ifP h22 rfl (fun e2 => ?_) (fun e2 => ?_)))
 ·rw [if_pos e2]
  refine sq (rg ?_)
  refine ldS hT 0 1 rfl rfl (by kernel_rfl) ?_
  refine stS hT 1 0 rfl rfl (by kernel_rfl) rfl rfl ?_
  refine fin hT 1 rfl (th (rt (rT ?_)))
  exact retcP 0 2 rfl rfl rfl rfl (by kernel_rfl) ⟨Le.refl _, rfl, _, rfl, hv0⟩
 ·rw [if_neg e2]
  refine sk (th (sq (rg ?_)))
  refine ldS hT 0 1 rfl rfl (by kernel_rfl) ?_
  refine ldp hT 1 1 rfl rfl rfl ?_
  refine cl hT 1 rfl (withRC r _ hv0 aL cL r.l xL ao cap x xs (by omega)) ?_
  rintro v29 K29 hs29 ⟨le, rfl, aV', cV', aD', cD', aL', cL', rfl, xV', xD', xL'⟩
  refine stS hT 0 0 rfl rfl (by kernel_rfl) rfl rfl ?_
  refine fin hT 1 rfl (th (rt ?_))
  exact retcP 0 2 rfl rfl rfl rfl (by kernel_rfl) ⟨le, rfl, _, rfl, aV', cV', aD', cD', aL', cL', rfl, xV', xD', xL'⟩
theorem setHardRC {w0 : World} {K : PH} {hs : List PH} (r : Rl) (v0 : Value) (hv : RlS K r v0) (t : Nat) (v : Int) :
  Ct Tryz.prog w0 67 [v0, .agg #[.int .u64 ((t : Nat) : Int), .int .i64 v]] K hs (fun u K' hs' => K' = K /\ hs' = hs /\ ∃ v1, u = .tuple #[v1, .int .i64 (r.setHard t v).2] /\ RlS K' (r.setHard t v).1 v1) := by
 have hv0 := hv
 obtain ⟨aV, cV, aD, cD, aL, cL, rfl, xV, xD, xL⟩ := hv
 unfold Rl.setHard
 refine enter Tryz.func67 (by kernel_rfl) rfl rfl rfl ?_
 refine sq (rg ?_)
 refine bx hT 0 rfl fun b2 => ?_
 refine bx hT 0 rfl fun b3 => ?_
 refine al hT 0 (.agg #[.int .u64 0, .int .i64 0, .int .u64 0, .int .u64 0, .slice none 0 0, .slice none 0 0, .slice none 0 0]) rfl (by kernel_rfl) fun b4 => ?_
 refine WL.hs (pt b4 z7 37 :: pt b3 #[.int .u64 ((t : Nat) : Int), .int .i64 v] 25 :: pt b2 (rlV r aV cV aD cD aL cL) 37 :: hs) rfl ?_
 refine fin hT 1 rfl (th (sq (sq (rg ?_))))
 refine ldp hT 1 1 rfl rfl rfl ?_
 refine cmpS hT 0 rfl fun b8 h8 => ?_
 refine' bjo (q := 6 < v) hT 1 4 13 [8, 9] h8 rfl rfl rfl rfl rfl rfl rfl (fun _ => ?x2) (fun b13 h13 => ?_)
 case x2 =>
  refine ldp hT 1 1 rfl rfl rfl ?_
  refine cmpS hT 0 rfl fun b12 h12 => ?_
  exact fin hT 1 rfl (bjx (h12.trans (by omega)) rfl rfl rfl)
 refine fin hT 0 rfl (th (ifP h13 rfl (fun e4 => ?_) (fun e4 => ?_)))
 ·rw [if_pos e4]
  refine sq (rg ?_)
  refine ldS hT 0 2 rfl rfl (by kernel_rfl) ?_
  refine stS hT 0 0 rfl rfl (by kernel_rfl) rfl rfl ?_
  refine fin hT 1 rfl (th (rt (rT ?_)))
  exact retcP 0 3 rfl rfl rfl rfl (by kernel_rfl) ⟨rfl, rfl, _, rfl, hv0⟩
 ·rw [if_neg e4]
  refine sk (th (sq (sq (rg ?_))))
  refine ldp hT 1 1 rfl rfl rfl ?_
  refine ldp hT 2 2 rfl rfl rfl ?_
  refine cmpS hT 0 rfl fun b20 h20 => ?_
  refine fin hT 0 rfl (th (ifP h20 rfl (fun e6 => ?_) (fun e6 => ?_)))
  ·rw [if_pos (by omega)]
   refine sq (rg ?_)
   refine ldS hT 0 2 rfl rfl (by kernel_rfl) ?_
   refine stS hT 0 0 rfl rfl (by kernel_rfl) rfl rfl ?_
   refine fin hT 1 rfl (th (rt (rT ?_)))
   exact retcP 0 3 rfl rfl rfl rfl (by kernel_rfl) ⟨rfl, rfl, _, rfl, hv0⟩
  ·rw [if_neg (by omega)]
   refine sk (th (sq (rg ?_)))
   refine ldS hT 0 1 rfl rfl (by kernel_rfl) ?_
   refine sts hT 1 2 rfl rfl (by kernel_rfl) (by simp [rlV]) (fun v hv => by simp at hv; rcases hv with rfl | rfl <;> rfl) ?_
   refine WL.hs (pt b4 z7 37 :: pt b3 #[.int .u64 ((t : Nat) : Int), .int .i64 v] 25 :: pt b2 (rlV { r with kt := t, kv := v } aV cV aD cD aL cL) 37 :: hs) rfl ?_
   refine fin hT 0 rfl (th (sq (rg ?_)))
   refine ldS hT 0 2 rfl rfl (by kernel_rfl) ?_
   refine stS hT 0 0 rfl rfl (by kernel_rfl) rfl rfl ?_
   refine fin hT 1 rfl (th (rt ?_))
   exact retcP 0 3 rfl rfl rfl rfl (by kernel_rfl) ⟨rfl, rfl, _, rfl, aV, cV, aD, cD, aL, cL, rfl, xV, xD, xL⟩
theorem backRC {w0 : World} {K : PH} {hs : List PH} (r : Rl) (n : Nat) (hb : RBd n r) (hn : n <= 1099511627776) (v0 : Value) (hv : RlS K r v0) (i : Nat) (hi : i <= mxU) (hge : r.sn.idx <= i) :
  Ct Tryz.prog w0 118 [v0, .int .u64 ((i : Nat) : Int)] K hs (fun v K' hs' => K' = K /\ hs' = hs /\ v = .int .u64 ((bck r.sn r.l i : Nat) : Int)) := by
 have hv0 := hv
 obtain ⟨aV, cV, aD, cD, aL, cL, rfl, xV, xD, xL⟩ := hv
 have h1 := hb.idx
 have h2 := hb.len
 unfold lgTop at h1
 have hi0 := hi
 unfold mxU at hi
 unfold bck
 refine enter Tryz.func118 (by kernel_rfl) rfl rfl rfl ?_
 refine sq (rg ?_)
 refine bx hT 0 rfl fun b2 => ?_
 refine WL.hs (pt b2 (rlV r aV cV aD cD aL cL) 37 :: hs) rfl ?_
 refine fin hT 1 rfl (th (sq (sq (rg ?_))))
 refine ldS hT 1 0 rfl rfl (by kernel_rfl) ?_
 refine cl hT 0 rfl (lastRC r n hb hn _ hv0) ?_
 rintro v12 K12 hs12 ⟨rfl, rfl, rfl⟩
 refine cmpS hT 0 rfl fun b13 h13 => ?_
 refine fin hT 0 rfl (th (ifP h13 rfl (fun e2 => ?_) (fun e2 => ?_)))
 ·rw [if_pos (by omega)]
  refine sq (rg ?_)
  refine ldS hT 0 0 rfl rfl (by kernel_rfl) ?_
  refine cl hT 0 rfl (lastRC r n hb hn _ hv0) ?_
  rintro v15 K15 hs15 ⟨rfl, rfl, rfl⟩
  refine fin hT 1 rfl (th (rt (rT (WQ.drop ?_))))
  exact ret1 rfl rfl ⟨rfl, rfl, rfl⟩
 ·rw [if_neg (by omega)]
  refine sk (th (sq (rg ?_)))
  refine ldS hT 0 0 rfl rfl (by kernel_rfl) ?_
  refine cl hT 1 rfl (termRC r n hb hn _ hv0 i hi0) ?_
  rintro v19 K19 hs19 ⟨rfl, rfl, rfl⟩
  obtain ⟨T, hT'⟩ : ∃ T, T = trm r.sn r.l i := ⟨_, rfl⟩
  rw [<- hT']
  obtain ⟨t, b⟩ := T
  obtain ⟨R, hR⟩ : ∃ R, R = bckL r.sn r.l t i := ⟨_, rfl⟩
  dsimp only
  rw [<- hR]
  refine fin hT 5 rfl (th (sq (sq (rg ?_))))
  refine fin hT 2 rfl (th (bk ?_))
  refine loop (σ := Nat) (fun j => [(2, .pointer (some ⟨b2, 0, none⟩)), (5, .int .u64 ((t : Nat) : Int)), (7, .int .u64 ((j : Nat) : Int))]) (fun _ => K19)
   (fun _ => pt b2 (rlV r aV cV aD cD aL cL) 37 :: hs) (fun j => j <= i /\ r.sn.idx <= j /\ bckL r.sn r.l t j = R) (fun j => j) i ⟨Nat.le_refl _, hge, hR.symm⟩ ⟨rfl, rfl, rfl, trivial⟩ rfl rfl ?_
  rintro j ⟨hj, hjg, hw⟩
  refine sq (sq (rg ?_))
  refine ldp hT 3 0 rfl rfl rfl ?_
  refine cmpS hT 0 rfl fun b27 h27 => ?_
  refine fin hT 0 rfl (th (ifP h27 rfl (fun e4 => ?_) (fun e4 => ?_)))
  ·obtain ⟨j, rfl⟩ : ∃ k, j = k + 1 := ⟨j - 1, by omega⟩
   have hw0 : bckL r.sn r.l t (j + 1) = if (trm r.sn r.l j).1 ≠ t then j else bckL r.sn r.l t j := by rw [bckL, if_pos (by omega)]
   rw [hw0] at hw
   refine sk (th (sq (bk (sq (rg ?_)))))
   refine ldS hT 0 0 rfl rfl (by kernel_rfl) ?_
   refine ar hT 1 rfl (u64s1 (a := j + 1) (by omega) (by omega)) ?_
   rw [show j + 1 - 1 = j from rfl]
   refine cl hT 0 rfl (termRC r n hb hn _ hv0 j (by unfold mxU; omega)) ?_
   rintro v34 K34 hs34 ⟨rfl, rfl, rfl⟩
   obtain ⟨U, hU⟩ : ∃ U, U = trm r.sn r.l j := ⟨_, rfl⟩
   rw [<- hU] at hw ⊢
   obtain ⟨u, b'⟩ := U
   dsimp only at hw
   refine fin hT 5 rfl (th (sq (rg ?_)))
   refine cmpS hT 2 rfl fun b39 h39 => ?_
   refine fin hT 0 rfl (th (ifP h39 rfl (fun e6 => ?_) (fun e6 => ?_)))
   ·rw [if_pos (by omega)] at hw
    subst hw
    refine sq (rg ?_)
    refine ar hT 1 rfl (u64s1 (a := j + 1) (by omega) (by omega)) ?_
    refine fin hT 1 rfl (th (rt (rB (rT (rT (rB (rT (WQ.drop ?_))))))))
    exact ret1 rfl rfl ⟨rfl, rfl, rfl⟩
   ·rw [if_neg (by omega)] at hw
    refine sk (bl (th (rg ?_)))
    refine ar hT 1 rfl (u64s1 (a := j + 1) (by omega) (by omega)) ?_
    refine fin hT 1 rfl ?_
    exact again (x := j + 1) j ⟨rfl, rfl, rfl, trivial⟩ rfl rfl ⟨by omega, by omega, hw⟩ (by omega)
  ·have hw0 : bckL r.sn r.l t j = j := by
    cases j with
    | zero => rfl
    | succ j => rw [bckL, if_neg (by omega)]
   rw [hw0] at hw
   have hjs : r.sn.idx = R := by omega
   refine ex (xt (xt (xb (th (sq (rg ?_))))))
   refine ldp hT 2 0 rfl rfl rfl ?_
   refine fin hT 1 rfl (th (rt (WQ.drop ?_)))
   rw [<- hjs]
   exact ret1 rfl rfl ⟨rfl, rfl, rfl⟩
theorem fitsRC {w0 : World} {K : PH} {hs : List PH} (r : Rl) (v0 : Value) (hv : RlS K r v0) (s : Snp) (aV : Option Addr) (cV : Nat) (aD : Option Addr) (cD : Nat) (xv : IsS K aV s.vot.length cV 1 (iv s.vot)) (hvl : s.vot.length < 1099511627776) (h64 : ∀ v ∈ s.vot, -9223372036854775808 <= v /\ v <= 9223372036854775807) :
  Ct Tryz.prog w0 119 [v0, .agg (snV s aV cV aD cD)] K hs (fun v K' hs' => K' = K /\ hs' = hs /\ v = .int .i64 (r.fits s)) := by
 obtain ⟨aV', cV', aD', cD', aL, cL, rfl, xV, xD, xL⟩ := hv
 unfold Rl.fits
 refine enter Tryz.func119 (by kernel_rfl) rfl rfl rfl ?_
 refine sq (rg ?_)
 refine bx hT 0 rfl fun b2 => ?_
 refine bx hT 0 rfl fun b3 => ?_
 refine WL.hs (pt b3 (snV s aV cV aD cD) 32 :: pt b2 (rlV r aV' cV' aD' cD' aL cL) 37 :: hs) rfl ?_
 refine fin hT 1 rfl (th (sq (rg ?_)))
 refine lds hT 1 [.slice aV s.vot.length cV] rfl (by kernel_rfl) (.inr ⟨0, rfl⟩) (cells_sub _ rfl) ?_
 refine cl hT 0 rfl (putConfRef aV cV s.vot (.inl rfl) xv hvl h64) ?_
 rintro v10 K10 hs10 ⟨rfl, h10, ao10, c10, rfl, rfl, o10⟩
 refine fin hT 5 rfl (th (sq (sq (rg (WL.drop ?_)))))
 refine cmpS hT 1 rfl fun b14 h14 => ?_
 refine' bjo (q := 2097152 < s.data.length) hT 1 5 20 [14, 15] (h14.trans (show _ ↔ (putConf s.vot).isSome = false by cases putConf s.vot <;> simp [ec])) rfl rfl rfl rfl rfl rfl rfl (fun _ => ?x2) (fun b20 h20 => ?_)
 case x2 =>
  refine ldp hT 1 0 rfl rfl rfl ?_
  refine cmpS hT 1 rfl fun b19 h19 => ?_
  exact fin hT 1 rfl (bjx (h19.trans (by omega)) rfl rfl rfl)
 refine fin hT 0 rfl (th (ifP h20 rfl (fun e4 => ?_) (fun e4 => ?_)))
 ·rw [if_pos e4]
  refine sq (rg ?_)
  refine fin hT 1 rfl (th (rt (rT (WQ.drop (WQ.drop ?_)))))
  exact ret1 rfl rfl ⟨rfl, rfl, rfl⟩
 ·rw [if_neg e4]
  refine sk (th (sq (sq (rg ?_))))
  refine ldp hT 1 0 rfl rfl rfl ?_
  refine ldp hT 2 1 rfl rfl rfl ?_
  refine cmpS hT 0 rfl fun b26 h26 => ?_
  refine' bjo (q := lgTop <= s.idx) hT 1 4 31 [26, 27] (h26.trans (show _ ↔ s.idx <= r.sn.idx by omega)) rfl rfl rfl rfl rfl rfl rfl (fun _ => ?x6) (fun b31 h31 => ?_)
  case x6 =>
   refine ldp hT 1 0 rfl rfl rfl ?_
   refine cmpS hT 0 rfl fun b30 h30 => ?_
   exact fin hT 1 rfl (bjx (h30.trans (by unfold lgTop; omega)) rfl rfl rfl)
  refine fin hT 0 rfl (th (ifP h31 rfl (fun e8 => ?_) (fun e8 => ?_)))
  ·rw [if_pos e8]
   refine sq (rg ?_)
   refine fin hT 1 rfl (th (rt (rT (WQ.drop (WQ.drop ?_)))))
   exact ret1 rfl rfl ⟨rfl, rfl, rfl⟩
  ·rw [if_neg e8]
   refine sk (th (sq (rg ?_)))
   refine fin hT 1 rfl (th (rt (WQ.drop (WQ.drop ?_))))
   exact ret1 rfl rfl ⟨rfl, rfl, rfl⟩
end Go.Proofs.YtneeeblghijmgaaGreat
end
section
namespace Go.En
def Rl.save (r : Rl) (s : Snp) : Rl × Int :=
 if r.fits s ≠ 0 then (r, r.fits s) else if lgHas r.sn r.l s = false then (r, 180) else ({ r with sn := s, l := r.l.drop (s.idx - r.sn.idx) }, 0)
def Rl.install (r : Rl) (s : Snp) : Rl × Int :=
 if r.fits s ≠ 0 then (r, r.fits s) else if lgHas r.sn r.l s = true then r.save s else ({ r with sn := s, l := [] }, 0)
theorem rfits_ok {r : Rl} {s : Snp} (h : r.fits s = 0) : (putConf s.vot).isSome = true /\ s.data.length <= 2097152 /\ r.sn.idx < s.idx /\ s.idx < lgTop := by
 unfold Rl.fits at h
 split at h
 ·cases h
 ·rename_i h1
  split at h
  ·cases h
  ·rename_i h2
   have h1 := not_or.1 h1
   refine ⟨by cases h3 : (putConf s.vot).isSome with | true => rfl | false => exact absurd h3 h1.1, by omega, by omega, by omega⟩
theorem lgHas_iff {s : Snp} {l : List Ent} {t : Snp} : lgHas s l t = false ↔ ((trm s l t.idx).2 = false \/ (trm s l t.idx).1 ≠ t.term) := by
 unfold lgHas
 cases (trm s l t.idx).2 <;> simp
theorem lgHas_true {s : Snp} {l : List Ent} {t : Snp} (h : lgHas s l t = true) (hlt : s.idx < t.idx) : t.idx <= s.idx + l.length := by
 unfold lgHas trm at h
 rw [if_neg (by omega)] at h
 by_cases h2 : t.idx < s.idx \/ s.idx + l.length < t.idx
 ·rw [if_pos h2] at h; simp at h
 ·omega
end Go.En
namespace Go.Proofs.YtneeeblghijmgaaGreat
open Go.En
attribute [local irreducible] Code.wp wpList Calls
theorem saveRC {w0 : World} {K : PH} {hs : List PH} (r : Rl) (n : Nat) (hb : RBd n r) (hn : n <= 1099511627) (v0 : Value) (hv : RlS K r v0) (s : Snp) (hsi : s.idx <= mxU) (aV : Option Addr) (cV : Nat) (aD : Option Addr) (cD : Nat) (xv : IsS K aV s.vot.length cV 1 (iv s.vot)) (xd : IsS K aD s.data.length cD 1 (bv s.data)) (hvl : s.vot.length < 1099511627776) (h64 : ∀ v ∈ s.vot, -9223372036854775808 <= v /\ v <= 9223372036854775807) :
  Ct Tryz.prog w0 70 [v0, .agg (snV s aV cV aD cD)] K hs (fun v K' hs' => Le K K' /\ hs' = hs /\ ∃ v1, v = .tuple #[v1, .int .i64 (r.save s).2] /\ RlS K' (r.save s).1 v1) := by
 have hv0 := hv
 obtain ⟨aV', cV', aD', cD', aL, cL, rfl, xV, xD, xL⟩ := hv
 have hlen := hb.len
 unfold Rl.save
 refine enter Tryz.func70 (by kernel_rfl) rfl rfl rfl ?_
 refine sq (rg ?_)
 refine bx hT 0 rfl fun b2 => ?_
 refine bx hT 0 rfl fun b3 => ?_
 refine al hT 0 (.agg #[.int .u64 0, .int .i64 0, .int .u64 0, .int .u64 0, .slice none 0 0, .slice none 0 0, .slice none 0 0]) rfl (by kernel_rfl) fun b4 => ?_
 refine WL.hs (pt b4 z7 37 :: pt b3 (snV s aV cV aD cD) 32 :: pt b2 (rlV r aV' cV' aD' cD' aL cL) 37 :: hs) rfl ?_
 refine fin hT 1 rfl (th (sq (rg ?_)))
 refine ldS hT 0 2 rfl rfl (by kernel_rfl) ?_
 refine ldS hT 0 1 rfl rfl (by kernel_rfl) ?_
 refine cl hT 0 rfl (fitsRC r _ hv0 s aV cV aD cD xv hvl h64) ?_
 rintro v12 K12 hs12 ⟨rfl, rfl, rfl⟩
 refine fin hT 1 rfl (th (sq (sq (rg ?_))))
 refine cmpS hT 1 rfl fun b14 h14 => ?_
 refine fin hT 0 rfl (th (ifP h14 rfl (fun e2 => ?_) (fun e2 => ?_)))
 ·rw [if_pos e2]
  refine sq (rg ?_)
  refine ldS hT 0 2 rfl rfl (by kernel_rfl) ?_
  refine stS hT 1 0 rfl rfl (by kernel_rfl) rfl rfl ?_
  refine fin hT 1 rfl (th (rt (rT ?_)))
  exact retcP 0 3 rfl rfl rfl rfl (by kernel_rfl) ⟨Le.refl _, rfl, _, rfl, hv0⟩
 ·rw [if_neg e2]
  obtain ⟨f1, f2, f3, f4⟩ := rfits_ok (Decidable.not_not.1 e2)
  unfold lgTop at f4
  refine sk (th (sq (rg ?_)))
  refine ldS hT 0 2 rfl rfl (by kernel_rfl) ?_
  refine ldp hT 1 1 rfl rfl rfl ?_
  refine cl hT 0 rfl (termRC r n hb (by omega) _ hv0 s.idx hsi) ?_
  rintro v21 K21 hs21 ⟨rfl, rfl, rfl⟩
  have hiff := lgHas_iff (s := r.sn) (l := r.l) (t := s)
  have htr := fun h => lgHas_true (s := r.sn) (l := r.l) (t := s) h f3
  obtain ⟨T, hT'⟩ : ∃ T, T = trm r.sn r.l s.idx := ⟨_, rfl⟩
  rw [<- hT'] at hiff ⊢
  obtain ⟨t, b⟩ := T
  dsimp only at hiff
  refine fin hT 5 rfl (th (sq (sq (rg ?_))))
  refine cbS hT 1 (b = false) rfl (by cases b <;> simp) fun b25 h25 => ?_
  refine' bjo (q := t ≠ s.term) hT 1 5 31 [25, 26] h25 rfl rfl rfl rfl rfl rfl rfl (fun _ => ?x3) (fun b31 h31 => ?_)
  case x3 =>
   refine ldp hT 2 1 rfl rfl rfl ?_
   refine cmpS hT 0 rfl fun b30 h30 => ?_
   exact fin hT 1 rfl (bjx (h30.trans (by omega)) rfl rfl rfl)
  refine fin hT 0 rfl (th (ifP h31 rfl (fun e5 => ?_) (fun e5 => ?_)))
  ·rw [if_pos (hiff.2 e5)]
   refine sq (rg ?_)
   refine ldS hT 0 2 rfl rfl (by kernel_rfl) ?_
   refine stS hT 0 0 rfl rfl (by kernel_rfl) rfl rfl ?_
   refine fin hT 1 rfl (th (rt (rT ?_)))
   exact retcP 0 3 rfl rfl rfl rfl (by kernel_rfl) ⟨Le.refl _, rfl, _, rfl, hv0⟩
  ·have hhas : lgHas r.sn r.l s = true := by cases h : lgHas r.sn r.l s with | true => rfl | false => exact absurd (hiff.1 h) e5
   have hle := htr hhas
   rw [if_neg (by rw [hhas]; simp)]
   obtain ⟨d, hd⟩ : ∃ d, d = r.l.drop (s.idx - r.sn.idx) := ⟨_, rfl⟩
   have hdl : d.length = r.l.length - (s.idx - r.sn.idx) := by rw [hd, List.length_drop]
   have xcut := xL.cut (s.idx - r.sn.idx) (by omega)
   rw [<- hdl, <- hd] at xcut
   have hcap : r.l.length <= cL := by obtain ⟨_, h⟩ := xL.isS; exact h.2.1
   rw [<- hd]
   refine sk (th (sq (rga [pt b3 (snV s aV cV aD cD) 32, pt b2 (rlV r aV' cV' aD' cD' aL cL) 37] 13 [0, 2, 4, 6, 8, 10, 12, 14, 16, 18, 21, 23, 25] (by simp) (by kernel_rfl) (by kernel_rfl) ?_)))
   refine dldS hT (by kernel_rfl) 0 1 rfl (by kernel_rfl) rfl (by kernel_rfl) ?_
   refine dldpw hT (by kernel_rfl) 1 1 rfl (by kernel_rfl) rfl rfl ?_
   refine dldpw hT (by kernel_rfl) 1 0 rfl (by kernel_rfl) rfl rfl ?_
   refine dldpw hT (by kernel_rfl) 2 1 rfl (by kernel_rfl) rfl rfl ?_
   refine dar hT (by kernel_rfl) 0 rfl (u64s (by omega) (by omega)) ?_
   refine dslx hT (by kernel_rfl) 0 (s.idx - r.sn.idx) d.length rfl rfl rfl (by show ((r.l.length : Nat) : Int) = _; omega) (by omega) ?_
   have fn : ∀ (v1 : Value) (b9 : Nat) (K' : PH), Le K21 K' -> RlS K' { r with l := d } v1 -> True := fun _ _ _ _ _ => trivial
   refine dfork 11 hT (by kernel_rfl) 0 [21, 25] rfl (by kernel_rfl) ?_ ?_
   ·refine cl hT 0 rfl (withRC r _ hv0 _ _ d xcut none 0 [] (SlS.nil _ _ _ _) (by simp; omega)) ?_
    rintro v43 K43 hs43 ⟨le, rfl, aV2, cV2, aD2, cD2, aL2, cL2, rfl, xV2, xD2, xL2⟩
    rw [List.append_nil] at xL2
    refine dnexL [pt b3 (snV s aV cV aD cD) 32, pt b2 (rlV r aV' cV' aD' cD' aL cL) 37] (by simp) (by simp) le ?_
    refine dact hT (by kernel_rfl) 0 rfl ?_
    refine al hT 0 (.agg #[.int .u64 0, .int .i64 0, .int .u64 0, .int .u64 0, .slice none 0 0, .slice none 0 0, .slice none 0 0]) rfl (by kernel_rfl) fun b9 => ?_
    refine dnex [pt b3 (snV s aV cV aD cD) 32, pt b2 (rlV r aV' cV' aD' cD' aL cL) 37] (by simp) (by simp) rfl ?_
    refine dact hT (by kernel_rfl) 0 rfl ?_
    refine stS hT 0 0 rfl rfl (by kernel_rfl) rfl rfl ?_
    refine dnex [pt b3 (snV s aV cV aD cD) 32, pt b2 (rlV r aV' cV' aD' cD' aL cL) 37] (by simp) (by simp) rfl ?_
    refine dend hT (by kernel_rfl) 0 rfl (th (sq (rg ?_)))
    refine ldS hT 0 2 rfl rfl (by kernel_rfl) ?_
    refine sts hT 1 0 rfl rfl (by kernel_rfl) (by simp [rlV, snV]) (fun v hv => by simp [snV] at hv; rcases hv with rfl | rfl | rfl | rfl <;> rfl) ?_
    refine WL.hs (pt b9 (rlV { r with sn := s, l := d } aV cV aD cD aL2 cL2) 37 :: pt b4 z7 37 :: pt b3 (snV s aV cV aD cD) 32 :: pt b2 (rlV r aV' cV' aD' cD' aL cL) 37 :: hs) (by simp [rlV, snV]) ?_
    refine fin hT 0 rfl (th (sq (rg ?_)))
    refine ldS hT 0 0 rfl rfl (by kernel_rfl) ?_
    refine stS hT 0 1 rfl rfl (by kernel_rfl) rfl rfl ?_
    refine fin hT 1 rfl (th (rt ?_))
    exact retcP 1 4 rfl rfl rfl rfl (by kernel_rfl) ⟨le, rfl, _, rfl, aV, cV, aD, cD, aL2, cL2, rfl, xv.le le, xd.le le, by simpa using xL2⟩
   ·refine al hT 0 (.agg #[.int .u64 0, .int .i64 0, .int .u64 0, .int .u64 0, .slice none 0 0, .slice none 0 0, .slice none 0 0]) rfl (by kernel_rfl) fun b9 => ?_
    refine dnex [pt b3 (snV s aV cV aD cD) 32, pt b2 (rlV r aV' cV' aD' cD' aL cL) 37] (by simp) (by simp) rfl ?_
    refine dact hT (by kernel_rfl) 0 rfl ?_
    refine cl hT 0 rfl (withRC r _ hv0 _ _ d xcut none 0 [] (SlS.nil _ _ _ _) (by simp; omega)) ?_
    rintro v43 K43 hs43 ⟨le, rfl, aV2, cV2, aD2, cD2, aL2, cL2, rfl, xV2, xD2, xL2⟩
    rw [List.append_nil] at xL2
    refine dnexL [pt b3 (snV s aV cV aD cD) 32, pt b2 (rlV r aV' cV' aD' cD' aL cL) 37] (by simp) (by simp) le ?_
    refine dact hT (by kernel_rfl) 0 rfl ?_
    refine stS hT 0 0 rfl rfl (by kernel_rfl) rfl rfl ?_
    refine dnex [pt b3 (snV s aV cV aD cD) 32, pt b2 (rlV r aV' cV' aD' cD' aL cL) 37] (by simp) (by simp) rfl ?_
    refine dend hT (by kernel_rfl) 0 rfl (th (sq (rg ?_)))
    refine ldS hT 0 2 rfl rfl (by kernel_rfl) ?_
    refine sts hT 1 0 rfl rfl (by kernel_rfl) (by simp [rlV, snV]) (fun v hv => by simp [snV] at hv; rcases hv with rfl | rfl | rfl | rfl <;> rfl) ?_
    refine WL.hs (pt b9 (rlV { r with sn := s, l := d } aV cV aD cD aL2 cL2) 37 :: pt b4 z7 37 :: pt b3 (snV s aV cV aD cD) 32 :: pt b2 (rlV r aV' cV' aD' cD' aL cL) 37 :: hs) (by simp [rlV, snV]) ?_
    refine fin hT 0 rfl (th (sq (rg ?_)))
    refine ldS hT 0 0 rfl rfl (by kernel_rfl) ?_
    refine stS hT 0 1 rfl rfl (by kernel_rfl) rfl rfl ?_
    refine fin hT 1 rfl (th (rt ?_))
    exact retcP 1 4 rfl rfl rfl rfl (by kernel_rfl) ⟨le, rfl, _, rfl, aV, cV, aD, cD, aL2, cL2, rfl, xv.le le, xd.le le, by simpa using xL2⟩
theorem installRC {w0 : World} {K : PH} {hs : List PH} (r : Rl) (n : Nat) (hb : RBd n r) (hn : n <= 1099511627) (v0 : Value) (hv : RlS K r v0) (s : Snp) (hsi : s.idx <= mxU) (aV : Option Addr) (cV : Nat) (aD : Option Addr) (cD : Nat) (xv : IsS K aV s.vot.length cV 1 (iv s.vot)) (xd : IsS K aD s.data.length cD 1 (bv s.data)) (hvl : s.vot.length < 1099511627776) (h64 : ∀ v ∈ s.vot, -9223372036854775808 <= v /\ v <= 9223372036854775807) :
  Ct Tryz.prog w0 71 [v0, .agg (snV s aV cV aD cD)] K hs (fun v K' hs' => Le K K' /\ hs' = hs /\ ∃ v1, v = .tuple #[v1, .int .i64 (r.install s).2] /\ RlS K' (r.install s).1 v1) := by
 have hv0 := hv
 obtain ⟨aV', cV', aD', cD', aL, cL, rfl, xV, xD, xL⟩ := hv
 have hlen := hb.len
 unfold Rl.install
 refine enter Tryz.func71 (by kernel_rfl) rfl rfl rfl ?_
 refine sq (rg ?_)
 refine bx hT 0 rfl fun b2 => ?_
 refine bx hT 0 rfl fun b3 => ?_
 refine al hT 0 (.agg #[.int .u64 0, .int .i64 0, .int .u64 0, .int .u64 0, .slice none 0 0, .slice none 0 0, .slice none 0 0]) rfl (by kernel_rfl) fun b4 => ?_
 refine WL.hs (pt b4 z7 37 :: pt b3 (snV s aV cV aD cD) 32 :: pt b2 (rlV r aV' cV' aD' cD' aL cL) 37 :: hs) rfl ?_
 refine fin hT 1 rfl (th (sq (rg ?_)))
 refine ldS hT 0 2 rfl rfl (by kernel_rfl) ?_
 refine ldS hT 0 1 rfl rfl (by kernel_rfl) ?_
 refine cl hT 0 rfl (fitsRC r _ hv0 s aV cV aD cD xv hvl h64) ?_
 rintro v12 K12 hs12 ⟨rfl, rfl, rfl⟩
 refine fin hT 1 rfl (th (sq (sq (rg ?_))))
 refine cmpS hT 1 rfl fun b14 h14 => ?_
 refine fin hT 0 rfl (th (ifP h14 rfl (fun e2 => ?_) (fun e2 => ?_)))
 ·rw [if_pos e2]
  refine sq (rg ?_)
  refine ldS hT 0 2 rfl rfl (by kernel_rfl) ?_
  refine stS hT 1 0 rfl rfl (by kernel_rfl) rfl rfl ?_
  refine fin hT 1 rfl (th (rt (rT ?_)))
  exact retcP 0 3 rfl rfl rfl rfl (by kernel_rfl) ⟨Le.refl _, rfl, _, rfl, hv0⟩
 ·rw [if_neg e2]
  obtain ⟨f1, f2, f3, f4⟩ := rfits_ok (Decidable.not_not.1 e2)
  refine sk (th (sq (rg ?_)))
  refine ldS hT 0 2 rfl rfl (by kernel_rfl) ?_
  refine ldp hT 1 1 rfl rfl rfl ?_
  refine cl hT 0 rfl (termRC r n hb (by omega) _ hv0 s.idx hsi) ?_
  rintro v21 K21 hs21 ⟨rfl, rfl, rfl⟩
  have hiff := lgHas_iff (s := r.sn) (l := r.l) (t := s)
  obtain ⟨T, hT'⟩ : ∃ T, T = trm r.sn r.l s.idx := ⟨_, rfl⟩
  rw [<- hT'] at hiff ⊢
  obtain ⟨t, b⟩ := T
  dsimp only at hiff
  refine fin hT 5 rfl (th (sq (sq (rg ?_))))
  refine' bja (p := b = true) (q := t = s.term) hT 2 5 29 [8, 22, 23, 24] (b := b) Iff.rfl rfl rfl rfl rfl rfl rfl rfl (fun _ => ?x3) (fun b29 h29 => ?_)
  case x3 =>
   refine ldp hT 2 1 rfl rfl rfl ?_
   refine cmpS hT 0 rfl fun b28 h28 => ?_
   exact fin hT 1 rfl (bjx (h28.trans (by omega)) rfl rfl rfl)
  refine fin hT 0 rfl (th (ifP h29 rfl (fun e5 => ?_) (fun e5 => ?_)))
  ·have hhas : lgHas r.sn r.l s = true := by
    cases h : lgHas r.sn r.l s with
    | true => rfl
    | false => exfalso; rcases hiff.1 h with h1 | h1; (rw [e5.1] at h1; cases h1); exact h1 e5.2
   rw [if_pos hhas]
   refine sq (rg ?_)
   refine ldS hT 0 2 rfl rfl (by kernel_rfl) ?_
   refine ldS hT 0 1 rfl rfl (by kernel_rfl) ?_
   refine cl hT 0 rfl (saveRC r n hb hn _ hv0 s hsi aV cV aD cD xv xd hvl h64) ?_
   rintro v32 K32 hs32 ⟨le, rfl, v1, rfl, hv1⟩
   obtain ⟨aV2, cV2, aD2, cD2, aL2, cL2, rfl, xV2, xD2, xL2⟩ := id hv1
   refine stS hT 2 0 rfl rfl (by kernel_rfl) rfl rfl ?_
   refine fin hT 1 rfl (th (rt (rT ?_)))
   exact retcP 0 3 rfl rfl rfl rfl (by kernel_rfl) ⟨le, rfl, _, rfl, hv1⟩
  ·have hhas : lgHas r.sn r.l s = false := by
    refine hiff.2 ?_
    cases b with
    | false => exact .inl rfl
    | true => exact .inr fun h => e5 ⟨rfl, h⟩
   rw [if_neg (by rw [hhas]; simp)]
   refine sk (th (sq (rg ?_)))
   refine ldS hT 0 1 rfl rfl (by kernel_rfl) ?_
   refine sts hT 1 2 rfl rfl (by kernel_rfl) (by simp [rlV, snV]) (fun v hv => by simp [snV] at hv; rcases hv with rfl | rfl | rfl | rfl <;> rfl) ?_
   refine fin hT 0 rfl (th (sq (rg ?_)))
   refine stp hT 1 2 rfl rfl rfl rfl ?_
   refine WL.hs (pt b4 z7 37 :: pt b3 (snV s aV cV aD cD) 32 :: pt b2 (rlV { r with sn := s, l := [] } aV cV aD cD none 0) 37 :: hs) rfl ?_
   refine fin hT 0 rfl (th (sq (rg ?_)))
   refine ldS hT 0 2 rfl rfl (by kernel_rfl) ?_
   refine stS hT 0 0 rfl rfl (by kernel_rfl) rfl rfl ?_
   refine fin hT 1 rfl (th (rt ?_))
   exact retcP 0 3 rfl rfl rfl rfl (by kernel_rfl) ⟨Le.refl _, rfl, _, rfl, aV, cV, aD, cD, none, 0, rfl, xv, xd, SlS.nil _ _ _ _⟩
end Go.Proofs.YtneeeblghijmgaaGreat
end
section
namespace Go.En
def Rl.merge2 (r : Rl) (x : List Ent) (last : Nat) : Rl × Nat × Bool × Int :=
 match (skp r.sn r.l x true).1 with
 | [] => (r, last, true, 0)
 | e :: t => ({ r with l := r.l.take (e.idx - r.sn.idx - 1) ++ (e :: t) }, last, true, 0)
def Rl.merge1 (r : Rl) (i t : Nat) (x : List Ent) (last : Nat) : Rl × Nat × Bool × Int :=
 if (trm r.sn r.l i).2 = false \/ (trm r.sn r.l i).1 ≠ t then (r, bck r.sn r.l i, false, 0) else r.merge2 x last
def Rl.merge (r : Rl) (i t : Nat) (x : List Ent) : Rl × Nat × Bool × Int :=
 if fol i t x ≠ 0 then (r, 0, false, fol i t x)
 else if i < r.sn.idx then
  (if i + x.length < r.sn.idx then (r, i + x.length, true, 0)
   else if ((x.drop (r.sn.idx - i)).head?.map fun e => decide (e.term < r.sn.term)) = some true then (r, 0, false, 180)
   else r.merge1 r.sn.idx r.sn.term (x.drop (r.sn.idx - i)) (i + x.length))
 else r.merge1 i t x (i + x.length)
theorem rmerge2_nil {r : Rl} {x : List Ent} {B : Bool} {last : Nat} (h : skp r.sn r.l x true = ([], B)) : r.merge2 x last = (r, last, true, 0) := by
 unfold Rl.merge2
 split
 ·rfl
 ·rename_i h2; rw [h] at h2; cases h2
theorem rmerge2_cons {r : Rl} {x : List Ent} {e : Ent} {t : List Ent} {B : Bool} {last : Nat} (h : skp r.sn r.l x true = (e :: t, B)) : r.merge2 x last = ({ r with l := r.l.take (e.idx - r.sn.idx - 1) ++ (e :: t) }, last, true, 0) := by
 unfold Rl.merge2
 split
 ·rename_i h2; rw [h] at h2; cases h2
 ·rename_i e' r' h2
  rw [h] at h2
  cases h2
  rfl
theorem SlS.pre {α : Type} {size : Nat} {R : List Value -> α -> Prop} {H : PH} {ao : Option Addr} {n cap : Nat} {xs : List α} (h : SlS size R H ao n cap xs) (N : Nat) (hN : N <= n) : SlS size R H ao N cap (xs.take N) := by
 obtain ⟨css, h1, h2, h3, h4⟩ := h
 have hl : css.length = n := by rw [h3.len, h1]
 have h5 := h2.cut 0 N (by omega) (ys := (css.take N).flatten) (by rw [Nat.zero_mul, List.drop_zero, flat_take N h4])
 rw [cutA_0, Nat.sub_zero] at h5
 exact ⟨css.take N, by rw [List.length_take]; omega, h5, h3.take N, fun d hd => h4 d (List.mem_of_mem_take hd)⟩
section
variable {P : Program} {w0 : World} {fn : Func} {R : Value -> PH -> List PH -> Prop} {n : Nat} {l : Sl} {K : PH} {hs : List PH}
theorem retcQ (i m : Nat) {t ty u p q b ty' : Nat} {x y z : Value} {c : Array Value} {fr : Nat × Nat} (hr : fn.results = #[.cell t ty, .tmp u, .tmp p, .tmp q]) (hv : look l t = some (.pointer (some ⟨b, 0, none⟩))) (hx : look l u = some x) (hy : look l p = some y) (hz : look l q = some z) (hi : hs[i]? = some (pt b c ty' fr)) (hm : aggOK P ty c.size = true)
  (hk : R (.tuple #[.agg c, x, y, z]) K (hs.drop m)) : WQ w0 (bodyPost P fn (endR w0 R)) .ret n l K hs :=
 fun _ w ha hw => bodyPost_ret (v := .tuple #[.agg c, x, y, z]) (by
  have h2 := run_loadVarS (P := P) (w := w) (t := ty) (a := ⟨b, 0, none⟩) (cs := c.toList) (by simpa using hm) rfl (fun j v hv => hw.cell (.inr ⟨i, hi⟩) (cells_pt c.toList (fun j v h => by simpa using h) j v hv))
  have e : c.toList.toArray = c := by simp
  rw [e] at h2
  simp [results, hr, ha.slot t _ hv, ha.slot u x hx, ha.slot p y hy, ha.slot q z hz, asAddr, h2]) ha.defers ⟨_, _, _, rfl, hk, hw.dropN m⟩
end
end Go.En
namespace Go.Proofs.YtneeeblghijmgaaGreat
open Go.En
attribute [local irreducible] Code.wp wpList Calls
theorem mergeRC {w0 : World} {K : PH} {hs : List PH} (r : Rl) (n : Nat) (hb : RBd n r) (v0 : Value) (hv : RlS K r v0) (i t : Nat) (hi : i <= mxU) (ht : t <= mxU) (ao : Option Addr) (cap : Nat) (x : List Ent) (xs : SlS 4 (EntC K) K ao x.length cap x) (hx : ∀ e ∈ x, entB e) (hn : n + x.length <= 1099511627) :
  Ct Tryz.prog w0 69 [v0, .int .u64 ((i : Nat) : Int), .int .u64 ((t : Nat) : Int), .slice ao x.length cap] K hs
   (fun v K' hs' => Le K K' /\ hs' = hs /\ ∃ v1, v = .tuple #[v1, .int .u64 (((r.merge i t x).2.1 : Nat) : Int), .bool (r.merge i t x).2.2.1, .int .i64 (r.merge i t x).2.2.2] /\ RlS K' (r.merge i t x).1 v1) := by
 have hv0 := hv
 obtain ⟨aV, cV, aD, cD, aL, cL, rfl, xV, xD, xL⟩ := hv
 have hidx := hb.idx
 have hlen := hb.len
 unfold lgTop at hidx
 obtain ⟨R, hR⟩ : ∃ R, R = r.merge i t x := ⟨_, rfl⟩
 rw [<- hR]
 unfold Rl.merge at hR
 refine enter Tryz.func69 (by kernel_rfl) rfl rfl rfl ?_
 refine sq (rg ?_)
 refine bx hT 0 rfl fun b4 => ?_
 refine al hT 0 (.agg #[.int .u64 0, .int .i64 0, .int .u64 0, .int .u64 0, .slice none 0 0, .slice none 0 0, .slice none 0 0]) rfl (by kernel_rfl) fun b8 => ?_
 refine WL.hs (pt b8 z7 37 :: pt b4 (rlV r aV cV aD cD aL cL) 37 :: hs) rfl ?_
 refine fin hT 3 rfl (th (sq (rg ?_)))
 refine cl hT 3 rfl (followRC i t hi ht ao cap x xs hx (by omega)) ?_
 rintro v22 K22 hs22 ⟨rfl, rfl, rfl⟩
 refine fin hT 1 rfl (th (sq (sq (rg ?_))))
 refine cmpS hT 1 rfl fun b24 h24 => ?_
 refine fin hT 0 rfl (th (ifP h24 rfl (fun e4 => ?_) (fun e4 => ?_)))
 ·rw [if_pos e4] at hR
  refine sq (rg ?_)
  refine ldS hT 0 1 rfl rfl (by kernel_rfl) ?_
  refine stS hT 1 0 rfl rfl (by kernel_rfl) rfl rfl ?_
  refine fin hT 3 rfl (th (rt (rT ?_)))
  rw [hR]
  exact retcQ 0 2 rfl rfl rfl rfl rfl rfl (by kernel_rfl) ⟨Le.refl _, rfl, _, rfl, hv0⟩
 ·rw [if_neg e4] at hR
  have hfol := fol_folR (Decidable.not_not.1 e4)
  have hchain := folR_idx x i t hfol
  have hlast : i + x.length <= mxU := by
   rcases Nat.eq_zero_or_pos x.length with h | h
   ·omega
   ·obtain ⟨e, he⟩ : ∃ e, x[x.length - 1]? = some e := ⟨x[x.length - 1], List.getElem?_eq_getElem (by omega)⟩
    have h1 := hchain _ e he
    have h2 := (hx e (List.mem_of_getElem? he)).1
    omega
  obtain ⟨last, hla⟩ : ∃ last, last = i + x.length := ⟨_, rfl⟩
  rw [<- hla] at hR hlast
  unfold mxU at hi ht hlast
  refine sk (th (sq (rg ?_)))
  refine ar hT 3 rfl (u64w (x := ((x.length : Nat) : Int)) (by omega)) ?_
  refine ar hT 0 rfl (v' := .int .u64 ((last : Nat) : Int)) (by rw [show ((i : Nat) : Int) + ((x.length : Nat) : Int) = ((last : Nat) : Int) from by omega]; exact u64w (by omega)) ?_
  refine fin hT 1 rfl (th (jn (σ := (Nat × Nat × List Ent) × (Option Addr × Nat)) (fun s => [(1, .int .u64 ((s.1.1 : Nat) : Int)), (2, .int .u64 ((s.1.2.1 : Nat) : Int)), (3, .slice s.2.1 s.1.2.2.length s.2.2), (4, .pointer (some ⟨b4, 0, none⟩)), (8, .pointer (some ⟨b8, 0, none⟩)), (13, .int .u64 ((last : Nat) : Int))])
   (fun _ => pt b8 z7 37 :: pt b4 (rlV r aV cV aD cD aL cL) 37 :: hs)
   (fun s => r.merge1 s.1.1 s.1.2.1 s.1.2.2 last = R /\ (s.1.1 <= 18446744073709551615 /\ r.sn.idx <= s.1.1) /\ SlS 4 (EntC K22) K22 s.2.1 s.1.2.2.length s.2.2 s.1.2.2 /\ (∀ e ∈ s.1.2.2, entB e) /\ s.1.2.2.length <= x.length /\ ∀ j e, s.1.2.2[j]? = some e -> e.idx = s.1.1 + j + 1) ?_ ?_))
  ·refine sq (rg ?_)
   refine ldp hT 3 1 rfl rfl rfl ?_
   refine cmpS hT 0 rfl fun b36 h36 => ?_
   refine fin hT 0 rfl (th (ifP h36 rfl (fun e6 => ?_) (fun e6 => ?_)))
   ·rw [if_pos (by omega)] at hR
    refine sq (sq (rg ?_))
    refine ldp hT 3 1 rfl rfl rfl ?_
    refine cmpS hT 0 rfl fun b41 h41 => ?_
    refine fin hT 0 rfl (th (ifP h41 rfl (fun e8 => ?_) (fun e8 => ?_)))
    ·rw [if_pos (by omega)] at hR
     refine sq (rg ?_)
     refine ldS hT 0 1 rfl rfl (by kernel_rfl) ?_
     refine stS hT 1 0 rfl rfl (by kernel_rfl) rfl rfl ?_
     refine fin hT 3 rfl (th (rt (rT (jr ?_))))
     rw [hR]
     exact retcQ 0 2 rfl rfl rfl rfl rfl rfl (by kernel_rfl) ⟨Le.refl _, rfl, _, rfl, hv0⟩
    ·rw [if_neg (by omega)] at hR
     obtain ⟨y, hy⟩ : ∃ y, y = x.drop (r.sn.idx - i) := ⟨_, rfl⟩
     have hyl : y.length = x.length - (r.sn.idx - i) := by rw [hy, List.length_drop]
     have ysl := xs.cut (r.sn.idx - i) (by omega)
     rw [<- hyl, <- hy] at ysl
     rw [<- hy] at hR
     have hyx : ∀ e ∈ y, entB e := fun e he => hx e (by rw [hy] at he; exact List.mem_of_mem_drop he)
     have hych : ∀ j e, y[j]? = some e -> e.idx = r.sn.idx + j + 1 := fun j e he => by
      rw [hy, List.getElem?_drop] at he
      have := hchain _ e he
      omega
     have hcap : x.length <= cap := by obtain ⟨_, hh⟩ := xs.isS; exact hh.2.1
     refine sk (th (sq (rg ?_)))
     refine ldp hT 3 1 rfl rfl rfl ?_
     refine ar hT 1 rfl (u64s (by omega) (by omega)) ?_
     refine slx hT 0 (r.sn.idx - i) y.length rfl rfl (by show ((x.length : Nat) : Int) = _; omega) (by omega) ?_
     refine fin hT 1 rfl (th (sq (rg ?_)))
     refine ldp hT 2 1 rfl rfl rfl ?_
     refine fin hT 1 rfl (th (sq (rg ?_)))
     refine ldp hT 2 1 rfl rfl rfl ?_
     refine fin hT 1 rfl (th (sq (rg ?_)))
     cases y with
     | nil =>
      rw [if_neg (by simp)] at hR
      refine cmp hT 2 rfl (fun h => absurd h (by simp)) (fun _ => ?_)
      refine fin hT 8 rfl (th (ifF rfl ?_))
      refine sk ?_
      exact jx ((r.sn.idx, r.sn.term, []), (_, _)) ⟨hR.symm, ⟨by dsimp only; omega, Nat.le_refl _⟩, ysl, by simp, Nat.zero_le _, by simp⟩ ⟨rfl, rfl, rfl, rfl, rfl, rfl, trivial⟩ rfl rfl
     | cons e u =>
      obtain ⟨zs, hzs⟩ := ysl.isS
      obtain ⟨a, ha⟩ := ysl.addr (by simp) (by decide)
      have ysl2 := ysl
      rw [ha] at ysl2 hzs ⊢
      obtain ⟨cc, ⟨ae, ce, rfl, xe⟩, _, hcell⟩ := ysl2.cells (i := 0) (x := e) rfl
      refine cmp hT 2 rfl (fun _ => ?_) (fun h => absurd (show ((0 : Int) < (((e :: u).length : Nat) : Int)) by simp) h)
      refine ixs hT 2 0 rfl rfl hzs (by simp) (by decide) fun a62 h62 => ?_
      cases h62
      refine ld hT 1 rfl (.inl rfl) (hcell 1 _ rfl) ?_
      refine cmpS hT 1 rfl fun b66 h66 => ?_
      refine fin hT 1 rfl (th (ifP h66 rfl (fun e12 => ?_) (fun e12 => ?_)))
      ·rw [if_pos (by simp; omega)] at hR
       refine sq (rg ?_)
       refine ldS hT 0 1 rfl rfl (by kernel_rfl) ?_
       refine stS hT 0 0 rfl rfl (by kernel_rfl) rfl rfl ?_
       refine fin hT 3 rfl (th (rt (jr ?_)))
       rw [hR]
       exact retcQ 0 2 rfl rfl rfl rfl rfl rfl (by kernel_rfl) ⟨Le.refl _, rfl, _, rfl, hv0⟩
      ·rw [if_neg (by simp; omega)] at hR
       refine sk ?_
       exact jx ((r.sn.idx, r.sn.term, e :: u), (_, _)) ⟨hR.symm, ⟨by dsimp only; omega, Nat.le_refl _⟩, ysl2, hyx, by dsimp only; omega, hych⟩ ⟨rfl, rfl, rfl, rfl, rfl, rfl, trivial⟩ rfl rfl
   ·rw [if_neg (by omega)] at hR
    refine sk ?_
    exact jx ((i, t, x), (ao, cap)) ⟨hR.symm, ⟨hi, by dsimp only; omega⟩, xs, hx, Nat.le_refl _, hchain⟩ ⟨rfl, rfl, rfl, rfl, rfl, rfl, trivial⟩ rfl rfl
  ·clear hR hfol hla hi ht xs hx e4 hchain
   clear h24
   rintro ⟨⟨i, t, y⟩, ⟨ao, cap⟩⟩ ⟨hR, ⟨hi, hge⟩, xs, hx, hyl, hch⟩
   dsimp only at *
   unfold Rl.merge1 at hR
   refine sq (rg ?_)
   refine ldS hT 0 1 rfl rfl (by kernel_rfl) ?_
   refine cl hT 1 rfl (termRC r n hb (by omega) _ hv0 i (by unfold mxU; omega)) ?_
   rintro v72 K72 hs72 ⟨rfl, rfl, rfl⟩
   have htrm : (trm r.sn r.l i).2 = true -> i <= r.sn.idx + r.l.length := fun h => by
    unfold trm at h
    by_cases h1 : i = r.sn.idx
    ·omega
    ·rw [if_neg h1] at h
     by_cases h2 : i < r.sn.idx \/ r.sn.idx + r.l.length < i
     ·rw [if_pos h2] at h; cases h
     ·omega
   obtain ⟨T, hTT⟩ : ∃ T, T = trm r.sn r.l i := ⟨_, rfl⟩
   rw [<- hTT] at hR htrm ⊢
   obtain ⟨u, b⟩ := T
   dsimp only at hR htrm
   refine fin hT 5 rfl (th (sq (sq (rg ?_))))
   refine cbS hT 1 (b = false) rfl (by cases b <;> simp) fun b76 h76 => ?_
   refine' bjo (q := u ≠ t) hT 1 4 81 [76, 77] h76 rfl rfl rfl rfl rfl rfl rfl (fun _ => ?x13) (fun b81 h81 => ?_)
   case x13 =>
    refine cmpS hT 2 rfl fun b80 h80 => ?_
    exact fin hT 1 rfl (bjx (h80.trans (by omega)) rfl rfl rfl)
   refine fin hT 0 rfl (th (ifP h81 rfl (fun e15 => ?_) (fun e15 => ?_)))
   ·rw [if_pos e15] at hR
    refine sq (rga [pt b4 (rlV r aV cV aD cD aL cL) 37] 8 [0, 2, 4, 7, 9, 10, 12, 14] (by simp) (by kernel_rfl) (by kernel_rfl) ?_)
    refine dldS hT (by kernel_rfl) 0 0 rfl (by kernel_rfl) rfl (by kernel_rfl) ?_
    refine dldS hT (by kernel_rfl) 0 0 rfl (by kernel_rfl) rfl (by kernel_rfl) ?_
    refine dact hT (by kernel_rfl) 1 rfl ?_
    refine cl hT 0 rfl (backRC r n hb (by omega) _ hv0 i (by unfold mxU; omega) hge) ?_
    rintro v85 K85 hs85 ⟨rfl, rfl, rfl⟩
    refine dnex [pt b4 (rlV r aV cV aD cD aL cL) 37] (by simp) (by simp) rfl ?_
    refine dact hT (by kernel_rfl) 0 rfl ?_
    refine stS hT 0 0 rfl rfl (by kernel_rfl) rfl rfl ?_
    refine dnex [pt b4 (rlV r aV cV aD cD aL cL) 37] (by simp) (by simp) rfl ?_
    refine dend hT (by kernel_rfl) 3 rfl (th (rt (rT ?_)))
    rw [<- hR]
    exact retcQ 0 2 rfl rfl rfl rfl rfl rfl (by kernel_rfl) ⟨Le.refl _, rfl, _, rfl, hv0⟩
   ·rw [if_neg e15] at hR
    obtain rfl : b = true := by cases b with | true => rfl | false => exact absurd (.inl rfl) e15
    have hile := htrm rfl
    obtain ⟨X, B, hXB⟩ : ∃ X B, skp r.sn r.l y true = (X, B) := ⟨_, _, rfl⟩
    obtain ⟨ws, hws⟩ := xs.isS
    have hcap := hws.2.1
    refine sk (th (sq (sq (rg ?_))))
    refine fin hT 1 rfl (th (bk ?_))
    refine loop (σ := Nat) (fun j => [(3, .slice ao y.length cap), (4, .pointer (some ⟨b4, 0, none⟩)), (8, .pointer (some ⟨b8, 0, none⟩)), (13, .int .u64 ((last : Nat) : Int)), (16, .int .i64 ((j : Nat) : Int))]) (fun _ => K72)
     (fun _ => pt b8 z7 37 :: pt b4 (rlV r aV cV aD cD aL cL) 37 :: hs)
     (fun j => j <= y.length /\ skp r.sn r.l (y.drop j) true = (X, B) /\ i + j <= r.sn.idx + r.l.length) (fun j => y.length - j) 0 ⟨Nat.zero_le _, hXB, hile⟩ ⟨rfl, rfl, rfl, rfl, rfl, trivial⟩ rfl rfl ?_
    rintro j ⟨hj, hz, hij⟩
    refine sq (sq (rg ?_))
    refine cmpS hT 3 rfl fun b89 h89 => ?_
    refine fin hT 0 rfl (th (ifP h89 rfl (fun e16 => ?_) (fun e16 => ?_)))
    ·have hjy : j < y.length := by omega
     obtain ⟨e, he⟩ : ∃ e, y[j]? = some e := ⟨y[j], List.getElem?_eq_getElem hjy⟩
     have hem := List.mem_of_getElem? he
     obtain ⟨q1, q2, q3⟩ := hx e hem
     have hei := hch j e he
     obtain ⟨a, ae, ce, rfl, xe, hcell⟩ := entR_cells xs he
     have hdr : y.drop j = e :: y.drop (j + 1) := by rw [List.drop_eq_getElem_cons hjy, show y[j] = e from by rw [List.getElem?_eq_getElem hjy] at he; exact Option.some.inj he]
     rw [hdr, skp_cons] at hz
     have htrm2 : (trm r.sn r.l e.idx).2 = true -> e.idx <= r.sn.idx + r.l.length := fun h => by
      unfold trm at h
      by_cases h1 : e.idx = r.sn.idx
      ·omega
      ·rw [if_neg h1] at h
       by_cases h2 : e.idx < r.sn.idx \/ r.sn.idx + r.l.length < e.idx
       ·rw [if_pos h2] at h; cases h
       ·omega
     unfold mxU at q1 q2
     refine sk (th (sq (bk (sq (rga [pt b4 (rlV r aV cV aD cD aL cL) 37] 12 [0, 2, 4, 6, 8, 10, 13, 14, 16, 18, 20, 22] (by simp) (by kernel_rfl) (by kernel_rfl) ?_)))))
     refine dldS hT (by kernel_rfl) 0 0 rfl (by kernel_rfl) rfl (by kernel_rfl) ?_
     refine dixs hT (by kernel_rfl) 2 j rfl rfl hjy ?_
     refine dld hT (by kernel_rfl) 1 rfl (.inl rfl) (hcell 0 _ rfl) ?_
     refine dact hT (by kernel_rfl) 0 rfl ?_
     refine cl hT 0 rfl (termRC r n hb (by omega) _ hv0 e.idx (by unfold mxU; omega)) ?_
     rintro v99 K99 hs99 ⟨rfl, rfl, rfl⟩
     obtain ⟨V, hV⟩ : ∃ V, V = trm r.sn r.l e.idx := ⟨_, rfl⟩
     rw [<- hV] at hz htrm2 ⊢
     obtain ⟨v, b'⟩ := V
     dsimp only at hz htrm2
     refine dnex [pt b4 (rlV r aV cV aD cD aL cL) 37] (by simp) (by simp) rfl ?_
     refine dend hT (by kernel_rfl) 5 rfl (th (sq (rg ?_)))
     refine cbS hT 1 (b' = false) rfl (by cases b' <;> simp) fun b103 h103 => ?_
     refine' bjo (q := v ≠ e.term) hT 1 8 112 [103, 104] h103 rfl rfl rfl rfl rfl rfl rfl (fun _ => ?x18) (fun b112 h112 => ?_)
     case x18 =>
      refine ixs hT 3 j rfl rfl hws hjy (by decide) fun a108 h108 => ?_
      cases h108
      refine ld hT 1 rfl (.inl rfl) (hcell 1 _ rfl) ?_
      refine cmpS hT 0 rfl fun b111 h111 => ?_
      exact fin hT 1 rfl (bjx (h111.trans (by omega)) rfl rfl rfl)
     refine fin hT 0 rfl (th (ifP h112 rfl (fun e20 => ?_) (fun e20 => ?_)))
     ·rw [if_pos e20] at hz
      cases hz
      rw [rmerge2_cons hXB] at hR
      obtain ⟨N, hN⟩ : ∃ N, N = e.idx - r.sn.idx - 1 := ⟨_, rfl⟩
      rw [<- hN] at hR
      have hNl : N <= r.l.length := by omega
      have xpre := xL.pre N hNl
      have xcut := xs.cut j (by omega)
      rw [hdr] at xcut
      have hdl : y.length - j = (e :: y.drop (j + 1)).length := by rw [<- hdr, List.length_drop]
      have htl : (r.l.take N).length = N := by rw [List.length_take]; omega
      rw [hdl] at xcut
      have hcL : r.l.length <= cL := by obtain ⟨_, h⟩ := xL.isS; exact h.2.1
      refine sq (rga [pt b4 (rlV r aV cV aD cD aL cL) 37] 23 [0, 2, 4, 6, 8, 10, 12, 14, 16, 18, 20, 22, 24, 26, 28, 30, 32, 36, 35, 39, 40, 42, 44] (by simp) (by kernel_rfl) (by kernel_rfl) ?_)
      refine dldS hT (by kernel_rfl) 0 0 rfl (by kernel_rfl) rfl (by kernel_rfl) ?_
      refine dldpw hT (by kernel_rfl) 1 0 rfl (by kernel_rfl) rfl rfl ?_
      refine dixs hT (by kernel_rfl) 2 j rfl rfl hjy ?_
      refine dld hT (by kernel_rfl) 1 rfl (.inl rfl) (hcell 0 _ rfl) ?_
      refine dldpw hT (by kernel_rfl) 2 0 rfl (by kernel_rfl) rfl rfl ?_
      refine dar hT (by kernel_rfl) 0 rfl (u64s (by omega) (by omega)) ?_
      refine dar hT (by kernel_rfl) 0 rfl (v' := .int .u64 ((N : Nat) : Int)) (by rw [hN]; exact u64s1 (by omega) (by omega)) ?_
      refine dslx hT (by kernel_rfl) 0 0 N rfl rfl rfl (by show ((N : Nat) : Int) = ((0 + N : Nat) : Int); omega) (by omega) ?_
      refine dslx hT (by kernel_rfl) 2 j (e :: y.drop (j + 1)).length rfl rfl rfl (by show ((y.length : Nat) : Int) = _; omega) (by omega) ?_
      rw [show cutA aL cL 0 4 = aL from cutA_0, Nat.sub_zero]
      refine dact hT (by kernel_rfl) 1 rfl ?_
      have hcal := withRC (w0 := w0) (hs := pt b8 z7 37 :: pt b4 (rlV r aV cV aD cD aL cL) 37 :: hs) r _ hv0 aL cL (r.l.take N) (by rw [htl]; exact xpre) _ _ (e :: y.drop (j + 1)) xcut (by rw [htl]; omega)
      rw [htl] at hcal
      refine cl hT 0 rfl hcal ?_
      rintro v130 K130 hs130 ⟨le, rfl, aV2, cV2, aD2, cD2, aL2, cL2, rfl, xV2, xD2, xL2⟩
      refine dnexL [pt b4 (rlV r aV cV aD cD aL cL) 37] (by simp) (by simp) le ?_
      refine dact hT (by kernel_rfl) 0 rfl ?_
      refine stS hT 0 0 rfl rfl (by kernel_rfl) rfl rfl ?_
      refine dnex [pt b4 (rlV r aV cV aD cD aL cL) 37] (by simp) (by simp) rfl ?_
      refine dend hT (by kernel_rfl) 3 rfl (th (rt (rB (rT (rT (rB (rT ?_)))))))
      rw [<- hR]
      exact retcQ 0 2 rfl rfl rfl rfl rfl rfl (by kernel_rfl) ⟨le, rfl, _, rfl, aV2, cV2, aD2, cD2, aL2, cL2, rfl, xV2, xD2, xL2⟩
     ·rw [if_neg e20] at hz
      obtain rfl : b' = true := by cases b' with | true => rfl | false => exact absurd (.inl rfl) e20
      have := htrm2 rfl
      refine sk (bl (th (rg ?_)))
      refine ar hT 1 rfl (i64w (x := ((j + 1 : Nat) : Int)) (by omega)) ?_
      refine fin hT 1 rfl ?_
      exact again (x := j) (j + 1) ⟨rfl, rfl, rfl, rfl, rfl, trivial⟩ rfl rfl ⟨by omega, hz, by omega⟩ (by omega)
    ·obtain rfl : j = y.length := by omega
     rw [List.drop_length] at hz
     have hz : (([] : List Ent), true) = (X, B) := hz
     cases hz
     rw [rmerge2_nil hXB] at hR
     refine ex (xt (xt (xb (th (sq (rg ?_))))))
     refine ldS hT 0 1 rfl rfl (by kernel_rfl) ?_
     refine stS hT 1 0 rfl rfl (by kernel_rfl) rfl rfl ?_
     refine fin hT 3 rfl (th (rt ?_))
     rw [<- hR]
     exact retcQ 0 2 rfl rfl rfl rfl rfl rfl (by kernel_rfl) ⟨Le.refl _, rfl, _, rfl, hv0⟩
end Go.Proofs.YtneeeblghijmgaaGreat
end
section
namespace Go.En
structure ROp where
 kind : Int
 ht : Nat
 hv : Int
 idx : Nat
 term : Nat
 x : List Ent
 sn : Snp
structure Ans where
 idx : Nat
 good : Bool
 code : Int
def Rl.doo (r : Rl) (o : ROp) : Rl × Ans :=
 if o.kind = 0 then ((r.setHard o.ht o.hv).1, ⟨0, false, (r.setHard o.ht o.hv).2⟩)
 else if o.kind = 1 then ((r.append o.x).1, ⟨0, false, (r.append o.x).2⟩)
 else if o.kind = 2 then ((r.merge o.idx o.term o.x).1, ⟨(r.merge o.idx o.term o.x).2.1, (r.merge o.idx o.term o.x).2.2.1, (r.merge o.idx o.term o.x).2.2.2⟩)
 else if o.kind = 4 then ((r.save o.sn).1, ⟨0, false, (r.save o.sn).2⟩)
 else if o.kind = 5 then ((r.install o.sn).1, ⟨0, false, (r.install o.sn).2⟩)
 else (r, ⟨0, false, 0⟩)
def ansV (a : Ans) : Array Value := #[.int .u64 ((a.idx : Nat) : Int), .bool a.good, .int .i64 a.code]
structure AdO where
 aX : Option Addr
 cX : Nat
 aV : Option Addr
 cV : Nat
 aD : Option Addr
 cD : Nat
def opV (o : ROp) (d : AdO) : Array Value :=
 #[.int .i64 o.kind, .int .u64 ((o.ht : Nat) : Int), .int .i64 o.hv, .int .u64 ((o.idx : Nat) : Int), .int .u64 ((o.term : Nat) : Int), .slice d.aX o.x.length d.cX, .int .u64 ((o.sn.idx : Nat) : Int), .int .u64 ((o.sn.term : Nat) : Int), .slice d.aV o.sn.vot.length d.cV, .slice d.aD o.sn.data.length d.cD]
structure ROp.bd (o : ROp) (n : Nat) : Prop where
 ht : o.ht <= mxU
 hv : -9223372036854775808 <= o.hv /\ o.hv <= 9223372036854775807
 idx : o.idx <= mxU
 term : o.term <= mxU
 len : o.x.length <= n
 ents : ∀ e ∈ o.x, entB e
 si : o.sn.idx <= mxU
 st : o.sn.term <= mxU
 vl : o.sn.vot.length <= 1099511627
 vot : ∀ v ∈ o.sn.vot, -9223372036854775808 <= v /\ v <= 9223372036854775807
 dl : o.sn.data.length <= 1099511627
section
variable {P : Program} {w0 : World} {fn : Func} {R : Value -> PH -> List PH -> Prop} {n : Nat} {l : Sl} {K : PH} {hs : List PH}
theorem retcc (i j m : Nat) {t ty u tu b ty' b2 ty2 : Nat} {c c2 : Array Value} {fr fr2 : Nat × Nat} (hr : fn.results = #[.cell t ty, .cell u tu]) (hv : look l t = some (.pointer (some ⟨b, 0, none⟩))) (hu : look l u = some (.pointer (some ⟨b2, 0, none⟩))) (hi : hs[i]? = some (pt b c ty' fr)) (hj : hs[j]? = some (pt b2 c2 ty2 fr2)) (hm : aggOK P ty c.size = true) (hm2 : aggOK P tu c2.size = true)
  (hk : R (.tuple #[.agg c, .agg c2]) K (hs.drop m)) : WQ w0 (bodyPost P fn (endR w0 R)) .ret n l K hs :=
 fun _ w ha hw => bodyPost_ret (v := .tuple #[.agg c, .agg c2]) (by
  have h2 := run_loadVarS (P := P) (w := w) (t := ty) (a := ⟨b, 0, none⟩) (cs := c.toList) (by simpa using hm) rfl (fun j v hv => hw.cell (.inr ⟨i, hi⟩) (cells_pt c.toList (fun j v h => by simpa using h) j v hv))
  have e : c.toList.toArray = c := by simp
  rw [e] at h2
  have h3 := run_loadVarS (P := P) (w := w) (t := tu) (a := ⟨b2, 0, none⟩) (cs := c2.toList) (by simpa using hm2) rfl (fun i v hv => hw.cell (.inr ⟨j, hj⟩) (cells_pt c2.toList (fun j v h => by simpa using h) i v hv))
  have e2 : c2.toList.toArray = c2 := by simp
  rw [e2] at h3
  simp [results, hr, ha.slot t _ hv, ha.slot u _ hu, asAddr, h2, h3]) ha.defers ⟨_, _, _, rfl, hk, hw.dropN m⟩
end
end Go.En
namespace Go.Proofs.YtneeeblghijmgaaGreat
open Go.En
attribute [local irreducible] Code.wp wpList Calls
def OpS (K : PH) (o : ROp) (d : AdO) : Prop := SlS 4 (EntC K) K d.aX o.x.length d.cX o.x /\ IsS K d.aV o.sn.vot.length d.cV 1 (iv o.sn.vot) /\ IsS K d.aD o.sn.data.length d.cD 1 (bv o.sn.data)
theorem OpS.le {K K' : PH} (l : Le K K') {o : ROp} {d : AdO} (h : OpS K o d) : OpS K' o d := ⟨h.1.le l fun _ _ h => h.le l, h.2.1.le l, h.2.2.le l⟩
structure AdL where
 aV : Option Addr
 cV : Nat
 aD : Option Addr
 cD : Nat
 aL : Option Addr
 cL : Nat
theorem RlS.ad {K : PH} {r : Rl} {v : Value} (h : RlS K r v) : ∃ d : AdL, v = .agg (rlV r d.aV d.cV d.aD d.cD d.aL d.cL) /\ RlS K r (.agg (rlV r d.aV d.cV d.aD d.cD d.aL d.cL)) := by
 obtain ⟨aV, cV, aD, cD, aL, cL, rfl, h2, h3, h4⟩ := h
 exact ⟨⟨aV, cV, aD, cD, aL, cL⟩, rfl, aV, cV, aD, cD, aL, cL, rfl, h2, h3, h4⟩
theorem doRC {w0 : World} {K : PH} {hs : List PH} (r : Rl) (n k : Nat) (hb : RBd n r) (v0 : Value) (hv : RlS K r v0) (o : ROp) (ho : o.bd k) (hn : n + k <= 1099511627) (d : AdO) (xo : OpS K o d) :
  Ct Tryz.prog w0 32 [v0, .agg (opV o d)] K hs (fun v K' hs' => Le K K' /\ hs' = hs /\ ∃ v1, v = .tuple #[v1, .agg (ansV (r.doo o).2)] /\ RlS K' (r.doo o).1 v1) := by
 obtain ⟨dl, rfl, hv0⟩ := hv.ad
 have hol := ho.len
 have hvl := ho.vl
 refine enter Tryz.func32 (by kernel_rfl) rfl rfl rfl ?_
 refine sq (rg ?_)
 refine bx hT 0 rfl fun b2 => ?_
 refine bx hT 0 rfl fun b3 => ?_
 refine al hT 0 (.agg #[.int .u64 0, .int .i64 0, .int .u64 0, .int .u64 0, .slice none 0 0, .slice none 0 0, .slice none 0 0]) rfl (by kernel_rfl) fun b4 => ?_
 refine al hT 0 (.agg #[.int .u64 0, .bool false, .int .i64 0]) rfl (by kernel_rfl) fun b5 => ?_
 refine fin hT 0 rfl (th (sq (rg ?_)))
 refine al hT 0 (.agg #[.int .u64 0, .bool false, .int .i64 0]) rfl (by kernel_rfl) fun b6 => ?_
 refine WL.hs (pt b6 #[.int .u64 0, .bool false, .int .i64 0] 59 :: pt b5 #[.int .u64 0, .bool false, .int .i64 0] 59 :: pt b4 #[.int .u64 0, .int .i64 0, .int .u64 0, .int .u64 0, .slice none 0 0, .slice none 0 0, .slice none 0 0] 37 :: pt b3 (opV o d) 34 :: pt b2 (rlV r dl.aV dl.cV dl.aD dl.cD dl.aL dl.cL) 37 :: hs) rfl ?_
 refine fin hT 0 rfl (th (jnK (σ := AdL × PH) (fun s => [(2, .pointer (some ⟨b2, 0, none⟩)), (4, .pointer (some ⟨b4, 0, none⟩)), (5, .pointer (some ⟨b5, 0, none⟩)), (6, .pointer (some ⟨b6, 0, none⟩))]) (fun s => s.2)
  (fun s => pt b6 (ansV (r.doo o).2) 59 :: pt b5 #[.int .u64 0, .bool false, .int .i64 0] 59 :: pt b4 #[.int .u64 0, .int .i64 0, .int .u64 0, .int .u64 0, .slice none 0 0, .slice none 0 0, .slice none 0 0] 37 :: pt b3 (opV o d) 34 :: pt b2 (rlV (r.doo o).1 s.1.aV s.1.cV s.1.aD s.1.cD s.1.aL s.1.cL) 37 :: hs)
  (fun s => Le K s.2 /\ RlS s.2 (r.doo o).1 (.agg (rlV (r.doo o).1 s.1.aV s.1.cV s.1.aD s.1.cD s.1.aL s.1.cL))) ?_ ?_))
 ·refine sq (rg ?_)
  refine ldp hT 1 3 rfl rfl rfl ?_
  refine fin hT 0 rfl (th (bk (sq (rg ?_))))
  refine cmpS hT 0 rfl fun b10 h10 => ?_
  refine fin hT 1 rfl (th (ifP h10 rfl (fun e2 => ?_) (fun e2 => ?_)))
  ·have hd : r.doo o = ((r.setHard o.ht o.hv).1, ⟨0, false, (r.setHard o.ht o.hv).2⟩) := by unfold Rl.doo; rw [if_pos e2]
   rw [hd]
   refine rg ?_
   refine ldS hT 0 4 rfl rfl (by kernel_rfl) ?_
   refine lds hT 1 [.int .u64 ((o.ht : Nat) : Int), .int .i64 o.hv] rfl (by kernel_rfl) (.inr ⟨3, rfl⟩) (cells_sub _ rfl) ?_
   refine cl hT 0 rfl (setHardRC r _ hv0 o.ht o.hv) ?_
   rintro v15 K15 hs15 ⟨rfl, rfl, v1, rfl, hv1⟩
   obtain ⟨d1, rfl, hv1⟩ := hv1.ad
   refine stS hT 3 4 rfl rfl (by kernel_rfl) rfl rfl ?_
   refine stp hT 1 0 rfl rfl rfl rfl ?_
   refine fin hT 0 rfl (bl ?_)
   exact jxK (d1, _) ⟨Le.refl _, hv1⟩ ⟨rfl, rfl, rfl, rfl, trivial⟩ rfl rfl
  ·refine sq (rg ?_)
   refine cmpS hT 0 rfl fun b20 h20 => ?_
   refine fin hT 1 rfl (th (ifP h20 rfl (fun e4 => ?_) (fun e4 => ?_)))
   ·have hd : r.doo o = ((r.append o.x).1, ⟨0, false, (r.append o.x).2⟩) := by unfold Rl.doo; rw [if_neg e2, if_pos e4]
    rw [hd]
    refine rg ?_
    refine ldS hT 0 4 rfl rfl (by kernel_rfl) ?_
    refine ldp hT 1 3 rfl rfl rfl ?_
    refine cl hT 0 rfl (appendRC r n hb _ hv0 d.aX d.cX o.x xo.1 ho.ents (by omega)) ?_
    rintro v25 K25 hs25 ⟨le, rfl, v1, rfl, hv1⟩
    obtain ⟨d1, rfl, hv1⟩ := hv1.ad
    refine stS hT 3 4 rfl rfl (by kernel_rfl) rfl rfl ?_
    refine stp hT 1 0 rfl rfl rfl rfl ?_
    refine fin hT 0 rfl (bl ?_)
    exact jxK (d1, _) ⟨le, hv1⟩ ⟨rfl, rfl, rfl, rfl, trivial⟩ rfl rfl
   ·refine sq (rg ?_)
    refine cmpS hT 0 rfl fun b30 h30 => ?_
    refine fin hT 1 rfl (th (ifP h30 rfl (fun e6 => ?_) (fun e6 => ?_)))
    ·have hd : r.doo o = ((r.merge o.idx o.term o.x).1, ⟨(r.merge o.idx o.term o.x).2.1, (r.merge o.idx o.term o.x).2.2.1, (r.merge o.idx o.term o.x).2.2.2⟩) := by unfold Rl.doo; rw [if_neg e2, if_neg e4, if_pos e6]
     rw [hd]
     refine rg ?_
     refine ldS hT 0 4 rfl rfl (by kernel_rfl) ?_
     refine ldp hT 1 3 rfl rfl rfl ?_
     refine ldp hT 1 3 rfl rfl rfl ?_
     refine ldp hT 1 3 rfl rfl rfl ?_
     refine cl hT 0 rfl (mergeRC r n hb _ hv0 o.idx o.term ho.idx ho.term d.aX d.cX o.x xo.1 ho.ents (by omega)) ?_
     rintro v39 K39 hs39 ⟨le, rfl, v1, rfl, hv1⟩
     obtain ⟨d1, rfl, hv1⟩ := hv1.ad
     refine stS hT 5 4 rfl rfl (by kernel_rfl) rfl rfl ?_
     refine stp hT 1 0 rfl rfl rfl rfl ?_
     refine stp hT 1 0 rfl rfl rfl rfl ?_
     refine stp hT 1 0 rfl rfl rfl rfl ?_
     refine fin hT 0 rfl (bl ?_)
     exact jxK (d1, _) ⟨le, hv1⟩ ⟨rfl, rfl, rfl, rfl, trivial⟩ rfl rfl
    ·refine sq (rg ?_)
     refine cmpS hT 0 rfl fun b48 h48 => ?_
     refine fin hT 1 rfl (th (ifP h48 rfl (fun e8 => ?_) (fun e8 => ?_)))
     ·have hd : r.doo o = ((r.save o.sn).1, ⟨0, false, (r.save o.sn).2⟩) := by unfold Rl.doo; rw [if_neg e2, if_neg e4, if_neg e6, if_pos e8]
      rw [hd]
      refine rg ?_
      refine ldS hT 0 4 rfl rfl (by kernel_rfl) ?_
      refine lds hT 1 (snV o.sn d.aV d.cV d.aD d.cD).toList rfl (by kernel_rfl) (.inr ⟨3, rfl⟩) (cells_sub _ rfl) ?_
      refine cl hT 0 rfl (saveRC r n hb (by omega) _ hv0 o.sn ho.si d.aV d.cV d.aD d.cD xo.2.1 xo.2.2 (by omega) ho.vot) ?_
      rintro v53 K53 hs53 ⟨le, rfl, v1, rfl, hv1⟩
      obtain ⟨d1, rfl, hv1⟩ := hv1.ad
      refine stS hT 3 4 rfl rfl (by kernel_rfl) rfl rfl ?_
      refine stp hT 1 0 rfl rfl rfl rfl ?_
      refine fin hT 0 rfl (bl ?_)
      exact jxK (d1, _) ⟨le, hv1⟩ ⟨rfl, rfl, rfl, rfl, trivial⟩ rfl rfl
     ·refine sq (rg ?_)
      refine cmpS hT 0 rfl fun b58 h58 => ?_
      refine fin hT 1 rfl (th (ifP h58 rfl (fun e10 => ?_) (fun e10 => ?_)))
      ·have hd : r.doo o = ((r.install o.sn).1, ⟨0, false, (r.install o.sn).2⟩) := by unfold Rl.doo; rw [if_neg e2, if_neg e4, if_neg e6, if_neg e8, if_pos e10]
       rw [hd]
       refine rg ?_
       refine ldS hT 0 4 rfl rfl (by kernel_rfl) ?_
       refine lds hT 1 (snV o.sn d.aV d.cV d.aD d.cD).toList rfl (by kernel_rfl) (.inr ⟨3, rfl⟩) (cells_sub _ rfl) ?_
       refine cl hT 0 rfl (installRC r n hb (by omega) _ hv0 o.sn ho.si d.aV d.cV d.aD d.cD xo.2.1 xo.2.2 (by omega) ho.vot) ?_
       rintro v63 K63 hs63 ⟨le, rfl, v1, rfl, hv1⟩
       obtain ⟨d1, rfl, hv1⟩ := hv1.ad
       refine stS hT 3 4 rfl rfl (by kernel_rfl) rfl rfl ?_
       refine stp hT 1 0 rfl rfl rfl rfl ?_
       refine fin hT 0 rfl (bl ?_)
       exact jxK (d1, _) ⟨le, hv1⟩ ⟨rfl, rfl, rfl, rfl, trivial⟩ rfl rfl
      ·have hd : r.doo o = (r, ⟨0, false, 0⟩) := by unfold Rl.doo; rw [if_neg e2, if_neg e4, if_neg e6, if_neg e8, if_neg e10]
       rw [hd]
       refine sk (bl ?_)
       exact jxK (dl, _) ⟨Le.refl _, hv0⟩ ⟨rfl, rfl, rfl, rfl, trivial⟩ rfl rfl
 ·generalize r.doo o = q
  obtain ⟨r1, a1⟩ := q
  rintro ⟨d1, K1⟩ ⟨le, hv1⟩
  dsimp only at *
  refine sq (rga [pt b6 (ansV a1) 59, pt b2 (rlV r1 d1.aV d1.cV d1.aD d1.cD d1.aL d1.cL) 37] 4 [0, 2, 5, 7] (by simp) (by kernel_rfl) (by kernel_rfl) ?_)
  refine dldS hT (by kernel_rfl) 0 1 rfl (by kernel_rfl) rfl (by kernel_rfl) ?_
  refine dldS hT (by kernel_rfl) 0 0 rfl (by kernel_rfl) rfl (by kernel_rfl) ?_
  refine dact hT (by kernel_rfl) 0 rfl ?_
  refine stS hT 0 2 rfl rfl (by kernel_rfl) rfl rfl ?_
  refine dnex [pt b6 (ansV a1) 59, pt b2 (rlV r1 d1.aV d1.cV d1.aD d1.cD d1.aL d1.cL) 37] (by simp) (by simp) rfl ?_
  refine dact hT (by kernel_rfl) 0 rfl ?_
  refine stS hT 0 1 rfl rfl (by kernel_rfl) rfl rfl ?_
  refine dnex [pt b6 (ansV a1) 59, pt b2 (rlV r1 d1.aV d1.cV d1.aD d1.cD d1.aL d1.cL) 37] (by simp) (by simp) rfl ?_
  refine dend hT (by kernel_rfl) 0 rfl (th (rt ?_))
  exact retcc 2 1 5 rfl rfl rfl rfl rfl (by kernel_rfl) (by kernel_rfl) ⟨le, rfl, _, rfl, hv1⟩
end Go.Proofs.YtneeeblghijmgaaGreat
end
section
namespace Go.Proofs.YtneeeblghijmgaaGreat
open Go.En
attribute [local irreducible] Code.wp wpList Calls
theorem take_succ_get {α : Type} {l : List α} {i : Nat} {x : α} (h : l[i]? = some x) : l.take (i + 1) = l.take i ++ [x] := by
 rw [List.take_add_one, h]
 rfl
theorem sameEntriesRC {w0 : World} {K : PH} {hs : List PH} (a1 a2 : Option Addr) (c1 c2 : Nat) (x y : List Ent) (xs : SlS 4 (EntC K) K a1 x.length c1 x) (ys : SlS 4 (EntC K) K a2 y.length c2 y) (hx : x.length < 1099511627776) (hy : y.length < 1099511627776) :
  Ct Tryz.prog w0 16 [.slice a1 x.length c1, .slice a2 y.length c2] K hs (fun v K' hs' => K' = K /\ hs' = hs /\ ∃ b : Bool, v = .bool b /\ (b = true ↔ x = y)) := by
 refine enter Tryz.func16 (by kernel_rfl) rfl rfl rfl ?_
 refine sq (rg ?_)
 refine fin hT 1 rfl (th (sq (sq (rg ?_))))
 refine cmpS hT 4 rfl fun b10 h10 => ?_
 refine fin hT 0 rfl (th (ifP h10 rfl (fun e2 => ?_) (fun e2 => ?_)))
 ·refine sq (rg ?_)
  refine fin hT 1 rfl (th (rt (rT ?_)))
  exact ret1 rfl rfl ⟨rfl, rfl, false, rfl, fun h => (by cases h), fun h => absurd (show ((x.length : Nat) : Int) = (y.length : Nat) by rw [h]) e2⟩
 ·have hll : x.length = y.length := by omega
  refine sk (th (sq (sq (rg ?_))))
  refine fin hT 1 rfl (th (bk ?_))
  refine loop (σ := Nat) (fun i => [(0, .slice a1 x.length c1), (1, .slice a2 y.length c2), (5, .int .i64 ((i : Nat) : Int))]) (fun _ => K) (fun _ => hs) (fun i => i <= x.length /\ x.take i = y.take i) (fun i => x.length - i) 0 ⟨Nat.zero_le _, rfl⟩ ⟨rfl, rfl, rfl, trivial⟩ rfl rfl ?_
  rintro i ⟨hi, he⟩
  refine sq (sq (rg ?_))
  refine cmpS hT 3 rfl fun b14 h14 => ?_
  refine fin hT 0 rfl (th (ifP h14 rfl (fun e4 => ?_) (fun e4 => ?_)))
  ·have hi1 : i < x.length := by omega
   have hi2 : i < y.length := by omega
   obtain ⟨p, hp⟩ : ∃ p, x[i]? = some p := ⟨_, List.getElem?_eq_getElem hi1⟩
   obtain ⟨q, hq⟩ : ∃ q, y[i]? = some q := ⟨_, List.getElem?_eq_getElem hi2⟩
   obtain ⟨a, ap, cp, rfl, xp, hcp⟩ := entR_cells xs hp
   obtain ⟨a', aq, cq, rfl, xq, hcq⟩ := entR_cells ys hq
   refine sk (th (sq (bk (sq (rga [] 10 [0, 2, 4, 6, 8, 10, 12, 14, 17, 18] (by simp) (by kernel_rfl) (by kernel_rfl) ?_)))))
   refine dixs hT (by kernel_rfl) 2 i rfl rfl hi1 ?_
   refine dlds hT (by kernel_rfl) 0 (p.v ap cp).toList rfl (by kernel_rfl) (by kernel_rfl) (.inl rfl) hcp ?_
   refine dixs hT (by kernel_rfl) 2 i rfl rfl hi2 ?_
   refine dlds hT (by kernel_rfl) 0 (q.v aq cq).toList rfl (by kernel_rfl) (by kernel_rfl) (.inl rfl) hcq ?_
   refine dact hT (by kernel_rfl) 0 rfl ?_
   refine cl hT 0 rfl (sameEntry p q ap aq cp cq (.inl rfl) (.inl rfl) xp xq) ?_
   rintro v25 K25 hs25 ⟨rfl, rfl, b25, rfl, h25⟩
   refine dnex [] (by simp) (by simp) rfl ?_
   refine dend hT (by kernel_rfl) 1 rfl (th (ifB rfl (fun h5 => ?_) (fun h5 => ?_)))
   ·refine sq (rg ?_)
    refine fin hT 1 rfl (th (rt (rB (rT (rT (rB (rT ?_)))))))
    refine ret1 rfl rfl ⟨rfl, rfl, false, rfl, fun h => (by cases h), fun h => ?_⟩
    rw [h, hq] at hp
    have := h25.2 (Option.some.inj hp).symm
    rw [this] at h5
    cases h5
   ·have hpq : p = q := h25.1 (by simpa using h5)
    refine sk (bl (th (rg ?_)))
    refine ar hT 1 rfl (i64w (by omega)) ?_
    refine fin hT 1 rfl ?_
    exact again (x := i) (i + 1) ⟨rfl, rfl, rfl, trivial⟩ rfl rfl ⟨by omega, by rw [take_succ_get hp, take_succ_get hq, he, hpq]⟩ (by (try dsimp only); omega)
  ·obtain rfl : i = x.length := by omega
   refine ex (xt (xt (xb (th (sq (rg ?_))))))
   refine fin hT 1 rfl (th (rt ?_))
   exact ret1 rfl rfl ⟨rfl, rfl, true, rfl, fun _ => by rw [List.take_of_length_le (Nat.le_refl _), hll, List.take_of_length_le (Nat.le_refl _)] at he; exact he, fun _ => rfl⟩
end Go.Proofs.YtneeeblghijmgaaGreat
end
section
namespace Go.En
structure Liv (n : Nat) (D : Dk) : Prop where
 left : D.left = -1
 dead : D.dead = false
 room : (n : Int) <= D.room
theorem Liv.mono {n m : Nat} {D : Dk} (h : Liv n D) (k : m <= n) : Liv m D := ⟨h.left, h.dead, by have := h.room; omega⟩
theorem Liv.write {n : Nat} {D : Dk} (h : Liv (n + 1) D) (a i : Int) (b : List UInt8) (h0 : 0 <= i) (hi : i < 65536) (hb : b.length <= 64) : (D.write a i b).2 = 0 /\ Liv n (D.write a i b).1 := by
 have h1 := h.left
 have h2 := h.dead
 have h3 := h.room
 have hd : ((D.laid a i b).stp).dead = false := by simp [Dk.stp, Dk.laid, h1]
 have hl : ((D.laid a i b).stp).left = -1 := by simp [Dk.stp, Dk.laid, h1]
 unfold Dk.write
 rw [if_neg (by rw [h2]; decide), if_neg (by omega), if_neg (by rintro ⟨_, h4⟩; omega)]
 refine ⟨by simp [hd], hl, hd, ?_⟩
 show (n : Int) <= (D.laid a i b).room
 unfold Dk.laid
 dsimp only
 split <;> omega
theorem Liv.stp {n : Nat} {D : Dk} (h : Liv n D) : Liv n D.stp := ⟨by simp [Dk.stp, h.left], by simp [Dk.stp, h.left], h.room⟩
theorem Liv.sync {n : Nat} {D : Dk} (h : Liv n D) (a : Int) : (D.sync a).2 = 0 /\ Liv n (D.sync a).1 := by
 have h1 := h.stp
 unfold Dk.sync
 rw [if_neg (by rw [h.dead]; decide), if_neg (by rw [h1.dead]; decide)]
 exact ⟨rfl, h1.left, h1.dead, h1.room⟩
theorem Liv.free {n : Nat} {D : Dk} (h : Liv n D) (a : Int) : (D.free a).2 = 0 /\ Liv n (D.free a).1 := by
 have h1 := h.stp
 unfold Dk.free
 rw [if_neg (by rw [h.dead]; decide), if_neg (by rw [h1.dead]; decide)]
 exact ⟨rfl, h1.left, h1.dead, by have := h.room; dsimp only; omega⟩
theorem Liv.save {n : Nat} {D : Dk} (h : Liv (n + 1) D) (S : Slt) (area : Nat) (v : List UInt8) (hn : S.num < 18446744073709551615) (hv : v.length <= 48) :
  (S.save area D v).2.2 = 0 /\ Liv n (S.save area D v).2.1 /\ (S.save area D v).1 = ⟨S.num + 1, v⟩ := by
 have h1 := h.write area (((S.num + 1) % 2 : Nat) : Int) (sect (S.num + 1) v) (by omega) (by omega) (by rw [sect_length hv]; exact Nat.le_refl _)
 have h2 := h1.2.sync area
 unfold Slt.save
 rw [if_neg (by omega), if_pos h1.1, if_pos h2.1]
 exact ⟨h2.1, h2.2, rfl⟩
structure WLv (f : Nat) (W : Wl) : Prop where
 code : W.code = 0
 op : ∀ o, W.op = some o -> o.full <= f /\ o.rest.length <= 62
theorem wrL_live : ∀ (f : Nat) (o : WOp) (D : Dk) (n : Nat), Liv (n + (o.rest.length / 63 + 1)) D -> o.rest.length < 63 * f -> o.full + o.rest.length / 63 < 65536 ->
  (wrL f o D).2.2 = 0 /\ Liv n (wrL f o D).2.1 /\ (wrL f o D).1.full <= o.full + o.rest.length / 63 /\ (wrL f o D).1.rest.length <= 62
 | 0, o, D, n, _, hf, _ => by omega
 | f + 1, o, D, n, h, hf, hfu => by
  have h1 := Liv.write (n := n + o.rest.length / 63) (h.mono (by omega)) (segA o.num) o.full (UInt8.ofNat (min o.rest.length 63) :: o.rest.take (min o.rest.length 63)) (by omega) (by omega) (by simp only [List.length_cons, List.length_take]; omega)
  unfold wrL
  rw [h1.1]
  by_cases hl : o.rest.length < 63
  ·rw [if_pos (.inr hl)]
   exact ⟨rfl, h1.2.mono (by omega), by dsimp only; omega, by dsimp only; omega⟩
  ·rw [if_neg (by rintro (h2 | h2); exact h2 rfl; exact hl h2)]
   by_cases he : o.rest.length = 63
   ·rw [if_pos he]
    exact ⟨rfl, h1.2.mono (by omega), by dsimp only; omega, by simp⟩
   ·rw [if_neg he]
    have h3 := wrL_live f { o with full := o.full + 1, rest := o.rest.drop 63 } _ n (h1.2.mono (by dsimp only; rw [List.length_drop]; omega)) (by dsimp only; rw [List.length_drop]; omega) (by dsimp only; rw [List.length_drop]; omega)
    refine ⟨h3.1, h3.2.1, ?_, h3.2.2.2⟩
    have := h3.2.2.1
    dsimp only at this
    rw [List.length_drop] at this
    omega
theorem wrO_live {n : Nat} {D : Dk} (o : WOp) (b : List UInt8) (h : Liv (n + ((o.rest.length + b.length) / 63 + 1)) D) (hf : o.full + (o.rest.length + b.length) / 63 < 65536) :
  (wrO o b D).2.2 = 0 /\ Liv n (wrO o b D).2.1 /\ (wrO o b D).1.full <= o.full + (o.rest.length + b.length) / 63 /\ (wrO o b D).1.rest.length <= 62 := by
 have hl : (o.rest ++ b).length = o.rest.length + b.length := List.length_append
 have := wrL_live (o.rest.length + b.length + 1) { o with rest := o.rest ++ b } D n (by dsimp only; rw [hl]; exact h) (by dsimp only; rw [hl]; omega) (by dsimp only; rw [hl]; exact hf)
 dsimp only at this
 rw [hl] at this
 exact this
theorem WLv.sync {f n : Nat} {W : Wl} {D : Dk} (o : WLv f W) (h : Liv n D) : WLv f (W.sync D).1 /\ Liv n (W.sync D).2 /\ (W.sync D).1.first = W.first /\ (W.sync D).1.recs = W.recs /\ (W.sync D).1.next = W.next /\ (W.sync D).1.op = W.op /\ (W.sync D).1.old = W.old := by
 unfold Wl.sync
 rw [if_neg (by rw [o.code]; simp)]
 cases hop : W.op with
 | none => exact ⟨⟨o.code, fun q hq => by rw [hop] at hq; cases hq⟩, h, rfl, rfl, rfl, hop, rfl⟩
 | some q =>
  have h1 := h.sync (segA q.num)
  exact ⟨⟨h1.1, fun p hp => o.op p (by rw [hop]; exact hp)⟩, h1.2, rfl, rfl, rfl, rfl, rfl⟩
theorem uint10 {i : Nat} (h : i < 18446744073709551616) : (uint i).length <= 10 := uint_le10 h
theorem WLv.begin {f n : Nat} {W : Wl} {D : Dk} (o : WLv f W) (h : Liv (n + 1) D) (i : Nat) (hi : i < 18446744073709551616) :
  WLv 0 (W.begin i D).1 /\ Liv n (W.begin i D).2 /\ (W.begin i D).1.first = W.first /\ (W.begin i D).1.recs = W.recs /\ (W.begin i D).1.next = W.next + 1 /\ (W.begin i D).1.op ≠ none := by
 have h1 := o.sync h
 have hu := uint10 hi
 have h2 := wrO_live (n := n) (D := (W.sync D).2) ⟨W.next, i, 0, []⟩ (uint i) (h1.2.1.mono (by simp only [List.length_nil]; omega)) (by simp only [List.length_nil]; omega)
 unfold Wl.begin
 rw [if_neg (by rw [h1.1.code]; simp)]
 refine ⟨⟨h2.1, ?_⟩, h2.2.1, h1.2.2.1, h1.2.2.2.1, rfl, by simp⟩
 intro q hq
 cases hq
 have := h2.2.2
 simp only [List.length_nil] at this
 omega
theorem wLay_live {n : Nat} {W : Wl} {D : Dk} {b : List UInt8} (o : WLv 15 W) (hop : W.op ≠ none) (h : Liv (n + 10) D) (hb : b.length <= 512) :
  (wLay W b D).2.2 = 0 /\ WLv 24 (wLay W b D).1 /\ Liv n (wLay W b D).2.1 /\ (wLay W b D).1.first = W.first /\ (wLay W b D).1.recs = W.recs ++ [b] /\ (wLay W b D).1.next = W.next := by
 have hp := putBytes_le hb
 unfold wLay
 cases hq : W.op with
 | none => exact absurd hq hop
 | some q =>
  have h1 := o.op q hq
  have h2 := wrO_live (n := n) (D := D) q (putBytes b) (h.mono (by omega)) (by omega)
  dsimp only
  refine ⟨h2.1, ⟨h2.1, ?_⟩, h2.2.1, rfl, by rw [if_pos h2.1], rfl⟩
  intro p hp
  cases hp
  have := h2.2.2
  omega
theorem WLv.append {n : Nat} {W : Wl} {D : Dk} {b : List UInt8} (o : WLv 24 W) (h : Liv (n + 11) D) (hb : b.length <= 512) (hl : W.first + W.recs.length < wTop) :
  (W.append b D).2.2 = 0 /\ WLv 24 (W.append b D).1 /\ Liv n (W.append b D).2.1 /\ (W.append b D).1.first = W.first /\ (W.append b D).1.recs = W.recs ++ [b] /\ (W.append b D).1.next <= W.next + 1 := by
 have hl2 := hl
 unfold wTop at hl2
 unfold Wl.append
 rw [if_neg (by rw [o.code]; simp), if_neg (by omega), if_neg (by omega)]
 by_cases hn : wNeed W.op = true
 ·rw [if_pos hn]
  have h1 := o.begin (n := n + 10) h (W.first + W.recs.length) (by omega)
  rw [if_neg (by rw [h1.1.code]; simp)]
  have h2 := wLay_live (n := n) (b := b) ⟨h1.1.code, fun q hq => by have := h1.1.op q hq; omega⟩ h1.2.2.2.2.2 h1.2.1 hb
  exact ⟨h2.1, h2.2.1, h2.2.2.1, by rw [h2.2.2.2.1, h1.2.2.1], by rw [h2.2.2.2.2.1, h1.2.2.2.1], by rw [h2.2.2.2.2.2, h1.2.2.2.2.1]; exact Nat.le_refl _⟩
 ·rw [if_neg hn]
  have hop : W.op ≠ none := fun e => hn (by rw [e]; rfl)
  have h2 := wLay_live (n := n) (b := b) ⟨o.code, fun q hq => by
   have h3 := o.op q hq
   have h4 : ¬ 16 <= q.full := fun h5 => hn (by rw [hq]; simpa [wNeed] using h5)
   omega⟩ hop (h.mono (by omega)) hb
  exact ⟨h2.1, h2.2.1, h2.2.2.1, h2.2.2.2.1, h2.2.2.2.2.1, by rw [h2.2.2.2.2.2]; omega⟩
theorem WLv.up {f g : Nat} {W : Wl} (o : WLv f W) (h : f <= g) : WLv g W := ⟨o.code, fun q hq => by have := o.op q hq; omega⟩
theorem WLv.truncate {n : Nat} {W : Wl} {D : Dk} (o : WLv 24 W) (h : Liv (n + 1) D) (i : Nat) (hi : i < 18446744073709551616) (h1 : W.first <= i) (h2 : i - W.first <= W.recs.length) :
  (W.truncate i D).2.2 = 0 /\ WLv 24 (W.truncate i D).1 /\ Liv n (W.truncate i D).2.1 /\ (W.truncate i D).1.first = W.first /\ (W.truncate i D).1.recs = W.recs.take (i - W.first) /\ (W.truncate i D).1.next <= W.next + 1 := by
 unfold Wl.truncate
 rw [if_neg (by rw [o.code]; simp), if_neg (by omega)]
 by_cases he : i - W.first = W.recs.length
 ·rw [if_pos he]
  exact ⟨rfl, o, h.mono (by omega), rfl, by rw [he, List.take_length], by dsimp only; omega⟩
 ·rw [if_neg he]
  have h3 := o.begin h i hi
  rw [if_pos h3.1.code]
  exact ⟨h3.1.code, ⟨h3.1.code, fun q hq => by have := h3.1.op q hq; omega⟩, h3.2.1, h3.2.2.1, rfl, by dsimp only; rw [h3.2.2.2.2.1]; exact Nat.le_refl _⟩
theorem wfree_live (i : Nat) : ∀ (f : Nat) (old : List (Nat × Nat)) (D : Dk) (n : Nat), Liv n D -> (wfree i f old D).2.2 = 0 /\ Liv n (wfree i f old D).2.1
 | 0, _, _, _, h => ⟨rfl, h⟩
 | f + 1, old, D, n, h => by
  unfold wfree
  have h1 := h.free (segA (old.headD (0, 0)).1)
  split
  ·rw [if_neg (by rw [h1.1]; simp)]
   exact wfree_live i f _ _ n h1.2
  ·exact ⟨rfl, h⟩
theorem WLv.compact {n : Nat} {W : Wl} {D : Dk} (o : WLv 24 W) (h : Liv (n + 1) D) (i : Nat) (hi : i < 18446744073709551616) (h1 : W.first < i) (h2 : i - W.first <= W.recs.length) :
  (W.compact i D).2.2 = 0 /\ WLv 24 (W.compact i D).1 /\ Liv n (W.compact i D).2.1 /\ (W.compact i D).1.first = i /\ (W.compact i D).1.recs = W.recs.drop (i - W.first) /\ (W.compact i D).1.next <= W.next + 1 := by
 have hc1 : WLv 24 (W.compact1 i D).1 /\ Liv n (W.compact1 i D).2 /\ (W.compact1 i D).1.next <= W.next + 1 := by
  unfold Wl.compact1
  split
  ·have h3 := o.begin h i hi
   exact ⟨h3.1.up (by omega), h3.2.1, by rw [h3.2.2.2.2.1]; exact Nat.le_refl _⟩
  ·exact ⟨o, h.mono (by omega), by dsimp only; omega⟩
 have hc2 := hc1.1.sync hc1.2.1
 have hf := wfree_live i ((W.compact2 i D).1.old.length + 1) (W.compact2 i D).1.old (W.compact2 i D).2 n hc2.2.1
 unfold Wl.compact
 rw [if_neg (by rw [o.code]; simp), if_neg (by omega), if_neg (by omega), if_neg (by intro hh; exact hh hc2.1.code), if_neg (by rw [hf.1]; simp)]
 exact ⟨rfl, ⟨hc2.1.code, hc2.1.op⟩, hf.2, rfl, rfl, by show (W.compact2 i D).1.next <= _; have := hc2.2.2.2.2.1; unfold Wl.compact2; rw [this]; exact hc1.2.2⟩
theorem wreset_live : ∀ (l : List Int) (D : Dk) (n : Nat), Liv n D -> (wreset l D).2 = 0 /\ Liv n (wreset l D).1
 | [], _, _, h => ⟨rfl, h⟩
 | a :: r, D, n, h => by
  unfold wreset
  have h1 := h.free a
  split
  ·rw [if_pos h1.1]
   exact wreset_live r _ n h1.2
  ·exact wreset_live r _ n h
theorem WLv.reset {n : Nat} {W : Wl} {D : Dk} (o : WLv 24 W) (h : Liv n D) (i : Nat) (hi : i <= wTop) :
  (W.reset i D).2.2 = 0 /\ WLv 24 (W.reset i D).1 /\ Liv n (W.reset i D).2.1 /\ (W.reset i D).1.first = i /\ (W.reset i D).1.recs = [] /\ (W.reset i D).1.next = W.next := by
 have h1 := wreset_live (areasL D) D n h
 unfold Wl.reset
 rw [if_neg (by rw [o.code]; simp), if_neg (by omega), if_neg (by rw [h1.1]; simp)]
 exact ⟨rfl, ⟨o.code, fun q hq => by cases hq⟩, h1.2, rfl, rfl, rfl⟩
end Go.En
end
section
namespace Go.En
def Lg.rl (L : Lg) : Rl := ⟨L.kt, L.kv, L.sn, L.l⟩
structure Sim (k q : Nat) (L : Lg) : Prop where
 code : L.code = 0
 w : WLv 24 L.w
 hard : L.hard.num <= k
 head : L.head.num <= k
 place : L.place <= k
 next : L.w.next <= q
 fr : L.fr <= q
 first : L.w.first = L.sn.idx + 1
 recs : L.w.recs.length = L.l.length
theorem Sim.up {k q k' q' : Nat} {L : Lg} (o : Sim k q L) (h : k <= k') (h' : q <= q') : Sim k' q' L :=
 ⟨o.code, o.w, by have := o.hard; omega, by have := o.head; omega, by have := o.place; omega, by have := o.next; omega, by have := o.fr; omega, o.first, o.recs⟩
theorem Sim.setHard {k q n : Nat} {L : Lg} {D : Dk} (o : Sim k q L) (h : Liv (n + 1) D) (t : Nat) (v : Int) (ht : t <= mxU) (hk : k <= 1000000) :
  (L.setHard D t v).2.2 = (L.rl.setHard t v).2 /\ Liv n (L.setHard D t v).2.1 /\ Sim (k + 1) q (L.setHard D t v).1 /\ (L.setHard D t v).1.rl = (L.rl.setHard t v).1 := by
 unfold mxU at ht
 unfold Lg.setHard Rl.setHard
 rw [if_neg (by rw [o.code]; simp)]
 by_cases h1 : v < -1 \/ 7 <= v
 ·rw [if_pos h1, if_pos (show v < -1 \/ 6 < v by omega)]
  exact ⟨rfl, h.mono (by omega), o.up (by omega) (by omega), rfl⟩
 ·rw [if_neg h1, if_neg (show ¬ (v < -1 \/ 6 < v) by omega)]
  by_cases h2 : t < L.kt
  ·rw [if_pos h2, if_pos (show t < L.rl.kt from h2)]
   exact ⟨rfl, h.mono (by omega), o.up (by omega) (by omega), rfl⟩
  ·rw [if_neg h2, if_neg (show ¬ t < L.rl.kt from h2)]
   have hu : (uint t ++ uint (v + 1).toNat).length <= 48 := by
    rw [List.length_append]
    have h3 := uint10 (i := t) (by omega)
    have h4 := uint10 (i := (v + 1).toNat) (by omega)
    omega
   have hs := h.save L.hard 0 (uint t ++ uint (v + 1).toNat) (by have := o.hard; omega) hu
   have hn : (L.hard.save 0 D (uint t ++ uint (v + 1).toNat)).1.num <= k + 1 := by rw [hs.2.2]; have := o.hard; dsimp only; omega
   have hs0 : (L.hard.save 0 D (uint t ++ uint (v + 1).toNat)).2.2 = 0 := hs.1
   rw [if_pos hs0]
   exact ⟨rfl, hs.2.1, ⟨o.code, o.w, hn, by have := o.head; dsimp only; omega, by have := o.place; dsimp only; omega, o.next, o.fr, o.first, o.recs⟩, rfl⟩
theorem ent_bytes_le {e : Ent} (h : entG e) : e.bytes.length <= 512 := by
 obtain ⟨⟨_, _, h1⟩, h2, h3⟩ := h
 have h4 := held_len h1
 unfold mxU at h2 h3
 have h5 := uint10 (i := e.idx) (by omega)
 have h6 := uint10 (i := e.term) (by omega)
 have h7 := uint10 (i := e.data.length) (by omega)
 unfold Ent.bytes putBytes
 simp only [List.length_append, List.length_cons]
 omega
theorem Sim.app1 : ∀ (x : List Ent) (L : Lg) (D : Dk) (k q n : Nat), Sim k q L -> Liv (n + 11 * x.length) D -> (∀ e ∈ x, entG e) -> L.sn.idx + L.l.length + x.length < 2 * lgTop ->
  (Lg.app1 x L D).2.2 = 0 /\ Liv n (Lg.app1 x L D).2.1 /\ Sim k (q + x.length) (Lg.app1 x L D).1 /\ (Lg.app1 x L D).1.rl = { L.rl with l := L.l ++ x }
 | [], L, D, k, q, n, o, h, _, _ => ⟨rfl, h.mono (by omega), o.up (by omega) (by omega), by simp [Lg.app1, Lg.rl]⟩
 | e :: r, L, D, k, q, n, o, h, hx, hl => by
  simp only [List.length_cons] at h hl
  unfold lgTop at hl
  have h1 := o.w.append (n := n + 11 * r.length) (b := e.bytes) (h.mono (by omega)) (ent_bytes_le (hx e (by simp))) (by rw [o.first, o.recs]; unfold wTop; omega)
  unfold Lg.app1
  rw [if_neg (by rw [h1.1]; simp)]
  have hS : Sim k (q + 1) { L with w := (L.w.append e.bytes D).1, l := L.l ++ [e] } :=
   ⟨o.code, h1.2.1, o.hard, o.head, o.place, by have := o.next; have := h1.2.2.2.2.2; dsimp only; omega, by have := o.fr; dsimp only; omega, by dsimp only; rw [h1.2.2.2.1]; exact o.first, by dsimp only; rw [h1.2.2.2.2.1]; simp [o.recs]⟩
  have h2 := Sim.app1 r _ _ k (q + 1) n hS h1.2.2.1 (fun e he => hx e (by simp [he])) (by dsimp only; simp only [List.length_append, List.length_cons, List.length_nil]; unfold lgTop; omega)
  refine ⟨h2.1, h2.2.1, h2.2.2.1.up (Nat.le_refl _) (by simp only [List.length_cons]; omega), ?_⟩
  rw [h2.2.2.2]
  simp [Lg.rl]
theorem Sim.append {k q n : Nat} {L : Lg} {D : Dk} (o : Sim k q L) (x : List Ent) (h : Liv (n + 11 * x.length) D) (hx : ∀ e ∈ x, e.idx <= mxU /\ e.term <= mxU) (hl : L.sn.idx + L.l.length + x.length < 2 * lgTop) :
  (L.append x D).2.2 = (L.rl.append x).2 /\ Liv n (L.append x D).2.1 /\ Sim k (q + x.length) (L.append x D).1 /\ (L.append x D).1.rl = (L.rl.append x).1 := by
 unfold Lg.append Rl.append
 rw [if_neg (by rw [o.code]; simp)]
 by_cases hf : fol L.last (trm L.sn L.l L.last).1 x = 0
 ·rw [if_neg (by rw [hf]; simp), if_neg (by intro h2; exact h2 hf)]
  have hok := fol_ok hf
  exact Sim.app1 x L D k q n o h (fun e he => ⟨hok e he, hx e he⟩) hl
 ·rw [if_pos hf, if_pos (show fol (L.rl.sn.idx + L.rl.l.length) (trm L.rl.sn L.rl.l (L.rl.sn.idx + L.rl.l.length)).1 x ≠ 0 from hf)]
  exact ⟨rfl, h.mono (by omega), o.up (by omega) (by omega), rfl⟩
theorem Sim.sync {k q n : Nat} {L : Lg} {D : Dk} (o : Sim k q L) (h : Liv n D) : (L.sync D).2.2 = 0 /\ Liv n (L.sync D).2.1 /\ Sim k q (L.sync D).1 /\ (L.sync D).1.rl = L.rl /\ (L.sync D).1.sn = L.sn /\ (L.sync D).1.l = L.l := by
 have h1 := o.w.sync h
 unfold Lg.sync
 rw [if_neg (by rw [o.code]; simp)]
 exact ⟨h1.1.code, h1.2.1, ⟨h1.1.code, h1.1, o.hard, o.head, o.place, by dsimp only; rw [h1.2.2.2.2.1]; exact o.next, o.fr, by dsimp only; rw [h1.2.2.1]; exact o.first, by dsimp only; rw [h1.2.2.2.1]; exact o.recs⟩, rfl, rfl, rfl⟩
theorem lgW_live (place : Nat) : ∀ (f n : Nat) (b : List UInt8) (D : Dk) (m : Nat), Liv (m + (b.length + 63) / 64) D -> b.length < f -> n + (b.length + 63) / 64 <= 65536 -> (lgW place f n b D).2 = 0 /\ Liv m (lgW place f n b D).1
 | 0, _, _, _, _, _, hf, _ => by omega
 | f + 1, n, b, D, m, h, hf, hn => by
  unfold lgW
  by_cases hb : b = []
  ·rw [if_pos hb]
   exact ⟨rfl, h.mono (by omega)⟩
  ·rw [if_neg hb]
   have hbl : 0 < b.length := by cases b with | nil => exact absurd rfl hb | cons a l => simp
   have h1 := Liv.write (n := m + (b.length - 64 + 63) / 64) (h.mono (by omega)) (lgA4 place) n (b.take 64) (by omega) (by omega) (by rw [List.length_take]; omega)
   rw [if_neg (by rw [h1.1]; simp)]
   exact lgW_live place f (n + 1) (b.drop 64) _ m (by rw [List.length_drop]; exact h1.2) (by rw [List.length_drop]; omega) (by rw [List.length_drop]; omega)
theorem say_len {s : Snp} {place fr : Nat} (hi : s.idx <= mxU) (ht : s.term <= mxU) (hp : place <= 2097151) (hf : fr <= 2097151) (hd : s.data.length <= 2097152) (hv : (putConf s.vot).isSome = true) : (Lg.say s place fr).length <= 48 := by
 unfold mxU at hi ht
 have h1 := uint10 (i := s.idx) (by omega)
 have h2 := uint10 (i := s.term) (by omega)
 have h3 := uint_length_le 3 place (by omega) (by decide)
 have h4 := uint_length_le 3 fr (by omega) (by decide)
 have h5 := uint_length_le 4 s.data.length (by omega) (by decide)
 have h6 : (ob (putConf s.vot)).length <= 1 := by
  unfold putConf
  split <;> simp [ob]
 unfold Lg.say
 simp only [List.length_append]
 omega
theorem Sim.lay {k q n : Nat} {L : Lg} {D : Dk} (o : Sim k q L) (s : Snp) (fr : Nat) (h : Liv (n + ((s.data.length + 63) / 64 + 1)) D) (hi : s.idx <= mxU) (ht : s.term <= mxU) (hd : s.data.length <= 2097152) (hv : (putConf s.vot).isSome = true) (hk : k <= 1000000) (hq : q <= 2000000) (hfr : fr <= q) :
  (L.lay s fr D).2.2 = 0 /\ Liv n (L.lay s fr D).2.1 /\ (L.lay s fr D).1.code = 0 /\ (L.lay s fr D).1.w = L.w /\ (L.lay s fr D).1.hard = L.hard /\ (L.lay s fr D).1.head.num <= k + 1 /\ (L.lay s fr D).1.place <= k + 1 /\ (L.lay s fr D).1.fr = fr /\ (L.lay s fr D).1.sn = s /\ (L.lay s fr D).1.kt = L.kt /\ (L.lay s fr D).1.kv = L.kv /\
   (L.lay s fr D).1.l = if lgHas L.sn L.l s = true then L.l.drop ((lgAt L.sn L.l s.idx).getD 0 + 1) else [] := by
 have hp := o.place
 have hh := o.head
 have h1 := lgW_live (L.place + 1) (s.data.length + 1) 0 s.data D (n + 1) (h.mono (by omega)) (by omega) (by omega)
 have h2 := h1.2.sync (lgA4 (L.place + 1))
 have h3 := h2.2.save L.head 4 (Lg.say s (L.place + 1) fr) (by omega) (say_len hi ht (by omega) (by omega) hd hv)
 have h4 := h3.2.1.free (lgA4 L.place)
 unfold Lg.lay
 rw [if_neg (by rw [h1.1]; simp)]
 unfold Lg.lay1
 rw [if_neg (by rw [h2.1]; simp)]
 unfold Lg.lay2
 have h30 := h3.1
 rw [if_neg (by intro hc; exact hc h30)]
 unfold Lg.lay3 Lg.laid
 refine ⟨h4.1, h4.2, h4.1, rfl, rfl, ?_, ?_, rfl, rfl, rfl, rfl, rfl⟩
 ·show (L.head.save 4 _ _).1.num <= k + 1
  have h5 := congrArg Slt.num h3.2.2
  dsimp only at h5
  have : ∀ a : Nat, a = L.head.num + 1 -> a <= k + 1 := fun a ha => by omega
  exact this _ h5
 ·show L.place + 1 <= k + 1
  omega
theorem lgHas_in {s : Snp} {l : List Ent} {t : Snp} (h : lgHas s l t = true) (hlt : s.idx < t.idx) : t.idx <= s.idx + l.length /\ (lgAt s l t.idx).getD 0 + 1 = t.idx - s.idx := by
 have h1 : t.idx <= s.idx + l.length := by
  unfold lgHas trm at h
  rw [if_neg (by omega)] at h
  by_cases h2 : t.idx < s.idx \/ s.idx + l.length < t.idx
  ·rw [if_pos h2] at h; simp at h
  ·omega
 refine ⟨h1, ?_⟩
 unfold lgAt
 rw [if_neg (by omega)]
 show t.idx - s.idx - 1 + 1 = _
 omega
theorem fits_rl {k q : Nat} {L : Lg} (o : Sim k q L) (s : Snp) : L.fits s = L.rl.fits s := by
 unfold Lg.fits Rl.fits
 rw [if_neg (by rw [o.code]; simp)]
 rfl
theorem Sim.save {k q n : Nat} {L : Lg} {D : Dk} (o : Sim k q L) (s : Snp) (h : Liv (n + ((s.data.length + 63) / 64 + 2)) D) (hi : s.idx <= mxU) (ht : s.term <= mxU) (hk : k <= 1000000) (hq : q <= 2000000) :
  (L.save s D).2.2 = (L.rl.save s).2 /\ Liv n (L.save s D).2.1 /\ Sim (k + 1) (q + 1) (L.save s D).1 /\ (L.save s D).1.rl = (L.rl.save s).1 := by
 unfold Lg.save Rl.save
 rw [fits_rl o]
 by_cases hf : L.rl.fits s = 0
 ·rw [if_neg (show ¬ L.rl.fits s ≠ 0 by rw [hf]; simp), if_neg (show ¬ L.rl.fits s ≠ 0 by rw [hf]; simp)]
  obtain ⟨hv, hd, hlt, htop⟩ := rfits_ok hf
  have hlt' : L.sn.idx < s.idx := hlt
  by_cases hh : lgHas L.sn L.l s = false
  ·rw [if_pos hh, if_pos (show lgHas L.rl.sn L.rl.l s = false from hh)]
   exact ⟨rfl, h.mono (by omega), o.up (by omega) (by omega), rfl⟩
  ·rw [if_neg hh, if_neg (show ¬ lgHas L.rl.sn L.rl.l s = false from hh)]
   have hh' : lgHas L.sn L.l s = true := by simpa using hh
   have hin := lgHas_in hh' hlt'
   have hs := o.sync h
   unfold Lg.save1
   rw [if_neg (by rw [hs.1]; simp)]
   generalize L.sync D = LD at hs
   obtain ⟨L1, D1, c1⟩ := LD
   obtain ⟨_, hl1, o1, hr1, hsn1, hL1⟩ := hs
   dsimp only at hl1 o1 hr1 hsn1 hL1 ⊢
   have hly := o1.lay (n := n + 1) s L1.fr (hl1.mono (by omega)) hi ht hd hv hk hq o1.fr
   unfold Lg.save2
   rw [if_neg (by rw [hly.1]; simp)]
   generalize L1.lay s L1.fr D1 = R at hly
   obtain ⟨L2, D2, c2⟩ := R
   obtain ⟨_, hl2, hc2, hw2, hh2, hhd2, hp2, hfr2, hsn2, hkt2, hkv2, hL2⟩ := hly
   dsimp only at hl2 hc2 hw2 hh2 hhd2 hp2 hfr2 hsn2 hkt2 hkv2 hL2 ⊢
   have hcm := (show WLv 24 L2.w from by rw [hw2]; exact o1.w).compact hl2 (s.idx + 1) (by unfold lgTop at htop; omega) (by rw [hw2, o1.first, hsn1]; omega) (by rw [hw2, o1.first, o1.recs, hsn1, hL1]; omega)
   have hl3 : L2.l = L.l.drop (s.idx - L.sn.idx) := by rw [hL2, hsn1, hL1, if_pos hh', hin.2]
   have hrr : L1.rl.kt = L.kt /\ L1.rl.kv = L.kv := by rw [hr1]; exact ⟨rfl, rfl⟩
   refine ⟨hcm.1, hcm.2.2.1, ⟨hcm.1, hcm.2.1, by dsimp only; rw [hh2]; have := o1.hard; omega, hhd2, hp2, by dsimp only; have := hcm.2.2.2.2.2; rw [hw2] at this ⊢; have := o1.next; omega, by dsimp only; rw [hfr2]; have := o1.fr; omega, by dsimp only; rw [hcm.2.2.2.1, hsn2], ?_⟩, ?_⟩
   ·dsimp only
    rw [hcm.2.2.2.2.1, hl3, hw2, List.length_drop, List.length_drop, o1.first, o1.recs, hsn1, hL1]
    omega
   ·unfold Lg.rl
    dsimp only
    rw [hkt2, hkv2, hsn2, hl3]
    have e1 : L1.kt = L.kt := hrr.1
    have e2 : L1.kv = L.kv := hrr.2
    rw [e1, e2]
 ·rw [if_pos hf, if_pos hf]
  exact ⟨rfl, h.mono (by omega), o.up (by omega) (by omega), rfl⟩
theorem Sim.install {k q n : Nat} {L : Lg} {D : Dk} (o : Sim k q L) (s : Snp) (h : Liv (n + ((s.data.length + 63) / 64 + 2)) D) (hi : s.idx <= mxU) (ht : s.term <= mxU) (hk : k <= 1000000) (hq : q <= 2000000) :
  (L.install s D).2.2 = (L.rl.install s).2 /\ Liv n (L.install s D).2.1 /\ Sim (k + 1) (q + 1) (L.install s D).1 /\ (L.install s D).1.rl = (L.rl.install s).1 := by
 unfold Lg.install Rl.install
 rw [fits_rl o]
 by_cases hf : L.rl.fits s = 0
 ·rw [if_neg (show ¬ L.rl.fits s ≠ 0 by rw [hf]; simp), if_neg (show ¬ L.rl.fits s ≠ 0 by rw [hf]; simp)]
  obtain ⟨hv, hd, hlt, htop⟩ := rfits_ok hf
  by_cases hh : lgHas L.sn L.l s = true
  ·rw [if_pos hh, if_pos (show lgHas L.rl.sn L.rl.l s = true from hh)]
   exact o.save s h hi ht hk hq
  ·rw [if_neg hh, if_neg (show ¬ lgHas L.rl.sn L.rl.l s = true from hh)]
   have hly := o.lay (n := n) s L.w.next (h.mono (by omega)) hi ht hd hv hk hq o.next
   unfold Lg.inst1
   rw [if_neg (by rw [hly.1]; simp)]
   generalize L.lay s L.w.next D = R at hly
   obtain ⟨L2, D2, c2⟩ := R
   obtain ⟨_, hl2, hc2, hw2, hh2, hhd2, hp2, hfr2, hsn2, hkt2, hkv2, hL2⟩ := hly
   dsimp only at hl2 hc2 hw2 hh2 hhd2 hp2 hfr2 hsn2 hkt2 hkv2 hL2 ⊢
   have hcm := (show WLv 24 L2.w from by rw [hw2]; exact o.w).reset hl2 (s.idx + 1) (by unfold lgTop at htop; unfold wTop; omega)
   rw [if_neg hh] at hL2
   refine ⟨hcm.1, hcm.2.2.1, ⟨hcm.1, hcm.2.1, by dsimp only; rw [hh2]; have := o.hard; omega, hhd2, hp2, by dsimp only; rw [hcm.2.2.2.2.2, hw2]; have := o.next; omega, by dsimp only; rw [hfr2]; have := o.next; omega, by dsimp only; rw [hcm.2.2.2.1, hsn2], ?_⟩, ?_⟩
   ·dsimp only
    rw [hcm.2.2.2.2.1, hL2]
    rfl
   ·unfold Lg.rl
    dsimp only
    rw [hkt2, hkv2, hsn2, hL2]
 ·rw [if_pos hf, if_pos hf]
  exact ⟨rfl, h.mono (by omega), o.up (by omega) (by omega), rfl⟩
end Go.En
end
section
namespace Go.En
inductive Rw : List Int -> Dk -> Dk -> Prop
 | refl (A : List Int) (D : Dk) : Rw A D D
 | write {A : List Int} {D E : Dk} (a n : Int) (b : List UInt8) : a ∈ A -> Rw A D E -> Rw A D (E.write a n b).1
 | sync {A : List Int} {D E : Dk} (a : Int) : Rw A D E -> Rw A D (E.sync a).1
 | free {A : List Int} {D E : Dk} (a : Int) : Rw A D E -> Rw A D (E.free a).1
theorem Rw.mono {A B : List Int} {D E : Dk} (h : Rw A D E) (hs : ∀ a ∈ A, a ∈ B) : Rw B D E := by
 induction h with
 | refl => exact Rw.refl _ _
 | write a n b ha _ ih => exact ih.write a n b (hs a ha)
 | sync a _ ih => exact ih.sync a
 | free a _ ih => exact ih.free a
theorem Rw.trans {A : List Int} {D E : Dk} (h : Rw A D E) {F : Dk} (g : Rw A E F) : Rw A D F := by
 induction g with
 | refl => exact h
 | write a n b ha _ ih => exact ih.write a n b ha
 | sync a _ ih => exact ih.sync a
 | free a _ ih => exact ih.free a
theorem Rw.keys {A : List Int} {D E : Dk} (h : Rw A D E) : ∀ k ∈ E.areas.map (·.1), k ∈ D.areas.map (·.1) \/ k ∈ A := by
 induction h with
 | refl => exact fun k hk => .inl hk
 | write a n b ha _ ih =>
  rename_i E _
  unfold Dk.write
  split
  ·exact ih
  ·split
   ·exact ih
   ·split
    ·exact ih
    ·intro k hk
     obtain ⟨x, hx, rfl⟩ := List.mem_map.1 hk
     rcases mset_mem hx with rfl | hx
     ·exact .inr ha
     ·exact ih _ (List.mem_map.2 ⟨x, hx, rfl⟩)
 | sync a _ ih =>
  rename_i E _
  unfold Dk.sync
  split
  ·exact ih
  ·split
   ·exact ih
   ·show ∀ k ∈ (E.synA a).map (·.1), _
    rw [synA_keys]; exact ih
 | free a _ ih =>
  rename_i E _
  unfold Dk.free
  split
  ·exact ih
  ·split
   ·exact ih
   ·intro k hk
    obtain ⟨x, hx, rfl⟩ := List.mem_map.1 hk
    exact ih _ (List.mem_map.2 ⟨x, (mdel_sub (k := a) E.areas).subset hx, rfl⟩)
def Rk (k : Nat) (D E : Dk) : Prop := ∃ A : List Int, A.length <= k /\ Rw A D E
theorem Rk.of {k : Nat} (D : Dk) : Rk k D D := ⟨[], Nat.zero_le k, Rw.refl _ D⟩
theorem Rk.up {k j : Nat} {D E : Dk} (h : Rk k D E) (g : k <= j) : Rk j D E := let ⟨A, h1, h2⟩ := h; ⟨A, by omega, h2⟩
theorem Rk.trans {k j : Nat} {D E F : Dk} (h : Rk k D E) (g : Rk j E F) : Rk (k + j) D F := by
 obtain ⟨A, h1, h2⟩ := h
 obtain ⟨B, g1, g2⟩ := g
 exact ⟨A ++ B, by rw [List.length_append]; omega, (h2.mono fun a ha => List.mem_append.2 (.inl ha)).trans (g2.mono fun a ha => List.mem_append.2 (.inr ha))⟩
theorem Rk.sync {k : Nat} {D E : Dk} (h : Rk k D E) (a : Int) : Rk k D (E.sync a).1 := let ⟨A, h1, h2⟩ := h; ⟨A, h1, h2.sync a⟩
theorem Rk.free {k : Nat} {D E : Dk} (h : Rk k D E) (a : Int) : Rk k D (E.free a).1 := let ⟨A, h1, h2⟩ := h; ⟨A, h1, h2.free a⟩
theorem Rk.len {k c : Nat} {D E : Dk} (h : Rk k D E) (o : E.Ok c) : E.areas.length <= D.areas.length + k := by
 obtain ⟨A, h1, h2⟩ := h
 have := List.Nodup.length_le_of_subset o.keys (l₂ := D.areas.map (·.1) ++ A) (fun a ha => List.mem_append.2 (h2.keys a ha))
 rw [List.length_append, List.length_map, List.length_map] at this
 omega
theorem rw_save (S : Slt) (area : Nat) (D : Dk) (v : List UInt8) : Rw [((area : Nat) : Int)] D (S.save area D v).2.1 := by
 unfold Slt.save
 split
 ·exact Rw.refl _ D
 ·split
  ·exact ((Rw.refl _ D).write _ _ _ (by simp)).sync _
  ·exact (Rw.refl _ D).write _ _ _ (by simp)
theorem rw_wrL : ∀ (f : Nat) (o : WOp) (D : Dk), Rw [segA o.num] D (wrL f o D).2.1
 | 0, o, D => Rw.refl _ D
 | f + 1, o, D => by
  have hw := (Rw.refl [segA o.num] D).write (segA o.num) o.full (UInt8.ofNat (min o.rest.length 63) :: o.rest.take (min o.rest.length 63)) (by simp)
  rw [wrL_step]
  split
  ·exact hw
  ·split
   ·exact hw
   ·exact hw.trans (rw_wrL f { o with full := o.full + 1, rest := o.rest.drop 63 } _)
theorem rw_wrO (o : WOp) (b : List UInt8) (D : Dk) : Rw [segA o.num] D (wrO o b D).2.1 := rw_wrL (o.rest.length + b.length + 1) { o with rest := o.rest ++ b } D
theorem rw_wsync (A : List Int) (W : Wl) (D : Dk) : Rw A D (W.sync D).2 := by
 unfold Wl.sync
 split
 ·exact Rw.refl _ D
 ·split
  ·exact Rw.refl _ D
  ·exact (Rw.refl _ D).sync _
theorem rw_begin (W : Wl) (i : Nat) (D : Dk) : Rw [segA W.next] D (W.begin i D).2 := by
 unfold Wl.begin
 split
 ·exact rw_wsync _ W D
 ·exact (rw_wsync _ W D).trans (rw_wrO ⟨W.next, i, 0, []⟩ (uint i) _)
theorem rw_wlay (W : Wl) (A : List Int) (hA : ∀ q, W.op = some q -> segA q.num ∈ A) (b : List UInt8) (D : Dk) : Rw A D (wLay W b D).2.1 := by
 unfold wLay
 cases hop : W.op with
 | none => exact Rw.refl _ D
 | some q => exact (rw_wrO q (putBytes b) D).mono fun a ha => by simp only [List.mem_singleton] at ha; rw [ha]; exact hA q hop
theorem begin_num {W : Wl} {i : Nat} {D : Dk} (h : (W.begin i D).1.code = 0) : ∀ q, (W.begin i D).1.op = some q -> q.num = W.next := by
 intro q hq
 unfold Wl.begin at h hq
 split at hq
 ·rename_i h2
  rw [if_pos h2] at h
  exact absurd h h2
 ·simp only [Option.some.injEq] at hq
  rw [<- hq, (wrO_num _ _ _).1]
theorem rw_wappend (W : Wl) (b : List UInt8) (D : Dk) : Rk 1 D (W.append b D).2.1 := by
 unfold Wl.append
 split
 ·exact Rk.of D
 ·split
  ·exact Rk.of D
  ·split
   ·exact Rk.of D
   ·split
    ·have hb := rw_begin W (W.first + W.recs.length) D
     split
     ·exact ⟨_, Nat.le_refl _, hb⟩
     ·rename_i h2
      have hn := begin_num (Decidable.not_not.1 h2)
      exact ⟨[segA W.next], Nat.le_refl _, hb.trans (rw_wlay _ _ (fun q hq => by rw [hn q hq]; simp) b _)⟩
    ·cases hop : W.op with
     | none => exact ⟨[], Nat.zero_le _, rw_wlay W [] (fun q hq => by rw [hop] at hq; cases hq) b D⟩
     | some o => exact ⟨[segA o.num], Nat.le_refl _, rw_wlay W _ (fun q hq => by rw [hop] at hq; cases hq; simp) b D⟩
theorem rw_wtrunc (W : Wl) (i : Nat) (D : Dk) : Rk 1 D (W.truncate i D).2.1 := by
 unfold Wl.truncate
 split
 ·exact Rk.of D
 ·split
  ·exact Rk.of D
  ·split
   ·exact Rk.of D
   ·exact ⟨_, Nat.le_refl _, rw_begin W i D⟩
theorem rw_wfree (A : List Int) (i : Nat) : ∀ (f : Nat) (old : List (Nat × Nat)) (D : Dk), Rw A D (wfree i f old D).2.1
 | 0, old, D => Rw.refl _ D
 | f + 1, old, D => by
  unfold Go.En.wfree
  split
  ·split
   ·exact (Rw.refl _ D).free _
   ·exact ((Rw.refl _ D).free _).trans (rw_wfree A i f _ _)
  ·exact Rw.refl _ D
theorem rw_compact2 (W : Wl) (i : Nat) (D : Dk) : Rw [segA W.next] D (W.compact2 i D).2 := by
 unfold Wl.compact2 Wl.compact1
 split
 ·exact (rw_begin W i D).trans (rw_wsync _ _ _)
 ·exact rw_wsync _ _ _
theorem rw_compact (W : Wl) (i : Nat) (D : Dk) : Rw [segA W.next] D (W.compact i D).2.1 := by
 have h2 := rw_compact2 W i D
 have h3 := h2.trans (rw_wfree _ i ((W.compact2 i D).1.old.length + 1) (W.compact2 i D).1.old (W.compact2 i D).2)
 unfold Wl.compact
 split
 ·exact Rw.refl _ D
 ·split
  ·exact Rw.refl _ D
  ·split
   ·exact Rw.refl _ D
   ·split
    ·exact h2
    ·split
     ·exact h3
     ·exact h3
theorem rw_wreset (A : List Int) : ∀ (l : List Int) (D : Dk), Rw A D (wreset l D).1
 | [], D => Rw.refl _ D
 | a :: r, D => by
  unfold Go.En.wreset
  split
  ·split
   ·exact ((Rw.refl _ D).free a).trans (rw_wreset A r _)
   ·exact (Rw.refl _ D).free a
  ·exact rw_wreset A r D
theorem rw_reset (A : List Int) (W : Wl) (first : Nat) (D : Dk) : Rw A D (W.reset first D).2.1 := by
 have h1 := rw_wreset A (areasL D) D
 unfold Wl.reset
 split
 ·exact Rw.refl _ D
 ·split
  ·exact Rw.refl _ D
  ·split
   ·exact h1
   ·exact h1
theorem begin_old (W : Wl) (i : Nat) (D : Dk) : (W.begin i D).1.old.length <= W.old.length + 1 := by
 unfold Wl.begin
 split
 ·rw [Wl.sync_eq]; exact Nat.le_succ _
 ·rw [Wl.sync_eq]; simp
theorem wlay_old (W : Wl) (b : List UInt8) (D : Dk) : (wLay W b D).1.old = W.old := by
 unfold wLay
 split <;> rfl
theorem append_old (W : Wl) (b : List UInt8) (D : Dk) : (W.append b D).1.old.length <= W.old.length + 1 := by
 unfold Wl.append
 split
 ·exact Nat.le_succ _
 ·split
  ·exact Nat.le_succ _
  ·split
   ·exact Nat.le_succ _
   ·split
    ·split
     ·exact begin_old _ _ _
     ·rw [wlay_old]; exact begin_old _ _ _
    ·rw [wlay_old]; exact Nat.le_succ _
theorem trunc_old (W : Wl) (i : Nat) (D : Dk) : (W.truncate i D).1.old.length <= W.old.length + 1 := by
 unfold Wl.truncate
 split
 ·exact Nat.le_succ _
 ·split
  ·exact Nat.le_succ _
  ·split
   ·exact Nat.le_succ _
   ·dsimp only
    split <;> exact begin_old _ _ _
theorem compact2_old (W : Wl) (i : Nat) (D : Dk) : (W.compact2 i D).1.old.length <= W.old.length + 1 := by
 unfold Wl.compact2
 rw [Wl.sync_eq]
 unfold Wl.compact1
 split
 ·exact begin_old _ _ _
 ·exact Nat.le_succ _
theorem wfree_suf (i : Nat) : ∀ (f : Nat) (old : List (Nat × Nat)) (D : Dk), (wfree i f old D).1 <:+ old
 | 0, old, D => List.suffix_refl _
 | f + 1, old, D => by
  unfold Go.En.wfree
  split
  ·split
   ·exact List.suffix_refl _
   ·exact (wfree_suf i f _ _).trans (List.drop_suffix 1 old)
  ·exact List.suffix_refl _
theorem compact_old (W : Wl) (i : Nat) (D : Dk) : (W.compact i D).1.old.length <= W.old.length + 1 := by
 have h2 := compact2_old W i D
 have h3 := (wfree_suf i ((W.compact2 i D).1.old.length + 1) (W.compact2 i D).1.old (W.compact2 i D).2).length_le
 unfold Wl.compact
 split
 ·exact Nat.le_succ _
 ·split
  ·exact Nat.le_succ _
  ·split
   ·exact Nat.le_succ _
   ·split
    ·exact h2
    ·split
     ·dsimp only; omega
     ·dsimp only; omega
theorem reset_old (W : Wl) (i : Nat) (D : Dk) : (W.reset i D).1.old.length <= W.old.length := by
 unfold Wl.reset
 split
 ·exact Nat.le_refl _
 ·split
  ·exact Nat.le_refl _
  ·split
   ·exact Nat.le_refl _
   ·exact Nat.zero_le _
structure Rn (c q : Nat) (L : Lg) (D : Dk) : Prop where
 lb : LBd c L
 ok : DOk c D
 old : L.w.old.length <= q
 ar : D.areas.length <= q
theorem Rn.up {c q c' q' : Nat} {L : Lg} {D : Dk} (o : Rn c q L D) (h : c <= c') (h' : q <= q') : Rn c' q' L D := ⟨o.lb.up h, o.ok.up h, by have := o.old; omega, by have := o.ar; omega⟩
theorem areasL_length (D : Dk) : (areasL D).length = D.areas.length := by unfold areasL; rw [(srtI_perm _).length_eq, List.length_map]
theorem rw_setHard (L : Lg) (D : Dk) (t : Nat) (v : Int) : Rk 1 D (L.setHard D t v).2.1 := by
 have h : Rk 1 D (L.hard.save 0 D (uint t ++ uint (v + 1).toNat)).2.1 := ⟨_, Nat.le_refl _, rw_save L.hard 0 D (uint t ++ uint (v + 1).toNat)⟩
 unfold Lg.setHard
 split
 ·exact Rk.of D
 ·split
  ·exact Rk.of D
  ·split
   ·exact Rk.of D
   ·split <;> exact h
theorem Rn.setHard {c q : Nat} {L : Lg} {D : Dk} (o : Rn c q L D) (t : Nat) (v : Int) (ht : t <= mxU) : Rn (c + 2) (q + 1) (L.setHard D t v).1 (L.setHard D t v).2.1 := by
 have hok : DOk (c + 2) (L.setHard D t v).2.1 := by
  have h := o.ok.save L.hard 0 (by omega) (uint t ++ uint (v + 1).toNat)
  unfold Lg.setHard
  split
  ·exact o.ok.up (by omega)
  ·split
   ·exact o.ok.up (by omega)
   ·split
    ·exact o.ok.up (by omega)
    ·split <;> exact h.up (by omega)
 refine ⟨(o.lb.setHard D t v ht).up (by omega), hok, ?_, ?_⟩
 ·have : (L.setHard D t v).1.w = L.w := by
   unfold Lg.setHard
   split
   ·rfl
   ·split
    ·rfl
    ·split
     ·rfl
     ·split <;> rfl
  rw [this]
  have := o.old
  omega
 ·have := (rw_setHard L D t v).len hok.ok
  have := o.ar
  omega
theorem app1_rw : ∀ (x : List Ent) (L : Lg) (D : Dk) (c : Nat), LBd c L -> DOk c D -> (∀ e ∈ x, entG e) -> c + 12 * x.length <= 999999990 -> Rk x.length D (Lg.app1 x L D).2.1 /\ (Lg.app1 x L D).1.w.old.length <= L.w.old.length + x.length
 | [], L, D, c, _, _, _, _ => ⟨Rk.of D, Nat.le_refl _⟩
 | e :: r, L, D, c, o, d, hx, hc => by
  simp only [List.length_cons] at hc
  have h1 := rw_wappend L.w e.bytes D
  have h2 := append_old L.w e.bytes D
  rw [app1_step]
  split
  ·exact ⟨h1.up (by simp only [List.length_cons]; omega), by dsimp only; simp only [List.length_cons]; omega⟩
  ·have h3 := app1_rw r _ _ (c + 12) (o.w2 e.bytes D e (hx e (by simp))) (d.append o.w (by omega) e.bytes) (fun y hy => hx y (by simp [hy])) (by omega)
   exact ⟨(h1.trans h3.1).up (by simp only [List.length_cons]; omega), by have := h3.2; dsimp only at this; simp only [List.length_cons]; omega⟩
theorem append_rw {c : Nat} {L : Lg} (o : LBd c L) {D : Dk} (d : DOk c D) (x : List Ent) (hx : ∀ e ∈ x, e.idx <= mxU /\ e.term <= mxU) (hc : c + 12 * x.length <= 999999990) : Rk x.length D (L.append x D).2.1 /\ (L.append x D).1.w.old.length <= L.w.old.length + x.length := by
 unfold Lg.append
 split
 ·exact ⟨Rk.of D, Nat.le_add_right _ _⟩
 ·split
  ·exact ⟨Rk.of D, Nat.le_add_right _ _⟩
  ·rename_i h
   have hok := fol_ok (Decidable.not_not.1 h)
   exact app1_rw x L D c o d (fun e he => ⟨hok e he, hx e he⟩) hc
theorem Rn.append {c q : Nat} {L : Lg} {D : Dk} (o : Rn c q L D) (x : List Ent) (hx : ∀ e ∈ x, e.idx <= mxU /\ e.term <= mxU) (hc : c + 12 * x.length <= 999999990) : Rn (c + 12 * x.length) (q + x.length) (L.append x D).1 (L.append x D).2.1 := by
 have h := append_rw o.lb o.ok x hx hc
 have h2 := o.lb.append o.ok x hx hc
 have hl := h.1.len h2.2.ok
 exact ⟨h2.1, h2.2, by have := o.old; omega, by have := o.ar; omega⟩
theorem Rn.merge {c q : Nat} {L : Lg} {D : Dk} (o : Rn c q L D) (i t : Nat) (x : List Ent) (hx : ∀ e ∈ x, e.idx <= mxU /\ e.term <= mxU) (hc : c + 2 + 12 * x.length <= 999999990) : Rn (c + 2 + 12 * x.length) (q + 1 + x.length) (L.merge i t x D).1 (L.merge i t x D).2.1 := by
 have hb := o.lb.merge o.ok i t x hx hc
 have h3 : ∀ (M : Lg) (E : Dk) (y : List Ent) (last b : Nat), LBd b M -> DOk b E -> (∀ e ∈ y, e.idx <= mxU /\ e.term <= mxU) -> b + 12 * y.length <= 999999990 -> Rk y.length E (M.merge3 y last E).2.1 /\ (M.merge3 y last E).1.w.old.length <= M.w.old.length + y.length := by
  intro M E y last b h1 h2 h3 h4
  have := append_rw h1 h2 y h3 h4
  unfold Lg.merge3
  split <;> exact this
 have h2 : ∀ (y : List Ent) (last : Nat), (∀ e ∈ y, e.idx <= mxU /\ e.term <= mxU) -> y.length <= x.length -> Rk (1 + x.length) D (L.merge2 y last D).2.1 /\ (L.merge2 y last D).1.w.old.length <= L.w.old.length + 1 + x.length := by
  intro y last hy hyl
  have hsuf := skp_suf L.sn L.l y true
  have hmem : ∀ e ∈ (skp L.sn L.l y true).1, e.idx <= mxU /\ e.term <= mxU := fun e he => hy e (hsuf.subset he)
  have hlen := hsuf.length_le
  unfold Lg.merge2
  split
  ·have := h3 L D [] last c o.lb o.ok (by simp) (by simp; omega)
   exact ⟨this.1.up (by simp), by have := this.2; simp only [List.length_nil] at this; omega⟩
  ·rename_i e r h
   rw [h] at hmem hlen
   have hie : e.idx < 18446744073709551616 := by have := (hmem e (by simp)).1; unfold mxU at this; omega
   have hr := rw_wtrunc L.w e.idx D
   have ho := trunc_old L.w e.idx D
   split
   ·split
    ·exact ⟨hr.up (by omega), by dsimp only; omega⟩
    ·have := h3 _ _ (e :: r) last (c + 2) ((o.lb.cutAt e.idx D).up (show c + 1 <= c + 2 by omega)) (o.ok.truncate o.lb.w (by omega) e.idx hie) hmem (by omega)
     exact ⟨(hr.trans this.1).up (by omega), by have := this.2; unfold Lg.cutAt at this ⊢; dsimp only at this ⊢; omega⟩
   ·have := h3 L D (e :: r) last c o.lb o.ok hmem (by omega)
    exact ⟨this.1.up (by omega), by have := this.2; omega⟩
 have h1 : ∀ (i t : Nat) (y : List Ent) (last : Nat), (∀ e ∈ y, e.idx <= mxU /\ e.term <= mxU) -> y.length <= x.length -> Rk (1 + x.length) D (L.merge1 i t y last D).2.1 /\ (L.merge1 i t y last D).1.w.old.length <= L.w.old.length + 1 + x.length := by
  intro i t y last hy hyl
  unfold Lg.merge1
  split
  ·exact ⟨Rk.of D, by dsimp only; omega⟩
  ·exact h2 y last hy hyl
 have h0 : Rk (1 + x.length) D D /\ L.w.old.length <= L.w.old.length + 1 + x.length := ⟨Rk.of D, by omega⟩
 have hm : Rk (1 + x.length) D (L.merge i t x D).2.1 /\ (L.merge i t x D).1.w.old.length <= L.w.old.length + 1 + x.length := by
  unfold Lg.merge
  split
  ·exact h0
  ·split
   ·exact h0
   ·split
    ·split
     ·exact h0
     ·split
      ·exact h0
      ·exact h1 _ _ _ _ (fun e he => hx e (List.mem_of_mem_drop he)) (by rw [List.length_drop]; omega)
    ·exact h1 i t x _ hx (Nat.le_refl _)
 have hl := hm.1.len hb.2.ok
 exact ⟨hb.1, hb.2, by have := hm.2; have := o.old; omega, by have := o.ar; omega⟩
theorem rw_lsync (L : Lg) (D : Dk) : Rk 0 D (L.sync D).2.1 := by
 unfold Lg.sync
 split
 ·exact Rk.of D
 ·exact ⟨[], Nat.le_refl _, rw_wsync [] L.w D⟩
theorem lsync_old (L : Lg) (D : Dk) : (L.sync D).1.w.old = L.w.old := by
 unfold Lg.sync
 split
 ·rfl
 ·dsimp only; rw [Wl.sync_eq]
theorem Rn.sync {c q : Nat} {L : Lg} {D : Dk} (o : Rn c q L D) : Rn (c + 1) q (L.sync D).1 (L.sync D).2.1 :=
 ⟨(o.lb.sync D).up (by omega), o.ok.syncL L, by rw [lsync_old]; exact o.old, by have := (rw_lsync L D).len (o.ok.syncL L).ok; have := o.ar; omega⟩
theorem rw_lgW (place : Nat) : ∀ (f n : Nat) (b : List UInt8) (D : Dk), Rw [((lgA4 place : Nat) : Int)] D (lgW place f n b D).1
 | 0, _, _, D => Rw.refl _ D
 | f + 1, n, b, D => by
  rw [lgW_step]
  split
  ·exact Rw.refl _ D
  ·have h1 := (Rw.refl [((lgA4 place : Nat) : Int)] D).write (lgA4 place) n (b.take 64) (by simp)
   split
   ·exact h1
   ·exact h1.trans (rw_lgW place f (n + 1) (b.drop 64) _)
theorem rw_lay (L : Lg) (s : Snp) (fr : Nat) (D : Dk) : Rk 2 D (L.lay s fr D).2.1 := by
 have h1 : Rk 1 D (lgW (L.place + 1) (s.data.length + 1) 0 s.data D).1 := ⟨_, Nat.le_refl _, rw_lgW (L.place + 1) (s.data.length + 1) 0 s.data D⟩
 unfold Lg.lay
 split
 ·exact h1.up (by omega)
 ·unfold Lg.lay1
  have h2 := h1.sync (lgA4 (L.place + 1))
  split
  ·exact h2.up (by omega)
  ·unfold Lg.lay2
   have h3 := h2.trans (⟨_, Nat.le_refl _, rw_save L.head 4 _ (Lg.say s (L.place + 1) fr)⟩ : Rk 1 _ _)
   split
   ·exact h3
   ·unfold Lg.lay3
    exact h3.free (lgA4 L.place)
theorem lay_w (L : Lg) (s : Snp) (fr : Nat) (D : Dk) : (L.lay s fr D).1.w = L.w := by
 unfold Lg.lay
 split
 ·rfl
 ·unfold Lg.lay1
  split
  ·rfl
  ·unfold Lg.lay2
   split
   ·rfl
   ·rfl
theorem fits_ok {L : Lg} {s : Snp} (h : L.fits s = 0) : (putConf s.vot).isSome = true /\ s.data.length <= 2097152 /\ L.sn.idx < s.idx /\ s.idx < lgTop := by
 unfold Lg.fits at h
 split at h
 ·rename_i h0; exact absurd h h0
 ·split at h
  ·cases h
  ·rename_i h1
   split at h
   ·cases h
   ·rename_i h2
    have h1 := not_or.1 h1
    refine ⟨by cases h3 : (putConf s.vot).isSome with | true => rfl | false => exact absurd h3 h1.1, by omega, by omega, by omega⟩
theorem fits_bd {L : Lg} {s : Snp} (h : L.fits s = 0) (ht : s.term <= mxU) : SBd s := by
 obtain ⟨h1, h2, h3, h4⟩ := fits_ok h
 exact ⟨by omega, ht, putConf_len h1, h2⟩
theorem Rn.compact {c q : Nat} {L : Lg} {D : Dk} (o : Rn c q L D) (i : Nat) (hi : i < 18446744073709551616) (hc : c <= 1000000000) :
  Rn (c + 4 + q) (q + 1) { L with w := (L.w.compact i D).1, code := (L.w.compact i D).2.2 } (L.w.compact i D).2.1 :=
 have hok : DOk (c + 4 + q) (L.w.compact i D).2.1 := (o.ok.compact o.lb.w hc i hi).up (by have := compact2_old L.w i D; have := o.old; omega)
 ⟨o.lb.wc ((o.lb.w.compact i D).up (by omega)) (by omega) _, hok,
  by have := compact_old L.w i D; have := o.old; dsimp only; omega, by have := Rk.len ⟨_, Nat.le_refl _, rw_compact L.w i D⟩ hok.ok; have := o.ar; simp only [List.length_cons, List.length_nil] at *; omega⟩
theorem Rn.resetL {c q : Nat} {L : Lg} {D : Dk} (o : Rn c q L D) (i : Nat) :
  Rn (c + q) q { L with w := (L.w.reset i D).1, code := (L.w.reset i D).2.2 } (L.w.reset i D).2.1 :=
 have hok : DOk (c + q) (L.w.reset i D).2.1 := (o.ok.reset L.w i).up (by rw [areasL_length]; have := o.ar; omega)
 ⟨o.lb.wc ((o.lb.w.reset i D).up (by omega)) (by omega) _, hok,
  by have := reset_old L.w i D; have := o.old; dsimp only; omega, by have := Rk.len ⟨_, Nat.le_refl _, rw_reset [] L.w i D⟩ hok.ok; have := o.ar; simp only [List.length_nil] at *; omega⟩
theorem Rn.lay {c q k : Nat} {L : Lg} {D : Dk} (o : Rn c q L D) (s : Snp) (hs : SBd s) (fr : Nat) (hfr : fr <= wMany + (c + 1)) (hc : c <= 999000000) (hk : (s.data.length + 63) / 64 <= k) : Rn (c + (k + 4)) (q + 2) (L.lay s fr D).1 (L.lay s fr D).2.1 :=
 have hok : DOk (c + (k + 4)) (L.lay s fr D).2.1 := (o.ok.layL o.lb hc s hs fr).up (by omega)
 ⟨(o.lb.lay s hs fr hfr D).up (by omega), hok, by rw [lay_w]; have := o.old; omega, by have := (rw_lay L s fr D).len hok.ok; have := o.ar; omega⟩
theorem Rn.save {c q k : Nat} {L : Lg} {D : Dk} (o : Rn c q L D) (s : Snp) (hst : s.term <= mxU) (hc : c <= 499900000) (hk : (s.data.length + 63) / 64 <= k) : Rn (c + (2 * k + q + 20)) (q + 3) (L.save s D).1 (L.save s D).2.1 := by
 unfold Lg.save
 split
 ·exact o.up (by omega) (by omega)
 ·rename_i hf
  have hf := Decidable.not_not.1 hf
  have hs := fits_bd hf hst
  split
  ·exact o.up (by omega) (by omega)
  ·unfold Lg.save1
   have h1 := o.sync
   split
   ·exact h1.up (by omega) (by omega)
   ·unfold Lg.save2
    have hkk : (s.data.length + 63) / 64 <= 32769 := by have := hs.data; omega
    have h2 := h1.lay (k := (s.data.length + 63) / 64) s hs (L.sync D).1.fr (by have := h1.lb.fr; omega) (by omega) (Nat.le_refl _)
    split
    ·exact h2.up (by omega) (by omega)
    ·exact (h2.compact (s.idx + 1) (by have := hs.idx; unfold lgTop at this; omega) (by omega)).up (by omega) (by omega)
theorem Rn.install {c q k : Nat} {L : Lg} {D : Dk} (o : Rn c q L D) (s : Snp) (hst : s.term <= mxU) (hc : c <= 499900000) (hk : (s.data.length + 63) / 64 <= k) : Rn (c + (2 * k + q + 20)) (q + 3) (L.install s D).1 (L.install s D).2.1 := by
 unfold Lg.install
 split
 ·exact o.up (by omega) (by omega)
 ·rename_i hf
  have hf := Decidable.not_not.1 hf
  have hs := fits_bd hf hst
  split
  ·exact o.save s hst hc hk
  ·unfold Lg.inst1
   have h2 := o.lay (k := (s.data.length + 63) / 64) s hs L.w.next (by have := o.lb.w.next; omega) (by omega) (Nat.le_refl _)
   split
   ·exact h2.up (by omega) (by omega)
   ·exact (h2.resetL (s.idx + 1)).up (by omega) (by omega)
def Lg.doo (L : Lg) (D : Dk) (o : ROp) : Lg × Dk × Ans :=
 if o.kind = 0 then ((L.setHard D o.ht o.hv).1, (L.setHard D o.ht o.hv).2.1, ⟨0, false, (L.setHard D o.ht o.hv).2.2⟩)
 else if o.kind = 1 then ((L.append o.x D).1, (L.append o.x D).2.1, ⟨0, false, (L.append o.x D).2.2⟩)
 else if o.kind = 2 then ((L.merge o.idx o.term o.x D).1, (L.merge o.idx o.term o.x D).2.1, ⟨(L.merge o.idx o.term o.x D).2.2.1, (L.merge o.idx o.term o.x D).2.2.2.1, (L.merge o.idx o.term o.x D).2.2.2.2⟩)
 else if o.kind = 3 then ((L.sync D).1, (L.sync D).2.1, ⟨0, false, (L.sync D).2.2⟩)
 else if o.kind = 4 then ((L.save o.sn D).1, (L.save o.sn D).2.1, ⟨0, false, (L.save o.sn D).2.2⟩)
 else if o.kind = 5 then ((L.install o.sn D).1, (L.install o.sn D).2.1, ⟨0, false, (L.install o.sn D).2.2⟩)
 else (L, D, ⟨0, false, 0⟩)
def ROp.low (o : ROp) : Bool := (o.x.all fun e => decide (e.idx < lgTop)) && (decide (o.x.length <= 100) && decide (o.sn.data.length <= 4096))
theorem ROp.low_ok {o : ROp} (h : o.low = true) : (∀ e ∈ o.x, e.idx < lgTop) /\ o.x.length <= 100 /\ o.sn.data.length <= 4096 := by
 unfold ROp.low at h
 simp only [Bool.and_eq_true, List.all_eq_true, decide_eq_true_eq] at h
 exact ⟨h.1, h.2.1, h.2.2⟩
theorem Rn.doo {c q n : Nat} {L : Lg} {D : Dk} (o : Rn c q L D) (p : ROp) (hp : p.bd n) (hl : p.low = true) (hc : c <= 499900000) : Rn (c + (1300 + q)) (q + 103) (L.doo D p).1 (L.doo D p).2.1 := by
 obtain ⟨h1, h2, h3⟩ := ROp.low_ok hl
 have hx : ∀ e ∈ p.x, e.idx <= mxU /\ e.term <= mxU := fun e he => ⟨(hp.ents e he).1, (hp.ents e he).2.1⟩
 unfold Lg.doo
 split
 ·exact (o.setHard p.ht p.hv hp.ht).up (by omega) (by omega)
 ·split
  ·exact (o.append p.x hx (by omega)).up (by omega) (by omega)
  ·split
   ·exact (o.merge p.idx p.term p.x hx (by omega)).up (by omega) (by omega)
   ·split
    ·exact o.sync.up (by omega) (by omega)
    ·split
     ·exact (o.save (k := 65) p.sn hp.st hc (by omega)).up (by omega) (by omega)
     ·split
      ·exact (o.install (k := 65) p.sn hp.st hc (by omega)).up (by omega) (by omega)
      ·exact o.up (by omega) (by omega)
end Go.En
end
