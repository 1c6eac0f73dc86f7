/-
  Part 4 of what the proof needs (texts Wc Wd We Wf Wg Wh Wi Wj Wk Ja Jb Jc Jd Je Jf Jg Jh Ji Jj Jk Jl Jm Jn Jo Jp Jq Np Ra Rb Rc Rd Re Rf Rg Qa Qb Qc Qd Qe).
-/
import Derived.Test.YtcncpbolcigpnaaGreatSE3
set_option linter.unusedSectionVars false
set_option linter.unusedSimpArgs false
set_option linter.unusedVariables false
section
namespace Go.En
theorem Sat.del {w0 w : World} {K : PH} {hs : List PH} (s : Sat w0 w K hs) (i : Nat) {h : PH} (hi : hs[i]? = some h) : Sat w0 w K (hs.eraseIdx i) := (s.perm (perm_front hs i h hi)).dropHead
theorem WC.del {P : Program} {w0 : World} {Q : Exit -> Act -> World -> Prop} {n : Nat} {l : Sl} {K : PH} {hs : List PH} {c : Code} (i : Nat) {h : PH} (hi : hs[i]? = some h) (hk : WC P w0 c Q n l K (hs.eraseIdx i)) : WC P w0 c Q n l K hs := fun a w ha hw => hk a w ha (hw.del i hi)
theorem WQ.del {w0 : World} {Q : Exit -> Act -> World -> Prop} {e : Exit} {n : Nat} {l : Sl} {K : PH} {hs : List PH} (i : Nat) {h : PH} (hi : hs[i]? = some h) (hk : WQ w0 Q e n l K (hs.eraseIdx i)) : WQ w0 Q e n l K hs := fun a w ha hw => hk a w ha (hw.del i hi)
theorem WL.del {P : Program} {w0 : World} {ops : Array Oper} {Q : Exit -> Act -> World -> Prop} {rest : List Oper} {n : Nat} {l : Sl} {K : PH} {hs : List PH} (i : Nat) {h : PH} (hi : hs[i]? = some h) (hk : WL P w0 ops Q rest n l K (hs.eraseIdx i)) : WL P w0 ops Q rest n l K hs := fun a w ha hw => hk a w ha (hw.del i hi)
structure WBd (c : Nat) (W : Wl) : Prop where
 last : W.first + W.recs.length <= wTop
 recs : W.recs.length <= 70000000000 + c
 old : W.old.length <= c
 next : W.next <= wMany + c
 op : ∀ o, W.op = some o -> o.num <= wMany + c /\ o.full <= c
 rest : ∀ o, W.op = some o -> W.code = 0 -> o.rest.length <= 62
 olds : ∀ s ∈ W.old, s.1 <= wMany + c /\ s.2 <= wTop
 recl : ∀ r ∈ W.recs, r.length <= 512
theorem WBd.up {c d : Nat} {W : Wl} (o : WBd c W) (h : c <= d) : WBd d W :=
 ⟨o.last, by have := o.recs; omega, by have := o.old; omega, by have := o.next; omega, fun q hq => by have := o.op q hq; omega, o.rest, fun s hs => by have := o.olds s hs; omega, o.recl⟩
def lastV (n : Nat) : Int := if n = 0 then 18446744073709551615 else ((n : Nat) : Int) - 1
theorem u64last (n : Nat) (h : n < 18446744073709551616) : Value.int .u64 (IntKind.u64.wrap (((n : Nat) : Int) - 1)) = .int .u64 (lastV n) := by
 unfold lastV
 split
 ·rename_i e; subst e; rfl
 ·exact u64w (by omega)
theorem u64back (n : Nat) (h : n < 18446744073709551616) : Value.int .u64 (IntKind.u64.wrap (lastV n + 1)) = .int .u64 ((n : Nat) : Int) := by
 unfold lastV
 split
 ·rename_i e; subst e; rfl
 ·rw [Int.sub_add_cancel]; exact u64w (by omega)
theorem SlZ.get {α : Type} {R : List Value -> α -> Prop} {e : Nat} {h : PH} {ao : Option Addr} {n cap : Nat} {xs : List α} (x : SlZ 1 e R h ao n cap xs) {i : Nat} {y : α} (hy : xs[i]? = some y) : ∃ v, R [v] y /\ ∃ g off cur, ao = some ⟨g, off, none⟩ /\ h = pt g cur e /\ cur[off + i]? = some v := by
 obtain ⟨css, h1, h2, h3, h4⟩ := x
 obtain ⟨c, hc, hR⟩ := h3.get hy
 have hl := h4 c (List.mem_of_getElem? hc)
 obtain ⟨v, rfl⟩ : ∃ v, c = [v] := by
  match c, hl with
  | [v], _ => exact ⟨v, rfl⟩
 have hi : i < n := by rw [h1]; exact (List.getElem?_eq_some_iff.1 hy).1
 refine ⟨v, hR, ?_⟩
 have hf := flat_get h4 hc 0 v rfl
 rcases h2 with ⟨g1, g2, g3, ⟨g4, g5, g6⟩ | ⟨g, off, cur, g4, g5, g6, g7⟩⟩ | ⟨rfl, _⟩
 ·omega
 ·refine ⟨g, off, cur, g4, g5, ?_⟩
  rw [<- g7, Nat.mul_one, Nat.mul_one, Nat.add_zero, List.getElem?_take_of_lt (by omega), List.getElem?_drop] at hf
  simpa using hf
 ·omega
end Go.En
namespace Go.Proofs.YtcncpbolcigpnaaGreat
open Go.En
attribute [local irreducible] Code.wp wpList Calls
theorem firstWC {w0 : World} {K : PH} {m hs : List PH} (wb db : Nat) (W : Wl) (hW : WalM K wb db W m) : Ct Tryz.prog w0 79 [.pointer (some ⟨wb, 0, none⟩)] K (m ++ hs)
  (fun v K' hs' => K' = K /\ hs' = m ++ hs /\ v = .int .u64 ((W.first : Nat) : Int)) := by
 obtain ⟨ob, aL, cL, aO, cO, oH, rH, gL, gO, rfl, hop, hL, hO⟩ := hW
 refine enter Tryz.func79 (by kernel_rfl) rfl rfl rfl ?_
 refine sq (rg ?_)
 refine fin hT 1 rfl (th (sq (rg ?_)))
 refine ldp hT 3 0 rfl rfl rfl ?_
 refine fin hT 1 rfl (th (rt ?_))
 exact ret1 rfl rfl ⟨rfl, rfl, rfl⟩
theorem lastWC {w0 : World} {K : PH} {m hs : List PH} (wb db : Nat) (W : Wl) (hW : WalM K wb db W m) (hb : W.first + W.recs.length <= wTop) : Ct Tryz.prog w0 80 [.pointer (some ⟨wb, 0, none⟩)] K (m ++ hs)
  (fun v K' hs' => K' = K /\ hs' = m ++ hs /\ v = .int .u64 (lastV (W.first + W.recs.length))) := by
 obtain ⟨ob, aL, cL, aO, cO, oH, rH, gL, gO, rfl, hop, hL, hO⟩ := hW
 unfold wTop at hb
 refine enter Tryz.func80 (by kernel_rfl) rfl rfl rfl ?_
 refine sq (rg ?_)
 refine fin hT 1 rfl (th (sq (rga [pt wb (wlA db ob W.first (.slice aL W.recs.length cL) (.slice aO W.old.length cO) W.next W.code) 139] 13 [0, 2, 4, 6, 8, 10, 12, 14, 16, 18, 20, 22, 24] (by simp) (by kernel_rfl) (by kernel_rfl) ?_)))
 refine dldp hT (by kernel_rfl) 3 0 rfl rfl rfl ?_
 refine dldp hT (by kernel_rfl) 3 0 rfl rfl rfl ?_
 refine dar hT (by kernel_rfl) 1 rfl (u64w (x := ((W.recs.length : Nat) : Int)) (by omega)) ?_
 refine dar hT (by kernel_rfl) 0 rfl (u64w (x := ((W.first + W.recs.length : Nat) : Int)) (by omega)) ?_
 refine dar hT (by kernel_rfl) 0 rfl (u64last _ (by omega)) ?_
 refine dend hT (by kernel_rfl) 1 rfl (th (rt ?_))
 exact ret1 rfl rfl ⟨rfl, rfl, rfl⟩
theorem getWC {w0 : World} {K : PH} {m hs : List PH} (wb db : Nat) (W : Wl) (c : Nat) (hc : c <= 1000000000) (hb : WBd c W) (hW : WalM K wb db W m) (i : Nat) (hi : i < 18446744073709551616) (hrl : ∀ r ∈ W.recs, r.length <= 512) : Ct Tryz.prog w0 81 [.pointer (some ⟨wb, 0, none⟩), .int .u64 ((i : Nat) : Int)] K (m ++ hs)
  (fun v K' hs' => Le K K' /\ hs' = m ++ hs /\ ((¬ (W.first <= i /\ i - W.first < W.recs.length) /\ v = .tuple #[.slice none 0 0, .bool false]) \/
   ∃ r ao k, W.first <= i /\ W.recs[i - W.first]? = some r /\ v = .tuple #[.slice ao r.length k, .bool true] /\ IsS K' ao r.length k 1 (bv r))) := by
 obtain ⟨ob, aL, cL, aO, cO, oH, rH, gL, gO, rfl, hop, hL, hO⟩ := hW
 have h1 := hb.last
 have h2 := hb.recs
 unfold wTop at h1
 refine enter Tryz.func81 (by kernel_rfl) rfl rfl rfl ?_
 refine sq (rg ?_)
 refine fin hT 2 rfl (th (sq (sq (rga [pt wb (wlA db ob W.first (.slice aL W.recs.length cL) (.slice aO W.old.length cO) W.next W.code) 139] 21 [0, 2, 4, 6, 8, 10, 12, 14, 16, 18, 20, 22, 24, 26, 28, 30, 32, 34, 36, 38, 40] (by simp) (by kernel_rfl) (by kernel_rfl) ?_))))
 refine dldp hT (by kernel_rfl) 4 0 rfl rfl rfl ?_
 refine dcmp hT (by kernel_rfl) 0 (i < W.first) rfl (by simp) (fun g1 => ?_) (fun g1 => ?_)
 ·refine dend hT (by kernel_rfl) 15 rfl (th (ifT rfl (sq (rg ?_))))
  refine fin hT 2 rfl (th (rt (rT ?_)))
  exact ret2 rfl rfl rfl ⟨Le.refl _, rfl, .inl ⟨by omega, rfl⟩⟩
 ·refine dldp hT (by kernel_rfl) 5 0 rfl rfl rfl ?_
  refine dar hT (by kernel_rfl) 0 rfl (v' := .int .u64 ((i - W.first : Nat) : Int)) (by rw [show ((i : Nat) : Int) - ((W.first : Nat) : Int) = ((i - W.first : Nat) : Int) from by omega]; exact u64w (by omega)) ?_
  refine dldp hT (by kernel_rfl) 3 0 rfl rfl rfl ?_
  refine dar hT (by kernel_rfl) 1 rfl (u64w (x := ((W.recs.length : Nat) : Int)) (by omega)) ?_
  refine dcbS hT (by kernel_rfl) 0 (W.recs.length <= i - W.first) rfl (by simp) fun b25 h25 => ?_
  refine dend hT (by kernel_rfl) 1 rfl (th (ifP h25 rfl (fun e2 => ?_) (fun e2 => ?_)))
  ·refine sq (rg ?_)
   refine fin hT 2 rfl (th (rt (rT ?_)))
   exact ret2 rfl rfl rfl ⟨Le.refl _, rfl, .inl ⟨by omega, rfl⟩⟩
  ·obtain ⟨r, hr⟩ : ∃ r, W.recs[i - W.first]? = some r := ⟨W.recs[i - W.first]'(by omega), List.getElem?_eq_getElem (by omega)⟩
   obtain ⟨v, ⟨ao, k, hv, xr⟩, g, off, cur, rfl, rfl, hcur⟩ := hL.get hr
   simp only [List.cons.injEq, and_true] at hv
   subst hv
   have hrl2 := hrl r (List.mem_of_getElem? hr)
   refine sk (th (sq (rga [pt wb (wlA db ob W.first (.slice (some ⟨g, off, none⟩) W.recs.length cL) (.slice aO W.old.length cO) W.next W.code) 139, pt g cur 44] 15 [0, 2, 4, 6, 8, 10, 12, 14, 16, 18, 20, 22, 25, 26, 28] (by simp) (by kernel_rfl) (by kernel_rfl) ?_)))
   refine dldp hT (by kernel_rfl) 3 0 rfl rfl rfl ?_
   refine dldp hT (by kernel_rfl) 4 0 rfl rfl rfl ?_
   refine dar hT (by kernel_rfl) 0 rfl (v' := .int .u64 ((i - W.first : Nat) : Int)) (by rw [show ((i : Nat) : Int) - ((W.first : Nat) : Int) = ((i - W.first : Nat) : Int) from by omega]; exact u64w (by omega)) ?_
   refine dixs hT (by kernel_rfl) 0 (i - W.first) rfl rfl (by omega) ?_
   simp only [add_mk, Nat.mul_one]
   refine dldp hT (by kernel_rfl) 0 1 rfl rfl hcur ?_
   refine dact hT (by kernel_rfl) 0 rfl ?_
   refine cl hT 0 rfl (cloneB ao k r (.inl rfl) xr (by omega)) ?_
   rintro v39 K39 hs39 ⟨rfl, h', ao', c', rfl, rfl, o⟩
   refine dnex [pt wb (wlA db ob W.first (.slice (some ⟨g, off, none⟩) W.recs.length cL) (.slice aO W.old.length cO) W.next W.code) 139, pt g cur 44] (by simp) (by simp) rfl ?_
   refine dend hT (by kernel_rfl) 2 rfl (th (rt (WQ.frz fun K' l1 l2 => ?_)))
   exact ret2 rfl rfl rfl ⟨l1, rfl, .inr ⟨r, ao', c', by omega, hr, rfl, o.isS.le l2⟩⟩
theorem syncWC {w0 : World} {K dh : PH} {m hs : List PH} (wb db : Nat) (W : Wl) (hW : WalM K wb db W m) (D : Dk) (c : Nat) (oD : D.Ok c) (hc : c <= 1000000000) (hb : WBd c W) (hd : DskH K db D dh) :
  Ct Tryz.prog w0 91 [.pointer (some ⟨wb, 0, none⟩)] K (m ++ dh :: hs)
   (fun v K' hs' => K' = K /\ ∃ m' dh', hs' = m' ++ dh' :: hs /\ WalM K wb db (W.sync D).1 m' /\ DskH K db (W.sync D).2 dh' /\ v = .int .i64 (W.sync D).1.code) := by
 obtain ⟨ob, aL, cL, aO, cO, oH, rH, gL, gO, rfl, hop, hL, hO⟩ := hW
 obtain ⟨op, first, recs, old, next, code⟩ := W
 dsimp only at *
 refine enter Tryz.func91 (by kernel_rfl) rfl rfl rfl ?_
 refine sq (rg ?_)
 refine fin hT 1 rfl (th (sq (sq (rg ?_))))
 refine ldp hT 3 0 rfl rfl rfl ?_
 refine cmpS hT 0 rfl fun b7 h7 => ?_
 refine' bjo hT 1 6 14 [7, 8] h7 rfl rfl rfl rfl rfl rfl rfl (fun _ => ?x2) (fun b14 h14 => ?_)
 case x2 =>
  refine ldp hT 3 0 rfl rfl rfl ?_
  refine cbS hT 0 (op = none) rfl (by
   cases op with
   | none => obtain ⟨rfl, _⟩ := hop; simp
   | some o => obtain ⟨b, _, _, rfl, _⟩ := hop; simp) fun b13 h13 => ?_
  exact fin hT 1 rfl (bjx h13 rfl rfl rfl)
 refine fin hT 0 rfl (th (ifP h14 rfl (fun e4 => ?_) (fun e4 => ?_)))
 ·have e : Wl.sync ⟨op, first, recs, old, next, code⟩ D = (⟨op, first, recs, old, next, code⟩, D) := by
   unfold Wl.sync
   dsimp only
   split
   ·rfl
   ·rename_i h
    rcases e4 with h2 | rfl
    ·exact absurd h2 h
    ·rfl
  rw [e]
  refine sq (rg ?_)
  refine ldp hT 3 0 rfl rfl rfl ?_
  refine fin hT 1 rfl (th (rt (rT ?_)))
  exact ret1 rfl rfl ⟨rfl, _, _, rfl, ⟨ob, aL, cL, aO, cO, oH, rH, gL, gO, rfl, hop, hL, hO⟩, hd, rfl⟩
 ·have hcode : code = 0 := by rcases Decidable.em (code = 0) with h | h; exact h; exact absurd (.inl h) e4
  subst hcode
  cases op with
  | none => exact absurd (.inr rfl) e4
  | some o =>
   obtain ⟨b, aR, cR, rfl, rfl, oR⟩ := hop
   have hnum := (hb.op o rfl).1
   unfold wMany at hnum
   have e : Wl.sync ⟨some o, first, recs, old, next, 0⟩ D = (⟨some o, first, recs, old, next, (D.sync (segA o.num)).2⟩, (D.sync (segA o.num)).1) := rfl
   rw [e]
   refine sk (th (sq (rga [pt wb (wlA db (some b) first (.slice aL recs.length cL) (.slice aO old.length cO) next 0) 139, pt b (wopA o aR cR) 191] 15 [0, 2, 4, 6, 8, 10, 12, 14, 16, 18, 20, 22, 24, 27, 29, 31, 32] (by simp) (by kernel_rfl) (by kernel_rfl) ?_)))
   refine dldtp [14] hT (by kernel_rfl) 4 0 rfl (by kernel_rfl) rfl rfl ?_
   refine dldtp [14, 13, 12, 11, 10, 9] hT (by kernel_rfl) 3 0 rfl (by kernel_rfl) rfl rfl ?_
   refine dldtp [14, 13] hT (by kernel_rfl) 3 1 rfl (by kernel_rfl) rfl rfl ?_
   refine dact hT (by kernel_rfl) 0 rfl ?_
   refine cl hT 0 rfl (areaC o.num (by omega)) ?_
   rintro v32 K32 hs32 ⟨rfl, rfl, rfl⟩
   refine dnex [pt wb (wlA db (some b) first (.slice aL recs.length cL) (.slice aO old.length cO) next 0) 139, pt b (wopA o aR cR) 191] (by simp) (by simp) rfl ?_
   refine dact hT (by kernel_rfl) 0 rfl ?_
   refine cl hT 0 rfl (Ct.at 5 rfl (syncH db D c oD (by omega) hd (segA o.num))) ?_
   rintro v33 K33 hs33 ⟨dh', rfl, rfl, hd', rfl⟩
   refine dnex [pt wb (wlA db (some b) first (.slice aL recs.length cL) (.slice aO old.length cO) next 0) 139, pt b (wopA o aR cR) 191] (by simp) (by simp) rfl ?_
   refine dact hT (by kernel_rfl) 0 rfl ?_
   refine cl hT 0 rfl (didC wb db (some b) first _ _ next 0 _) ?_
   rintro v34 K34 hs34 ⟨_, rfl, rfl, rfl, rfl⟩
   rw [if_pos rfl]
   refine dnext (.inl (by kernel_rfl)) ?_
   refine dend hT (by kernel_rfl) 1 rfl (th (rt ?_))
   exact ret1 rfl rfl ⟨rfl, _, _, rfl, ⟨some b, aL, cL, aO, cO, _, rH, gL, gO, rfl, ⟨b, aR, cR, rfl, rfl, oR⟩, hL, hO⟩, hd', rfl⟩
theorem beginWC {w0 : World} {K dh : PH} {m hs : List PH} (wb db : Nat) (W : Wl) (hW : WalM K wb db W m) (D : Dk) (c : Nat) (oD : D.Ok c) (hc : c <= 1000000000) (hb : WBd c W) (hd : DskH K db D dh) (i : Nat) (hi : i < 18446744073709551616) :
  Ct Tryz.prog w0 115 [.pointer (some ⟨wb, 0, none⟩), .int .u64 ((i : Nat) : Int)] K (m ++ dh :: hs)
   (fun v K' hs' => Le K K' /\ ∃ m' dh', hs' = m' ++ dh' :: hs /\ WalM K' wb db (W.begin i D).1 m' /\ DskH K' db (W.begin i D).2 dh' /\ v = .int .i64 (W.begin i D).1.code) := by
 refine enter Tryz.func115 (by kernel_rfl) rfl rfl rfl ?_
 refine sq (rg ?_)
 refine fin hT 1 rfl (th (sq (sq (rg ?_))))
 refine cl hT 1 rfl (syncWC wb db W hW D c oD hc hb hd) ?_
 rintro v6 K6 hs6 ⟨rfl, m1, dh1, rfl, hW1, hd1, rfl⟩
 have oS : (W.sync D).2.Ok (c + 1) := by
  unfold Wl.sync
  split
  ·exact oD.up (by omega)
  ·split
   ·exact oD.up (by omega)
   ·exact oD.sync _
 have hS : (W.sync D).1 = { W with code := (W.sync D).1.code } := by
  unfold Wl.sync
  split
  ·rfl
  ·split
   ·rfl
   ·rfl
 refine cmpS hT 0 rfl fun b7 h7 => ?_
 refine fin hT 0 rfl (th (ifP h7 rfl (fun e2 => ?_) (fun e2 => ?_)))
 ·have e : W.begin i D = W.sync D := by unfold Wl.begin; rw [if_pos e2]
  rw [e]
  obtain ⟨ob, aL, cL, aO, cO, oH, rH, gL, gO, rfl, hop, hL, hO⟩ := hW1
  refine sq (rg ?_)
  refine ldp hT 3 0 rfl rfl rfl ?_
  refine fin hT 1 rfl (th (rt (rT ?_)))
  exact ret1 rfl rfl ⟨Le.refl _, _, _, rfl, ⟨ob, aL, cL, aO, cO, oH, rH, gL, gO, rfl, hop, hL, hO⟩, hd1, rfl⟩
 ·have e2 : (W.sync D).1.code = 0 := Decidable.not_not.1 e2
  have e : W.begin i D = ({ (W.sync D).1 with op := some (wrO ⟨W.next, i, 0, []⟩ (uint i) (W.sync D).2).1, next := W.next + 1, old := W.old ++ [(W.next, i)], code := (wrO ⟨W.next, i, 0, []⟩ (uint i) (W.sync D).2).2.2 }, (wrO ⟨W.next, i, 0, []⟩ (uint i) (W.sync D).2).2.1) := by
   unfold Wl.begin; rw [if_neg (by rw [e2]; simp)]
  rw [e]
  obtain ⟨E, hE⟩ : ∃ E, E = (W.sync D).2 := ⟨_, rfl⟩
  rw [hS, e2] at hW1
  rw [hS]
  rw [<- hE] at oS hd1 ⊢
  clear hE e hS e2 h7
  obtain ⟨op, first, recs, old, next, code⟩ := W
  dsimp only at *
  obtain ⟨ob, aL, cL, aO, cO, oH, rH, gL, gO, rfl, hop, hL, hO⟩ := hW1
  dsimp only at *
  have hnx := hb.next
  have hol := hb.old
  unfold wMany at hnx
  dsimp only at hnx hol
  refine sk (th (sq (rg ?_)))
  refine ldp hT 4 0 rfl rfl rfl ?_
  refine bd hT 1 (.agg #[.int .u64 ((next : Nat) : Int), .int .u64 ((i : Nat) : Int)]) rfl (fun w => by kernel_rfl) ?_
  refine bd hT 0 (.agg (wopA ⟨next, i, 0, []⟩ none 0)) rfl (fun w => by kernel_rfl) ?_
  refine bx hT 0 rfl fun b20 => ?_
  refine stp hT 2 1 rfl rfl rfl rfl ?_
  refine fin hT 0 rfl (th (WC.perm (List.Perm.swap _ _ _) (WC.loss 3 em rfl (.inr rfl) (WC.del 2 rfl (sq (rg ?_))))))
  refine ldp hT 3 0 rfl rfl rfl ?_
  refine ar hT 0 rfl (u64w (x := ((next + 1 : Nat) : Int)) (by omega)) ?_
  refine stp hT 2 0 rfl rfl rfl rfl ?_
  refine fin hT 0 rfl (th (sq (rga [pt wb (wlA db (some b20) first (.slice aL recs.length cL) (.slice aO old.length cO) (next + 1) 0) 139, pt b20 (wopA ⟨next, i, 0, []⟩ none 0) 191] 16 [0, 2, 4, 6, 8, 10, 12, 14, 16, 18, 20, 22, 25, 27, 28, 30, 33] (by intro h hm; simp at hm; rcases hm with rfl | rfl; exact List.mem_cons_self ..; exact List.mem_cons_of_mem _ (List.mem_cons_self ..)) (by kernel_rfl) (by kernel_rfl) ?_)))
  refine dldpw hT (by kernel_rfl) 4 0 rfl (by kernel_rfl) rfl rfl ?_
  refine dldpw hT (by kernel_rfl) 3 0 rfl (by kernel_rfl) rfl rfl ?_
  refine dlds hT (by kernel_rfl) 2 [.int .u64 ((next : Nat) : Int), .int .u64 ((i : Nat) : Int)] rfl (by kernel_rfl) (by kernel_rfl) (.inr ⟨1, rfl⟩) (cells_pt _ (fun j v hj => by
   match j, hj with
   | 0, hj => exact hj
   | 1, hj => exact hj)) ?_
  refine dact hT (by kernel_rfl) 0 rfl ?_
  refine lit hT 0 #[.int .u64 ((next : Nat) : Int), .int .u64 ((i : Nat) : Int)] rfl (by decide) (by kernel_rfl) fun b42 => ?_
  refine dnex [pt wb (wlA db (some b20) first (.slice aL recs.length cL) (.slice aO old.length cO) (next + 1) 0) 139, pt b20 (wopA ⟨next, i, 0, []⟩ none 0) 191] (by intro h hm; simp at hm; rcases hm with rfl | rfl; exact List.mem_cons_of_mem _ (List.mem_cons_self ..); exact List.mem_cons_of_mem _ (List.mem_cons_of_mem _ (List.mem_cons_self ..))) (by simp) rfl ?_
  refine dact hT (by kernel_rfl) 0 rfl ?_
  refine appSq hT 0 5 [.int .u64 ((next : Nat) : Int), .int .u64 ((i : Nat) : Int)] (next, i) rfl rfl rfl hO rfl rfl (by simp [Value.oneCell']) rfl (by decide) (by show (old.length + 1) * 16 <= _; omega) (by simp only [maxLen]; omega) fun ao43 c43 g43 o43 => ?_
  refine dnex [pt wb (wlA db (some b20) first (.slice aL recs.length cL) (.slice aO old.length cO) (next + 1) 0) 139, pt b20 (wopA ⟨next, i, 0, []⟩ none 0) 191] (by intro h hm; simp at hm; rcases hm with rfl | rfl; exact List.mem_cons_of_mem _ (List.mem_cons_self ..); exact List.mem_cons_of_mem _ (List.mem_cons_of_mem _ (List.mem_cons_self ..))) (by simp) rfl ?_
  refine dact hT (by kernel_rfl) 2 rfl ?_
  refine stp hT 0 1 rfl rfl rfl rfl ?_
  refine dnext (.inl (by kernel_rfl)) ?_
  refine dend hT (by kernel_rfl) 0 rfl (th (WC.drop (sq (rg (WL.em ?_)))))
  have hul := uint_le10 (n := i) hi
  have hu0 : 0 < (uint i).length := by rw [uint]; split <;> simp
  refine cl hT 2 rfl (putUint none 0 [] i (Own.nil _ _) hi (by decide)) ?_
  rintro v48 K48 hs48 ⟨hu, rfl, rfl, ao', c', rfl, ou⟩
  rw [List.nil_append] at ou
  refine WL.frz fun K1 l1 l2 => ?_
  refine cl hT 0 rfl (writeWC wb db b20 first _ _ (next + 1) ⟨next, i, 0, []⟩ none 0 (OwnZ.nil _ _) (by simp) E (c + 1) oS (by omega) (hd1.le l1) (by dsimp only; omega) (by simp) ao' c' (uint i) ⟨hu0, by omega⟩ (.inl rfl) (ou.isS.le l2)) ?_
  rintro v49 K49 hs49 ⟨le, aR, cR, rH', dh', rfl, oR, hd', rfl⟩
  refine fin hT 1 rfl (th (rt ?_))
  refine ret1 rfl rfl ⟨l1.trans le, [_, _, _, _, _], dh', rfl, ⟨some b20, aL, cL, ao43, c43, _, rH', gL, g43, ?_, ⟨b20, aR, cR, rfl, rfl, oR⟩, hL.imp fun _ _ h => h.le (l1.trans le), ?_⟩, hd', rfl⟩
  ·dsimp only; rw [List.length_append]; rfl
  ·dsimp only; rw [List.length_append]; exact o43
end Go.Proofs.YtcncpbolcigpnaaGreat
end
section
namespace Go.En
theorem uint_pos (n : Nat) : 0 < (uint n).length := by rw [uint]; split <;> simp
theorem segA_bd {n : Nat} (h : n <= 2305843009213693952) : 0 <= segA n /\ segA n <= 18446744073709551615 := by unfold segA; omega
theorem DOk.wrL : ∀ (f : Nat) (o : WOp) (D : Dk) (c : Nat), DOk c D -> o.num <= 2305843009213693952 -> DOk (c + (o.rest.length / 63 + 1)) (wrL f o D).2.1
 | 0, o, D, c, h, _ => h.up (by omega)
 | f + 1, o, D, c, h, hn => by
  have hw := h.write (segA o.num) o.full (UInt8.ofNat (min o.rest.length 63) :: o.rest.take (min o.rest.length 63)) (segA_bd hn)
  rw [wrL_step]
  split
  ·exact hw.up (by omega)
  ·split
   ·exact hw.up (by omega)
   ·rename_i h1 h2
    refine (DOk.wrL f _ _ _ hw (by exact hn)).up ?_
    dsimp only
    rw [List.length_drop]
    omega
theorem wrL_num : ∀ (f : Nat) (o : WOp) (D : Dk), (wrL f o D).1.num = o.num /\ (wrL f o D).1.idx = o.idx /\ (wrL f o D).1.full <= o.full + o.rest.length / 63
 | 0, o, D => ⟨rfl, rfl, Nat.le_add_right _ _⟩
 | f + 1, o, D => by
  rw [wrL_step]
  split
  ·exact ⟨rfl, rfl, Nat.le_add_right _ _⟩
  ·split
   ·exact ⟨rfl, rfl, by dsimp only; omega⟩
   ·obtain ⟨h1, h2, h3⟩ := wrL_num f { o with full := o.full + 1, rest := o.rest.drop 63 } (D.write (segA o.num) o.full (UInt8.ofNat (min o.rest.length 63) :: o.rest.take (min o.rest.length 63))).1
    refine ⟨h1, h2, Nat.le_trans h3 ?_⟩
    dsimp only
    rw [List.length_drop]
    omega
theorem wrL_rest : ∀ (f : Nat) (o : WOp) (D : Dk), o.rest.length < f -> (wrL f o D).2.2 = 0 -> (wrL f o D).1.rest.length <= 62
 | 0, o, D, h, _ => by omega
 | f + 1, o, D, h, he => by
  rw [wrL_step] at he ⊢
  split
  ·rename_i h1
   rw [if_pos h1] at he
   rcases h1 with h1 | h1
   ·exact absurd he h1
   ·dsimp only; omega
  ·rename_i h1
   rw [if_neg h1] at he
   split
   ·simp
   ·rename_i h2
    rw [if_neg h2] at he
    exact wrL_rest f _ _ (by dsimp only; rw [List.length_drop]; omega) he
theorem DOk.wrO {c : Nat} {D : Dk} (h : DOk c D) (o : WOp) (b : List UInt8) (hn : o.num <= 2305843009213693952) : DOk (c + ((o.rest.length + b.length) / 63 + 1)) (wrO o b D).2.1 := by
 have := DOk.wrL (o.rest.length + b.length + 1) { o with rest := o.rest ++ b } D c h hn
 dsimp only at this
 rwa [List.length_append] at this
theorem wrO_num (o : WOp) (b : List UInt8) (D : Dk) : (wrO o b D).1.num = o.num /\ (wrO o b D).1.idx = o.idx /\ (wrO o b D).1.full <= o.full + (o.rest.length + b.length) / 63 := by
 have := wrL_num (o.rest.length + b.length + 1) { o with rest := o.rest ++ b } D
 dsimp only at this
 rwa [List.length_append] at this
theorem wrO_rest (o : WOp) (b : List UInt8) (D : Dk) (h : (wrO o b D).2.2 = 0) : (wrO o b D).1.rest.length <= 62 := wrL_rest _ _ _ (by simp) h
theorem Wl.sync_eq (W : Wl) (D : Dk) : (W.sync D).1 = { W with code := (W.sync D).1.code } := by
 unfold Wl.sync
 split
 ·rfl
 ·split <;> rfl
theorem DOk.syncW {c : Nat} {D : Dk} (h : DOk c D) (W : Wl) : DOk (c + 1) (W.sync D).2 := by
 unfold Wl.sync
 split
 ·exact h.up (by omega)
 ·split
  ·exact h.up (by omega)
  ·exact h.sync _
theorem Wl.sync_code {W : Wl} {D : Dk} (h : (W.sync D).1.code = 0) : W.code = 0 := by
 unfold Wl.sync at h
 split at h
 ·exact h
 ·rename_i hn; exact Decidable.not_not.1 hn
theorem WBd.sync {c : Nat} {W : Wl} (o : WBd c W) (D : Dk) : WBd c (W.sync D).1 := by
 rw [Wl.sync_eq]
 exact ⟨o.last, o.recs, o.old, o.next, o.op, fun q hq hc => o.rest q hq (Wl.sync_code hc), o.olds, o.recl⟩
theorem DOk.begin {c : Nat} {D : Dk} (h : DOk c D) {W : Wl} (o : WBd c W) (i : Nat) (hi : i < 18446744073709551616) (hc : c <= 1000000000) : DOk (c + 2) (W.begin i D).2 := by
 have h1 := h.syncW W
 have hn := o.next
 unfold wMany at hn
 have hu := uint_le10 hi
 unfold Wl.begin
 split
 ·exact h1.up (by omega)
 ·refine (h1.wrO ⟨W.next, i, 0, []⟩ (uint i) (by dsimp only; omega)).up ?_
  dsimp only [List.length_nil]
  omega
theorem WBd.begin {c : Nat} {W : Wl} (o : WBd c W) (i : Nat) (hi : i <= wTop) (D : Dk) : WBd (c + 1) (W.begin i D).1 := by
 have h1 := o.sync D
 unfold Wl.begin
 split
 ·exact h1.up (by omega)
 ·have hn := wrO_num ⟨W.next, i, 0, []⟩ (uint i) (W.sync D).2
  have hu := uint_le10 (n := i) (by unfold wTop at hi; omega)
  dsimp only [List.length_nil] at hn
  rw [Wl.sync_eq]
  refine ⟨o.last, Nat.le_trans o.recs (by omega), ?_, ?_, ?_, ?_, ?_, o.recl⟩
  ·have := o.old; dsimp only; rw [List.length_append]; simp only [List.length_cons, List.length_nil]; omega
  ·have := o.next; dsimp only; omega
  ·intro q hq
   simp only [Option.some.injEq] at hq
   rw [<- hq]
   have := o.next
   exact ⟨by rw [hn.1]; omega, by have := hn.2.2; omega⟩
  ·intro q hq hc
   simp only [Option.some.injEq] at hq
   rw [<- hq]
   exact wrO_rest _ _ _ hc
  ·intro s hs
   rcases List.mem_append.1 hs with hs | hs
   ·have := o.olds s hs; omega
   ·simp only [List.mem_singleton] at hs
    subst hs
    have := o.next
    exact ⟨by dsimp only; omega, hi⟩
theorem begin_op {W : Wl} {i : Nat} {D : Dk} (h : (W.begin i D).1.code = 0) : (W.begin i D).1.op ≠ none /\ (W.begin i D).1.first = W.first /\ (W.begin i D).1.recs = W.recs /\ (W.sync D).1.code = 0 := by
 unfold Wl.begin at h ⊢
 split
 ·rename_i h2; rw [if_pos h2] at h; exact absurd h h2
 ·rename_i h2
  rw [Wl.sync_eq]
  exact ⟨by simp, rfl, rfl, Decidable.not_not.1 h2⟩
theorem begin_recs (W : Wl) (i : Nat) (D : Dk) : (W.begin i D).1.first = W.first /\ (W.begin i D).1.recs = W.recs := by
 unfold Wl.begin
 split
 ·rw [Wl.sync_eq]; exact ⟨rfl, rfl⟩
 ·rw [Wl.sync_eq]; exact ⟨rfl, rfl⟩
theorem putBytes_le {b : List UInt8} (h : b.length <= 512) : 0 < (putBytes b).length /\ (putBytes b).length <= 522 := by
 have h1 := uint_pos b.length
 have h2 := uint_le10 (n := b.length) (by omega)
 rw [putBytes_length]
 omega
theorem DOk.lay {c : Nat} {D : Dk} (h : DOk c D) {W : Wl} (o : WBd c W) (hc : c <= 1000000000) (hw : W.code = 0) {b : List UInt8} (hb : b.length <= 512) : DOk (c + 10) (wLay W b D).2.1 := by
 unfold wLay
 cases hop : W.op with
 | none => exact h.up (by omega)
 | some q =>
  have hq := o.op q hop
  unfold wMany at hq
  have hr := o.rest q hop hw
  have hp := putBytes_le hb
  exact (h.wrO q (putBytes b) (by omega)).up (by omega)
theorem WBd.lay {c : Nat} {W : Wl} (o : WBd c W) (hw : W.code = 0) (hl : W.first + W.recs.length < wTop) {b : List UInt8} (hb : b.length <= 512) (D : Dk) : WBd (c + 10) (wLay W b D).1 := by
 unfold wLay
 cases hop : W.op with
 | none => exact o.up (by omega)
 | some q =>
  have hq := o.op q hop
  have hr := o.rest q hop hw
  have hp := putBytes_le hb
  have hn := wrO_num q (putBytes b) D
  have h1 := o.recs
  have h2 := o.old
  have h3 := o.next
  have h4 := o.last
  refine ⟨?_, ?_, by dsimp only; omega, by dsimp only; omega, ?_, ?_, ?_, ?_⟩
  ·dsimp only
   split
   ·rw [List.length_append]; simp only [List.length_cons, List.length_nil]; omega
   ·exact h4
  ·dsimp only
   split
   ·rw [List.length_append]; simp only [List.length_cons, List.length_nil]; omega
   ·omega
  ·intro x hx
   simp only [Option.some.injEq] at hx
   rw [<- hx]
   exact ⟨by rw [hn.1]; omega, by have := hn.2.2; omega⟩
  ·intro x hx hc
   simp only [Option.some.injEq] at hx
   rw [<- hx]
   exact wrO_rest _ _ _ hc
  ·intro s hs
   have := o.olds s hs
   omega
  ·intro r hr
   dsimp only at hr
   split at hr
   ·rcases List.mem_append.1 hr with hr | hr
    ·exact o.recl r hr
    ·simp only [List.mem_singleton] at hr; rw [hr]; exact hb
   ·exact o.recl r hr
theorem DOk.append {c : Nat} {D : Dk} (h : DOk c D) {W : Wl} (o : WBd c W) (hc : c <= 999999990) (b : List UInt8) : DOk (c + 12) (W.append b D).2.1 := by
 have hl := o.last
 unfold Wl.append
 split
 ·exact h.up (by omega)
 ·rename_i hw
  have hw := Decidable.not_not.1 hw
  split
  ·exact h.up (by omega)
  ·split
   ·exact h.up (by omega)
   ·split
    ·have hb := h.begin o (W.first + W.recs.length) (by unfold wTop at hl; omega) (by omega)
     split
     ·exact hb.up (by omega)
     ·rename_i h2
      exact (hb.lay ((o.begin _ hl D).up (by omega)) (by omega) (Decidable.not_not.1 h2) (by omega)).up (by omega)
    ·exact (h.lay o (by omega) hw (by omega)).up (by omega)
theorem WBd.append {c : Nat} {W : Wl} (o : WBd c W) (b : List UInt8) (D : Dk) : WBd (c + 12) (W.append b D).1 := by
 have hl := o.last
 unfold Wl.append
 split
 ·exact o.up (by omega)
 ·rename_i hw
  have hw := Decidable.not_not.1 hw
  split
  ·exact o.up (by omega)
  ·split
   ·exact o.up (by omega)
   ·split
    ·have hb := o.begin (W.first + W.recs.length) hl D
     split
     ·exact hb.up (by omega)
     ·rename_i h2
      have hr := begin_recs W (W.first + W.recs.length) D
      exact (hb.lay (Decidable.not_not.1 h2) (by rw [hr.1, hr.2]; omega) (by omega) _).up (by omega)
    ·exact (o.lay hw (by omega) (by omega) D).up (by omega)
end Go.En
end
section
namespace Go.Proofs.YtcncpbolcigpnaaGreat
open Go.En
attribute [local irreducible] Code.wp wpList Calls
theorem appendWC {w0 : World} {K dh hv : PH} {m hs : List PH} (wb db : Nat) (W : Wl) (hW : WalM K wb db W m) (D : Dk) (c : Nat) (oD : DOk c D) (hc : c <= 999999000) (hb : WBd c W) (hd : DskH K db D dh) (ab : Option Addr) (cb : Nat) (b : List UInt8) (hbl : b.length < 1099511627776) (hin : In K hs hv) (x : IsS hv ab b.length cb 1 (bv b)) :
  Ct Tryz.prog w0 89 [.pointer (some ⟨wb, 0, none⟩), .slice ab b.length cb] K (m ++ dh :: hs)
   (fun v K' hs' => Le K K' /\ ∃ m' dh', hs' = m' ++ dh' :: hs /\ WalM K' wb db (W.append b D).1 m' /\ DskH K' db (W.append b D).2.1 dh' /\ v = .int .i64 (W.append b D).2.2) := by
 obtain ⟨ob, aL, cL, aO, cO, oH, rH, gL, gO, rfl, hop, hL, hO⟩ := id hW
 have hlast := hb.last
 refine enter Tryz.func89 (by kernel_rfl) rfl rfl rfl ?_
 refine sq (rg ?_)
 refine fin hT 1 rfl (th (sq (bk (sq (rg ?_)))))
 refine ldp hT 3 0 rfl rfl rfl ?_
 refine cmpS hT 0 rfl fun b10 h10 => ?_
 refine fin hT 1 rfl (th (ifP h10 rfl (fun e2 => ?_) (fun e2 => ?_)))
 ·have e : W.append b D = (W, D, W.code) := by unfold Wl.append; rw [if_pos e2]
  rw [e]
  refine sq (rg ?_)
  refine ldp hT 3 0 rfl rfl rfl ?_
  refine fin hT 1 rfl (th (rt (rB (rT ?_))))
  exact ret1 rfl rfl ⟨Le.refl _, _, _, rfl, hW, hd, rfl⟩
 ·have hcode : W.code = 0 := Decidable.not_not.1 e2
  refine sq (rg ?_)
  refine cmpS hT 2 rfl fun b18 h18 => ?_
  refine fin hT 1 rfl (th (ifP h18 rfl (fun e4 => ?_) (fun e4 => ?_)))
  ·have e : W.append b D = (W, D, 50) := by unfold Wl.append; rw [if_neg e2, if_pos (by omega)]
   rw [e]
   refine sq (rg ?_)
   refine fin hT 1 rfl (th (rt (rB (rT ?_))))
   exact ret1 rfl rfl ⟨Le.refl _, _, _, rfl, hW, hd, rfl⟩
  ·refine sq (rg ?_)
   refine cl hT 1 rfl (lastWC wb db W hW hlast) ?_
   rintro v21 K21 hs21 ⟨rfl, rfl, rfl⟩
   refine ar hT 0 rfl (u64back _ (by unfold wTop at hlast; omega)) ?_
   refine cmpS hT 0 rfl fun b23 h23 => ?_
   refine fin hT 1 rfl (th (ifP h23 rfl (fun e6 => ?_) (fun e6 => ?_)))
   ·have e : W.append b D = (W, D, 51) := by unfold Wl.append; rw [if_neg e2, if_neg (by omega), if_pos (by unfold wTop; omega)]
    rw [e]
    refine sq (rg ?_)
    refine fin hT 1 rfl (th (rt (rB (rT ?_))))
    exact ret1 rfl rfl ⟨Le.refl _, _, _, rfl, hW, hd, rfl⟩
   ·have e0 : W.append b D = if wNeed W.op = true then
      (if (W.begin (W.first + W.recs.length) D).1.code ≠ 0 then ((W.begin (W.first + W.recs.length) D).1, (W.begin (W.first + W.recs.length) D).2, (W.begin (W.first + W.recs.length) D).1.code)
       else wLay (W.begin (W.first + W.recs.length) D).1 b (W.begin (W.first + W.recs.length) D).2)
     else wLay W b D := by unfold Wl.append; rw [if_neg e2, if_neg (by omega), if_neg (by unfold wTop; omega)]
    rw [e0]
    obtain ⟨B, hB⟩ : ∃ B, B = W.begin (W.first + W.recs.length) D := ⟨_, rfl⟩
    have oB : DOk (c + 2) B.2 := by rw [hB]; exact oD.begin hb _ (by unfold wTop at hlast; omega) (by omega)
    have bB : WBd (c + 2) B.1 := by rw [hB]; exact (hb.begin _ hlast D).up (by omega)
    have rB2 := begin_recs W (W.first + W.recs.length) D
    have oB2 : B.1.code = 0 -> B.1.op ≠ none := by rw [hB]; exact fun h => (begin_op h).1
    rw [<- hB] at rB2 ⊢
    refine sk (bl (th (jnK (σ := (Wl × Dk) × (List PH × PH) × PH) (fun _ => [(0, .pointer (some ⟨wb, 0, none⟩)), (1, .slice ab b.length cb)]) (fun s => s.2.2) (fun s => s.2.1.1 ++ s.2.1.2 :: hs)
     (fun s => Le K21 s.2.2 /\ WalM s.2.2 wb db s.1.1 s.2.1.1 /\ DskH s.2.2 db s.1.2 s.2.1.2 /\ DOk (c + 2) s.1.2 /\ WBd (c + 2) s.1.1 /\ s.1.1.code = 0 /\ s.1.1.op ≠ none /\ s.1.1.first + s.1.1.recs.length < wTop /\
      (if wNeed W.op = true then (if B.1.code ≠ 0 then (B.1, B.2, B.1.code) else wLay B.1 b B.2) else wLay W b D) = wLay s.1.1 b s.1.2) ?_ ?_)))
    ·refine sq (rg ?_)
     refine ldp hT 3 0 rfl rfl rfl ?_
     cases hwo : W.op with
     | none =>
      rw [hwo] at hop
      obtain ⟨rfl, rfl, rfl⟩ := hop
      refine En.cb hT 0 rfl (fun h => ?_) (fun h => by simp at h)
      refine cl hT 13 rfl (lastWC wb db W hW hlast) ?_
      rintro v42 K42 hs42 ⟨rfl, rfl, rfl⟩
      refine ar hT 0 rfl (u64back _ (by unfold wTop at hlast; omega)) ?_
      refine cl hT 0 rfl (beginWC wb db W hW D c oD.ok (by omega) hb hd (W.first + W.recs.length) (by unfold wTop at hlast; omega)) ?_
      rintro v44 K44 hs44 ⟨le, m', dh', rfl, hW', hd', rfl⟩
      rw [<- hB] at hW' hd' ⊢
      refine cmpS hT 0 rfl fun b45 h45 => ?_
      refine fin hT 1 rfl (th (ifP h45 rfl (fun e12 => ?_) (fun e12 => ?_)))
      ·rw [if_pos (by rfl), if_pos e12]
       obtain ⟨ob2, aL2, cL2, aO2, cO2, oH2, rH2, gL2, gO2, rfl, hop2, hL2, hO2⟩ := id hW'
       refine sq (rg ?_)
       refine ldp hT 3 0 rfl rfl rfl ?_
       refine fin hT 1 rfl (th (rt (rT ?_)))
       exact ret1 rfl rfl ⟨le, _, _, rfl, hW', hd', rfl⟩
      ·have e12 := Decidable.not_not.1 e12
       refine sk ?_
       exact jxK ((B.1, B.2), (m', dh'), K44) ⟨le, hW', hd', oB, bB, e12, oB2 e12, by rw [rB2.1, rB2.2]; unfold wTop at hlast ⊢; omega, by rw [if_pos (by rfl), if_neg (by rw [e12]; simp)]⟩ ⟨rfl, rfl, trivial⟩ rfl rfl
     | some o =>
      rw [hwo] at hop
      obtain ⟨b1, aR, cR, rfl, rfl, oR⟩ := hop
      refine En.cb hT 0 rfl (fun h => by simp at h) (fun h => ?_)
      refine ldp hT 4 0 rfl rfl rfl ?_
      refine ldp hT 2 1 rfl rfl rfl ?_
      refine cmp hT 0 rfl (fun h37 => ?_) (fun h37 => ?_)
      ·have hneed : wNeed (some o) = true := decide_eq_true (by omega)
       refine cl hT 4 rfl (lastWC wb db W hW hlast) ?_
       rintro v42 K42 hs42 ⟨rfl, rfl, rfl⟩
       refine ar hT 0 rfl (u64back _ (by unfold wTop at hlast; omega)) ?_
       refine cl hT 0 rfl (beginWC wb db W hW D c oD.ok (by omega) hb hd (W.first + W.recs.length) (by unfold wTop at hlast; omega)) ?_
       rintro v44 K44 hs44 ⟨le, m', dh', rfl, hW', hd', rfl⟩
       rw [<- hB] at hW' hd' ⊢
       refine cmpS hT 0 rfl fun b45 h45 => ?_
       refine fin hT 1 rfl (th (ifP h45 rfl (fun e12 => ?_) (fun e12 => ?_)))
       ·rw [if_pos hneed, if_pos e12]
        obtain ⟨ob2, aL2, cL2, aO2, cO2, oH2, rH2, gL2, gO2, rfl, hop2, hL2, hO2⟩ := id hW'
        refine sq (rg ?_)
        refine ldp hT 3 0 rfl rfl rfl ?_
        refine fin hT 1 rfl (th (rt (rT ?_)))
        exact ret1 rfl rfl ⟨le, _, _, rfl, hW', hd', rfl⟩
       ·have e12 := Decidable.not_not.1 e12
        refine sk ?_
        exact jxK ((B.1, B.2), (m', dh'), K44) ⟨le, hW', hd', oB, bB, e12, oB2 e12, by rw [rB2.1, rB2.2]; unfold wTop at hlast ⊢; omega, by rw [if_pos hneed, if_neg (by rw [e12]; simp)]⟩ ⟨rfl, rfl, trivial⟩ rfl rfl
      ·have hneed : ¬ wNeed (some o) = true := by simp only [wNeed, decide_eq_true_eq]; omega
       refine fin hT 9 rfl (th (ifF rfl ?_))
       refine sk ?_
       exact jxK ((W, D), ([_, _, _, _, _], dh), K21) ⟨Le.refl _, hW, hd, oD.up (by omega), hb.up (by omega), hcode, by rw [hwo]; simp, by dsimp only; unfold wTop at hlast ⊢; omega, by rw [if_neg hneed]⟩ ⟨rfl, rfl, trivial⟩ rfl rfl
    ·clear oB2 rB2 bB oB hop hL hO
     rintro ⟨⟨V, E⟩, ⟨m1, eh⟩, K1⟩ ⟨le, hV, hE, oE, bV, hcV, hoV, hlV, heq⟩
     dsimp only at *
     rw [heq]
     clear heq
     obtain ⟨ob, aL, cL, aO, cO, oH, rH, gL, gO, rfl, hop, hL, hO⟩ := id hV
     obtain ⟨op, first, recs, old, next, code⟩ := V
     dsimp only at *
     subst hcV
     cases op with
     | none => exact absurd rfl hoV
     | some o =>
      obtain ⟨b1, aR, cR, rfl, rfl, oR⟩ := hop
      have hq := bV.op o rfl
      have hr := bV.rest o rfl rfl
      have hrl := bV.recs
      unfold wMany at hq
      dsimp only at hq hr hrl
      have hpb := putBytes_le (b := b) (by omega)
      have eL : wLay ⟨some o, first, recs, old, next, 0⟩ b E = (⟨some (wrO o (putBytes b) E).1, first, if (wrO o (putBytes b) E).2.2 = 0 then recs ++ [b] else recs, old, next, (wrO o (putBytes b) E).2.2⟩, (wrO o (putBytes b) E).2.1, (wrO o (putBytes b) E).2.2) := rfl
      rw [eL]
      refine sq (sq (rg (WL.em ?_)))
      obtain ⟨hv', hin', lev⟩ := hin.le le
      refine cl hT 2 rfl (putBytesC none 0 [] ab cb b (Own.nil _ _) (hin'.tail (_ :: _ :: _ :: _ :: _ :: [eh])) (x.le lev) (by decide) (by omega)) ?_
      rintro v53 K53 hs53 ⟨hu, rfl, rfl, ao', c', rfl, ou⟩
      rw [List.nil_append] at ou
      refine WL.frz fun K2 l1 l2 => ?_
      obtain ⟨hv2, hin2, lev2⟩ := hin'.le l1
      refine cl hT 0 rfl (writeWC wb db b1 first _ _ next o aR cR oR (by omega) E (c + 2) oE.ok (by omega) (hE.le l1) (by omega) (by omega) ao' c' (putBytes b) ⟨hpb.1, by omega⟩ (.inl rfl) (ou.isS.le l2)) ?_
      rintro v54 K54 hs54 ⟨le3, aR', cR', rH', dh', rfl, oR', hd', rfl⟩
      obtain ⟨hv3, hin3, lev3⟩ := hin2.le le3
      have le4 := le.trans (l1.trans le3)
      refine cmpS hT 0 rfl fun b55 h55 => ?_
      refine fin hT 0 rfl (th (ifP h55 rfl (fun e14 => ?_) (fun e14 => ?_)))
      ·rw [if_pos e14]
       refine rga [pt wb (wlA db (some b1) first (.slice aL recs.length cL) (.slice aO old.length cO) next (wrO o (putBytes b) E).2.2) 139] 11 [0, 2, 4, 6, 8, 10, 13, 15, 17, 18, 20, 23] (by simp) (by kernel_rfl) (by kernel_rfl) ?_
       refine dldpw hT (by kernel_rfl) 4 0 rfl (by kernel_rfl) rfl rfl ?_
       refine dact hT (by kernel_rfl) 1 rfl ?_
       refine cl hT 0 rfl (cloneB ab cb b (hin3.tail (_ :: _ :: _ :: _ :: _ :: [dh'])) (((x.le lev).le lev2).le lev3) (by omega)) ?_
       rintro v62 K62 hs62 ⟨rfl, g, aoc, cc, rfl, rfl, og⟩
       refine WL.frz fun K3 l3 l4 => ?_
       refine dnexL [pt wb (wlA db (some b1) first (.slice aL recs.length cL) (.slice aO old.length cO) next (wrO o (putBytes b) E).2.2) 139] (by simp) (by simp) l3 ?_
       refine dact hT (by kernel_rfl) 0 rfl ?_
       refine lit hT 0 #[.slice aoc b.length cc] rfl (by decide) (by kernel_rfl) fun b63 => ?_
       refine dnex [pt wb (wlA db (some b1) first (.slice aL recs.length cL) (.slice aO old.length cO) next (wrO o (putBytes b) E).2.2) 139] (by simp) (by simp) rfl ?_
       refine dact hT (by kernel_rfl) 0 rfl ?_
       refine appSq (R := recR K3) hT 0 4 [.slice aoc b.length cc] b rfl rfl rfl (hL.imp fun _ _ h => ((h.le l1).le le3).le l3) ⟨aoc, cc, rfl, og.isS.le l4⟩ rfl (by simp [Value.oneCell']) rfl (by decide) (by show (recs.length + 1) * 24 <= _; omega) (by simp only [maxLen]; omega) fun ao64 c64 g64 o64 => ?_
       refine dnex [pt wb (wlA db (some b1) first (.slice aL recs.length cL) (.slice aO old.length cO) next (wrO o (putBytes b) E).2.2) 139] (by simp) (by simp) rfl ?_
       refine dact hT (by kernel_rfl) 2 rfl ?_
       refine stp hT 0 1 rfl rfl rfl rfl ?_
       refine dnext (.inl (by kernel_rfl)) ?_
       refine dend hT (by kernel_rfl) 0 rfl (th (sq (rg (WL.drop ?_))))
       refine ldp hT 3 0 rfl rfl rfl ?_
       refine fin hT 1 rfl (th (rt ?_))
       refine ret1 rfl rfl ⟨le4.trans l3, [_, _, _, _, _], dh', rfl, ⟨some b1, ao64, c64, aO, cO, _, rH', g64, gO, ?_, ⟨b1, aR', cR', rfl, rfl, oR'⟩, ?_, hO⟩, hd'.le l3, rfl⟩
       ·dsimp only; rw [List.length_append]; rfl
       ·dsimp only; rw [List.length_append]; exact o64
      ·rw [if_neg e14]
       refine sk (th (sq (rg ?_)))
       refine ldp hT 3 0 rfl rfl rfl ?_
       refine fin hT 1 rfl (th (rt ?_))
       exact ret1 rfl rfl ⟨le4, [_, _, _, _, _], dh', rfl, ⟨some b1, aL, cL, aO, cO, _, rH', gL, gO, rfl, ⟨b1, aR', cR', rfl, rfl, oR'⟩, hL.imp fun _ _ h => (h.le l1).le le3, hO⟩, hd', rfl⟩
end Go.Proofs.YtcncpbolcigpnaaGreat
end
section
namespace Go.En
theorem areasL_bd {c : Nat} {D : Dk} (o : DOk c D) : ∀ k ∈ areasL D, 0 <= k /\ k <= 18446744073709551615 := fun k hk => o.ar k ((srtI_perm _).mem_iff.1 hk)
theorem areasL_len {c : Nat} {D : Dk} (o : DOk c D) : (areasL D).length <= c := by
 unfold areasL
 rw [(srtI_perm _).length_eq, List.length_map]
 exact o.len
theorem ivu_get {l : List Int} {j : Nat} {a : Int} (h : l[j]? = some a) : (ivu l)[j]? = some (.int .u64 a) := by simp [ivu, h]
end Go.En
namespace Go.Proofs.YtcncpbolcigpnaaGreat
open Go.En
attribute [local irreducible] Code.wp wpList Calls
end Go.Proofs.YtcncpbolcigpnaaGreat
end
section
namespace Go.En
theorem wtx_step (D : Dk) (num f n : Nat) : wtx D num (f + 1) n = match D.read (segA num) n with
  | none => []
  | some s => (s.drop 1).take (usedB s) ++ (if usedB s < 63 then [] else wtx D num f (n + 1)) := rfl
theorem wtx_len (D : Dk) (num : Nat) : ∀ (f n : Nat), (wtx D num f n).length <= 63 * f
 | 0, n => by simp [wtx]
 | f + 1, n => by
  rw [wtx_step]
  have ih := wtx_len D num f (n + 1)
  split
  ·simp
  ·rename_i s _
   have : usedB s <= 63 := by unfold usedB; omega
   rw [List.length_append, List.length_take]
   split
   ·simp; omega
   ·omega
theorem wtext_len (D : Dk) (num : Nat) : (wtext D num).length <= 4128831 := wtx_len D num 65537 0
theorem Dk.Ok.noRead {c : Nat} {D : Dk} (o : D.Ok c) (a n : Int) (h : 65536 <= n) : D.read a n = none := by
 unfold Dk.read
 cases hs : D.sec a n with
 | none => rfl
 | some s =>
  have hm := mget_mem hs
  obtain ⟨l, h1, h2⟩ := Dk.ar_mem _ hm
  rw [h2] at hm
  have := o.at_ _ h1 _ hm
  dsimp only at this
  omega
end Go.En
namespace Go.Proofs.YtcncpbolcigpnaaGreat
open Go.En
attribute [local irreducible] Code.wp wpList Calls
theorem textC {w0 : World} {K dh : PH} {hs : List PH} (db : Nat) (D : Dk) (c : Nat) (oD : D.Ok c) (hc : c <= 1000000000) (hd : DskH K db D dh) (num : Nat) (hn : num <= 2305843009213693952) :
  Ct Tryz.prog w0 105 [.pointer (some ⟨db, 0, none⟩), .int .u64 ((num : Nat) : Int)] K (dh :: hs)
   (fun v K' hs' => ∃ h', hs' = h' :: hs /\ h' = dh /\ Le K K' /\ ∃ ao k, v = .slice ao (wtext D num).length k /\ IsS K' ao (wtext D num).length k 1 (bv (wtext D num))) := by
 refine enter Tryz.func105 (by kernel_rfl) rfl rfl rfl ?_
 refine sq (rg ?_)
 refine fin hT 1 rfl (th (sq (rg ?_)))
 refine fin hT 1 rfl (th (sq (rg ?_)))
 refine fin hT 1 rfl (th (bk (WC.em ?_)))
 refine loop (σ := (Nat × List UInt8) × (Option Addr × Nat × PH) × PH) (fun s => [(0, .pointer (some ⟨db, 0, none⟩)), (1, .int .u64 ((num : Nat) : Int)), (5, .slice s.2.1.1 s.1.2.length s.2.1.2.1), (6, .int .i64 ((s.1.1 : Nat) : Int))]) (fun s => s.2.2) (fun s => s.2.1.2.2 :: dh :: hs)
  (fun s => s.1.2 ++ wtx D num (65537 - s.1.1) s.1.1 = wtext D num /\ s.1.1 <= 65536 /\ Le K s.2.2 /\ Own s.2.1.2.2 s.2.1.1 s.1.2.length s.2.1.2.1 5 1 (bv s.1.2)) (fun s => 65537 - s.1.1) ((0, []), (none, 0, em), K) ⟨by dsimp only; rw [List.nil_append, Nat.sub_zero, wtext], by dsimp only; omega, Le.refl _, Own.nil _ _⟩ ⟨rfl, rfl, rfl, rfl, trivial⟩ rfl rfl ?_
 rintro ⟨⟨n, b⟩, ⟨ao, k, g⟩, K1⟩ ⟨hw, hn2, le, o⟩
 dsimp only at *
 rw [show 65537 - n = (65536 - n) + 1 from by omega, wtx_step] at hw
 have hlen := wtext_len D num
 have hbl : b.length <= 4128831 := by
  have := congrArg List.length hw
  rw [List.length_append] at this
  omega
 refine sq (bk (sq (rg ?_)))
 refine cl hT 2 rfl (areaC num hn) ?_
 rintro v15 K15 hs15 ⟨rfl, rfl, rfl⟩
 refine cl hT 1 rfl (Ct.at 1 rfl (readH db D c oD (by omega) (hd.le le) (segA num) ((n : Nat) : Int))) ?_
 rintro v17 K17 hs17 ⟨_, rfl, rfl, le2, ⟨hr, rfl⟩ | ⟨s, as', cs, hr, hsl, rfl, xs⟩⟩
 ·rw [hr] at hw
  simp only [List.append_nil] at hw
  refine fin hT 5 rfl (th (sq (sq (rg ?_))))
  refine fin hT 2 rfl (th (ifT rfl ?_))
  refine sq (rg ?_)
  refine fin hT 2 rfl (th (rt (rT (rB (rT (rT (rB (WQ.frz fun K2 l1 l2 => ?_))))))))
  refine ret1 rfl rfl ⟨_, rfl, rfl, (le.trans le2).trans l1, ao, k, by rw [<- hw], ?_⟩
  rw [<- hw]
  exact o.isS.le l2
 ·rw [hr] at hw
  dsimp only at hw
  have hn3 : n < 65536 := by
   rcases Nat.lt_or_ge n 65536 with h | h
   ·exact h
   ·rw [oD.noRead _ _ (by omega)] at hr; cases hr
  obtain ⟨c0, hc0⟩ : ∃ c0, s[0]? = some c0 := ⟨s[0]'(by omega), List.getElem?_eq_getElem (by omega)⟩
  have hg0 : s.getD 0 0 = c0 := by rw [List.getD_eq_getElem?_getD, hc0]; rfl
  have hx0 : (bv s)[0]? = some (.int .u8 ((c0.toNat : Nat) : Int)) := by simp [bv, hc0]
  have hcl := c0.toNat_lt
  have hu : usedB s = min c0.toNat 63 := by unfold usedB; rw [hg0]
  obtain ⟨u, hu0⟩ : ∃ u, u = usedB s := ⟨_, rfl⟩
  have hu63 : u <= 63 := by omega
  rw [<- hu0] at hw hu
  obtain ⟨t, ht⟩ : ∃ t, t = (s.drop 1).take u := ⟨_, rfl⟩
  have htl : t.length = u := by rw [ht, List.length_take, List.length_drop]; omega
  rw [<- ht] at hw
  refine fin hT 5 rfl (th (sq (sq (rg ?_))))
  refine fin hT 2 rfl (th (ifF rfl ?_))
  refine sk (th (sq (rg ?_)))
  refine ix1 hT 1 0 rfl rfl rfl xs hx0 fun a24 hc24 => ?_
  refine ld hT 0 rfl (.inl rfl) hc24 ?_
  refine ar hT 0 rfl (i64w (by omega)) ?_
  refine ar hT 0 rfl (v' := .int .i64 ((u : Nat) : Int)) (by
   congr 1
   rw [hu]
   split <;> omega) ?_
  refine fin hT 1 rfl (th (sq (rg ?_)))
  refine ar hT 3 rfl (i64w (x := ((1 + u : Nat) : Int)) (by omega)) ?_
  refine sl hT 0 1 u rfl xs rfl rfl (by omega) (ys := bv t) (by
   show ((bv s).drop (1 * 1)).take (u * 1) = _
   rw [ht]
   simp [bv]) fun ao32 c32 x32 => ?_
  refine app hT 0 0 rfl rfl o (.inl rfl) x32 rfl (by decide) (bv_one _) (by show (b.length + u) * 1 <= _; omega) (by simp only [maxLen]; omega) fun ao33 c33 g33 o33 => ?_
  refine fin hT 1 rfl (th (sq (rg ?_)))
  have o33' : Own g33 ao33 (b ++ t).length c33 5 1 (bv (b ++ t)) := own_of o33 (by rw [List.length_append, htl]) (by rw [bv_append])
  refine cmpS hT 1 rfl fun b35 h35 => ?_
  refine fin hT 0 rfl (th (ifP h35 rfl (fun e3 => ?_) (fun e3 => ?_)))
  ·rw [if_pos (by omega), List.append_nil] at hw
   refine sq (rg ?_)
   refine fin hT 2 rfl (th (rt (rB (rT (rT (rB (WQ.frz fun K2 l1 l2 => ?_)))))))
   refine ret1 rfl rfl ⟨_, rfl, rfl, (le.trans le2).trans l1, ao33, c33, by rw [<- hw, List.length_append, htl], ?_⟩
   rw [<- hw]
   exact o33'.isS.le l2
  ·rw [if_neg (by omega), <- List.append_assoc] at hw
   refine sk (bl (th (rg ?_)))
   refine ar hT 1 rfl (i64w (x := ((n + 1 : Nat) : Int)) (by omega)) ?_
   refine fin hT 1 rfl ?_
   refine again (x := ((n, b), (ao, k, g), K15)) ((n + 1, b ++ t), (ao33, c33, g33), K17) ⟨rfl, rfl, ?_, rfl, trivial⟩ rfl rfl ⟨by dsimp only; rw [show 65537 - (n + 1) = 65536 - n from by omega]; exact hw, by dsimp only; omega, le.trans le2, o33'⟩ (by dsimp only; omega)
   dsimp only
   rw [List.length_append, htl]
   rfl
theorem errC {w0 : World} {K h hb : PH} {R : List PH} (rb : Nat) (s : Rd) (r : IsRd rb hb s h) : Ct Tryz.prog w0 106 [.pointer (some ⟨rb, 0, none⟩)] K (h :: R) (fun v K' hs' => K' = K /\ hs' = h :: R /\ v = .int .i64 s.2) := by
 obtain ⟨ao, cap, rfl, x⟩ := r
 refine enter Tryz.func106 (by kernel_rfl) rfl rfl rfl ?_
 refine sq (rg ?_)
 refine fin hT 1 rfl (th (sq (rg ?_)))
 refine ldp hT 3 0 rfl rfl rfl ?_
 refine fin hT 1 rfl (th (rt ?_))
 exact ret1 rfl rfl ⟨rfl, rfl, rfl⟩
theorem followsC {w0 : World} {K : PH} {m hs : List PH} (wb db : Nat) (W : Wl) (hW : WalM K wb db W m) (hb : W.first + W.recs.length <= wTop) (hr : W.recs.length <= 1000000000000) (hol : W.old.length <= 10000000000) (n idx : Nat) (hi : idx <= wTop) :
  Ct Tryz.prog w0 76 [.pointer (some ⟨wb, 0, none⟩), .agg #[.int .u64 ((n : Nat) : Int), .int .u64 ((idx : Nat) : Int)]] K (m ++ hs)
   (fun v K' hs' => K' = K /\ ∃ m', hs' = m' ++ hs /\ WalM K wb db (W.follows n idx).1 m' /\ v = .bool (W.follows n idx).2) := by
 obtain ⟨ob, aL, cL, aO, cO, oH, rH, gL, gO, rfl, hop, hL, hO⟩ := hW
 obtain ⟨op, first, recs, old, next, code⟩ := W
 dsimp only at *
 unfold wTop at hb hi
 refine enter Tryz.func76 (by kernel_rfl) rfl rfl rfl ?_
 refine sq (rg ?_)
 refine bx hT 0 rfl fun b3 => ?_
 refine WL.hs (pt b3 #[.int .u64 ((n : Nat) : Int), .int .u64 ((idx : Nat) : Int)] 144 :: pt wb (wlA db ob first (.slice aL recs.length cL) (.slice aO old.length cO) next code) 139 :: oH :: rH :: gL :: gO :: hs) rfl ?_
 refine fin hT 1 rfl (th ?_)
 refine jn (σ := Nat × List (List UInt8) × (Option Addr × Nat × PH)) (fun _ => [(0, .pointer (some ⟨wb, 0, none⟩)), (3, .pointer (some ⟨b3, 0, none⟩))])
  (fun s => pt b3 #[.int .u64 ((n : Nat) : Int), .int .u64 ((idx : Nat) : Int)] 144 :: pt wb (wlA db ob s.1 (.slice s.2.2.1 s.2.1.length s.2.2.2.1) (.slice aO old.length cO) next code) 139 :: oH :: rH :: s.2.2.2.2 :: gO :: hs)
  (fun s => SlZ 1 44 (recR K) s.2.2.2.2 s.2.2.1 s.2.1.length s.2.2.2.1 s.2.1 /\ s.1 <= idx /\ idx - s.1 <= s.2.1.length /\ (Wl.follows ⟨op, first, recs, old, next, code⟩ n idx) = (⟨op, s.1, s.2.1.take (idx - s.1), old ++ [(n, idx)], next, code⟩, true)) ?_ ?_
 ·refine bk (sq (rga [pt b3 #[.int .u64 ((n : Nat) : Int), .int .u64 ((idx : Nat) : Int)] 144, pt wb (wlA db ob first (.slice aL recs.length cL) (.slice aO old.length cO) next code) 139] 16 [0, 2, 4, 6, 8, 10, 12, 14, 16, 18, 20, 22, 24, 26, 28, 30] (by simp) (by kernel_rfl) (by kernel_rfl) ?_))
  refine dldp hT (by kernel_rfl) 3 1 rfl rfl rfl ?_
  refine dcmp hT (by kernel_rfl) 1 (old.length = 0) rfl (by simp) (fun h1 => ?_) (fun h1 => ?_)
  ·have e : (Wl.follows ⟨op, first, recs, old, next, code⟩ n idx) = (⟨op, idx, [], old ++ [(n, idx)], next, code⟩, true) := by unfold Wl.follows; rw [if_pos (.inl h1)]
   refine dend hT (by kernel_rfl) 10 rfl (th (ifT rfl (rg ?_)))
   refine ldp hT 3 0 rfl rfl rfl ?_
   refine stp hT 2 1 rfl rfl rfl rfl ?_
   refine stp hT 2 1 rfl rfl rfl rfl ?_
   refine fin hT 0 rfl (bl (WQ.loss 4 em rfl (.inr rfl) ?_))
   exact jx (idx, [], (none, 0, em)) ⟨SlZ.nil _ _, Nat.le_refl _, by dsimp only; omega, by rw [e]; simp⟩ ⟨rfl, rfl, trivial⟩ rfl rfl
  ·refine dldp hT (by kernel_rfl) 2 0 rfl rfl rfl ?_
   refine dldp hT (by kernel_rfl) 3 1 rfl rfl rfl ?_
   refine dcbS hT (by kernel_rfl) 0 (idx < first) rfl (by simp) fun b19 h19 => ?_
   refine dend hT (by kernel_rfl) 2 rfl (th (ifP h19 rfl (fun e2 => ?_) (fun e2 => ?_)))
   ·have e : (Wl.follows ⟨op, first, recs, old, next, code⟩ n idx) = (⟨op, idx, [], old ++ [(n, idx)], next, code⟩, true) := by unfold Wl.follows; rw [if_pos (.inr e2)]
    refine rg ?_
    refine ldp hT 3 0 rfl rfl rfl ?_
    refine stp hT 2 1 rfl rfl rfl rfl ?_
    refine stp hT 2 1 rfl rfl rfl rfl ?_
    refine fin hT 0 rfl (bl (WQ.loss 4 em rfl (.inr rfl) ?_))
    exact jx (idx, [], (none, 0, em)) ⟨SlZ.nil _ _, Nat.le_refl _, by dsimp only; omega, by rw [e]; simp⟩ ⟨rfl, rfl, trivial⟩ rfl rfl
   ·refine sq (rga [pt b3 #[.int .u64 ((n : Nat) : Int), .int .u64 ((idx : Nat) : Int)] 144, pt wb (wlA db ob first (.slice aL recs.length cL) (.slice aO old.length cO) next code) 139] 15 [0, 2, 4, 6, 8, 10, 12, 14, 16, 18, 20, 22, 24, 26, 28] (by simp) (by kernel_rfl) (by kernel_rfl) ?_)
    refine dldp hT (by kernel_rfl) 1 0 rfl rfl rfl ?_
    refine dldp hT (by kernel_rfl) 3 1 rfl rfl rfl ?_
    refine dar hT (by kernel_rfl) 0 rfl (v' := .int .u64 ((idx - first : Nat) : Int)) (by rw [show ((idx : Nat) : Int) - ((first : Nat) : Int) = ((idx - first : Nat) : Int) from by omega]; exact u64w (by omega)) ?_
    refine dldp hT (by kernel_rfl) 3 1 rfl rfl rfl ?_
    refine dar hT (by kernel_rfl) 1 rfl (u64w (x := ((recs.length : Nat) : Int)) (by omega)) ?_
    refine dcbS hT (by kernel_rfl) 0 (recs.length < idx - first) rfl (by simp) fun b43 h43 => ?_
    refine dend hT (by kernel_rfl) 1 rfl (th (ifP h43 rfl (fun e3 => ?_) (fun e3 => ?_)))
    ·have e : (Wl.follows ⟨op, first, recs, old, next, code⟩ n idx) = (⟨op, first, recs, old, next, code⟩, false) := by unfold Wl.follows; rw [if_neg (by rintro (g | g); exact h1 g; exact e2 g), if_pos e3]
     rw [e]
     refine sq (rg ?_)
     refine fin hT 1 rfl (th (rt (rB (jr (WQ.drop ?_)))))
     exact ret1 rfl rfl ⟨rfl, [_, _, _, _, _], rfl, ⟨ob, aL, cL, aO, cO, oH, rH, gL, gO, rfl, hop, hL, hO⟩, rfl⟩
    ·have e : (Wl.follows ⟨op, first, recs, old, next, code⟩ n idx) = (⟨op, first, recs.take (idx - first), old ++ [(n, idx)], next, code⟩, true) := by unfold Wl.follows; rw [if_neg (by rintro (g | g); exact h1 g; exact e2 g), if_neg e3]
     refine sk (bl ?_)
     exact jx (first, recs, (aL, cL, gL)) ⟨hL, by dsimp only; omega, by dsimp only; omega, e⟩ ⟨rfl, rfl, trivial⟩ rfl rfl
 ·clear hL
  rintro ⟨fi, rs, ⟨aR, cR, gR⟩⟩ ⟨hL, h1, h2, e⟩
  dsimp only at *
  rw [e]
  have hcap := hL.caps
  refine sq (rga [pt b3 #[.int .u64 ((n : Nat) : Int), .int .u64 ((idx : Nat) : Int)] 144, pt wb (wlA db ob fi (.slice aR rs.length cR) (.slice aO old.length cO) next code) 139] 15 [0, 2, 4, 6, 8, 10, 12, 14, 16, 18, 20, 22, 24, 26, 28, 31] (by simp) (by kernel_rfl) (by kernel_rfl) ?_)
  refine dldpw hT (by kernel_rfl) 4 1 rfl (by kernel_rfl) rfl rfl ?_
  refine dldpw hT (by kernel_rfl) 1 0 rfl (by kernel_rfl) rfl rfl ?_
  refine dldpw hT (by kernel_rfl) 3 1 rfl (by kernel_rfl) rfl rfl ?_
  refine dar hT (by kernel_rfl) 0 rfl (v' := .int .u64 ((idx - fi : Nat) : Int)) (by rw [show ((idx : Nat) : Int) - ((fi : Nat) : Int) = ((idx - fi : Nat) : Int) from by omega]; exact u64w (by omega)) ?_
  refine dslx hT (by kernel_rfl) 0 0 (idx - fi) rfl rfl rfl (by show ((idx - fi : Nat) : Int) = ((0 + (idx - fi) : Nat) : Int); omega) (by omega) ?_
  refine dact hT (by kernel_rfl) 2 rfl ?_
  refine stp hT 0 1 rfl rfl rfl rfl ?_
  refine dnext (.inl (by kernel_rfl)) ?_
  obtain ⟨gR2, hg2, hL2⟩ := hL.cut 0 (idx - fi) (by omega)
  have hlen : (rs.take (idx - fi)).length = idx - fi := by rw [List.length_take]; omega
  refine dend hT (by kernel_rfl) 0 rfl (th (WC.loss 4 gR2 rfl hg2 (sq (rga [pt wb (wlA db ob fi (.slice (cutA aR cR 0 1) (idx - fi) (cR - 0)) (.slice aO old.length cO) next code) 139, pt b3 #[.int .u64 ((n : Nat) : Int), .int .u64 ((idx : Nat) : Int)] 144] 10 [0, 2, 4, 6, 8, 10, 13, 15, 16, 18, 21] (by intro h hm; simp at hm; rcases hm with rfl | rfl; exact List.mem_cons_of_mem _ (List.mem_cons_self ..); exact List.mem_cons_self ..) (by kernel_rfl) (by kernel_rfl) ?_))))
  refine dldpw hT (by kernel_rfl) 4 0 rfl (by kernel_rfl) rfl rfl ?_
  refine dldS hT (by kernel_rfl) 0 1 rfl (by kernel_rfl) rfl (by kernel_rfl) ?_
  refine dact hT (by kernel_rfl) 0 rfl ?_
  refine lit hT 0 #[.int .u64 ((n : Nat) : Int), .int .u64 ((idx : Nat) : Int)] rfl (by decide) (by kernel_rfl) fun b65 => ?_
  have hA : ∀ h ∈ [pt wb (wlA db ob fi (.slice (cutA aR cR 0 1) (idx - fi) (cR - 0)) (.slice aO old.length cO) next code) 139, pt b3 #[.int .u64 ((n : Nat) : Int), .int .u64 ((idx : Nat) : Int)] 144], ∀ x : PH, ∀ t : List PH, h ∈ x :: pt b3 #[.int .u64 ((n : Nat) : Int), .int .u64 ((idx : Nat) : Int)] 144 :: pt wb (wlA db ob fi (.slice (cutA aR cR 0 1) (idx - fi) (cR - 0)) (.slice aO old.length cO) next code) 139 :: t := by
   intro h hm x t
   simp at hm
   rcases hm with rfl | rfl
   ·exact List.mem_cons_of_mem _ (List.mem_cons_of_mem _ (List.mem_cons_self ..))
   ·exact List.mem_cons_of_mem _ (List.mem_cons_self ..)
  refine dnex [pt wb (wlA db ob fi (.slice (cutA aR cR 0 1) (idx - fi) (cR - 0)) (.slice aO old.length cO) next code) 139, pt b3 #[.int .u64 ((n : Nat) : Int), .int .u64 ((idx : Nat) : Int)] 144] (fun h hm => hA h hm _ _) (by simp) rfl ?_
  refine dact hT (by kernel_rfl) 0 rfl ?_
  refine appSq hT 0 6 [.int .u64 ((n : Nat) : Int), .int .u64 ((idx : Nat) : Int)] (n, idx) rfl rfl rfl hO rfl rfl (by simp [Value.oneCell']) rfl (by decide) (by show (old.length + 1) * 16 <= _; omega) (by simp only [maxLen]; omega) fun ao66 c66 g66 o66 => ?_
  refine dnex [pt wb (wlA db ob fi (.slice (cutA aR cR 0 1) (idx - fi) (cR - 0)) (.slice aO old.length cO) next code) 139, pt b3 #[.int .u64 ((n : Nat) : Int), .int .u64 ((idx : Nat) : Int)] 144] (fun h hm => hA h hm _ _) (by simp) rfl ?_
  refine dact hT (by kernel_rfl) 2 rfl ?_
  refine stp hT 0 2 rfl rfl rfl rfl ?_
  refine dnext (.inl (by kernel_rfl)) ?_
  refine dend hT (by kernel_rfl) 0 rfl (th (WC.drop (WC.drop (sq (rg ?_)))))
  refine fin hT 1 rfl (th (rt ?_))
  refine ret1 rfl rfl ⟨rfl, [_, _, _, _, _], rfl, ⟨ob, cutA aR cR 0 1, cR - 0, ao66, c66, oH, rH, gR2, g66, ?_, hop, ?_, ?_⟩, rfl⟩
  ·dsimp only; rw [hlen, List.length_append]; rfl
  ·dsimp only; rw [hlen, <- List.drop_zero (l := rs)]; exact hL2
  ·dsimp only; rw [List.length_append]; exact o66
theorem open1C {w0 : World} {K rd : PH} {m hs : List PH} (wb db b8 b12 : Nat) (W : Wl) (hW : WalM K wb db W m) (hb : W.first + W.recs.length <= wTop) (hr : W.recs.length <= 1000000000000) (hol : W.old.length <= 10000000000) (n idx : Nat) (hi : idx <= wTop) :
  Ct Tryz.prog w0 75 [.int .u64 ((idx : Nat) : Int), .pointer (some ⟨b8, 0, none⟩), .pointer (some ⟨b12, 0, none⟩)] K (m ++ (rd :: pt b12 #[.int .u64 ((n : Nat) : Int)] 37 :: pt b8 #[.pointer (some ⟨wb, 0, none⟩)] 72 :: hs))
   (fun v K' hs' => K' = K /\ ∃ m', hs' = m' ++ (rd :: pt b12 #[.int .u64 ((n : Nat) : Int)] 37 :: pt b8 #[.pointer (some ⟨wb, 0, none⟩)] 72 :: hs) /\ WalM K wb db (W.follows n idx).1 m' /\ v = .bool (W.follows n idx).2) := by
 obtain ⟨ob, aL, cL, aO, cO, oH, rH, gL, gO, rfl, hop, hL, hO⟩ := id hW
 refine enter Tryz.func75 (by kernel_rfl) rfl rfl rfl ?_
 refine sq (rg ?_)
 refine fin hT 1 rfl (th (sq (rg ?_)))
 refine ldp hT 0 7 rfl rfl rfl ?_
 refine ldp hT 0 6 rfl rfl rfl ?_
 refine bd hT 1 (.agg #[.int .u64 ((n : Nat) : Int), .int .u64 ((idx : Nat) : Int)]) rfl (fun w => by kernel_rfl) ?_
 refine cl hT 0 rfl (followsC wb db W hW hb hr hol n idx hi) ?_
 rintro v9 K9 hs9 ⟨rfl, m', rfl, hW', rfl⟩
 refine fin hT 1 rfl (th (rt ?_))
 exact ret1 rfl rfl ⟨rfl, m', rfl, hW', rfl⟩
theorem open2C {w0 : World} {K rd b12 : PH} {m hs : List PH} (wb db b8 : Nat) (W : Wl) (hW : WalM K wb db W m) (hr : W.recs.length <= 1000000000000) (r : List UInt8) (ao : Option Addr) (k : Nat) (x : IsS K ao r.length k 1 (bv r)) :
  Ct Tryz.prog w0 77 [.slice ao r.length k, .pointer (some ⟨b8, 0, none⟩)] K (m ++ (rd :: b12 :: pt b8 #[.pointer (some ⟨wb, 0, none⟩)] 72 :: hs))
   (fun v K' hs' => K' = K /\ ∃ m', hs' = m' ++ (rd :: b12 :: pt b8 #[.pointer (some ⟨wb, 0, none⟩)] 72 :: hs) /\ WalM K wb db { W with recs := W.recs ++ [r] } m') := by
 obtain ⟨ob, aL, cL, aO, cO, oH, rH, gL, gO, rfl, hop, hL, hO⟩ := id hW
 refine enter Tryz.func77 (by kernel_rfl) rfl rfl rfl ?_
 refine rga [pt wb (wlA db ob W.first (.slice aL W.recs.length cL) (.slice aO W.old.length cO) W.next W.code) 139, pt b8 #[.pointer (some ⟨wb, 0, none⟩)] 72] 10 [0, 2, 4, 6, 8, 10, 13, 15, 16, 18, 21] (by simp) (by kernel_rfl) (by kernel_rfl) ?_
 refine dldpw hT (by kernel_rfl) 0 1 rfl (by kernel_rfl) rfl rfl ?_
 refine dldpw hT (by kernel_rfl) 0 1 rfl (by kernel_rfl) rfl rfl ?_
 refine dldpw hT (by kernel_rfl) 2 0 rfl (by kernel_rfl) rfl rfl ?_
 refine dact hT (by kernel_rfl) 1 rfl ?_
 refine lit hT 0 #[.slice ao r.length k] rfl (by decide) (by kernel_rfl) fun b9 => ?_
 refine dnex [pt wb (wlA db ob W.first (.slice aL W.recs.length cL) (.slice aO W.old.length cO) W.next W.code) 139, pt b8 #[.pointer (some ⟨wb, 0, none⟩)] 72] (by simp) (by simp) rfl ?_
 refine dact hT (by kernel_rfl) 0 rfl ?_
 refine appSq hT 0 4 [.slice ao r.length k] r rfl rfl rfl hL ⟨ao, k, rfl, x⟩ rfl (by simp [Value.oneCell']) rfl (by decide) (by show (W.recs.length + 1) * 24 <= _; omega) (by simp only [maxLen]; omega) fun ao10 c10 g10 o10 => ?_
 refine dnex [pt wb (wlA db ob W.first (.slice aL W.recs.length cL) (.slice aO W.old.length cO) W.next W.code) 139, pt b8 #[.pointer (some ⟨wb, 0, none⟩)] 72] (by simp) (by simp) rfl ?_
 refine dact hT (by kernel_rfl) 2 rfl ?_
 refine stp hT 0 1 rfl rfl rfl rfl ?_
 refine dnext (.inl (by kernel_rfl)) ?_
 refine dend hT (by kernel_rfl) 0 rfl (WQ.drop ?_)
 refine end0 rfl ⟨rfl, [_, _, _, _, _], rfl, ⟨ob, ao10, c10, aO, cO, oH, rH, g10, gO, ?_, hop, ?_, hO⟩⟩
 ·dsimp only; rw [List.length_append]; rfl
 ·dsimp only; rw [List.length_append]; exact o10
end Go.Proofs.YtcncpbolcigpnaaGreat
end
section
namespace Go.En
theorem rBytes_dec {m : Int} {b : List UInt8} (h : (rBytes m (b, 0)).2.2 = 0) : (rBytes m (b, 0)).2.1.length < b.length /\ ((rBytes m (b, 0)).1.length : Int) <= m.toNat := by
 unfold rBytes at h ⊢
 dsimp only at h ⊢
 by_cases h1 : (rUint m.toNat (b, 0)).2.2 = 0
 ·rw [if_pos h1] at h ⊢
  obtain ⟨g1, g2⟩ := rUint_ok h1
  have hp : 0 < (uint (rUint m.toNat (b, 0)).1).length := by rw [uint]; split <;> simp
  have hl := congrArg List.length g1
  rw [List.length_append] at hl
  by_cases h2 : (rUint m.toNat (b, 0)).2.1.length < (rUint m.toNat (b, 0)).1
  ·rw [if_pos h2] at h; simp at h
  ·rw [if_neg h2]
   dsimp only
   rw [List.length_drop, List.length_take]
   omega
 ·rw [if_neg h1] at h; exact absurd h h1
theorem wrecs_step (f : Nat) (r : Rd) : wrecs (f + 1) r = if (rBytes 512 r).2.2 = 0 then (rBytes 512 r).1 :: wrecs f (rBytes 512 r).2 else [] := rfl
theorem uvv_get {l : List Nat} {j n : Nat} (h : l[j]? = some n) : (uvv l)[j]? = some (.int .u64 ((n : Nat) : Int)) := by simp [uvv, h]
theorem uvv_app (a b : List Nat) : uvv (a ++ b) = uvv a ++ uvv b := by simp [uvv]
theorem wnums_app (a b : List Int) : wnums (a ++ b) = wnums a ++ wnums b := by simp [wnums]
theorem wnext_snoc (a : List Int) (x : Int) : wnext (a ++ [x]) = if x % 4 = 1 then x.toNat / 4 + 1 else wnext a := by
 unfold wnext
 rw [wnums_app, List.foldl_append]
 unfold wnums
 by_cases h : x % 4 = 1
 ·simp [h]
 ·simp [h]
theorem wnums_len (a : List Int) : (wnums a).length <= a.length := by
 unfold wnums
 rw [List.length_map]
 exact List.length_filter_le _ _
theorem wsettle_step (g : List Nat) (n : Nat) (r : List Nat) (D : Dk) : wsettle g (n :: r) D = if (wset1 D g n).2 = 0 then wsettle g r (wset1 D g n).1 else wset1 D g n := rfl
theorem DOk.set1 {c : Nat} {D : Dk} (o : DOk c D) (g : List Nat) (n : Nat) : DOk (c + 1) (wset1 D g n).1 := by
 unfold wset1
 split
 ·exact o.free _
 ·exact o.sync _
theorem DOk.settle : ∀ (l : List Nat) (g : List Nat) (D : Dk) (c : Nat), DOk c D -> DOk (c + l.length) (wsettle g l D).1
 | [], g, D, c, o => o.up (by omega)
 | n :: r, g, D, c, o => by
  rw [wsettle_step]
  split
  ·exact (DOk.settle r g _ _ (o.set1 g n)).up (by simp only [List.length_cons]; omega)
  ·exact (o.set1 g n).up (by simp only [List.length_cons]; omega)
end Go.En
namespace Go.Proofs.YtcncpbolcigpnaaGreat
open Go.En
attribute [local irreducible] Code.wp wpList Calls
theorem IsRd.up {rb : Nat} {hb hb' : PH} {s : Rd} {h : PH} (l : Le hb hb') (r : IsRd rb hb s h) : IsRd rb hb' s h := let ⟨a, c, h1, h2⟩ := r; ⟨a, c, h1, h2.le l⟩
theorem readWC {w0 : World} {K dh : PH} {m hs : List PH} (wb db b8 b12 : Nat) (W : Wl) (hW : WalM K wb db W m) (hb : W.first + W.recs.length <= wTop) (hr : W.recs.length <= 900000000000) (hol : W.old.length <= 10000000000) (D : Dk) (c : Nat) (oD : D.Ok c) (hc : c <= 1000000000) (hd : DskH K db D dh) (n : Nat) (hn : n <= 2305843009213693952) :
  Ct Tryz.prog w0 74 [.pointer (some ⟨db, 0, none⟩), .int .u64 ((n : Nat) : Int), .func (.func 75) #[] #[.pointer (some ⟨b8, 0, none⟩), .pointer (some ⟨b12, 0, none⟩)], .func (.func 77) #[] #[.pointer (some ⟨b8, 0, none⟩)]] K
   (m ++ (pt b12 #[.int .u64 ((n : Nat) : Int)] 37 :: pt b8 #[.pointer (some ⟨wb, 0, none⟩)] 72 :: dh :: hs))
   (fun v K' hs' => Le K K' /\ ∃ m', hs' = m' ++ (pt b12 #[.int .u64 ((n : Nat) : Int)] 37 :: pt b8 #[.pointer (some ⟨wb, 0, none⟩)] 72 :: dh :: hs) /\ WalM K' wb db (wread D n W).1 m' /\ v = .tuple #[.bool (wread D n W).2.1, .bool (wread D n W).2.2]) := by
 obtain ⟨ob, aL, cL, aO, cO, oH, rH, gL, gO, rfl, hop, hL, hO⟩ := id hW
 obtain ⟨X, hX⟩ : ∃ X, X = wtext D n := ⟨_, rfl⟩
 have hXl := wtext_len D n
 rw [<- hX] at hXl
 have e0 : wread D n W = if (rUint wTop (X, 0)).2.2 ≠ 0 then (W, true, true)
  else if (W.follows n (rUint wTop (X, 0)).1).2 = false then ((W.follows n (rUint wTop (X, 0)).1).1, false, false)
  else ({ (W.follows n (rUint wTop (X, 0)).1).1 with recs := (W.follows n (rUint wTop (X, 0)).1).1.recs ++ wrecs (X.length + 1) (rUint wTop (X, 0)).2 }, true, false) := by rw [hX]; rfl
 rw [e0]
 clear e0
 refine enter Tryz.func74 (by kernel_rfl) rfl rfl rfl ?_
 refine sq (rg ?_)
 refine fin hT 2 rfl (th (sq (rg ?_)))
 refine cl hT 2 rfl (Ct.at 7 rfl (textC db D c oD hc hd n hn)) ?_
 rintro v15 K15 hs15 ⟨dh, rfl, rfl, le, ao, k, rfl, xX⟩
 rw [<- hX] at xX ⊢
 refine cl hT 0 rfl (readC ao k X (.inl rfl) xX (by omega)) ?_
 rintro v16 K16 hs16 ⟨rfl, rb, rd, hbb, rfl, rfl, ir⟩
 refine WL.perm (List.Perm.swap _ _ _) (WL.frz fun K1 l1 l2 => ?_)
 replace ir := ir.up l2
 refine WL.perm (hs' := [_, _, _, _, _] ++ (rd :: _ :: _ :: _ :: hs)) (List.perm_middle (l₁ := [_, _, _, _, _])).symm ?_
 have le1 := le.trans l1
 have hW1 : WalM K1 wb db W [pt wb (wlA db ob W.first (.slice aL W.recs.length cL) (.slice aO W.old.length cO) W.next W.code) 139, oH, rH, gL, gO] := hW.le le1
 refine fin hT 1 rfl (th (sq (rg ?_)))
 refine cl hT 1 rfl (Ct.at 5 rfl (uintC (.inl rfl) wTop (X, 0) (by dsimp only; omega) ir)) ?_
 rintro v18 K18 hs18 ⟨rd2, rfl, rfl, rfl, ir2⟩
 obtain ⟨U, hU⟩ : ∃ U, U = rUint wTop (X, 0) := ⟨_, rfl⟩
 have hUl := (rUint_bd wTop X 0).2
 have hU0 : U.2.2 = 0 -> U.1 <= wTop := by rw [hU]; exact fun h => (rUint_ok h).2
 rw [<- hU] at ir2 hUl ⊢
 refine fin hT 1 rfl (th (sq (sq (rg ?_))))
 refine cl hT 1 rfl (Ct.keep 5 rfl (errC rb U.2 ir2)) ?_
 rintro v20 K20 hs20 ⟨rfl, rfl, rfl⟩
 refine cmpS hT 0 rfl fun b21 h21 => ?_
 refine fin hT 0 rfl (th (ifP h21 rfl (fun e2 => ?_) (fun e2 => ?_)))
 ·rw [if_pos e2]
  refine sq (rg ?_)
  refine fin hT 2 rfl (th (rt (rT (WQ.del 5 rfl ?_))))
  exact ret2 rfl rfl rfl ⟨le1, [_, _, _, _, _], rfl, hW1, rfl⟩
 ·have e2 := Decidable.not_not.1 e2
  have hUt := hU0 e2
  rw [if_neg (by rw [e2]; simp)]
  refine sk (th (sq (sq (rg ?_))))
  refine cl hT 2 rfl (open1C wb db b8 b12 W hW1 hb (by omega) hol n U.1 hUt) ?_
  rintro v24 K24 hs24 ⟨rfl, m2, rfl, hW2, rfl⟩
  obtain ⟨V, hV⟩ : ∃ V, V = W.follows n U.1 := ⟨_, rfl⟩
  have hVr : V.1.recs.length <= W.recs.length := by
   rw [hV]
   unfold Wl.follows
   split
   ·simp
   ·split
    ·exact Nat.le_refl _
    ·dsimp only; rw [List.length_take]; omega
  rw [<- hV] at hW2 ⊢
  refine nmS fun b24 h24 => ?_
  refine cbS hT 0 _ rfl (bnot h24) fun b25 h25 => ?_
  refine fin hT 0 rfl (th (ifP h25 rfl (fun e3 => ?_) (fun e3 => ?_)))
  ·have e3 : V.2 = false := by cases h : V.2 with | false => rfl | true => exact absurd h e3
   rw [if_pos e3]
   obtain ⟨ob2, aL2, cL2, aO2, cO2, oH2, rH2, gL2, gO2, rfl, _⟩ := id hW2
   refine sq (rg ?_)
   refine fin hT 2 rfl (th (rt (rT (WQ.del 5 rfl ?_))))
   exact ret2 rfl rfl rfl ⟨le1, [_, _, _, _, _], rfl, hW2, rfl⟩
  ·have e3 : V.2 = true := Decidable.not_not.1 e3
   rw [if_neg (by rw [e3]; simp)]
   refine sk (th (bk ?_))
   refine loop (σ := (Wl × Rd × Nat) × (List PH × PH) × PH) (fun _ => [(3, .func (.func 77) #[] #[.pointer (some ⟨b8, 0, none⟩)]), (10, .pointer (some ⟨rb, 0, none⟩))]) (fun s => s.2.2) (fun s => s.2.1.1 ++ (s.2.1.2 :: pt b12 #[.int .u64 ((n : Nat) : Int)] 37 :: pt b8 #[.pointer (some ⟨wb, 0, none⟩)] 72 :: dh :: hs))
    (fun s => { s.1.1 with recs := s.1.1.recs ++ wrecs s.1.2.2 s.1.2.1 } = { V.1 with recs := V.1.recs ++ wrecs (X.length + 1) U.2 } /\ s.1.2.1.1.length < s.1.2.2 /\ s.1.2.1.2 = 0 /\ s.1.1.recs.length + s.1.2.1.1.length <= 999000000000 /\ s.1.2.1.1.length <= 4128831 /\ Le K s.2.2 /\ WalM s.2.2 wb db s.1.1 s.2.1.1 /\ IsRd rb s.2.2 s.1.2.1 s.2.1.2) (fun s => s.1.2.2)
    ((V.1, U.2, X.length + 1), (m2, rd2), K24) ⟨rfl, by dsimp only; omega, e2, by dsimp only; omega, by dsimp only; omega, le1, hW2, ir2⟩ ⟨rfl, rfl, trivial⟩ rfl rfl ?_
   clear hW2 hVr
   clear m2
   rintro ⟨⟨Y, ⟨rs, re⟩, f⟩, ⟨m2, rd3⟩, K2⟩ ⟨hw, hlf, rfl, hbd, hrs, le2, hW2, ir3⟩
   dsimp only at *
   obtain ⟨f, rfl⟩ : ∃ g, f = g + 1 := ⟨f - 1, by omega⟩
   rw [wrecs_step] at hw
   obtain ⟨G, hG⟩ : ∃ G, G = rBytes 512 (rs, 0) := ⟨_, rfl⟩
   have hGd : G.2.2 = 0 -> G.2.1.length < rs.length := by rw [hG]; exact fun h => (rBytes_dec h).1
   rw [<- hG] at hw
   obtain ⟨ob2, aL2, cL2, aO2, cO2, oH2, rH2, gL2, gO2, rfl, hop2, hL2, hO2⟩ := id hW2
   refine bk (sq (rg ?_))
   refine cl hT 1 rfl (Ct.atN 5 rfl (bytesC (.inl rfl) 512 (by decide) (rs, 0) (by dsimp only; omega) ir3)) ?_
   rintro v27 K27 hs27 ⟨rd4, _, rfl, rfl, hx, ao', c', rfl, rfl, ox, ir4⟩
   rw [<- hG] at ox ir4 ⊢
   refine WL.frz fun K3 l3 l4 => ?_
   refine fin hT 1 rfl (th (sq (sq (rg ?_))))
   refine cl hT 1 rfl (Ct.keep 5 rfl (errC rb G.2 (ir4.up l3))) ?_
   rintro v29 K29 hs29 ⟨rfl, rfl, rfl⟩
   refine cmpS hT 0 rfl fun b30 h30 => ?_
   refine fin hT 0 rfl (th (ifP h30 rfl (fun e5 => ?_) (fun e5 => ?_)))
   ·rw [if_neg e5, List.append_nil] at hw
    refine sq (rg ?_)
    refine fin hT 2 rfl (th (rt (rT (rB (rT (rB (WQ.del 5 rfl ?_)))))))
    rw [<- hw]
    exact ret2 rfl rfl rfl ⟨le2.trans l3, [_, _, _, _, _], rfl, hW2.le l3, rfl⟩
   ·have e5 := Decidable.not_not.1 e5
    have hgd := hGd e5
    rw [if_pos e5] at hw
    refine sk (th (rg ?_))
    have hW3 : WalM K29 wb db Y [pt wb (wlA db ob2 Y.first (.slice aL2 Y.recs.length cL2) (.slice aO2 Y.old.length cO2) Y.next Y.code) 139, oH2, rH2, gL2, gO2] := hW2.le l3
    refine cl hT 2 rfl (open2C wb db b8 Y hW3 (by omega) G.1 ao' c' (ox.isS.le l4)) ?_
    rintro v33 K33 hs33 ⟨rfl, m5, rfl, hW5⟩
    refine fin hT 0 rfl (bl ?_)
    refine again (x := ((Y, (rs, 0), f + 1), (m5, rd4), K33)) (({ Y with recs := Y.recs ++ [G.1] }, G.2, f), (m5, rd4), K33) ⟨rfl, rfl, trivial⟩ rfl rfl ⟨by dsimp only; rw [List.append_assoc]; exact hw, by dsimp only; omega, e5, by dsimp only; rw [List.length_append]; simp only [List.length_cons, List.length_nil]; omega, by dsimp only; omega, le2.trans l3, hW5, ir4.up l3⟩ (by dsimp only; omega)
theorem numbersC {w0 : World} {K dh x : PH} {m hs : List PH} (wb db : Nat) (W : Wl) (hW : WalM K wb db W m) (D : Dk) (c : Nat) (oD : DOk c D) (hc : c <= 1000000000) (hd : DskH K db D dh) (h0 : W.next = 0) :
  Ct Tryz.prog w0 73 [.pointer (some ⟨wb, 0, none⟩)] K (m ++ (x :: dh :: hs))
   (fun v K' hs' => Le K K' /\ ∃ m', hs' = m' ++ (x :: dh :: hs) /\ WalM K' wb db { W with next := wnext (areasL D) } m' /\ ∃ ao k, v = .slice ao (wnums (areasL D)).length k /\ IsS K' ao (wnums (areasL D)).length k 1 (uvv (wnums (areasL D)))) := by
 obtain ⟨ob, aL, cL, aO, cO, oH, rH, gL, gO, rfl, hop, hL, hO⟩ := hW
 obtain ⟨op, first, recs, old, next, code⟩ := W
 dsimp only at *
 subst h0
 have hbd := areasL_bd oD
 have hal := areasL_len oD
 obtain ⟨l, hl⟩ : ∃ l, l = areasL D := ⟨_, rfl⟩
 rw [<- hl] at hbd hal ⊢
 refine enter Tryz.func73 (by kernel_rfl) rfl rfl rfl ?_
 refine sq (rg ?_)
 refine fin hT 1 rfl (th (sq (rg ?_)))
 refine fin hT 1 rfl (th (sq (sq (rg ?_))))
 refine ldp hT 3 0 rfl rfl rfl ?_
 refine cl hT 0 rfl (Ct.at 6 rfl (areasH db D c oD (by omega) hd)) ?_
 rintro v10 K10 hs10 ⟨dh, rfl, rfl, le, ao, cc, rfl, xA⟩
 rw [<- hl] at xA ⊢
 refine fin hT 2 rfl (th (bk (WC.em ?_)))
 refine loop (σ := Nat × (Option Addr × Nat × PH)) (fun s => [(0, .pointer (some ⟨wb, 0, none⟩)), (3, .slice s.2.1 (wnums (l.take s.1)).length s.2.2.1), (10, .slice ao l.length cc), (11, .int .i64 ((l.length : Nat) : Int)), (12, .int .i64 ((s.1 : Nat) : Int))]) (fun _ => K10)
  (fun s => s.2.2.2 :: pt wb (wlA db ob first (.slice aL recs.length cL) (.slice aO old.length cO) (wnext (l.take s.1)) code) 139 :: oH :: rH :: gL :: gO :: x :: dh :: hs)
  (fun s => s.1 <= l.length /\ Own s.2.2.2 s.2.1 (wnums (l.take s.1)).length s.2.2.1 37 1 (uvv (wnums (l.take s.1)))) (fun s => l.length - s.1) (0, (none, 0, em)) ⟨Nat.zero_le _, Own.nil _ _⟩ ⟨rfl, rfl, rfl, rfl, rfl, trivial⟩ rfl rfl ?_
 rintro ⟨j, ⟨an, cn, gn⟩⟩ ⟨hj, o⟩
 dsimp only at *
 refine sq (rg ?_)
 refine cmpS hT 0 rfl fun b13 h13 => ?_
 refine fin hT 0 rfl (th (sq (ifP h13 rfl (fun e2 => ?_) (fun e2 => ?_))))
 ·have hjl : j < l.length := by omega
  obtain ⟨a, ha⟩ : ∃ a, l[j]? = some a := ⟨l[j], List.getElem?_eq_getElem hjl⟩
  have hab := hbd a (List.mem_of_getElem? ha)
  obtain ⟨n, rfl⟩ := Int.eq_ofNat_of_zero_le hab.1
  have htk : l.take (j + 1) = l.take j ++ [((n : Nat) : Int)] := by rw [List.take_add_one, ha]; rfl
  have hnl := wnums_len (l.take j)
  rw [List.length_take] at hnl
  refine sk (th (sq (bk (sq (rg ?_)))))
  refine ix1 hT 0 j rfl rfl rfl xA (ivu_get ha) fun a14 hc14 => ?_
  refine ld hT 0 rfl (.inl rfl) hc14 ?_
  refine fin hT 1 rfl (th (sq (rg ?_)))
  refine ar hT 1 rfl (u_rem .u64 n 4) ?_
  refine cmpS hT 0 rfl fun b18 h18 => ?_
  refine fin hT 0 rfl (th (ifP h18 rfl (fun e4 => ?_) (fun e4 => ?_)))
  ·have en : wnums [((n : Nat) : Int)] = [n / 4] := by
    unfold wnums
    have : ((n : Nat) : Int) % 4 = 1 := by omega
    simp [this]
   have en1 : wnums (l.take (j + 1)) = wnums (l.take j) ++ [n / 4] := by rw [htk, wnums_app, en]
   have en2 : wnext (l.take (j + 1)) = n / 4 + 1 := by rw [htk, wnext_snoc, if_pos (by omega)]; rfl
   refine sq (rg ?_)
   refine ar hT 2 rfl (u64quo n 4 (by omega)) ?_
   refine lit hT 0 #[.int .u64 ((n / 4 : Nat) : Int)] rfl (by decide) (by kernel_rfl) fun b22 => ?_
   refine app hT 0 1 rfl rfl o (.inr ⟨0, rfl⟩) (Own.ofPt (n := 1) (size := 1) rfl (by decide)).isS rfl (by decide) (by simp [Value.oneCell']) (by show ((wnums (l.take j)).length + 1) * 8 <= _; omega) (by simp only [maxLen]; omega) fun ao23 c23 g23 o23 => ?_
   refine fin hT 1 rfl (th (rg ?_))
   refine ar hT 2 rfl (u64quo n 4 (by omega)) ?_
   refine ar hT 0 rfl (u64w (x := ((n / 4 + 1 : Nat) : Int)) (by omega)) ?_
   refine stp hT 2 2 rfl rfl rfl rfl ?_
   refine fin hT 0 rfl (bl (th (rg (WL.drop ?_))))
   refine ar hT 0 rfl (i64w (x := ((j + 1 : Nat) : Int)) (by omega)) ?_
   refine fin hT 1 rfl ?_
   refine again (x := (j, (an, cn, gn))) (j + 1, (ao23, c23, g23)) ⟨rfl, ?_, rfl, rfl, rfl, trivial⟩ rfl ?_ ⟨by dsimp only; omega, ?_⟩ (by dsimp only; omega)
   ·dsimp only; rw [en1, List.length_append]; rfl
   ·dsimp only; rw [en2]; rfl
   ·dsimp only; rw [en1, List.length_append, uvv_app]; exact o23
  ·have en : wnums [((n : Nat) : Int)] = [] := by
    unfold wnums
    have : ¬ ((n : Nat) : Int) % 4 = 1 := by omega
    simp [this]
   have en1 : wnums (l.take (j + 1)) = wnums (l.take j) := by rw [htk, wnums_app, en, List.append_nil]
   have en2 : wnext (l.take (j + 1)) = wnext (l.take j) := by rw [htk, wnext_snoc, if_neg (by omega)]
   refine sk (bl (th (rg ?_)))
   refine ar hT 0 rfl (i64w (x := ((j + 1 : Nat) : Int)) (by omega)) ?_
   refine fin hT 1 rfl ?_
   refine again (x := (j, (an, cn, gn))) (j + 1, (an, cn, gn)) ⟨rfl, by dsimp only; rw [en1]; rfl, rfl, rfl, rfl, trivial⟩ rfl (by dsimp only; rw [en2]) ⟨by dsimp only; omega, by dsimp only; rw [en1]; exact o⟩ (by dsimp only; omega)
 ·obtain rfl : j = l.length := by omega
  rw [List.take_length] at o ⊢
  refine ex (xt (xt (xb (th (sq (rg ?_))))))
  refine fin hT 2 rfl (th (rt (WQ.frz fun K2 l1 l2 => ?_)))
  exact ret1 rfl rfl ⟨le.trans l1, [_, _, _, _, _], rfl, ⟨ob, aL, cL, aO, cO, oH, rH, gL, gO, rfl, hop, hL.imp fun _ _ h => h.le (le.trans l1), hO⟩, an, cn, rfl, o.isS.le l2⟩
theorem containsC {w0 : World} {K : PH} {hs : List PH} (ao : Option Addr) (k : Nat) (l : List Nat) (x : IsS K ao l.length k 1 (uvv l)) (hl : l.length <= 1099511627776) (n : Nat) :
  Ct Tryz.prog w0 107 [.slice ao l.length k, .int .u64 ((n : Nat) : Int)] K hs (fun v K' hs' => K' = K /\ hs' = hs /\ ∃ t : Bool, v = .bool t /\ (t = true ↔ n ∈ l)) := by
 have hidx : Ct Tryz.prog w0 124 [.slice ao l.length k, .int .u64 ((n : Nat) : Int)] K hs (fun v K' hs' => K' = K /\ hs' = hs /\ ∃ i : Int, v = .int .i64 i /\ (0 <= i ↔ n ∈ l)) := by
  refine enter Tryz.func124 (by kernel_rfl) rfl rfl rfl ?_
  refine sq (rg ?_)
  refine fin hT 1 rfl (th (sq (sq (rg ?_))))
  refine fin hT 3 rfl (th (bk ?_))
  refine loop (σ := Nat) (fun j => [(0, .slice ao l.length k), (1, .int .u64 ((n : Nat) : Int)), (7, .int .i64 ((l.length : Nat) : Int)), (8, .int .i64 ((j : Nat) : Int))]) (fun _ => K) (fun _ => hs) (fun j => j <= l.length /\ n ∉ l.take j) (fun j => l.length - j) 0 ⟨Nat.zero_le _, by simp⟩ ⟨rfl, rfl, rfl, rfl, trivial⟩ rfl rfl ?_
  rintro j ⟨hj, hno⟩
  refine sq (rg ?_)
  refine cmpS hT 0 rfl fun b9 h9 => ?_
  refine fin hT 0 rfl (th (sq (ifP h9 rfl (fun e2 => ?_) (fun e2 => ?_))))
  ·have hjl : j < l.length := by omega
   obtain ⟨a, ha⟩ : ∃ a, l[j]? = some a := ⟨l[j], List.getElem?_eq_getElem hjl⟩
   refine sk (th (sq (bk (sq (rg ?_)))))
   refine fin hT 2 rfl (th (sq (rg ?_)))
   refine ix1 hT 3 j rfl rfl rfl x (uvv_get ha) fun a14 hc14 => ?_
   refine ld hT 0 rfl (.inl rfl) hc14 ?_
   refine cmpS hT 0 rfl fun b16 h16 => ?_
   refine fin hT 0 rfl (th (ifP h16 rfl (fun e4 => ?_) (fun e4 => ?_)))
   ·refine sq (rg ?_)
    refine fin hT 2 rfl (th (rt (rB (rT (rT (rB (rT ?_)))))))
    refine ret1 rfl rfl ⟨rfl, rfl, ((j : Nat) : Int), rfl, fun _ => ?_, fun _ => by omega⟩
    have : n = a := by omega
    rw [this]
    exact List.mem_of_getElem? ha
   ·refine sk (bl (th (rg ?_)))
    refine ar hT 0 rfl (i64w (x := ((j + 1 : Nat) : Int)) (by omega)) ?_
    refine fin hT 1 rfl ?_
    refine again (x := j) (j + 1) ⟨rfl, rfl, rfl, rfl, trivial⟩ rfl rfl ⟨by omega, ?_⟩ (by omega)
    rw [List.take_add_one, ha]
    simp only [Option.toList_some, List.mem_append, List.mem_singleton, not_or]
    exact ⟨hno, by omega⟩
  ·rw [List.take_of_length_le (by omega)] at hno
   refine ex (xt (xt (xb (th (sq (rg ?_))))))
   refine fin hT 1 rfl (th (rt ?_))
   exact ret1 rfl rfl ⟨rfl, rfl, -1, rfl, fun h => absurd h (by decide), fun h => absurd h hno⟩
 refine enter Tryz.func107 (by kernel_rfl) rfl rfl rfl ?_
 refine sq (rg ?_)
 refine fin hT 1 rfl (th (sq (rg ?_)))
 refine cl hT 2 rfl hidx ?_
 rintro v7 K7 hs7 ⟨rfl, rfl, i, rfl, hi⟩
 refine cmpS hT 0 rfl fun b8 h8 => ?_
 refine fin hT 1 rfl (th (rt ?_))
 exact ret1 rfl rfl ⟨rfl, rfl, b8, rfl, h8.trans hi⟩
theorem settleC {w0 : World} {K dh x : PH} {m hs : List PH} (wb db : Nat) (W : Wl) (hW : WalM K wb db W m) (D : Dk) (c : Nat) (oD : DOk c D) (hc : c <= 499000000) (hd : DskH K db D dh) (l g : List Nat) (al : Option Addr) (kl : Nat) (xl : IsS K al l.length kl 1 (uvv l)) (ag : Option Addr) (kg : Nat) (xg : IsS K ag g.length kg 1 (uvv g)) (hll : l.length <= c) (hgl : g.length <= c) (hbd : ∀ n ∈ l, n <= 2305843009213693952) :
  Ct Tryz.prog w0 78 [.pointer (some ⟨wb, 0, none⟩), .slice al l.length kl, .slice ag g.length kg] K (m ++ (x :: dh :: hs))
   (fun v K' hs' => K' = K /\ ∃ dh', hs' = m ++ (x :: dh' :: hs) /\ DskH K db (wsettle g l D).1 dh' /\ v = .int .i64 (wsettle g l D).2) := by
 obtain ⟨ob, aL, cL, aO, cO, oH, rH, gL, gO, rfl, hop, hL, hO⟩ := hW
 obtain ⟨R, hR⟩ : ∃ R, R = wsettle g l D := ⟨_, rfl⟩
 rw [<- hR]
 obtain ⟨S, hS⟩ : ∃ S, S = wlA db ob W.first (.slice aL W.recs.length cL) (.slice aO W.old.length cO) W.next W.code := ⟨_, rfl⟩
 have hS1 : S[1]? = some (.pointer (some ⟨db, 0, none⟩)) := by rw [hS]; rfl
 rw [<- hS]
 refine enter Tryz.func78 (by kernel_rfl) rfl rfl rfl ?_
 refine sq (rg ?_)
 refine fin hT 1 rfl (th (sq (sq (rg ?_))))
 refine fin hT 3 rfl (th (bk ?_))
 refine loop (σ := Nat × Dk × PH) (fun s => [(0, .pointer (some ⟨wb, 0, none⟩)), (2, .slice ag g.length kg), (10, .slice al l.length kl), (11, .int .i64 ((l.length : Nat) : Int)), (12, .int .i64 ((s.1 : Nat) : Int))]) (fun _ => K)
  (fun s => pt wb S 139 :: oH :: rH :: gL :: gO :: x :: s.2.2 :: hs)
  (fun s => s.1 <= l.length /\ wsettle g (l.drop s.1) s.2.1 = R /\ DOk (c + s.1) s.2.1 /\ DskH K db s.2.1 s.2.2) (fun s => l.length - s.1) (0, D, dh) ⟨Nat.zero_le _, hR.symm, oD, hd⟩ ⟨rfl, rfl, rfl, rfl, rfl, trivial⟩ rfl rfl ?_
 rintro ⟨j, E, eh⟩ ⟨hj, hw, oE, hE⟩
 dsimp only at *
 refine sq (rg ?_)
 refine cmpS hT 0 rfl fun b13 h13 => ?_
 refine fin hT 0 rfl (th (sq (ifP h13 rfl (fun e2 => ?_) (fun e2 => ?_))))
 ·have hjl : j < l.length := by omega
  obtain ⟨n, ha⟩ : ∃ a, l[j]? = some a := ⟨l[j], List.getElem?_eq_getElem hjl⟩
  have hnb := hbd n (List.mem_of_getElem? ha)
  rw [List.drop_eq_getElem_cons hjl, show l[j] = n from by rw [List.getElem?_eq_getElem hjl] at ha; exact Option.some.inj ha, wsettle_step] at hw
  refine sk (th (sq (bk (sq (rg ?_)))))
  refine ix1 hT 0 j rfl rfl rfl xl (uvv_get ha) fun a14 hc14 => ?_
  refine ld hT 0 rfl (.inl rfl) hc14 ?_
  refine fin hT 1 rfl (th (sq (rg ?_)))
  refine fin hT 1 rfl (th ?_)
  refine jn (σ := PH) (fun _ => [(0, .pointer (some ⟨wb, 0, none⟩)), (2, .slice ag g.length kg), (9, .int .i64 (wset1 E g n).2), (10, .slice al l.length kl), (11, .int .i64 ((l.length : Nat) : Int)), (12, .int .i64 ((j : Nat) : Int))])
   (fun s => pt wb S 139 :: oH :: rH :: gL :: gO :: x :: s :: hs) (fun s => DskH K db (wset1 E g n).1 s) ?_ ?_
  ·refine sq (rg ?_)
   refine cl hT 2 rfl (containsC ag kg g xg (by omega) n) ?_
   rintro v18 K18 hs18 ⟨rfl, rfl, t18, rfl, h18⟩
   refine fin hT 0 rfl (th (ifP h18 rfl (fun e3 => ?_) (fun e3 => ?_)))
   ·have e : wset1 E g n = E.free (segA n) := by unfold wset1; rw [if_pos e3]
    rw [e]
    refine rga [pt wb S 139] 8 [0, 2, 4, 6, 8, 11, 13, 14] (by simp) (by kernel_rfl) (by kernel_rfl) ?_
    refine dldp hT (by kernel_rfl) 3 0 rfl rfl hS1 ?_
    refine dact hT (by kernel_rfl) 1 rfl ?_
    refine cl hT 0 rfl (areaC n hnb) ?_
    rintro v24 K24 hs24 ⟨rfl, rfl, rfl⟩
    refine dnex [pt wb S 139] (by simp) (by simp) rfl ?_
    refine dact hT (by kernel_rfl) 0 rfl ?_
    refine cl hT 0 rfl (Ct.at 6 rfl (freeH db E _ oE.ok (by omega) hE (segA n))) ?_
    rintro v25 K25 hs25 ⟨eh2, rfl, rfl, hE2, rfl⟩
    refine dnex [pt wb S 139] (by simp) (by simp) rfl ?_
    refine dend hT (by kernel_rfl) 1 rfl ?_
    exact jx eh2 hE2 ⟨rfl, rfl, rfl, rfl, rfl, rfl, trivial⟩ rfl rfl
   ·have e : wset1 E g n = E.sync (segA n) := by unfold wset1; rw [if_neg e3]
    rw [e]
    refine rga [pt wb S 139] 8 [0, 2, 4, 6, 8, 11, 13, 14] (by simp) (by kernel_rfl) (by kernel_rfl) ?_
    refine dldp hT (by kernel_rfl) 3 0 rfl rfl hS1 ?_
    refine dact hT (by kernel_rfl) 1 rfl ?_
    refine cl hT 0 rfl (areaC n hnb) ?_
    rintro v24 K24 hs24 ⟨rfl, rfl, rfl⟩
    refine dnex [pt wb S 139] (by simp) (by simp) rfl ?_
    refine dact hT (by kernel_rfl) 0 rfl ?_
    refine cl hT 0 rfl (Ct.at 6 rfl (syncH db E _ oE.ok (by omega) hE (segA n))) ?_
    rintro v25 K25 hs25 ⟨eh2, rfl, rfl, hE2, rfl⟩
    refine dnex [pt wb S 139] (by simp) (by simp) rfl ?_
    refine dend hT (by kernel_rfl) 1 rfl ?_
    exact jx eh2 hE2 ⟨rfl, rfl, rfl, rfl, rfl, rfl, trivial⟩ rfl rfl
  ·rintro eh2 hE2
   refine sq (rg ?_)
   refine cmpS hT 1 rfl fun b34 h34 => ?_
   refine fin hT 0 rfl (th (ifP h34 rfl (fun e5 => ?_) (fun e5 => ?_)))
   ·rw [if_neg e5] at hw
    refine sq (rg ?_)
    refine fin hT 2 rfl (th (rt (rB (rT (rT (rB (rT ?_)))))))
    rw [<- hw]
    exact ret1 rfl rfl ⟨rfl, eh2, rfl, hE2, rfl⟩
   ·rw [if_pos (Decidable.not_not.1 e5)] at hw
    refine sk (bl (th (rg ?_)))
    refine ar hT 0 rfl (i64w (x := ((j + 1 : Nat) : Int)) (by omega)) ?_
    refine fin hT 1 rfl ?_
    exact again (x := (j, E, eh)) (j + 1, (wset1 E g n).1, eh2) ⟨rfl, rfl, rfl, rfl, rfl, trivial⟩ rfl rfl ⟨by dsimp only; omega, hw, (oE.set1 g n).up (by dsimp only; omega), hE2⟩ (by dsimp only; omega)
 ·obtain rfl : j = l.length := by omega
  rw [List.drop_length] at hw
  have hw : (E, (0 : Int)) = R := hw
  rw [<- hw]
  refine ex (xt (xt (xb (th (sq (rg ?_))))))
  refine fin hT 1 rfl (th (rt ?_))
  exact ret1 rfl rfl ⟨rfl, eh, rfl, hE, rfl⟩
end Go.Proofs.YtcncpbolcigpnaaGreat
end
section
namespace Go.En
theorem wtx_run (D : Dk) (num : Nat) : ∀ (f n : Nat), ∃ m, (wtx D num f n).length <= 63 * m /\ ∀ i, i < m -> (((n + i : Nat) : Int)) ∈ (D.ar (segA num)).map (·.1)
 | 0, n => ⟨0, by simp [wtx], fun i h => by omega⟩
 | f + 1, n => by
  obtain ⟨m, h1, h2⟩ := wtx_run D num f (n + 1)
  rw [wtx_step]
  cases hr : D.read (segA num) n with
  | none => exact ⟨0, by simp, fun i h => by omega⟩
  | some s =>
   refine ⟨m + 1, ?_, fun i hi => ?_⟩
   ·have : usedB s <= 63 := by unfold usedB; omega
    dsimp only
    rw [List.length_append, List.length_take]
    split
    ·simp; omega
    ·omega
   ·by_cases e : i = 0
    ·subst e
     unfold Dk.read Dk.sec at hr
     cases hg : mget ((n : Nat) : Int) (D.ar (segA num)) with
     | none => rw [hg] at hr; cases hr
     | some x => exact List.mem_map.2 ⟨_, mget_mem hg, rfl⟩
    ·have := h2 (i - 1) (by omega)
     rwa [show n + 1 + (i - 1) = n + i from by omega] at this
theorem wtext_ar {c : Nat} {D : Dk} (o : D.Ok c) (num : Nat) : (wtext D num).length <= 63 * (D.ar (segA num)).length := by
 obtain ⟨m, h1, h2⟩ := wtx_run D num 65537 0
 have hm : m <= (D.ar (segA num)).length := by
  have hnd : ((List.range m).map fun i => ((i : Nat) : Int)).Nodup := by
   rw [List.nodup_iff_pairwise_ne, List.pairwise_map]
   exact (List.nodup_iff_pairwise_ne.1 List.nodup_range).imp fun h e => h (by omega)
  have := hnd.length_le_of_subset (l₂ := (D.ar (segA num)).map (·.1)) (fun x hx => by
   obtain ⟨i, hi, rfl⟩ := List.mem_map.1 hx
   have := h2 i (List.mem_range.1 hi)
   rwa [Nat.zero_add] at this)
  simpa using this
 have : (wtext D num).length <= 63 * m := by unfold wtext; exact h1
 omega
def sumK (m : List (Int × Ar)) (ks : List Int) : Nat := (ks.map fun k => ((mget k m).getD []).length).sum
theorem sumK_cons (k0 : Int) (u : Ar) (m : List (Int × Ar)) : ∀ ks : List Int, ks.Nodup -> sumK ((k0, u) :: m) ks <= (if k0 ∈ ks then u.length else 0) + sumK m ks
 | [], _ => by simp [sumK]
 | k :: ks, h => by
  simp only [List.nodup_cons] at h
  have ih := sumK_cons k0 u m ks h.2
  have e0 : ∀ mm, sumK mm (k :: ks) = ((mget k mm).getD []).length + sumK mm ks := fun mm => rfl
  have e1 : mget k ((k0, u) :: m) = if k = k0 then some u else mget k m := rfl
  rw [e0, e0, e1]
  by_cases e : k = k0
  ·subst e
   rw [if_neg h.1] at ih
   simp only [if_true, Option.getD_some, List.mem_cons, true_or]
   omega
  ·simp only [if_neg e, List.mem_cons]
   by_cases e2 : k0 ∈ ks
   ·rw [if_pos e2] at ih; rw [if_pos (.inr e2)]; omega
   ·rw [if_neg e2] at ih; rw [if_neg (by rintro (g | g); exact e g.symm; exact e2 g)]; omega
theorem sumK_le : ∀ (m : List (Int × Ar)) (ks : List Int), ks.Nodup -> sumK m ks <= totA m
 | [], ks, _ => by
  have : ∀ ks : List Int, sumK [] ks = 0 := fun ks => by
   induction ks with
   | nil => rfl
   | cons k ks ih =>
    have e0 : sumK [] (k :: ks) = 0 + sumK [] ks := rfl
    rw [e0, ih]
  rw [this]; exact Nat.zero_le _
 | (k0, u) :: m, ks, h => by
  have h1 := sumK_cons k0 u m ks h
  have h2 := sumK_le m ks h
  have h3 : totA ((k0, u) :: m) = u.length + totA m := by simp [totA]
  rw [h3]
  split at h1 <;> omega
def sumSeg (D : Dk) (l : List Nat) : Nat := (l.map fun n => (D.ar (segA n)).length).sum
theorem sumSeg_eq (D : Dk) (l : List Nat) : sumSeg D l = sumK D.areas (l.map segA) := by
 unfold sumSeg sumK
 rw [List.map_map]
 rfl
theorem segA_inj {a b : Nat} (h : segA a = segA b) : a = b := by unfold segA at h; omega
theorem sumSeg_le {D : Dk} {l : List Nat} (h : l.Nodup) : sumSeg D l <= totA D.areas := by
 rw [sumSeg_eq]
 refine sumK_le _ _ ?_
 rw [List.nodup_iff_pairwise_ne, List.pairwise_map]
 exact (List.nodup_iff_pairwise_ne.1 h).imp fun h e => h (segA_inj e)
theorem sumSeg_app (D : Dk) (a b : List Nat) : sumSeg D (a ++ b) = sumSeg D a + sumSeg D b := by simp [sumSeg]
theorem areasL_nodup {c : Nat} {D : Dk} (o : D.Ok c) : (areasL D).Nodup := (srtI_perm _).symm.nodup o.keys
theorem wnums_nodup {l : List Int} (h : l.Nodup) (h0 : ∀ k ∈ l, 0 <= k) : (wnums l).Nodup := by
 unfold wnums
 rw [List.nodup_iff_pairwise_ne, List.pairwise_map]
 have h1 := (List.nodup_iff_pairwise_ne.1 h).filter (fun a => decide (a % 4 = 1))
 refine List.Pairwise.imp_of_mem ?_ h1
 intro a b ha hb hne e
 rw [List.mem_filter] at ha hb
 have ha1 := h0 a ha.1
 have hb1 := h0 b hb.1
 have ha2 := of_decide_eq_true ha.2
 have hb2 := of_decide_eq_true hb.2
 exact hne (by omega)
theorem wnums_mem {l : List Int} {n : Nat} (h : n ∈ wnums l) : ∃ a ∈ l, a % 4 = 1 /\ a.toNat / 4 = n := by
 unfold wnums at h
 obtain ⟨a, ha, rfl⟩ := List.mem_map.1 h
 rw [List.mem_filter] at ha
 exact ⟨a, ha.1, of_decide_eq_true ha.2, rfl⟩
theorem last_lt : ∀ (l : List Nat) (z : Nat), l.Pairwise (· <= ·) -> (∀ n ∈ l, n < l.foldl (fun _ n => n + 1) z) /\ ∀ y, (∀ n ∈ l, y <= n) -> y < z -> y < l.foldl (fun _ n => n + 1) z
 | [], z, _ => ⟨fun n h => by simp at h, fun y _ h => h⟩
 | a :: t, z, h => by
  have h1 := List.pairwise_cons.1 h
  obtain ⟨g1, g2⟩ := last_lt t (a + 1) h1.2
  simp only [List.foldl_cons]
  refine ⟨fun n hn => ?_, fun y hy hz => ?_⟩
  ·rcases List.mem_cons.1 hn with rfl | hn
   ·exact g2 n h1.1 (Nat.lt_succ_self n)
   ·exact g1 n hn
  ·have := hy a (by simp)
   exact g2 y (fun n hn => hy n (by simp [hn])) (by omega)
theorem wnums_lt {l : List Int} (h : l.Pairwise (· <= ·)) : ∀ n ∈ wnums l, n < wnext l := by
 refine (last_lt (wnums l) 0 ?_).1
 unfold wnums
 rw [List.pairwise_map]
 refine (h.filter _).imp fun {a b} hab => ?_
 exact Nat.div_le_div_right (by omega)
structure SInv (D : Dk) (mx : Nat) (don : List Nat) (W : Wl) : Prop where
 op : W.op = none
 code : W.code = 0
 next : W.next = mx
 recs : W.recs.length <= 63 * sumSeg D don
 last : W.first + W.recs.length <= wTop
 old : W.old.length <= don.length
 olds : ∀ s ∈ W.old, s.1 ∈ don /\ s.2 <= wTop
 recl : ∀ r ∈ W.recs, r.length <= 512
theorem follows_facts (W : Wl) (n idx : Nat) : (W.follows n idx).1.recs.length <= W.recs.length /\ (∀ r ∈ (W.follows n idx).1.recs, r ∈ W.recs) /\ (W.follows n idx).1.op = W.op /\ (W.follows n idx).1.code = W.code /\ (W.follows n idx).1.next = W.next /\
  (W.follows n idx).1.old.length <= W.old.length + 1 /\ ∀ s ∈ (W.follows n idx).1.old, s ∈ W.old \/ s = (n, idx) := by
 unfold Wl.follows
 split
 ·exact ⟨by simp, by simp, rfl, rfl, rfl, by simp, fun s hs => by simpa using hs⟩
 ·split
  ·exact ⟨Nat.le_refl _, fun _ h => h, rfl, rfl, rfl, Nat.le_succ _, fun s hs => .inl hs⟩
  ·exact ⟨by dsimp only; rw [List.length_take]; omega, fun r hr => List.mem_of_mem_take hr, rfl, rfl, rfl, by simp, fun s hs => by simpa using hs⟩
theorem wrecs_len : ∀ (f : Nat) (r : Rd), r.2 = 0 -> (wrecs f r).length <= r.1.length /\ ∀ x ∈ wrecs f r, x.length <= 512
 | 0, r, _ => ⟨by simp [wrecs], by simp [wrecs]⟩
 | f + 1, (b, e), he => by
  have he : e = 0 := he
  subst he
  rw [wrecs_step]
  split
  ·rename_i h
   obtain ⟨g1, g2⟩ := rBytes_dec h
   obtain ⟨g3, g4⟩ := wrecs_len f (rBytes 512 (b, 0)).2 h
   refine ⟨by simp only [List.length_cons]; omega, fun x hx => ?_⟩
   rcases List.mem_cons.1 hx with rfl | hx
   ·have : ((512 : Int)).toNat = 512 := rfl
    omega
   ·exact g4 x hx
  ·exact ⟨by simp, by simp⟩
theorem SInv.step {c : Nat} {D : Dk} (o : D.Ok c) {mx fr n : Nat} {don : List Nat} {W : Wl} (h : SInv D mx don W) (hchk : (wstep D fr n W).1.first + (wstep D fr n W).1.recs.length <= wTop) : SInv D mx (don ++ [n]) (wstep D fr n W).1 := by
 have hsum := sumSeg_app D don [n]
 have hs1 : sumSeg D [n] = (D.ar (segA n)).length := by simp [sumSeg]
 have keep : SInv D mx (don ++ [n]) W := ⟨h.op, h.code, h.next, by have := h.recs; omega, h.last, by have := h.old; simp; omega, fun s hs => ⟨by simp [(h.olds s hs).1], (h.olds s hs).2⟩, h.recl⟩
 unfold wstep at hchk ⊢
 split
 ·exact keep
 ·rename_i hfr
  rw [if_neg hfr] at hchk
  have hx := wtext_ar o n
  unfold wread at hchk ⊢
  split
  ·exact keep
  ·rename_i h1
   rw [if_neg h1] at hchk
   have h1 := Decidable.not_not.1 h1
   have hU := (rUint_ok h1).2
   have hUl := (rUint_bd wTop (wtext D n) 0).2
   obtain ⟨f1, f2, f3, f4, f5, f6, f7⟩ := follows_facts W n (rUint wTop (wtext D n, 0)).1
   have holds : ∀ s ∈ (W.follows n (rUint wTop (wtext D n, 0)).1).1.old, s.1 ∈ don ++ [n] /\ s.2 <= wTop := fun s hs => by
    rcases f7 s hs with g | rfl
    ·exact ⟨by simp [(h.olds s g).1], (h.olds s g).2⟩
    ·exact ⟨by simp, hU⟩
   split
   ·rename_i h2
    rw [if_pos h2] at hchk
    exact ⟨f3.trans h.op, f4.trans h.code, f5.trans h.next, by have := h.recs; dsimp only; omega, hchk, by have := h.old; simp only [List.length_append, List.length_cons, List.length_nil]; omega, holds, fun r hr => h.recl r (f2 r hr)⟩
   ·rename_i h2
    rw [if_neg h2] at hchk
    obtain ⟨g1, g2⟩ := wrecs_len ((wtext D n).length + 1) (rUint wTop (wtext D n, 0)).2 h1
    refine ⟨f3.trans h.op, f4.trans h.code, f5.trans h.next, ?_, hchk, ?_, holds, ?_⟩
    ·have := h.recs
     dsimp only
     rw [List.length_append]
     omega
    ·have := h.old; simp only [List.length_append, List.length_cons, List.length_nil]; omega
    ·intro r hr
     rcases List.mem_append.1 hr with hr | hr
     ·exact h.recl r (f2 r hr)
     ·exact g2 r hr
theorem SInv.scan {c : Nat} {D : Dk} (o : D.Ok c) {mx fr : Nat} : ∀ (l don : List Nat) (W : Wl) (g : List Nat), SInv D mx don W -> (wscan D fr l W g).2.2 = true -> SInv D mx (don ++ l) (wscan D fr l W g).1
 | [], don, W, g, h, _ => by simpa [wscan] using h
 | n :: r, don, W, g, h, hok => by
  unfold wscan at hok ⊢
  split
  ·rename_i h1; rw [if_pos h1] at hok; cases hok
  ·rename_i h1
   rw [if_neg h1] at hok
   have hs := SInv.step o h (fr := fr) (n := n) (by rcases Nat.lt_or_ge wTop ((wstep D fr n W).1.first + (wstep D fr n W).1.recs.length) with g | g; exact absurd (.inr g) h1; exact g)
   have := SInv.scan o r (don ++ [n]) _ _ hs hok
   rwa [List.append_assoc] at this
theorem WBd.opened {c : Nat} {D : Dk} (o : DOk c D) {fr first : Nat} {W : Wl} {E : Dk} (h : wOpen D fr first = (some W, E, 0)) : WBd c W /\ W.op = none /\ W.code = 0 /\ W.old.length <= c := by
 unfold wOpen at h
 split at h
 ·cases h
 ·split at h
  ·cases h
  ·rename_i h1
   split at h
   ·cases h
   ·rename_i h2
    split at h
    ·cases h
    ·rename_i h3
     split at h
     ·cases h
     ·simp only [Prod.mk.injEq, Option.some.injEq] at h
      obtain ⟨rfl, _⟩ := h
      have h3 : (wscan D fr (wnums (areasL D)) (wl0 fr first (areasL D)) []).2.2 = true := by
       cases hh : (wscan D fr (wnums (areasL D)) (wl0 fr first (areasL D)) []).2.2 with
       | false => exact absurd hh h3
       | true => rfl
      have h0 : SInv D (wl0 fr first (areasL D)).next [] (wl0 fr first (areasL D)) := ⟨rfl, rfl, rfl, by simp [wl0], by simp [wl0]; omega, by simp [wl0], by simp [wl0], by simp [wl0]⟩
      have hS := SInv.scan o.ok _ _ _ _ h0 h3
      rw [List.nil_append] at hS
      have hnd := wnums_nodup (areasL_nodup o.ok) (fun k hk => (areasL_bd o k hk).1)
      have hsum := sumSeg_le (D := D) hnd
      have hcap := o.cap
      have hroom := o.ok.room
      have hlen := areasL_len o
      have hnl := wnums_len (areasL D)
      have hol := hS.old
      have hre := hS.recs
      have hnx := hS.next
      refine ⟨⟨hS.last, by omega, by omega, by omega, fun q hq => (by rw [hS.op] at hq; cases hq), fun q hq => (by rw [hS.op] at hq; cases hq), fun s hs => ?_, hS.recl⟩, hS.op, hS.code, by omega⟩
      obtain ⟨g1, g2⟩ := hS.olds s hs
      have := wnums_lt (l := areasL D) (srtI_srt _) s.1 g1
      have hle : wnext (areasL D) <= (wl0 fr first (areasL D)).next := by unfold wl0; exact Nat.le_max_left _ _
      refine ⟨?_, g2⟩
      have : s.1 < wnext (areasL D) := this
      omega
theorem DOk.opened {c : Nat} {D : Dk} (o : DOk c D) (fr first : Nat) : DOk (c + D.areas.length) (wOpen D fr first).2.1 := by
 have hs := DOk.settle (wnums (areasL D)) (wscan D fr (wnums (areasL D)) (wl0 fr first (areasL D)) []).2.1 D c o
 have hlen : (areasL D).length = D.areas.length := by unfold areasL; rw [(srtI_perm _).length_eq, List.length_map]
 have hnl := wnums_len (areasL D)
 have hs := hs.up (d := c + D.areas.length) (by omega)
 unfold wOpen
 split
 ·exact o.up (by omega)
 ·split
  ·exact o.up (by omega)
  ·split
   ·exact o.up (by omega)
   ·split
    ·exact o.up (by omega)
    ·split
     ·exact hs
     ·exact hs
end Go.En
end
section
namespace Go.En
theorem wscan_step (D : Dk) (fr n : Nat) (r : List Nat) (W : Wl) (g : List Nat) : wscan D fr (n :: r) W g =
  if (wstep D fr n W).2.1 = false \/ wTop < (wstep D fr n W).1.first + (wstep D fr n W).1.recs.length then ((wstep D fr n W).1, if (wstep D fr n W).2.2 then g ++ [n] else g, false)
  else wscan D fr r (wstep D fr n W).1 (if (wstep D fr n W).2.2 then g ++ [n] else g) := rfl
theorem wstep_bd {D : Dk} {fr n : Nat} {W : Wl} (h : W.first <= wTop) : (wstep D fr n W).1.first <= wTop /\ (wstep D fr n W).1.recs.length <= W.recs.length + 4128831 := by
 unfold wstep
 split
 ·exact ⟨h, Nat.le_add_right _ _⟩
 ·unfold wread
  split
  ·exact ⟨h, Nat.le_add_right _ _⟩
  ·rename_i h1
   have h1 := Decidable.not_not.1 h1
   have hU := (rUint_ok h1).2
   have hUl := (rUint_bd wTop (wtext D n) 0).2
   have hx := wtext_len D n
   have hf : (W.follows n (rUint wTop (wtext D n, 0)).1).1.first <= wTop := by
    unfold Wl.follows
    split
    ·exact hU
    ·split
     ·exact h
     ·exact h
   obtain ⟨f1, _⟩ := follows_facts W n (rUint wTop (wtext D n, 0)).1
   split
   ·exact ⟨hf, by dsimp only; omega⟩
   ·obtain ⟨g1, g2⟩ := wrecs_len ((wtext D n).length + 1) (rUint wTop (wtext D n, 0)).2 h1
    refine ⟨hf, ?_⟩
    dsimp only
    rw [List.length_append]
    omega
end Go.En
namespace Go.Proofs.YtcncpbolcigpnaaGreat
open Go.En
attribute [local irreducible] Code.wp wpList Calls
theorem openWC {w0 : World} {K dh : PH} {hs : List PH} (db : Nat) (D : Dk) (c : Nat) (oD : DOk c D) (hc : c <= 400000000) (hd : DskH K db D dh) (fr first : Nat) (hfr : fr < 18446744073709551616) (hfi : first < 18446744073709551616) :
  Ct Tryz.prog w0 41 [.pointer (some ⟨db, 0, none⟩), .int .u64 ((fr : Nat) : Int), .int .u64 ((first : Nat) : Int)] K (dh :: hs)
   (fun v K' hs' => Le K K' /\ ∃ m' dh', hs' = m' ++ (dh' :: hs) /\ DskH K' db (wOpen D fr first).2.1 dh' /\ match (wOpen D fr first).1 with
    | none => m' = [] /\ v = .tuple #[.pointer none, .int .i64 (wOpen D fr first).2.2]
    | some W => ∃ wb, WalM K' wb db W m' /\ v = .tuple #[.pointer (some ⟨wb, 0, none⟩), .int .i64 (wOpen D fr first).2.2]) := by
 have hbd := areasL_bd oD
 have hal := areasL_len oD
 have hnl := wnums_len (areasL D)
 have hsrt : (areasL D).Pairwise (· <= ·) := srtI_srt _
 have hlt := wnums_lt hsrt
 have hnd := wnums_nodup (areasL_nodup oD.ok) (fun k hk => (hbd k hk).1)
 have htot := oD.cap
 have hroom := oD.ok.room
 have hn0 : ∀ n ∈ wnums (areasL D), n < 18446744073709551616 := fun n hn => by
  obtain ⟨a, ha, _, rfl⟩ := wnums_mem hn
  have := hbd a ha
  omega
 have hnx0 : wnext (areasL D) < 18446744073709551617 := by
  unfold wnext
  rcases List.eq_nil_or_concat (wnums (areasL D)) with h | ⟨l', b, h⟩
  ·rw [h]; decide
  ·have := hn0 b (by rw [h]; simp)
   rw [h]
   simp only [List.concat_eq_append, List.foldl_append, List.foldl_cons, List.foldl_nil]
   omega
 obtain ⟨R, hR⟩ : ∃ R, R = wOpen D fr first := ⟨_, rfl⟩
 rw [<- hR]
 refine enter Tryz.func41 (by kernel_rfl) rfl rfl rfl ?_
 refine sq (rg ?_)
 refine fin hT 2 rfl (th (sq (sq (rg ?_))))
 refine cl hT 1 rfl (deadH db D hd) ?_
 rintro v17 K17 hs17 ⟨rfl, rfl, rfl⟩
 unfold wOpen at hR
 cases hdead : D.dead with
 | true =>
  rw [if_pos hdead] at hR
  refine fin hT 0 rfl (th (ifT rfl ?_))
  refine sq (rg ?_)
  refine fin hT 2 rfl (th (rt (rT ?_)))
  rw [hR]
  exact ret2 rfl rfl rfl ⟨Le.refl _, [], dh, rfl, hd, rfl, rfl⟩
 | false =>
  rw [if_neg (by rw [hdead]; simp)] at hR
  refine fin hT 0 rfl (th (ifF rfl ?_))
  refine sk (th (sq (sq (rg ?_))))
  refine cmpS hT 1 rfl fun b19 h19 => ?_
  refine fin hT 0 rfl (th (ifP h19 rfl (fun e3 => ?_) (fun e3 => ?_)))
  ·rw [if_pos (by unfold wTop; omega)] at hR
   refine sq (rg ?_)
   refine fin hT 2 rfl (th (rt (rT ?_)))
   rw [hR]
   exact ret2 rfl rfl rfl ⟨Le.refl _, [], dh, rfl, hd, rfl, rfl⟩
  ·have hft : first <= wTop := by unfold wTop; omega
   rw [if_neg (by omega)] at hR
   refine sk (th ?_)
   refine WC.em (WC.perm (List.Perm.swap _ _ _) ?_)
   refine WC.em (WC.em (WC.em (WC.em ?_)))
   refine sq (rg ?_)
   refine bd hT 2 (.agg (wlA db none first (.slice none 0 0) (.slice none 0 0) 0 0)) rfl (fun w => by kernel_rfl) ?_
   refine bx hT 0 rfl fun wb => ?_
   refine al hT 0 (.pointer none) rfl (by kernel_rfl) fun b8 => ?_
   refine stp hT 0 0 rfl rfl rfl rfl ?_
   refine WL.perm (hs' := [_, _, _, _, _] ++ (_ :: dh :: em :: hs)) (List.perm_middle (l₁ := [_, _, _, _, _])).symm ?_
   have hW0 : WalM K17 wb db ⟨none, first, [], [], 0, 0⟩ [pt wb (wlA db none first (.slice none 0 0) (.slice none 0 0) 0 0) 139, em, em, em, em] :=
    ⟨none, none, 0, none, 0, em, em, em, em, rfl, ⟨rfl, rfl, rfl⟩, SlZ.nil _ _, SlZ.nil _ _⟩
   refine fin hT 0 rfl (th (sq (rg ?_)))
   refine ldp hT 0 5 rfl rfl rfl ?_
   refine cl hT 0 rfl (numbersC wb db _ hW0 D c oD (by omega) hd rfl) ?_
   rintro v25 K25 hs25 ⟨le, m2, rfl, hW2, an, kn, rfl, xN⟩
   obtain ⟨l, hl⟩ : ∃ l, l = wnums (areasL D) := ⟨_, rfl⟩
   rw [<- hl] at xN hlt hnd hnl hR hn0 ⊢
   obtain ⟨ob, aL, cL, aO, cO, oH, rH, gL, gO, rfl, hop, hL, hO⟩ := hW2
   dsimp only at hop hL hO
   refine WL.hs (pt wb (wlA db ob first (.slice aL 0 cL) (.slice aO 0 cO) (wnext (areasL D)) 0) 139 :: oH :: rH :: gL :: gO :: pt b8 #[.pointer (some ⟨wb, 0, none⟩)] 72 :: dh :: em :: hs) rfl ?_
   refine fin hT 1 rfl (th (sq (rga [pt b8 #[.pointer (some ⟨wb, 0, none⟩)] 72, pt wb (wlA db ob first (.slice aL 0 cL) (.slice aO 0 cO) (wnext (areasL D)) 0) 139] 9 [0, 2, 4, 6, 8, 10, 12, 14, 16, 19] (by simp) (by kernel_rfl) (by kernel_rfl) ?_)))
   refine dldpw hT (by kernel_rfl) 0 0 rfl (by kernel_rfl) rfl rfl ?_
   refine dldpw hT (by kernel_rfl) 0 0 rfl (by kernel_rfl) rfl rfl ?_
   refine dldpw hT (by kernel_rfl) 2 1 rfl (by kernel_rfl) rfl rfl ?_
   refine dact hT (by kernel_rfl) 4 rfl ?_
   refine stp hT 0 0 rfl rfl rfl rfl ?_
   refine dnext (.inl (by kernel_rfl)) ?_
   obtain ⟨mx, hmx⟩ : ∃ mx, mx = max (wnext (areasL D)) fr := ⟨_, rfl⟩
   have hmx2 : (if ((fr : Nat) : Int) > ((wnext (areasL D) : Nat) : Int) then ((fr : Nat) : Int) else ((wnext (areasL D) : Nat) : Int)) = ((mx : Nat) : Int) := by split <;> omega
   have hmx3 : (wl0 fr first (areasL D)).next = mx := hmx.symm
   have hW0 : wl0 fr first (areasL D) = ⟨none, first, [], [], mx, 0⟩ := by rw [hmx]; rfl
   rw [hmx2]
   refine dend hT (by kernel_rfl) 0 rfl (th (sq (sq (rg ?_))))
   refine ldp hT 0 5 rfl rfl rfl ?_
   refine ldp hT 2 0 rfl rfl rfl ?_
   refine cmpS hT 0 rfl fun b39 h39 => ?_
   refine fin hT 0 rfl (th (ifP h39 rfl (fun e5 => ?_) (fun e5 => ?_)))
   ·rw [if_pos (by rw [hmx3]; unfold wMany; omega)] at hR
    refine sq (rg ?_)
    refine fin hT 2 rfl (th (rt (rT (WQ.del 0 rfl (WQ.del 0 rfl (WQ.del 0 rfl (WQ.del 0 rfl (WQ.del 0 rfl (WQ.del 0 rfl (WQ.del 1 rfl ?_))))))))))
    rw [hR]
    exact ret2 rfl rfl rfl ⟨le, [], dh, rfl, hd.le le, rfl, rfl⟩
   ·have hmxt : mx <= 1152921504606846976 := by omega
    rw [if_neg (by rw [hmx3]; unfold wMany; omega)] at hR
    have hlm : ∀ n ∈ l, n <= 2305843009213693952 := fun n hn => by have := hlt n hn; omega
    have hsum : ∀ j, sumSeg D (l.take j) <= 1073741824 := fun j => by
     have := sumSeg_le (D := D) (hnd.sublist (List.take_sublist j l))
     omega
    have hS0 : SInv D mx [] ⟨none, first, [], [], mx, 0⟩ := ⟨rfl, rfl, rfl, by simp, by simpa using hft, by simp, by simp, by simp⟩
    rw [hW0] at hR
    obtain ⟨Z, hZ⟩ : ∃ Z, Z = wscan D fr l ⟨none, first, [], [], mx, 0⟩ [] := ⟨_, rfl⟩
    rw [<- hZ] at hR
    have hW1 : WalM K25 wb db ⟨none, first, [], [], mx, 0⟩ [pt wb (wlA db ob first (.slice aL 0 cL) (.slice aO 0 cO) mx 0) 139, oH, rH, gL, gO] :=
     ⟨ob, aL, cL, aO, cO, oH, rH, gL, gO, rfl, hop, hL, hO⟩
    refine sk (th (sq (rg ?_)))
    refine fin hT 1 rfl (th (sq (sq (rg ?_))))
    refine fin hT 3 rfl (th (bk ?_))
    refine loop (σ := (Nat × Wl × List Nat) × (List PH × (Option Addr × Nat × PH)) × PH) (fun s => [(0, .pointer (some ⟨db, 0, none⟩)), (1, .int .u64 ((fr : Nat) : Int)), (8, .pointer (some ⟨b8, 0, none⟩)), (9, .slice an l.length kn), (10, .slice s.2.1.2.1 s.1.2.2.length s.2.1.2.2.1), (40, .slice an l.length kn), (41, .int .i64 ((l.length : Nat) : Int)), (42, .int .i64 ((s.1.1 : Nat) : Int))]) (fun s => s.2.2)
     (fun s => s.2.1.1 ++ (pt b8 #[.pointer (some ⟨wb, 0, none⟩)] 72 :: dh :: s.2.1.2.2.2 :: hs))
     (fun s => s.1.1 <= l.length /\ wscan D fr (l.drop s.1.1) s.1.2.1 s.1.2.2 = Z /\ SInv D mx (l.take s.1.1) s.1.2.1 /\ s.1.2.2.length <= s.1.1 /\ Le K25 s.2.2 /\ WalM s.2.2 wb db s.1.2.1 s.2.1.1 /\ Own s.2.1.2.2.2 s.2.1.2.1 s.1.2.2.length s.2.1.2.2.1 37 1 (uvv s.1.2.2)) (fun s => l.length - s.1.1)
     ((0, ⟨none, first, [], [], mx, 0⟩, []), ([_, _, _, _, _], (none, 0, em)), K25) ⟨Nat.zero_le _, hZ.symm, hS0, Nat.le_refl _, Le.refl _, hW1, Own.nil _ _⟩ ⟨rfl, rfl, rfl, rfl, rfl, rfl, rfl, rfl, trivial⟩ rfl rfl ?_
    clear hS0 hW0 hW1 hop hL hO
    clear oH rH gL gO
    rintro ⟨⟨j, W, g⟩, ⟨m, ⟨ag, cg, gh⟩⟩, K1⟩ ⟨hj, hw, hS, hgl, le1, hW, og⟩
    dsimp only at *
    obtain ⟨ob, aL, cL, aO, cO, oH, rH, gL, gO, rfl, hop, hL, hO⟩ := id hW
    have hsj := hsum j
    have hr := hS.recs
    have ho := hS.old
    have hla := hS.last
    rw [List.length_take] at ho
    refine sq (rg ?_)
    refine cmpS hT 0 rfl fun b43 h43 => ?_
    refine fin hT 0 rfl (th (sq (ifP h43 rfl (fun e7 => ?_) (fun e7 => ?_))))
    ·have hjl : j < l.length := by omega
     obtain ⟨n, ha⟩ : ∃ a, l[j]? = some a := ⟨l[j], List.getElem?_eq_getElem hjl⟩
     have hnb := hlm n (List.mem_of_getElem? ha)
     have htk : l.take (j + 1) = l.take j ++ [n] := by rw [List.take_add_one, ha]; rfl
     rw [List.drop_eq_getElem_cons hjl, show l[j] = n from by rw [List.getElem?_eq_getElem hjl] at ha; exact Option.some.inj ha, wscan_step] at hw
     obtain ⟨V, hV⟩ : ∃ V, V = wstep D fr n W := ⟨_, rfl⟩
     have hVb := wstep_bd (D := D) (fr := fr) (n := n) (W := W) (by omega)
     have hVs := SInv.step oD.ok hS (fr := fr) (n := n)
     rw [<- hV] at hw hVb hVs
     refine sk (th (sq (bk (sq (rg ?_)))))
     refine ix1 hT 0 j rfl rfl rfl (xN.le le1) (uvv_get ha) fun a44 hc44 => ?_
     refine ld hT 0 rfl (.inl rfl) hc44 ?_
     refine al hT 0 (.int .u64 0) rfl (by kernel_rfl) fun b12 => ?_
     refine stp hT 0 0 rfl rfl rfl rfl ?_
     refine WL.hs (pt b12 #[.int .u64 ((n : Nat) : Int)] 37 :: _) rfl ?_
     refine fin hT 0 rfl (th (sq (rga [pt b12 #[.int .u64 ((n : Nat) : Int)] 37] 5 [0, 2, 4, 6, 8] (by simp) (by kernel_rfl) (by kernel_rfl) ?_)))
     refine dldp hT (by kernel_rfl) 0 0 rfl rfl rfl ?_
     refine dcbS hT (by kernel_rfl) 1 (n < fr) rfl (by simp) fun b48 h48 => ?_
     refine dend hT (by kernel_rfl) 2 rfl (th ?_)
     refine WC.perm (hs' := [_, _, _, _, _] ++ (pt b12 #[.int .u64 ((n : Nat) : Int)] 37 :: pt b8 #[.pointer (some ⟨wb, 0, none⟩)] 72 :: dh :: gh :: hs)) (List.perm_middle (l₁ := [_, _, _, _, _])).symm ?_
     refine jnK (σ := List PH × PH) (fun _ => [(0, .pointer (some ⟨db, 0, none⟩)), (1, .int .u64 ((fr : Nat) : Int)), (8, .pointer (some ⟨b8, 0, none⟩)), (9, .slice an l.length kn), (10, .slice ag g.length cg), (12, .pointer (some ⟨b12, 0, none⟩)), (13, .bool V.2.1), (14, .bool V.2.2), (40, .slice an l.length kn), (41, .int .i64 ((l.length : Nat) : Int)), (42, .int .i64 ((j : Nat) : Int))]) (fun s => s.2)
      (fun s => s.1 ++ (pt b12 #[.int .u64 ((n : Nat) : Int)] 37 :: pt b8 #[.pointer (some ⟨wb, 0, none⟩)] 72 :: dh :: gh :: hs)) (fun s => Le K1 s.2 /\ WalM s.2 wb db V.1 s.1) ?_ ?_
     ·refine sq (rg ?_)
      refine cbS hT 1 _ rfl (bnot h48) fun b50 h50 => ?_
      refine fin hT 0 rfl (th (ifP h50 rfl (fun e8 => ?_) (fun e8 => ?_)))
      ·have hVr : V = wread D n W := by rw [hV]; unfold wstep; rw [if_neg e8]
       refine rg ?_
       refine ldp hT 1 5 rfl rfl rfl ?_
       refine cl hT 2 rfl (readWC wb db b8 b12 W hW hla (by omega) (by omega) D c oD.ok (by omega) (hd.le (le.trans le1)) n hnb) ?_
       rintro v56 K56 hs56 ⟨le2, m5, rfl, hW5, rfl⟩
       rw [<- hVr] at hW5 ⊢
       refine fin hT 5 rfl ?_
       exact jxK (m5, K56) ⟨le2, hW5⟩ ⟨rfl, rfl, rfl, rfl, rfl, rfl, rfl, rfl, rfl, rfl, rfl, trivial⟩ rfl rfl
      ·have e8 : n < fr := Decidable.not_not.1 e8
       have hVr : V = (W, true, true) := by rw [hV]; unfold wstep; rw [if_pos e8]
       obtain rfl : b48 = true := h48.2 e8
       rw [hVr]
       refine sk ?_
       exact jxK ([_, _, _, _, _], K1) ⟨Le.refl _, hW⟩ ⟨rfl, rfl, rfl, rfl, rfl, rfl, rfl, rfl, rfl, rfl, rfl, trivial⟩ rfl rfl
     ·clear hW hop hL hO
      clear oH rH gL gO
      rintro ⟨m, K2⟩ ⟨le2, hW⟩
      dsimp only at *
      obtain ⟨ob, aL, cL, aO, cO, oH, rH, gL, gO, rfl, hop, hL, hO⟩ := id hW
      obtain ⟨g', hg'⟩ : ∃ g', g' = if V.2.2 = true then g ++ [n] else g := ⟨_, rfl⟩
      rw [<- hg'] at hw
      have hgl' : g'.length <= j + 1 := by rw [hg']; split <;> (try simp) <;> omega
      refine jn (σ := Option Addr × Nat × PH) (fun s => [(0, .pointer (some ⟨db, 0, none⟩)), (1, .int .u64 ((fr : Nat) : Int)), (8, .pointer (some ⟨b8, 0, none⟩)), (9, .slice an l.length kn), (10, .slice s.1 g'.length s.2.1), (13, .bool V.2.1), (40, .slice an l.length kn), (41, .int .i64 ((l.length : Nat) : Int)), (42, .int .i64 ((j : Nat) : Int))])
       (fun s => pt wb (wlA db ob V.1.first (.slice aL V.1.recs.length cL) (.slice aO V.1.old.length cO) V.1.next V.1.code) 139 :: oH :: rH :: gL :: gO :: pt b12 #[.int .u64 ((n : Nat) : Int)] 37 :: pt b8 #[.pointer (some ⟨wb, 0, none⟩)] 72 :: dh :: s.2.2 :: hs)
       (fun s => Own s.2.2 s.1 g'.length s.2.1 37 1 (uvv g')) ?_ ?_
      ·refine sq (rg ?_)
       cases hv : V.2.2 with
       | true =>
        rw [if_pos hv] at hg'
        refine fin hT 1 rfl (th (ifT rfl ?_))
        refine rg ?_
        refine ldp hT 1 5 rfl rfl rfl ?_
        refine lit hT 0 #[.int .u64 ((n : Nat) : Int)] rfl (by decide) (by kernel_rfl) fun b62 => ?_
        refine app hT 0 9 rfl rfl og (.inr ⟨0, rfl⟩) (Own.ofPt (n := 1) (size := 1) rfl (by decide)).isS rfl (by decide) (by simp [Value.oneCell']) (by show (g.length + 1) * 8 <= _; omega) (by simp only [maxLen]; omega) fun ao63 c63 g63 o63 => ?_
        refine fin hT 1 rfl (WQ.drop ?_)
        refine jx (ao63, c63, g63) (own_of o63 (by rw [hg']; simp) (by rw [hg', uvv_app]; rfl)) ⟨rfl, rfl, rfl, rfl, by dsimp only; rw [hg', List.length_append]; rfl, rfl, rfl, rfl, rfl, trivial⟩ rfl rfl
       | false =>
        rw [if_neg (by rw [hv]; simp)] at hg'
        refine fin hT 1 rfl (th (ifF rfl ?_))
        refine sk ?_
        refine jx (ag, cg, gh) (by dsimp only; rw [hg']; exact og) ⟨rfl, rfl, rfl, rfl, by dsimp only; rw [hg']; rfl, rfl, rfl, rfl, rfl, trivial⟩ rfl rfl
      ·rintro ⟨ag, cg, gh⟩ og
       dsimp only at *
       cases hv : V.2.1 with
       | false =>
        rw [if_pos (.inl hv)] at hw
        rw [<- hw] at hR
        dsimp only at hR
        rw [if_pos rfl] at hR
        refine sq (rga [pt b8 #[.pointer (some ⟨wb, 0, none⟩)] 72, pt wb (wlA db ob V.1.first (.slice aL V.1.recs.length cL) (.slice aO V.1.old.length cO) V.1.next V.1.code) 139] 16 [0, 2, 4, 6, 8, 10, 12, 14, 16, 18, 20, 22, 24, 26, 28, 30] (by simp) (by kernel_rfl) (by kernel_rfl) ?_)
        refine dend hT (by kernel_rfl) 16 rfl (th (ifT rfl ?_))
        refine sq (rg ?_)
        refine fin hT 2 rfl (th (rt (rB (rT (rT (rB (rT (WQ.del 0 rfl (WQ.del 0 rfl (WQ.del 0 rfl (WQ.del 0 rfl (WQ.del 0 rfl (WQ.del 0 rfl (WQ.del 0 rfl (WQ.del 1 rfl ?_)))))))))))))))
        rw [hR]
        exact ret2 rfl rfl rfl ⟨le.trans (le1.trans le2), [], dh, rfl, hd.le (le.trans (le1.trans le2)), rfl, rfl⟩
       | true =>
        refine sq (rga [pt b8 #[.pointer (some ⟨wb, 0, none⟩)] 72, pt wb (wlA db ob V.1.first (.slice aL V.1.recs.length cL) (.slice aO V.1.old.length cO) V.1.next V.1.code) 139] 16 [0, 2, 4, 6, 8, 10, 12, 14, 16, 18, 20, 22, 24, 26, 28, 30] (by simp) (by kernel_rfl) (by kernel_rfl) ?_)
        refine dldp hT (by kernel_rfl) 3 0 rfl rfl rfl ?_
        refine dldp hT (by kernel_rfl) 2 1 rfl rfl rfl ?_
        refine dldp hT (by kernel_rfl) 0 0 rfl rfl rfl ?_
        refine dldp hT (by kernel_rfl) 2 1 rfl rfl rfl ?_
        refine dar hT (by kernel_rfl) 1 rfl (u64w (x := ((V.1.recs.length : Nat) : Int)) (by omega)) ?_
        refine dar hT (by kernel_rfl) 0 rfl (u64w (x := ((V.1.first + V.1.recs.length : Nat) : Int)) (by unfold wTop at *; omega)) ?_
        refine dcbS hT (by kernel_rfl) 0 (wTop < V.1.first + V.1.recs.length) rfl (by unfold wTop; simp; omega) fun b78 h78 => ?_
        refine dend hT (by kernel_rfl) 1 rfl (th (ifP h78 rfl (fun e10 => ?_) (fun e10 => ?_)))
        ·rw [if_pos (.inr e10)] at hw
         rw [<- hw] at hR
         dsimp only at hR
         rw [if_pos rfl] at hR
         refine sq (rg ?_)
         refine fin hT 2 rfl (th (rt (rB (rT (rT (rB (rT (WQ.del 0 rfl (WQ.del 0 rfl (WQ.del 0 rfl (WQ.del 0 rfl (WQ.del 0 rfl (WQ.del 0 rfl (WQ.del 0 rfl (WQ.del 1 rfl ?_)))))))))))))))
         rw [hR]
         exact ret2 rfl rfl rfl ⟨le.trans (le1.trans le2), [], dh, rfl, hd.le (le.trans (le1.trans le2)), rfl, rfl⟩
        ·rw [if_neg (by rw [hv]; simp; omega)] at hw
         refine sk (bl (th (rg (WL.del 5 rfl ?_))))
         refine ar hT 0 rfl (i64w (x := ((j + 1 : Nat) : Int)) (by omega)) ?_
         refine fin hT 1 rfl ?_
         exact again (x := ((j, W, g), ([], (ag, cg, gh)), K1)) ((j + 1, V.1, g'), ([_, _, _, _, _], (ag, cg, gh)), K2) ⟨rfl, rfl, rfl, rfl, rfl, rfl, rfl, rfl, trivial⟩ rfl rfl ⟨by dsimp only; omega, hw, by dsimp only; rw [htk]; exact hVs (by omega), hgl', le1.trans le2, hW, og⟩ (by dsimp only; omega)
    ·obtain rfl : j = l.length := by omega
     rw [List.drop_length] at hw
     have hw : (W, g, true) = Z := hw
     rw [<- hw] at hR
     dsimp only at hR
     rw [if_neg (by simp)] at hR
     refine ex (xt (xt (xb (th (sq (rg ?_))))))
     refine ldp hT 0 5 rfl rfl rfl ?_
     refine WL.perm (hs' := gh :: ([_, _, _, _, _, _, _] ++ hs)) (List.perm_middle (l₁ := [_, _, _, _, _, _, _])) (WL.frz fun K3 l1 l2 => ?_)
     have hW3 : WalM K3 wb db W [pt wb (wlA db ob W.first (.slice aL W.recs.length cL) (.slice aO W.old.length cO) W.next W.code) 139, oH, rH, gL, gO] := hW.le l1
     refine cl hT 2 rfl (settleC wb db W hW3 D c oD (by omega) (hd.le (le.trans (le1.trans l1))) l g an kn (xN.le (le1.trans l1)) ag cg (og.isS.le l2) (by omega) (by omega) hlm) ?_
     rintro v84 K84 hs84 ⟨rfl, dh, rfl, hE, rfl⟩
     obtain ⟨Y, hY⟩ : ∃ Y, Y = wsettle g l D := ⟨_, rfl⟩
     rw [<- hY] at hE hR ⊢
     refine fin hT 1 rfl (th (sq (sq (rg ?_))))
     refine cmpS hT 1 rfl fun b86 h86 => ?_
     refine fin hT 0 rfl (th (ifP h86 rfl (fun e16 => ?_) (fun e16 => ?_)))
     ·rw [if_pos e16] at hR
      refine sq (rg ?_)
      refine fin hT 3 rfl (th (rt (rT (WQ.del 0 rfl (WQ.del 0 rfl (WQ.del 0 rfl (WQ.del 0 rfl (WQ.del 0 rfl (WQ.del 0 rfl ?_)))))))))
      rw [hR]
      exact ret2 rfl rfl rfl ⟨le.trans (le1.trans l1), [], dh, rfl, hE, rfl, rfl⟩
     ·rw [if_neg e16] at hR
      refine sk (th (sq (rg ?_)))
      refine ldp hT 0 5 rfl rfl rfl ?_
      refine fin hT 2 rfl (th (rt (WQ.del 5 rfl ?_)))
      rw [hR]
      exact ret2 rfl rfl rfl ⟨le.trans (le1.trans l1), [_, _, _, _, _], dh, rfl, hE, wb, hW3, rfl⟩
end Go.Proofs.YtcncpbolcigpnaaGreat
end
section
namespace Go.En
def lgTop : Nat := 1152921504606846976
structure Snp where
 idx : Nat
 term : Nat
 vot : List Int
 data : List UInt8
def trm (s : Snp) (l : List Ent) (i : Nat) : Nat × Bool :=
 if i = s.idx then (s.term, true) else if i < s.idx \/ s.idx + l.length < i then (0, false) else (((l[i - s.idx - 1]?).getD Ent.zero).term, true)
def lgAt (s : Snp) (l : List Ent) (i : Nat) : Option Nat := if i <= s.idx \/ s.idx + l.length < i then none else some (i - s.idx - 1)
def folR : Nat -> Nat -> List Ent -> Int
 | _, _, [] => 0
 | i, t, e :: r => if e.idx ≠ i + 1 \/ e.term < t then 180 else folR e.idx e.term r
def fol (i t : Nat) (x : List Ent) : Int := if (x.all fun e => (putEnt e).isSome) = true then folR i t x else 181
def cfgAt (s : Snp) (l : List Ent) (up : Nat) : List Int × Nat :=
 match l.reverse.find? fun e => decide (e.kind = 2 /\ e.idx <= up) with
 | some e => ((getConf e.data).getD [], e.idx)
 | none => (s.vot, s.idx)
structure Lg where
 w : Wl
 hard : Slt
 head : Slt
 kt : Nat
 kv : Int
 sn : Snp
 place : Nat
 fr : Nat
 l : List Ent
 code : Int
def Lg.last (L : Lg) : Nat := L.sn.idx + L.l.length
def didV (code e : Int) : Int := if code = 0 then e else code
def Lg.setHard (L : Lg) (D : Dk) (t : Nat) (v : Int) : Lg × Dk × Int :=
 if L.code ≠ 0 then (L, D, L.code)
 else if v < -1 \/ 7 <= v then (L, D, 181)
 else if t < L.kt then (L, D, 180)
 else if (L.hard.save 0 D (uint t ++ uint (v + 1).toNat)).2.2 = 0 then ({ L with hard := (L.hard.save 0 D (uint t ++ uint (v + 1).toNat)).1, kt := t, kv := v }, (L.hard.save 0 D (uint t ++ uint (v + 1).toNat)).2.1, 0)
 else ({ L with hard := (L.hard.save 0 D (uint t ++ uint (v + 1).toNat)).1, code := (L.hard.save 0 D (uint t ++ uint (v + 1).toNat)).2.2 }, (L.hard.save 0 D (uint t ++ uint (v + 1).toNat)).2.1, (L.hard.save 0 D (uint t ++ uint (v + 1).toNat)).2.2)
def Lg.app1 : List Ent -> Lg -> Dk -> Lg × Dk × Int
 | [], L, D => (L, D, 0)
 | e :: r, L, D =>
  if (L.w.append e.bytes D).2.2 ≠ 0 then ({ L with w := (L.w.append e.bytes D).1, code := (L.w.append e.bytes D).2.2 }, (L.w.append e.bytes D).2.1, (L.w.append e.bytes D).2.2)
  else app1 r { L with w := (L.w.append e.bytes D).1, l := L.l ++ [e] } (L.w.append e.bytes D).2.1
def Lg.append (L : Lg) (x : List Ent) (D : Dk) : Lg × Dk × Int :=
 if L.code ≠ 0 then (L, D, L.code)
 else if fol L.last (trm L.sn L.l L.last).1 x ≠ 0 then (L, D, fol L.last (trm L.sn L.l L.last).1 x)
 else L.app1 x D
def Lg.sync (L : Lg) (D : Dk) : Lg × Dk × Int :=
 if L.code ≠ 0 then (L, D, L.code) else ({ L with w := (L.w.sync D).1, code := (L.w.sync D).1.code }, (L.w.sync D).2, (L.w.sync D).1.code)
def lgA4 (place : Nat) : Nat := 4 * place + 2
end Go.En
end
section
namespace Go.En
theorem Ct.at2 {P : Program} {w0 : World} {f : FuncId} {args : List Value} {K : PH} {hs : List PH} {a b : PH} {S : Value -> PH -> PH -> PH -> Prop} (i j : Nat) (hi : hs[i]? = some a) (hj : (hs.eraseIdx i)[j]? = some b)
  (c : Ct P w0 f args K (a :: b :: (hs.eraseIdx i).eraseIdx j) (fun v K' hs' => ∃ a' b', hs' = a' :: b' :: (hs.eraseIdx i).eraseIdx j /\ S v K' a' b')) :
  Ct P w0 f args K hs (fun v K' hs' => ∃ a' b', hs' = ((hs.eraseIdx i).set j b').insertIdx i a' /\ S v K' a' b') := by
 have p1 := perm_front hs i a hi
 have p2 := perm_front (hs.eraseIdx i) j b hj
 refine ⟨c.1, fun w hw => (c.2 w (hw.perm (p1.trans (p2.cons a)))).mono ?_⟩
 rintro e w' ⟨v, K', hs', rfl, ⟨a', b', rfl, hS⟩, hw'⟩
 refine ⟨v, K', _, rfl, ⟨a', b', rfl, hS⟩, hw'.perm ?_⟩
 refine ((perm_set (hs.eraseIdx i) j b b' hj).cons a').trans (List.perm_insertIdx _ _ ?_).symm
 rw [List.length_set, List.length_eraseIdx]
 have := (List.getElem?_eq_some_iff.1 hi).1
 split <;> omega
theorem cells_sub {b off : Nat} {c : Array Value} {ty : Nat} {fr : Nat × Nat} (cs : List Value) (h : (c.toList.drop off).take cs.length = cs) : ∀ (j : Nat) v, cs[j]? = some v -> Cell (pt b c ty fr) ((⟨b, off, none⟩ : Addr).add j) v := by
 refine cells_pt cs fun j v hv => ?_
 have hj := (List.getElem?_eq_some_iff.1 hv).1
 rw [<- h, List.getElem?_take_of_lt hj, List.getElem?_drop] at hv
 simpa using hv
structure LBd (c : Nat) (L : Lg) : Prop where
 w : WBd c L.w
 hard : L.hard.bd
 head : L.head.bd
 kt : L.kt <= mxU
 kv : -1 <= L.kv /\ L.kv <= 6
 idx : L.sn.idx <= lgTop
 st : L.sn.term <= mxU
 vot : L.sn.vot.length <= 7
 data : L.sn.data.length <= 2097152
 place : L.place <= lgTop + c
 fr : L.fr <= wMany + c
 len : L.l.length <= 70000000000 + c
 ents : ∀ e ∈ L.l, e.ok /\ e.idx <= mxU /\ e.term <= mxU
theorem LBd.up {c d : Nat} {L : Lg} (o : LBd c L) (h : c <= d) : LBd d L :=
 ⟨o.w.up h, o.hard, o.head, o.kt, o.kv, o.idx, o.st, o.vot, o.data, by have := o.place; omega, by have := o.fr; omega, by have := o.len; omega, o.ents⟩
def lgA (wb db hb eb : Nat) (L : Lg) (vS dS lS : Value) : Array Value :=
 #[.pointer (some ⟨wb, 0, none⟩), .pointer (some ⟨db, 0, none⟩), .pointer (some ⟨hb, 0, none⟩), .pointer (some ⟨eb, 0, none⟩), .int .u64 ((L.kt : Nat) : Int), .int .i64 L.kv,
  .int .u64 ((L.sn.idx : Nat) : Int), .int .u64 ((L.sn.term : Nat) : Int), vS, dS, .int .u64 ((L.place : Nat) : Int), .int .u64 ((L.fr : Nat) : Int), lS, .int .i64 L.code]
end Go.En
namespace Go.Proofs.YtcncpbolcigpnaaGreat
open Go.En
attribute [local irreducible] Code.wp wpList Calls
def WalH (K : PH) (wb db : Nat) (W : Wl) (h : PH) : Prop := ∃ m, h = uns m /\ Djs m /\ WalM K wb db W m
theorem WalH.le {K K' : PH} (l : Le K K') {wb db : Nat} {W : Wl} {h : PH} (x : WalH K wb db W h) : WalH K' wb db W h := let ⟨m, h1, h2, h3⟩ := x; ⟨m, h1, h2, h3.le l⟩
theorem firstWH {w0 : World} {K h : PH} {hs : List PH} (wb db : Nat) (W : Wl) (hW : WalH K wb db W h) : Ct Tryz.prog w0 79 [.pointer (some ⟨wb, 0, none⟩)] K (h :: hs)
  (fun v K' hs' => K' = K /\ hs' = h :: hs /\ v = .int .u64 ((W.first : Nat) : Int)) := by
 obtain ⟨m, rfl, d, hm⟩ := hW
 refine Ct.bun2 d (firstWC wb db W hm) ?_
 rintro v K' hs' ⟨rfl, rfl, rfl⟩
 exact ⟨m, hs, rfl, fun _ => ⟨rfl, rfl, rfl⟩⟩
theorem lastWH {w0 : World} {K h : PH} {hs : List PH} (wb db : Nat) (W : Wl) (hW : WalH K wb db W h) (hb : W.first + W.recs.length <= wTop) : Ct Tryz.prog w0 80 [.pointer (some ⟨wb, 0, none⟩)] K (h :: hs)
  (fun v K' hs' => K' = K /\ hs' = h :: hs /\ v = .int .u64 (lastV (W.first + W.recs.length))) := by
 obtain ⟨m, rfl, d, hm⟩ := hW
 refine Ct.bun2 d (lastWC wb db W hm hb) ?_
 rintro v K' hs' ⟨rfl, rfl, rfl⟩
 exact ⟨m, hs, rfl, fun _ => ⟨rfl, rfl, rfl⟩⟩
theorem getWH {w0 : World} {K h : PH} {hs : List PH} (wb db : Nat) (W : Wl) (c : Nat) (hc : c <= 1000000000) (hb : WBd c W) (hW : WalH K wb db W h) (i : Nat) (hi : i < 18446744073709551616) : Ct Tryz.prog w0 81 [.pointer (some ⟨wb, 0, none⟩), .int .u64 ((i : Nat) : Int)] K (h :: hs)
  (fun v K' hs' => ∃ h', hs' = h' :: hs /\ h' = h /\ Le K K' /\ ((¬ (W.first <= i /\ i - W.first < W.recs.length) /\ v = .tuple #[.slice none 0 0, .bool false]) \/
   ∃ r ao k, W.first <= i /\ W.recs[i - W.first]? = some r /\ v = .tuple #[.slice ao r.length k, .bool true] /\ IsS K' ao r.length k 1 (bv r))) := by
 obtain ⟨m, rfl, d, hm⟩ := hW
 refine Ct.bun2 d (getWC wb db W c hc hb hm i hi hb.recl) ?_
 rintro v K' hs' ⟨le, rfl, hv⟩
 exact ⟨m, hs, rfl, fun _ => ⟨_, rfl, rfl, le, hv⟩⟩
theorem syncWH {w0 : World} {K h dh : PH} {hs : List PH} (wb db : Nat) (W : Wl) (hW : WalH K wb db W h) (D : Dk) (c : Nat) (oD : D.Ok c) (hc : c <= 1000000000) (hb : WBd c W) (hd : DskH K db D dh) :
  Ct Tryz.prog w0 91 [.pointer (some ⟨wb, 0, none⟩)] K (h :: dh :: hs)
   (fun v K' hs' => ∃ h' dh', hs' = h' :: dh' :: hs /\ K' = K /\ WalH K wb db (W.sync D).1 h' /\ DskH K db (W.sync D).2 dh' /\ v = .int .i64 (W.sync D).1.code) := by
 obtain ⟨m, rfl, d, hm⟩ := hW
 refine Ct.bun2 d (syncWC wb db W hm D c oD hc hb hd) ?_
 rintro v K' hs' ⟨rfl, m', dh', rfl, hW', hd', rfl⟩
 exact ⟨m', _, rfl, fun d' => ⟨_, dh', rfl, rfl, ⟨m', rfl, d', hW'⟩, hd', rfl⟩⟩
theorem appendWH {w0 : World} {K h dh hv : PH} {hs : List PH} (wb db : Nat) (W : Wl) (hW : WalH K wb db W h) (D : Dk) (c : Nat) (oD : DOk c D) (hc : c <= 999999000) (hb : WBd c W) (hd : DskH K db D dh) (ab : Option Addr) (cb : Nat) (b : List UInt8) (hbl : b.length < 1099511627776) (hin : In K hs hv) (x : IsS hv ab b.length cb 1 (bv b)) :
  Ct Tryz.prog w0 89 [.pointer (some ⟨wb, 0, none⟩), .slice ab b.length cb] K (h :: dh :: hs)
   (fun v K' hs' => ∃ h' dh', hs' = h' :: dh' :: hs /\ Le K K' /\ WalH K' wb db (W.append b D).1 h' /\ DskH K' db (W.append b D).2.1 dh' /\ v = .int .i64 (W.append b D).2.2) := by
 obtain ⟨m, rfl, d, hm⟩ := hW
 refine Ct.bun2 d (appendWC wb db W hm D c oD hc hb hd ab cb b hbl hin x) ?_
 rintro v K' hs' ⟨le, m', dh', rfl, hW', hd', rfl⟩
 exact ⟨m', _, rfl, fun d' => ⟨_, dh', rfl, le, ⟨m', rfl, d', hW'⟩, hd', rfl⟩⟩
def LgM (K : PH) (lb db : Nat) (L : Lg) (D : Dk) (m : List PH) : Prop :=
 ∃ wb hb eb aV cV aD cD aL cL wh hh eh gl dh, m = [pt lb (lgA wb db hb eb L (.slice aV L.sn.vot.length cV) (.slice aD L.sn.data.length cD) (.slice aL L.l.length cL)) 78, wh, hh, eh, gl, dh] /\
  WalH K wb db L.w wh /\ SltH K hb db 0 L.hard hh /\ SltH K eb db 4 L.head eh /\ SlZ 4 111 (EntC K) gl aL L.l.length cL L.l /\ DskH K db D dh /\ IsS K aV L.sn.vot.length cV 1 (iv L.sn.vot) /\ IsS K aD L.sn.data.length cD 1 (bv L.sn.data)
theorem LgM.le {K K' : PH} (l : Le K K') {lb db : Nat} {L : Lg} {D : Dk} {m : List PH} (h : LgM K lb db L D m) : LgM K' lb db L D m := by
 obtain ⟨wb, hb, eb, aV, cV, aD, cD, aL, cL, wh, hh, eh, gl, dh, h1, h2, h3, h4, h5, h6, h7, h8⟩ := h
 exact ⟨wb, hb, eb, aV, cV, aD, cD, aL, cL, wh, hh, eh, gl, dh, h1, h2.le l, h3.le l, h4.le l, h5.imp fun _ _ h => h.le l, h6.le l, h7.le l, h8.le l⟩
theorem rightC {w0 : World} {K hv : PH} {hs : List PH} (ao : Option Addr) (cap : Nat) (l : List Int) (hm : In K hs hv) (x : IsS hv ao l.length cap 1 (iv l)) (hl : l.length < 1099511627776) :
  Ct Tryz.prog w0 32 [.agg #[.slice ao l.length cap]] K hs (fun v K' hs' => K' = K /\ hs' = hs /\ v = .bool (putConf l).isSome) := by
 refine enter Tryz.func32 (by kernel_rfl) rfl rfl rfl ?_
 refine sq (rg ?_)
 refine bx hT 0 rfl fun b1 => ?_
 refine fin hT 1 rfl (th (sq (rg ?_)))
 refine WL.hs (pt b1 #[.slice ao l.length cap] 59 :: hs) rfl ?_
 refine ldS hT 0 0 rfl rfl (by kernel_rfl) ?_
 refine cl hT 0 rfl (putConfC ao cap l (In.cons hm) x hl) ?_
 rintro v7 K7 hs7 ⟨rfl, h7, ao7, c7, rfl, rfl, o7⟩
 refine fin hT 5 rfl (th (sq (rg ?_)))
 refine cmpS hT 1 rfl fun b11 h11 => ?_
 refine fin hT 1 rfl (th (rt (WQ.drop (WQ.drop ?_))))
 have e : b11 = (putConf l).isSome := by
  rw [Bool.eq_iff_iff, h11, ec_zero]
 exact ret1 rfl rfl ⟨rfl, rfl, by rw [e]⟩
theorem areaLC {w0 : World} {K : PH} {hs : List PH} (n : Nat) (hn : n <= 2305843009213693952) : Ct Tryz.prog w0 38 [.int .u64 ((n : Nat) : Int)] K hs (fun v K' hs' => K' = K /\ hs' = hs /\ v = .int .u64 ((lgA4 n : Nat) : Int)) := by
 refine enter Tryz.func38 (by kernel_rfl) rfl rfl rfl ?_
 refine sq (rg ?_)
 refine fin hT 1 rfl (th (sq (rg ?_)))
 refine ar hT 1 rfl (u64w (x := ((4 * n : Nat) : Int)) (by omega)) ?_
 refine ar hT 0 rfl (u64w (x := ((4 * n + 2 : Nat) : Int)) (by omega)) ?_
 refine fin hT 1 rfl (th (rt ?_))
 exact ret1 rfl rfl ⟨rfl, rfl, rfl⟩
theorem didLC {w0 : World} {K : PH} {hs : List PH} (lb wb db hb eb : Nat) (L : Lg) (vS dS lS : Value) (e : Int) :
  Ct Tryz.prog w0 39 [.pointer (some ⟨lb, 0, none⟩), .int .i64 e] K (pt lb (lgA wb db hb eb L vS dS lS) 78 :: hs)
   (fun v K' hs' => ∃ h', hs' = h' :: hs /\ K' = K /\ h' = pt lb (lgA wb db hb eb { L with code := didV L.code e } vS dS lS) 78 /\ v = .int .i64 (didV L.code e)) := by
 unfold didV
 refine enter Tryz.func39 (by kernel_rfl) rfl rfl rfl ?_
 refine sq (rg ?_)
 refine fin hT 1 rfl (th (sq (sq (rg ?_))))
 refine ldp hT 3 0 rfl rfl rfl ?_
 refine cmpS hT 0 rfl fun b9 h9 => ?_
 refine fin hT 0 rfl (th (ifP h9 rfl (fun e2 => ?_) (fun e2 => ?_)))
 ·rw [if_pos e2]
  refine rg ?_
  refine stp hT 4 0 rfl rfl rfl rfl ?_
  refine fin hT 0 rfl (th (sq (rg ?_)))
  refine ldp hT 3 0 rfl rfl rfl ?_
  refine fin hT 1 rfl (th (rt ?_))
  exact ret1 rfl rfl ⟨_, rfl, rfl, rfl, rfl⟩
 ·rw [if_neg e2]
  refine sk (th (sq (rg ?_)))
  refine ldp hT 3 0 rfl rfl rfl ?_
  refine fin hT 1 rfl (th (rt ?_))
  exact ret1 rfl rfl ⟨_, rfl, rfl, rfl, rfl⟩
theorem hardLC {w0 : World} {K : PH} {m hs : List PH} (lb db : Nat) (L : Lg) (D : Dk) (hm : LgM K lb db L D m) :
  Ct Tryz.prog w0 26 [.pointer (some ⟨lb, 0, none⟩)] K (m ++ hs) (fun v K' hs' => K' = K /\ hs' = m ++ hs /\ v = .agg #[.int .u64 ((L.kt : Nat) : Int), .int .i64 L.kv]) := by
 obtain ⟨wb, hb, eb, aV, cV, aD, cD, aL, cL, wh, hh, eh, gl, dh, rfl, hW, hH, hE, hG, hD, xV, xD⟩ := hm
 refine enter Tryz.func26 (by kernel_rfl) rfl rfl rfl ?_
 refine sq (rg ?_)
 refine al hT 0 (.agg #[.int .u64 0, .int .i64 0]) rfl (by kernel_rfl) fun b2 => ?_
 refine fin hT 0 rfl (th (sq (rg ?_)))
 refine lds hT 3 [.int .u64 ((L.kt : Nat) : Int), .int .i64 L.kv] rfl (by kernel_rfl) (.inr ⟨1, rfl⟩) (fun j v hv => ?_) ?_
 ·exact cells_sub _ rfl j v hv
 refine stS hT 0 0 rfl rfl (by kernel_rfl) rfl rfl ?_
 refine fin hT 0 rfl (th (rt ?_))
 exact retcA 0 1 rfl rfl rfl (by kernel_rfl) ⟨rfl, rfl, rfl⟩
end Go.Proofs.YtcncpbolcigpnaaGreat
end
section
namespace Go.En
theorem u64s {a b : Nat} (h : b <= a) (ha : a < 18446744073709551616) : Value.int .u64 (IntKind.u64.wrap (((a : Nat) : Int) - ((b : Nat) : Int))) = .int .u64 ((a - b : Nat) : Int) := by
 rw [show ((a : Nat) : Int) - ((b : Nat) : Int) = ((a - b : Nat) : Int) from by omega]
 exact u64w (by omega)
theorem u64s1 {a : Nat} (h : 1 <= a) (ha : a < 18446744073709551616) : Value.int .u64 (IntKind.u64.wrap (((a : Nat) : Int) - 1)) = .int .u64 ((a - 1 : Nat) : Int) := by
 rw [show ((a : Nat) : Int) - 1 = ((a - 1 : Nat) : Int) from by omega]
 exact u64w (by omega)
def okV (o : Option Nat) : Value := .tuple #[.int .i64 (((o.getD 0 : Nat)) : Int), .bool o.isSome]
theorem trm_at (s : Snp) (l : List Ent) (i : Nat) : trm s l i = if i = s.idx then (s.term, true) else match lgAt s l i with
  | none => (0, false)
  | some k => (((l[k]?).getD Ent.zero).term, true) := by
 unfold trm lgAt
 by_cases h : i = s.idx
 ·rw [if_pos h, if_pos h]
 ·rw [if_neg h, if_neg h]
  by_cases h2 : i < s.idx \/ s.idx + l.length < i
  ·rw [if_pos h2, if_pos (by omega)]
  ·rw [if_neg h2, if_neg (by omega)]
theorem lgAt_some {s : Snp} {l : List Ent} {i k : Nat} (h : lgAt s l i = some k) : s.idx < i /\ i <= s.idx + l.length /\ k = i - s.idx - 1 /\ k < l.length := by
 unfold lgAt at h
 split at h
 ·cases h
 ·cases h; omega
end Go.En
namespace Go.Proofs.YtcncpbolcigpnaaGreat
open Go.En
attribute [local irreducible] Code.wp wpList Calls
theorem cloneIC {w0 : World} {K hv : PH} {hs : List PH} (ao : Option Addr) (cap : Nat) (b : List Int) (hm : In K hs hv) (x : IsS hv ao b.length cap 1 (iv b)) (hl : b.length < 1099511627776) :
  Ct Tryz.prog w0 33 [.slice ao b.length cap] K hs
   (fun v K' hs' => Le K K' /\ hs' = hs /\ ∃ ao' c', v = .slice ao' b.length c' /\ IsS K' ao' b.length c' 1 (iv b)) := by
 refine enter Tryz.func33 (by kernel_rfl) rfl rfl rfl ?_
 refine sq (rg ?_)
 refine fin hT 1 rfl (th (sq (sq (rg ?_))))
 refine cb hT 1 rfl (fun h1 => ?_) (fun h1 => ?_)
 ·have hao : ao = none := by simpa using h1
  subst hao
  have hb0 : b = [] := by
   cases b with
   | nil => rfl
   | cons c r => obtain ⟨a, ha, _⟩ := x.2.2 0 _ (by simp [iv]; rfl); cases ha
  subst hb0
  refine fin hT 0 rfl (th (ifT rfl (sq (rg ?_))))
  refine fin hT 1 rfl (th (rt (rT ?_)))
  exact ret1 rfl rfl ⟨Le.refl _, rfl, none, 0, rfl, IsS.nil _ _ _ _⟩
 ·refine fin hT 0 rfl (th (ifF rfl (sk (th (sq (rg ?_))))))
  refine lit hT 0 #[] rfl (by decide) (by kernel_rfl) fun b5 => ?_
  refine app hT 1 0 rfl rfl (Own.ofPt (c := #[]) (n := 0) (by simp) (by simp [maxLen])) (In.cons hm) x rfl (by decide) (iv_one _) (by show (0 + b.length) * 8 <= _; omega) (by simp [maxLen]; omega) fun ao7 c7 g7 o7 => ?_
  refine fin hT 1 rfl (th (rt (WQ.frz fun K2 l1 l2 => ?_)))
  have e : 0 + b.length = b.length := Nat.zero_add _
  rw [e] at o7
  exact ret1 rfl (by rw [e]; rfl) ⟨l1, rfl, ao7, c7, rfl, o7.isS.le l2⟩
theorem copiedC {w0 : World} {K hb : PH} {hs : List PH} (e : Ent) (ao : Option Addr) (cap : Nat) (hm : In K hs hb) (x : IsS hb ao e.data.length cap 1 (bv e.data)) (hl : e.data.length < 1099511627776) :
  Ct Tryz.prog w0 90 [.agg (e.v ao cap)] K hs (fun v K' hs' => Le K K' /\ hs' = hs /\ ∃ ao' c', v = .agg (e.v ao' c') /\ IsS K' ao' e.data.length c' 1 (bv e.data)) := by
 refine enter Tryz.func90 (by kernel_rfl) rfl rfl rfl ?_
 refine sq (rg ?_)
 refine bx hT 0 rfl fun b1 => ?_
 refine al hT 0 (.agg #[.int .u64 0, .int .u64 0, .int .i64 0, .slice none 0 0]) rfl (by kernel_rfl) fun b2 => ?_
 refine fin hT 0 rfl (th (sq (rg ?_)))
 refine WL.hs (pt b2 #[.int .u64 0, .int .u64 0, .int .i64 0, .slice none 0 0] 111 :: pt b1 (e.v ao cap) 111 :: hs) rfl ?_
 refine ldp hT 1 1 rfl rfl rfl ?_
 refine cl hT 0 rfl (cloneB ao cap e.data (In.cons (In.cons hm)) x hl) ?_
 rintro v5 K5 hs5 ⟨rfl, h5, ao5, c5, rfl, rfl, o5⟩
 refine stp hT 1 2 rfl rfl rfl rfl ?_
 refine WL.hs (h5 :: pt b2 #[.int .u64 0, .int .u64 0, .int .i64 0, .slice none 0 0] 111 :: pt b1 (e.v ao5 c5) 111 :: hs) rfl ?_
 refine fin hT 0 rfl (th (sq (rg ?_)))
 refine ldS hT 0 2 rfl rfl (by kernel_rfl) ?_
 refine stS hT 0 1 rfl rfl (by kernel_rfl) rfl rfl ?_
 refine fin hT 0 rfl (th (rt (WQ.frz fun K2 l1 l2 => ?_)))
 exact retcA 0 2 rfl rfl rfl (by kernel_rfl) ⟨l1, rfl, ao5, c5, rfl, o5.isS.le l2⟩
def snV (s : Snp) (aV : Option Addr) (cV : Nat) (aD : Option Addr) (cD : Nat) : Array Value := #[.int .u64 ((s.idx : Nat) : Int), .int .u64 ((s.term : Nat) : Int), .slice aV s.vot.length cV, .slice aD s.data.length cD]
def SnpS (K : PH) (s : Snp) (v : Value) : Prop := ∃ aV cV aD cD, v = .agg (snV s aV cV aD cD) /\ IsS K aV s.vot.length cV 1 (iv s.vot) /\ IsS K aD s.data.length cD 1 (bv s.data)
theorem snapLC {w0 : World} {K : PH} {m hs : List PH} (lb db : Nat) (L : Lg) (D : Dk) (c : Nat) (hb : LBd c L) (hm : LgM K lb db L D m) :
  Ct Tryz.prog w0 43 [.pointer (some ⟨lb, 0, none⟩)] K (m ++ hs) (fun v K' hs' => Le K K' /\ hs' = m ++ hs /\ SnpS K' L.sn v) := by
 obtain ⟨wb, hb', eb, aV, cV, aD, cD, aL, cL, wh, hh, eh, gl, dh, rfl, hW, hH, hE, hG, hD, xV, xD⟩ := hm
 have hv7 := hb.vot
 have hd2 := hb.data
 refine enter Tryz.func43 (by kernel_rfl) rfl rfl rfl ?_
 refine sq (rg ?_)
 refine al hT 0 (.agg #[.int .u64 0, .int .u64 0, .slice none 0 0, .slice none 0 0]) rfl (by kernel_rfl) fun b2 => ?_
 refine fin hT 0 rfl (th (sq (rg ?_)))
 refine lds hT 3 (snV L.sn aV cV aD cD).toList rfl (by kernel_rfl) (.inr ⟨1, rfl⟩) (cells_sub _ rfl) ?_
 refine al hT 0 (.agg #[.int .u64 0, .int .u64 0, .slice none 0 0, .slice none 0 0]) rfl (by kernel_rfl) fun b3 => ?_
 refine stS hT 0 0 rfl rfl (by kernel_rfl) rfl rfl ?_
 refine fin hT 0 rfl (th (sq (rg ?_)))
 refine ldp hT 2 0 rfl rfl rfl ?_
 refine cl hT 0 rfl (cloneIC aV cV L.sn.vot (.inl rfl) xV (by omega)) ?_
 rintro v11 K11 hs11 ⟨le1, rfl, aV2, cV2, rfl, xV2⟩
 refine stp hT 2 0 rfl rfl rfl rfl ?_
 refine fin hT 0 rfl (th (sq (rg ?_)))
 refine ldp hT 1 0 rfl rfl rfl ?_
 refine cl hT 0 rfl (cloneB aD cD L.sn.data (.inl rfl) (xD.le le1) (by omega)) ?_
 rintro v16 K16 hs16 ⟨rfl, h16, aD2, cD2, rfl, rfl, oD2⟩
 refine stp hT 1 1 rfl rfl rfl rfl ?_
 refine WL.hs (h16 :: pt b3 (snV L.sn aV2 cV2 aD2 cD2) 66 :: pt b2 #[.int .u64 0, .int .u64 0, .slice none 0 0, .slice none 0 0] 66 :: _) rfl ?_
 refine fin hT 0 rfl (th (sq (rg ?_)))
 refine ldS hT 0 1 rfl rfl (by kernel_rfl) ?_
 refine stS hT 0 2 rfl rfl (by kernel_rfl) rfl rfl ?_
 refine fin hT 0 rfl (th (rt (WQ.frz fun K2 l1 l2 => ?_)))
 exact retcA 1 2 rfl rfl rfl (by kernel_rfl) ⟨le1.trans l1, rfl, aV2, cV2, aD2, cD2, rfl, xV2.le l1, oD2.isS.le l2⟩
theorem lastLC {w0 : World} {K : PH} {m hs : List PH} (lb db : Nat) (L : Lg) (D : Dk) (c : Nat) (hb : LBd c L) (hc : c <= 1000000000) (hm : LgM K lb db L D m) :
  Ct Tryz.prog w0 9 [.pointer (some ⟨lb, 0, none⟩)] K (m ++ hs) (fun v K' hs' => K' = K /\ hs' = m ++ hs /\ v = .int .u64 ((L.sn.idx + L.l.length : Nat) : Int)) := by
 obtain ⟨wb, hb', eb, aV, cV, aD, cD, aL, cL, wh, hh, eh, gl, dh, rfl, hW, hH, hE, hG, hD, xV, xD⟩ := hm
 have h1 := hb.idx
 have h2 := hb.len
 unfold lgTop at h1
 refine enter Tryz.func9 (by kernel_rfl) rfl rfl rfl ?_
 refine sq (rg ?_)
 refine fin hT 1 rfl (th (sq (rga [pt lb (lgA wb db hb' eb L (.slice aV L.sn.vot.length cV) (.slice aD L.sn.data.length cD) (.slice aL L.l.length cL)) 78] 13 [0, 2, 4, 6, 8, 10, 12, 14, 16, 18, 20, 22, 24] (by simp) (by kernel_rfl) (by kernel_rfl) ?_)))
 refine dldp hT (by kernel_rfl) 4 0 rfl rfl rfl ?_
 refine dldp hT (by kernel_rfl) 3 0 rfl rfl rfl ?_
 refine dar hT (by kernel_rfl) 1 rfl (u64w (x := ((L.l.length : Nat) : Int)) (by omega)) ?_
 refine dar hT (by kernel_rfl) 0 rfl (u64w (x := ((L.sn.idx + L.l.length : Nat) : Int)) (by omega)) ?_
 refine dend hT (by kernel_rfl) 1 rfl (th (rt ?_))
 exact ret1 rfl rfl ⟨rfl, rfl, rfl⟩
theorem atLC {w0 : World} {K : PH} {m hs : List PH} (lb db : Nat) (L : Lg) (D : Dk) (c : Nat) (hb : LBd c L) (hc : c <= 1000000000) (hm : LgM K lb db L D m) (i : Nat) (hi : i < 18446744073709551616) :
  Ct Tryz.prog w0 94 [.pointer (some ⟨lb, 0, none⟩), .int .u64 ((i : Nat) : Int)] K (m ++ hs) (fun v K' hs' => K' = K /\ hs' = m ++ hs /\ v = okV (lgAt L.sn L.l i)) := by
 have hm0 := hm
 obtain ⟨wb, hb', eb, aV, cV, aD, cD, aL, cL, wh, hh, eh, gl, dh, rfl, hW, hH, hE, hG, hD, xV, xD⟩ := hm
 have h2 := hb.len
 refine enter Tryz.func94 (by kernel_rfl) rfl rfl rfl ?_
 refine sq (rg ?_)
 refine fin hT 2 rfl (th (sq (sq (rg ?_))))
 refine ldp hT 5 0 rfl rfl rfl ?_
 refine cmpS hT 0 rfl fun b12 h12 => ?_
 refine' bjo (q := L.sn.idx + L.l.length < i) hT 1 5 18 [12, 13] h12 rfl rfl rfl rfl rfl rfl rfl (fun _ => ?x2) (fun b18 h18 => ?_)
 case x2 =>
  refine cl hT 2 rfl (lastLC lb db L D c hb hc hm0) ?_
  rintro v16 K16 hs16 ⟨rfl, rfl, rfl⟩
  refine cmpS hT 0 rfl fun b17 h17 => ?_
  exact fin hT 1 rfl (bjx (h17.trans (by omega)) rfl rfl rfl)
 refine fin hT 0 rfl (th (ifP h18 rfl (fun e4 => ?_) (fun e4 => ?_)))
 ·refine sq (rg ?_)
  refine fin hT 2 rfl (th (rt (rT ?_)))
  refine ret2 rfl rfl rfl ⟨rfl, rfl, ?_⟩
  unfold lgAt
  rw [if_pos (by omega)]
  rfl
 ·refine sk (th (sq (rg ?_)))
  refine ldp hT 5 0 rfl rfl rfl ?_
  refine ar hT 0 rfl (u64s (by omega) hi) ?_
  refine ar hT 0 rfl (u64s1 (by omega) (by omega)) ?_
  refine ar hT 0 rfl (i64w (by omega)) ?_
  refine fin hT 2 rfl (th (rt ?_))
  refine ret2 rfl rfl rfl ⟨rfl, rfl, ?_⟩
  unfold lgAt
  rw [if_neg (by omega)]
  rfl
end Go.Proofs.YtcncpbolcigpnaaGreat
end
section
namespace Go.En
def okT (o : Nat × Bool) : Value := .tuple #[.int .u64 ((o.1 : Nat) : Int), .bool o.2]
end Go.En
namespace Go.Proofs.YtcncpbolcigpnaaGreat
open Go.En
attribute [local irreducible] Code.wp wpList Calls
theorem ent_cells {K gl : PH} {aL : Option Addr} {cL : Nat} {l : List Ent} (hG : SlZ 4 111 (EntC K) gl aL l.length cL l) {k : Nat} {e : Ent} (hk : l[k]? = some e) :
  ∃ a ao cap, aL = some a /\ IsS K ao e.data.length cap 1 (bv e.data) /\ ∀ (j : Nat) v, (e.v ao cap).toList[j]? = some v -> Cell gl ((a.add (k * 4)).add j) v := by
 have hkl : k < l.length := (List.getElem?_eq_some_iff.1 hk).1
 obtain ⟨a, rfl⟩ := hG.slS.addr (by omega) (by decide)
 obtain ⟨c, ⟨ao, cap, rfl, x⟩, _, hc⟩ := hG.slS.cells hk
 exact ⟨a, ao, cap, rfl, x, hc⟩
theorem termLC {w0 : World} {K : PH} {m hs : List PH} (lb db : Nat) (L : Lg) (D : Dk) (c : Nat) (hb : LBd c L) (hc : c <= 1000000000) (hm : LgM K lb db L D m) (i : Nat) (hi : i < 18446744073709551616) :
  Ct Tryz.prog w0 57 [.pointer (some ⟨lb, 0, none⟩), .int .u64 ((i : Nat) : Int)] K (m ++ hs) (fun v K' hs' => K' = K /\ hs' = m ++ hs /\ v = okT (trm L.sn L.l i)) := by
 have hm0 := hm
 obtain ⟨wb, hb', eb, aV, cV, aD, cD, aL, cL, wh, hh, eh, gl, dh, rfl, hW, hH, hE, hG, hD, xV, xD⟩ := hm
 have h2 := hb.len
 rw [trm_at]
 refine enter Tryz.func57 (by kernel_rfl) rfl rfl rfl ?_
 refine sq (rg ?_)
 refine fin hT 2 rfl (th (sq (rg ?_)))
 refine cl hT 2 rfl (atLC lb db L D c hb hc hm0 i hi) ?_
 rintro v11 K11 hs11 ⟨rfl, rfl, rfl⟩
 refine fin hT 5 rfl (th (sq (bk (sq (rg ?_)))))
 refine ldp hT 5 0 rfl rfl rfl ?_
 refine cmpS hT 0 rfl fun b21 h21 => ?_
 refine fin hT 1 rfl (th (ifP h21 rfl (fun e2 => ?_) (fun e2 => ?_)))
 ·rw [if_pos (by omega)]
  refine sq (rg ?_)
  refine ldp hT 4 0 rfl rfl rfl ?_
  refine fin hT 2 rfl (th (rt (rB (rT ?_))))
  exact ret2 rfl rfl rfl ⟨rfl, rfl, rfl⟩
 ·rw [if_neg (by omega)]
  cases hk : lgAt L.sn L.l i with
  | none =>
   refine sq (rg ?_)
   refine fin hT 3 rfl (th (ifT rfl ?_))
   refine sq (rg ?_)
   refine fin hT 2 rfl (th (rt (rB (rT ?_))))
   exact ret2 rfl rfl rfl ⟨rfl, rfl, rfl⟩
  | some k =>
   obtain ⟨g1, g2, g3, g4⟩ := lgAt_some hk
   obtain ⟨e, he⟩ : ∃ e, L.l[k]? = some e := ⟨L.l[k], List.getElem?_eq_getElem g4⟩
   obtain ⟨a, ao, cap, rfl, x, hcell⟩ := ent_cells hG he
   refine sq (rg ?_)
   refine fin hT 3 rfl (th (ifF rfl ?_))
   refine sk (bl (th (sq (rg ?_))))
   refine ldp hT 3 0 rfl rfl rfl ?_
   obtain ⟨xs, hxs⟩ := hG.slS.isS
   refine ixs hT 1 k rfl rfl hxs g4 (by decide) fun a35 h35 => ?_
   cases h35
   refine ld hT 1 rfl (.inr ⟨4, rfl⟩) (hcell 1 _ rfl) ?_
   refine fin hT 2 rfl (th (rt ?_))
   refine ret2 rfl rfl rfl ⟨rfl, rfl, ?_⟩
   dsimp only
   rw [he]
   rfl
end Go.Proofs.YtcncpbolcigpnaaGreat
end
section
namespace Go.En
def entB (e : Ent) : Prop := e.idx <= mxU /\ e.term <= mxU /\ e.data.length < 1099511627776
theorem putEnt_ok {e : Ent} : (putEnt e).isSome = true ↔ e.ok := by unfold putEnt; split <;> simp_all
theorem LBd.setHard {c : Nat} {L : Lg} (o : LBd c L) (D : Dk) (t : Nat) (v : Int) (ht : t <= mxU) : LBd c (L.setHard D t v).1 := by
 unfold Lg.setHard
 split
 ·exact o
 ·split
  ·exact o
  ·split
   ·exact o
   ·have hs := Slt.save_bd o.hard 0 D (uint t ++ uint (v + 1).toNat)
    split
    ·exact ⟨o.w, hs, o.head, ht, by dsimp only; omega, o.idx, o.st, o.vot, o.data, o.place, o.fr, o.len, o.ents⟩
    ·exact ⟨o.w, hs, o.head, o.kt, o.kv, o.idx, o.st, o.vot, o.data, o.place, o.fr, o.len, o.ents⟩
theorem LBd.sync {c : Nat} {L : Lg} (o : LBd c L) (D : Dk) : LBd c (L.sync D).1 := by
 unfold Lg.sync
 split
 ·exact o
 ·exact ⟨o.w.sync D, o.hard, o.head, o.kt, o.kv, o.idx, o.st, o.vot, o.data, o.place, o.fr, o.len, o.ents⟩
end Go.En
namespace Go.Proofs.YtcncpbolcigpnaaGreat
open Go.En
attribute [local irreducible] Code.wp wpList Calls
theorem followLC {w0 : World} {K : PH} {hs : List PH} (i t : Nat) (hi : i <= mxU) (ht : t <= mxU) (ao : Option Addr) (cap : Nat) (x : List Ent) (xs : SlS 4 (EntC K) K ao x.length cap x) (hx : ∀ e ∈ x, entB e) (hxl : x.length <= 1099511627776) :
  Ct Tryz.prog w0 87 [.int .u64 ((i : Nat) : Int), .int .u64 ((t : Nat) : Int), .slice ao x.length cap] K hs (fun v K' hs' => K' = K /\ hs' = hs /\ v = .int .i64 (fol i t x)) := by
 obtain ⟨ys, hys⟩ := xs.isS
 refine enter Tryz.func87 (by kernel_rfl) rfl rfl rfl ?_
 refine sq (rg ?_)
 refine fin hT 1 rfl (th (sq (sq (rg ?_))))
 refine fin hT 3 rfl (th (bk ?_))
 refine loop (σ := Nat) (fun j => [(0, .int .u64 ((i : Nat) : Int)), (1, .int .u64 ((t : Nat) : Int)), (2, .slice ao x.length cap), (13, .slice ao x.length cap), (14, .int .i64 ((x.length : Nat) : Int)), (15, .int .i64 ((j : Nat) : Int))]) (fun _ => K) (fun _ => hs) (fun j => j <= x.length /\ ∀ e ∈ x.take j, e.ok) (fun j => x.length - j) 0 ⟨Nat.zero_le _, by simp⟩ ⟨rfl, rfl, rfl, rfl, rfl, rfl, trivial⟩ rfl rfl ?_
 rintro j ⟨hj, hok⟩
 refine sq (rg ?_)
 refine cmpS hT 0 rfl fun b16 h16 => ?_
 refine fin hT 0 rfl (th (sq (ifP h16 rfl (fun e2 => ?_) (fun e2 => ?_))))
 ·have hjx : j < x.length := by omega
  obtain ⟨e, he⟩ : ∃ e, x[j]? = some e := ⟨x[j], List.getElem?_eq_getElem hjx⟩
  have hem := List.mem_of_getElem? he
  obtain ⟨q1, q2, q3⟩ := hx e hem
  obtain ⟨a, rfl⟩ := xs.addr (by omega) (by decide)
  obtain ⟨c, ⟨ae, ce, rfl, xe⟩, _, hcell⟩ := xs.cells he
  refine sk (th (sq (bk (sq (rg ?_)))))
  refine ixs hT 0 j rfl rfl hys hjx (by decide) fun a17 h17 => ?_
  cases h17
  refine lds hT 0 (e.v ae ce).toList rfl (by kernel_rfl) (.inl rfl) hcell ?_
  refine al hT 0 (.agg #[.int .u64 0, .int .u64 0, .int .i64 0, .slice none 0 0]) rfl (by kernel_rfl) fun b8 => ?_
  refine stS hT 0 0 rfl rfl (by kernel_rfl) rfl rfl ?_
  refine fin hT 0 rfl (th (sq (rg ?_)))
  refine ldS hT 0 0 rfl rfl (by kernel_rfl) ?_
  refine cl hT 0 rfl (putEntC e ae ce q1 q2 (.inl rfl) xe q3) ?_
  rintro v21 K21 hs21 ⟨rfl, h21, ao21, c21, rfl, rfl, o21⟩
  refine fin hT 5 rfl (th (sq (rg (WL.drop (WL.drop ?_)))))
  refine cmpS hT 1 rfl fun b25 h25 => ?_
  refine fin hT 0 rfl (th (ifP h25 rfl (fun e4 => ?_) (fun e4 => ?_)))
  ·have hno : ¬ e.ok := fun h => e4 (ec_zero.2 (putEnt_ok.2 h))
   refine sq (rg ?_)
   refine fin hT 1 rfl (th (rt (rB (rT (rT (rB (rT ?_)))))))
   refine ret1 rfl rfl ⟨rfl, rfl, ?_⟩
   unfold fol
   rw [if_neg]
   simp only [List.all_eq_true, putEnt_ok]
   exact fun h => hno (h e hem)
  ·have hyes : e.ok := putEnt_ok.1 (ec_zero.1 (Decidable.not_not.1 e4))
   refine sk (bl (th (rg ?_)))
   refine ar hT 0 rfl (i64w (x := ((j + 1 : Nat) : Int)) (by omega)) ?_
   refine fin hT 1 rfl ?_
   refine again (x := j) (j + 1) ⟨rfl, rfl, rfl, rfl, rfl, rfl, trivial⟩ rfl rfl ⟨by omega, ?_⟩ (by omega)
   rw [List.take_add_one, he]
   intro y hy
   rcases List.mem_append.1 hy with hy | hy
   ·exact hok y hy
   ·simp at hy; rw [hy]; exact hyes
 ·obtain rfl : j = x.length := by omega
  rw [List.take_length] at hok
  have e0 : fol i t x = folR i t x := by unfold fol; rw [if_pos (by simp only [List.all_eq_true, putEnt_ok]; exact hok)]
  rw [e0]
  refine ex (xt (xt (xb (th (sq (sq (rg ?_)))))))
  refine fin hT 3 rfl (th (bk ?_))
  obtain ⟨R, hR⟩ : ∃ R, R = folR i t x := ⟨_, rfl⟩
  rw [<- hR]
  refine loop (σ := Nat × Nat × Nat) (fun s => [(0, .int .u64 ((s.2.1 : Nat) : Int)), (1, .int .u64 ((s.2.2 : Nat) : Int)), (2, .slice ao x.length cap), (27, .slice ao x.length cap), (28, .int .i64 ((x.length : Nat) : Int)), (29, .int .i64 ((s.1 : Nat) : Int))]) (fun _ => K) (fun _ => hs) (fun s => s.1 <= x.length /\ s.2.1 <= mxU /\ s.2.2 <= mxU /\ folR s.2.1 s.2.2 (x.drop s.1) = R) (fun s => x.length - s.1) (0, i, t) ⟨Nat.zero_le _, hi, ht, hR.symm⟩ ⟨rfl, rfl, rfl, rfl, rfl, rfl, trivial⟩ rfl rfl ?_
  clear hi ht e0 hR
  clear i t
  rintro ⟨j, i, t⟩ ⟨hj, hi, ht, hw⟩
  dsimp only at *
  refine sq (rg ?_)
  refine cmpS hT 0 rfl fun b30 h30 => ?_
  refine fin hT 0 rfl (th (sq (ifP h30 rfl (fun e6 => ?_) (fun e6 => ?_))))
  ·have hjx : j < x.length := by omega
   obtain ⟨e, he⟩ : ∃ e, x[j]? = some e := ⟨x[j], List.getElem?_eq_getElem hjx⟩
   have hem := List.mem_of_getElem? he
   obtain ⟨q1, q2, q3⟩ := hx e hem
   have hne := (hok e hem).1
   obtain ⟨a, rfl⟩ := xs.addr (by omega) (by decide)
   obtain ⟨c, ⟨ae, ce, rfl, xe⟩, _, hcell⟩ := xs.cells he
   rw [List.drop_eq_getElem_cons hjx, show x[j] = e from by rw [List.getElem?_eq_getElem hjx] at he; exact Option.some.inj he, folR] at hw
   refine sk (th (sq (bk (sq (rg ?_)))))
   refine ixs hT 0 j rfl rfl hys hjx (by decide) fun a31 h31 => ?_
   cases h31
   refine lds hT 0 (e.v ae ce).toList rfl (by kernel_rfl) (.inl rfl) hcell ?_
   refine al hT 0 (.agg #[.int .u64 0, .int .u64 0, .int .i64 0, .slice none 0 0]) rfl (by kernel_rfl) fun b12 => ?_
   refine stS hT 0 0 rfl rfl (by kernel_rfl) rfl rfl ?_
   refine WL.hs (pt b12 (e.v ae ce) 111 :: hs) rfl ?_
   refine fin hT 0 rfl (th (sq (sq (rg ?_))))
   refine ldp hT 1 0 rfl rfl rfl ?_
   refine ar hT 1 rfl (v' := .int .u64 (((i + 1) % 18446744073709551616 : Nat) : Int)) (by rw [<- u64m]; rfl) ?_
   refine cmpS hT 0 rfl fun b37 h37 => ?_
   unfold mxU at hi ht q1 q2
   refine' bjo (q := e.term < t) hT 1 5 43 [37, 38] (h37.trans (show _ ↔ e.idx ≠ i + 1 by omega)) rfl rfl rfl rfl rfl rfl rfl (fun _ => ?x8) (fun b43 h43 => ?_)
   case x8 =>
    refine ldp hT 1 0 rfl rfl rfl ?_
    refine cmpS hT 1 rfl fun b42 h42 => ?_
    exact fin hT 1 rfl (bjx (h42.trans (by omega)) rfl rfl rfl)
   refine fin hT 0 rfl (th (ifP h43 rfl (fun e10 => ?_) (fun e10 => ?_)))
   ·rw [if_pos e10] at hw
    refine sq (rg (WL.drop ?_))
    refine fin hT 1 rfl (th (rt (rT (rB (rT (rT (rB (rT ?_))))))))
    rw [<- hw]
    exact ret1 rfl rfl ⟨rfl, rfl, rfl⟩
   ·rw [if_neg e10] at hw
    refine sk (th (rga [pt b12 (e.v ae ce) 111] 6 [0, 2, 4, 6, 8, 10] (by simp) (by kernel_rfl) (by kernel_rfl) ?_))
    refine dldp hT (by kernel_rfl) 1 0 rfl rfl rfl ?_
    refine dldp hT (by kernel_rfl) 1 0 rfl rfl rfl ?_
    refine dend hT (by kernel_rfl) 2 rfl (bl (th (rg (WL.drop ?_))))
    refine ar hT 0 rfl (i64w (x := ((j + 1 : Nat) : Int)) (by omega)) ?_
    refine fin hT 1 rfl ?_
    exact again (x := (j, i, t)) (j + 1, e.idx, e.term) ⟨rfl, rfl, rfl, rfl, rfl, rfl, trivial⟩ rfl rfl ⟨by dsimp only; omega, q1, q2, hw⟩ (by dsimp only; omega)
  ·obtain rfl : j = x.length := by omega
   rw [List.drop_length] at hw
   refine ex (xt (xt (xb (th (sq (rg ?_))))))
   refine fin hT 1 rfl (th (rt ?_))
   rw [<- hw]
   exact ret1 rfl rfl ⟨rfl, rfl, rfl⟩
end Go.Proofs.YtcncpbolcigpnaaGreat
end
section
namespace Go.Proofs.YtcncpbolcigpnaaGreat
open Go.En
attribute [local irreducible] Code.wp wpList Calls
theorem saveSH {w0 : World} {K s h hv : PH} {hs : List PH} (sb b area : Nat) (S : Slt) (hS : SltH K sb b area S s) (hbd : S.bd) (D : Dk) (c : Nat) (o : D.Ok c) (hc : c <= 1099511626) (hm : DskH K b D h) (ha : area <= 18446744073709551615)
  (v : List UInt8) (ao : Option Addr) (cap : Nat) (hl : v.length < 1099511627776) (hin : In K hs hv) (x : IsS hv ao v.length cap 1 (bv v)) :
  Ct Tryz.prog w0 125 [.pointer (some ⟨sb, 0, none⟩), .slice ao v.length cap] K (s :: h :: hs)
   (fun u K' hs' => ∃ s' h', hs' = s' :: h' :: hs /\ Le K K' /\ SltH K' sb b area (S.save area D v).1 s' /\ DskH K' b (S.save area D v).2.1 h' /\ u = .int .i64 (S.save area D v).2.2) :=
 (saveSC sb b area S hS hbd D c o hc hm ha v ao cap hl hin x).mono fun u K' hs' ⟨le, s', h', e, h1, h2, h3⟩ => ⟨s', h', e, le, h1, h2, h3⟩
theorem syncLC {w0 : World} {K : PH} {m hs : List PH} (lb db : Nat) (L : Lg) (D : Dk) (c : Nat) (hb : LBd c L) (hc : c <= 1000000000) (oD : DOk c D) (hm : LgM K lb db L D m) :
  Ct Tryz.prog w0 55 [.pointer (some ⟨lb, 0, none⟩)] K (m ++ hs) (fun v K' hs' => K' = K /\ ∃ m', hs' = m' ++ hs /\ LgM K lb db (L.sync D).1 (L.sync D).2.1 m' /\ v = .int .i64 (L.sync D).2.2) := by
 have hm0 := hm
 obtain ⟨wb, hb', eb, aV, cV, aD, cD, aL, cL, wh, hh, eh, gl, dh, rfl, hW, hH, hE, hG, hD, xV, xD⟩ := hm
 unfold Lg.sync
 refine enter Tryz.func55 (by kernel_rfl) rfl rfl rfl ?_
 refine sq (rg ?_)
 refine fin hT 1 rfl (th (sq (sq (rg ?_))))
 refine ldp hT 3 0 rfl rfl rfl ?_
 refine cmpS hT 0 rfl fun b7 h7 => ?_
 refine fin hT 0 rfl (th (ifP h7 rfl (fun e2 => ?_) (fun e2 => ?_)))
 ·rw [if_pos e2]
  refine sq (rg ?_)
  refine ldp hT 3 0 rfl rfl rfl ?_
  refine fin hT 1 rfl (th (rt (rT ?_)))
  exact ret1 rfl rfl ⟨rfl, _, rfl, hm0, rfl⟩
 ·rw [if_neg e2]
  have e2 := Decidable.not_not.1 e2
  refine sk (th (sq (rg ?_)))
  refine ldp hT 4 0 rfl rfl rfl ?_
  refine cl hT 0 rfl (Ct.at2 1 4 rfl rfl (syncWH wb db L.w hW D c oD.ok hc hb.w hD)) ?_
  rintro v17 K17 hs17 ⟨wh', dh', rfl, rfl, hW', hD', rfl⟩
  refine cl hT 0 rfl (didLC lb wb db hb' eb L _ _ _ _) ?_
  rintro v18 K18 hs18 ⟨_, rfl, rfl, rfl, rfl⟩
  have ed : didV L.code (L.w.sync D).1.code = (L.w.sync D).1.code := by unfold didV; rw [if_pos e2]
  rw [ed]
  refine fin hT 1 rfl (th (rt ?_))
  exact ret1 rfl rfl ⟨rfl, [_, _, _, _, _, _], rfl, ⟨wb, hb', eb, aV, cV, aD, cD, aL, cL, wh', hh, eh, gl, dh', rfl, hW', hH, hE, hG, hD', xV, xD⟩, rfl⟩
theorem setHardLC {w0 : World} {K : PH} {m hs : List PH} (lb db : Nat) (L : Lg) (D : Dk) (c : Nat) (hb : LBd c L) (hc : c <= 1000000000) (oD : DOk c D) (hm : LgM K lb db L D m) (t : Nat) (v : Int) (ht : t <= mxU) (hv : -9223372036854775808 <= v /\ v <= 9223372036854775807) :
  Ct Tryz.prog w0 111 [.pointer (some ⟨lb, 0, none⟩), .agg #[.int .u64 ((t : Nat) : Int), .int .i64 v]] K (m ++ hs) (fun u K' hs' => Le K K' /\ ∃ m', hs' = m' ++ hs /\ LgM K' lb db (L.setHard D t v).1 (L.setHard D t v).2.1 m' /\ u = .int .i64 (L.setHard D t v).2.2) := by
 have hm0 := hm
 obtain ⟨wb, hb', eb, aV, cV, aD, cD, aL, cL, wh, hh, eh, gl, dh, rfl, hW, hH, hE, hG, hD, xV, xD⟩ := hm
 unfold Lg.setHard
 refine enter Tryz.func111 (by kernel_rfl) rfl rfl rfl ?_
 refine sq (rg ?_)
 refine bx hT 0 rfl fun b3 => ?_
 refine WL.hs (pt b3 #[.int .u64 ((t : Nat) : Int), .int .i64 v] 75 :: ([_, _, _, _, _, _] ++ hs)) rfl ?_
 refine fin hT 1 rfl (th (sq (bk (sq (rg ?_)))))
 refine ldp hT 3 1 rfl rfl rfl ?_
 refine cmpS hT 0 rfl fun b11 h11 => ?_
 refine fin hT 1 rfl (th (ifP h11 rfl (fun e2 => ?_) (fun e2 => ?_)))
 ·rw [if_pos e2]
  refine sq (rg ?_)
  refine ldp hT 3 1 rfl rfl rfl ?_
  refine fin hT 1 rfl (th (rt (rB (rT (WQ.drop ?_)))))
  exact ret1 rfl rfl ⟨Le.refl _, _, rfl, hm0, rfl⟩
 ·rw [if_neg e2]
  have e2 := Decidable.not_not.1 e2
  refine sq (rg ?_)
  refine ldp hT 1 0 rfl rfl rfl ?_
  refine cmpS hT 0 rfl fun b19 h19 => ?_
  refine' bjo (q := 7 <= v) hT 1 4 24 [19, 20] h19 rfl rfl rfl rfl rfl rfl rfl (fun _ => ?x4) (fun b24 h24 => ?_)
  case x4 =>
   refine ldp hT 1 0 rfl rfl rfl ?_
   refine cmpS hT 0 rfl fun b23 h23 => ?_
   exact fin hT 1 rfl (bjx (h23.trans (by omega)) rfl rfl rfl)
  refine fin hT 1 rfl (th (ifP h24 rfl (fun e6 => ?_) (fun e6 => ?_)))
  ·rw [if_pos e6]
   refine sq (rg ?_)
   refine fin hT 1 rfl (th (rt (rB (rT (WQ.drop ?_)))))
   exact ret1 rfl rfl ⟨Le.refl _, _, rfl, hm0, rfl⟩
  ·rw [if_neg e6]
   refine sq (rga [pt b3 #[.int .u64 ((t : Nat) : Int), .int .i64 v] 75, pt lb (lgA wb db hb' eb L (.slice aV L.sn.vot.length cV) (.slice aD L.sn.data.length cD) (.slice aL L.l.length cL)) 78] 9 [0, 2, 4, 6, 8, 10, 12, 14, 16] (by simp) (by kernel_rfl) (by kernel_rfl) ?_)
   refine dldp hT (by kernel_rfl) 1 0 rfl rfl rfl ?_
   refine dldp hT (by kernel_rfl) 4 1 rfl rfl rfl ?_
   refine dcbS hT (by kernel_rfl) 0 (t < L.kt) rfl (by simp) fun b33 h33 => ?_
   refine dend hT (by kernel_rfl) 1 rfl (th (ifP h33 rfl (fun e7 => ?_) (fun e7 => ?_)))
   ·rw [if_pos e7]
    refine sq (rg ?_)
    refine fin hT 1 rfl (th (rt (rB (rT (WQ.drop ?_)))))
    exact ret1 rfl rfl ⟨Le.refl _, _, rfl, hm0, rfl⟩
   ·rw [if_neg e7]
    obtain ⟨u, rfl⟩ : ∃ u : Nat, v = ((u : Nat) : Int) - 1 := ⟨(v + 1).toNat, by omega⟩
    have eu : (((u : Nat) : Int) - 1 + 1).toNat = u := by omega
    rw [eu]
    have hul : (uint t ++ uint u).length <= 20 := by
     unfold mxU at ht
     have h1 := uint_le10 (n := t) (by omega)
     have h2 := uint_le10 (n := u) (by omega)
     rw [List.length_append]; omega
    obtain ⟨R, hR⟩ : ∃ R, R = L.hard.save 0 D (uint t ++ uint u) := ⟨_, rfl⟩
    unfold mxU at ht
    refine sk (bl (th (WC.em (sq (rga [pt b3 #[.int .u64 ((t : Nat) : Int), .int .i64 (((u : Nat) : Int) - 1)] 75] 9 [0, 2, 6, 8, 10, 12, 5, 15, 16] (by simp) (by kernel_rfl) (by kernel_rfl) ?_)))))
    refine dldp hT (by kernel_rfl) 1 0 rfl rfl rfl ?_
    refine dldp hT (by kernel_rfl) 1 0 rfl rfl rfl ?_
    refine dar hT (by kernel_rfl) 0 rfl (v' := .int .i64 ((u : Nat) : Int)) (by rw [show ((u : Nat) : Int) - 1 + 1 = ((u : Nat) : Int) from by omega]; exact i64w (by omega)) ?_
    refine dar hT (by kernel_rfl) 0 rfl (u64w (by omega)) ?_
    refine dact hT (by kernel_rfl) 0 rfl ?_
    refine cl hT 0 rfl (putUint none 0 [] t (Own.nil _ _) (by omega) (by decide)) ?_
    rintro v36 K36 hs36 ⟨h36, rfl, rfl, ao36, c36, rfl, o36⟩
    rw [List.nil_append] at o36 ⊢
    refine dnex [pt b3 #[.int .u64 ((t : Nat) : Int), .int .i64 (((u : Nat) : Int) - 1)] 75] (by simp) (by simp) rfl ?_
    refine dact hT (by kernel_rfl) 0 rfl ?_
    refine cl hT 0 rfl (putUint ao36 c36 (uint t) u o36 (by omega) (by have := uint_le10 (n := t) (by omega); omega)) ?_
    rintro v41 K41 hs41 ⟨h41, rfl, rfl, ao41, c41, rfl, o41⟩
    refine dnex [pt b3 #[.int .u64 ((t : Nat) : Int), .int .i64 (((u : Nat) : Int) - 1)] 75] (by simp) (by simp) rfl ?_
    refine dend hT (by kernel_rfl) 1 rfl (th (sq (sq (rg ?_))))
    refine ldp hT 4 2 rfl rfl rfl ?_
    refine cl hT 1 rfl (Ct.at2 4 6 rfl rfl (saveSH hb' db 0 L.hard hH hb.hard D c oD.ok (by omega) hD (by omega) (uint t ++ uint u) ao41 c41 (by omega) (.inr ⟨0, rfl⟩) o41.isS)) ?_
    rintro v48 K48 hs48 ⟨hh', dh', rfl, le, hH', hD', rfl⟩
    rw [<- hR] at hH' hD' ⊢
    refine cl hT 0 rfl (Ct.at 2 rfl (didLC lb wb db hb' eb L _ _ _ _)) ?_
    rintro v49 K49 hs49 ⟨_, rfl, rfl, rfl, rfl⟩
    have ed : didV L.code R.2.2 = R.2.2 := by unfold didV; rw [if_pos e2]
    rw [ed]
    refine cmpS hT 0 rfl fun b50 h50 => ?_
    refine fin hT 0 rfl (th (ifP h50 rfl (fun e9 => ?_) (fun e9 => ?_)))
    ·rw [if_pos e9]
     refine rg ?_
     refine ldS hT 1 1 rfl rfl (by kernel_rfl) ?_
     refine sts hT 2 2 rfl rfl (by kernel_rfl) (by simp [lgA]) (fun v hv => by simp at hv; rcases hv with rfl | rfl <;> rfl) ?_
     refine fin hT 0 rfl (th (sq (rg ?_)))
     refine ldp hT 3 2 rfl rfl rfl ?_
     refine fin hT 1 rfl (th (rt (WQ.drop (WQ.drop ?_))))
     refine ret1 rfl rfl ⟨le, [_, _, _, _, _, _], rfl, ⟨wb, hb', eb, aV, cV, aD, cD, aL, cL, wh, hh', eh, gl, dh', ?_, hW.le le, hH', hE.le le, hG.imp fun _ _ h => h.le le, hD', xV.le le, xD.le le⟩, ?_⟩
     ·rw [e9, <- e2]; rfl
     ·show Value.int .i64 R.2.2 = _; rw [e9]
    ·rw [if_neg e9]
     refine sk (th (sq (rg ?_)))
     refine ldp hT 3 2 rfl rfl rfl ?_
     refine fin hT 1 rfl (th (rt (WQ.drop (WQ.drop ?_))))
     exact ret1 rfl rfl ⟨le, [_, _, _, _, _, _], rfl, ⟨wb, hb', eb, aV, cV, aD, cD, aL, cL, wh, hh', eh, gl, dh', rfl, hW.le le, hH', hE.le le, hG.imp fun _ _ h => h.le le, hD', xV.le le, xD.le le⟩, rfl⟩
end Go.Proofs.YtcncpbolcigpnaaGreat
end
section
namespace Go.En
theorem fld_run {P : Program} {n : Nat} {l : Sl} {o : Oper} {t : Nat} {x : Operand} {i : Nat} {v u : Value} (hop : o.op = .field t x i) (hx : ev l x = some v) (hr : ∀ w, (Instr.field t v i).run P w = .ok u w) : ∀ A w, Ag n l A -> (execOp A.eval o).run P w = .ok (.value u) w := by
 intro A w ha
 simp only [execOp, hop, ha.ev hx]
 rw [Sem.run_bind, hr]
 rfl
section
variable {P : Program} {w0 : World} {fn : Func} {R : Value -> PH -> List PH -> Prop} {n : Nat} {l : Sl} {K : PH} {hs : List PH}
theorem res_cc {T : Tab} (hT : TabOK P T) (i j : Nat) {t ty b ty' u tu b2 ty2 : Nat} {k : UK} {x : Value} {c : Array Value} {fr fr2 : Nat × Nat} (hr : fn.results = #[.cell t ty, .cell u tu]) (hv : look l t = some (.pointer (some ⟨b, 0, none⟩))) (hu : look l u = some (.pointer (some ⟨b2, 0, none⟩))) (hi : hs[i]? = some (pt b c ty' fr)) (hj : hs[j]? = some (pt b2 #[x] ty2 fr2))
  (hm : aggOK P ty c.size = true) (hk : asc T.kinds tu = some k) (h1 : k.one = true) : ∀ a w, Ag n l a -> Sat w0 w K hs -> (results fn a.tmps).run P w = .ok (.tuple #[.agg c, x]) w := by
 intro a w ha hw
 have h2 := run_loadVarS (P := P) (w := w) (t := ty) (a := ⟨b, 0, none⟩) (cs := c.toList) (by simpa using hm) rfl (fun j v hv => hw.cell (.inr ⟨i, hi⟩) (cells_pt c.toList (fun j v h => by simpa using h) j v hv))
 have e : c.toList.toArray = c := by simp
 rw [e] at h2
 have h3 : (loadVar tu ⟨b2, 0, none⟩).run P w = .ok x w := by
  have := run_load1 (P := P) (w := w) hT hk h1 (a := ⟨b2, 0, none⟩) (v := x) (hw.cell (.inr ⟨j, hj⟩) (Cell.pt rfl))
  simpa [Instr.loadAt, Instr.sureAddr] using this
 simp [results, hr, ha.slot t _ hv, ha.slot u _ hu, asAddr, h2, h3]
end
section
variable {P : Program} {w0 : World} {fn : Func} {R : Value -> PH -> List PH -> Prop} {n : Nat} {l : Sl} {K : PH} {hs hs' : List PH} {v : Value}
theorem retmD {e : Exit} (D m : Nat) (hh : hs = hs' ++ [dfr D]) (he : e = .ret \/ e = .normal) (hres : ∀ a w, Ag n l a -> Sat w0 w K hs' -> (results fn a.tmps).run P w = .ok v w) (h : R v K (hs'.drop m)) : WQX [mkd D] w0 (bodyPostM (fz none) 0 P fn (endR w0 R)) e n l K hs := by
 subst hh
 intro a w ha hw
 have h1 : Sat w0 (w.putObj D (.deferred none)) K hs' := (hw.putLast (.deferred none)).dropLast
 have h2 := run_takeDeferred (P := P) (hw.last)
 rcases he with rfl | rfl <;> exact ⟨by simp, .inl ⟨D, _, rfl, h2, v, hres a _ ha h1, v, K, hs'.drop m, rfl, h, h1.dropN m⟩⟩
end
def backW (l : List (List Value)) : List (List Value) := (l.zipIdx.map fun x => [.int .i64 ((x.2 : Nat) : Int), .agg x.1.toArray]).reverse
theorem backW_len (l : List (List Value)) : (backW l).length = l.length := by simp [backW]
theorem backW_get {l : List (List Value)} {i : Nat} (h : i < l.length) : (backW l)[i]? = some [.int .i64 ((l.length - 1 - i : Nat) : Int), .agg (l[l.length - 1 - i]'(by omega)).toArray] := by
 unfold backW
 rw [List.getElem?_reverse (by simpa using h)]
 simp only [List.length_map, List.length_zipIdx]
 rw [List.getElem?_map, List.getElem?_zipIdx, List.getElem?_eq_getElem (show l.length - 1 - i < l.length by omega)]
 simp
def BackRe (size : Nat) (b : Nat) (ao : Option Addr) (c : Nat) (l : List (List Value)) (K : PH) (hs : List PH) : Prop :=
 (∃ h, In K hs h /\ Cell h ⟨b, 0, none⟩ (.slice ao l.length c)) /\ ∃ h, In K hs h /\ SlS size (fun c x => c = x) h ao l.length c l
theorem Al2.refl : ∀ l : List (List Value), Al2 (fun c x => c = x) l l
 | [] => trivial
 | _ :: r => ⟨rfl, Al2.refl r⟩
theorem find_take {α : Type} {p : α -> Bool} {l : List α} {i : Nat} {e : α} (h0 : (l.take i).find? p = none) (he : l[i]? = some e) (hp : p e = true) : l.find? p = some e := by
 have hi := (List.getElem?_eq_some_iff.1 he).1
 have : l = l.take i ++ (e :: l.drop (i + 1)) := by
  have h2 : l.drop i = e :: l.drop (i + 1) := by rw [List.drop_eq_getElem_cons hi, show l[i] = e from by rw [List.getElem?_eq_getElem hi] at he; exact Option.some.inj he]
  rw [<- h2, List.take_append_drop]
 rw [this, List.find?_append, h0]
 simp [hp]
end Go.En
namespace Go.Proofs.YtcncpbolcigpnaaGreat
open Go.En
attribute [local irreducible] Code.wp wpList Calls
theorem backEC {w0 : World} {K : PH} {hs : List PH} (ao : Option Addr) (n c : Nat) : Ct Tryz.prog w0 97 [.slice ao n c] K hs
  (fun v K' hs' => K' = K /\ ∃ b, hs' = pt b #[.slice ao n c] 76 :: hs /\ v = .func (.func 118) #[] #[.pointer (some ⟨b, 0, none⟩)]) := by
 refine enter Tryz.func97 (by kernel_rfl) rfl rfl rfl ?_
 refine sq (rg ?_)
 refine bx hT 0 rfl fun b1 => ?_
 refine fin hT 1 rfl (th (sq (rg ?_)))
 refine fin hT 2 rfl (th (rt ?_))
 exact ret1 rfl rfl ⟨rfl, b1, rfl, rfl⟩
theorem backEI {w0 : World} (b : Nat) (ao : Option Addr) (c : Nat) (l : List (List Value)) (hl : l.length <= 1099511627776) : ItCt Tryz.prog w0 118 [.pointer (some ⟨b, 0, none⟩)] (backW l) (BackRe 4 b ao c l) := by
 intro L St Sp hRd hY K hs h0
 refine enterX Tryz.func118 (by kernel_rfl) rfl rfl rfl ?_
 obtain ⟨⟨h1, m1, c1⟩, _⟩ := hRd 0 K hs h0
 refine sqX (rgX ?_)
 refine ld hT 0 rfl m1 c1 ?_
 refine ar hT 1 rfl (v' := .int .i64 ((l.length : Int) - 1 - ((0 : Nat) : Int))) (by rw [i64w (by omega)]; simp) ?_
 refine fin hT 1 rfl (nxX (thX (bkX ?_)))
 refine loopX (σ := Nat × PH × List PH) (fun s => [(0, .func (.yield L) #[] #[]), (1, .pointer (some ⟨b, 0, none⟩)), (3, .int .i64 ((l.length : Int) - 1 - ((s.1 : Nat) : Int)))]) (fun s => s.2.1) (fun s => s.2.2) (fun s => s.1 <= l.length /\ St s.1 s.2.1 s.2.2) (fun s => l.length - s.1) (0, K, hs) ⟨Nat.zero_le _, h0⟩ ⟨rfl, rfl, rfl, trivial⟩ rfl rfl ?_
 rintro ⟨i, K, hs⟩ ⟨hi, hst⟩
 dsimp only at *
 obtain ⟨⟨h1, m1, c1⟩, h2, m2, c2⟩ := hRd i K hs hst
 refine sqX (sqX (rgX ?_))
 refine cmpS hT 1 rfl fun b8 h8 => ?_
 refine fin hT 0 rfl (nxX (thX (ifPX h8 rfl (fun e2 => ?_) (fun e2 => ?_))))
 ·have hil : i < l.length := by omega
  obtain ⟨a, rfl⟩ := c2.addr (by omega) (by decide)
  obtain ⟨vs, xs⟩ := c2.isS
  obtain ⟨cs, hc, hcl, hcell⟩ := c2.cells (i := l.length - 1 - i) (x := l[l.length - 1 - i]'(by omega)) (List.getElem?_eq_getElem _)
  refine skX (thX (sqX (bkX (sqX (rgI (WLI.cut 6 ?_))))))
  refine ld hT 2 rfl m1 c1 ?_
  refine ixs hT 1 (l.length - 1 - i) rfl (show _ = ((l.length - 1 - i : Nat) : Int) by omega) xs (by omega) (by decide) fun a15 ha => ?_
  cases ha
  refine lds hT 0 cs rfl (by rw [hcl]; kernel_rfl) m2 hcell ?_
  refine fin hT 0 rfl (cutX ?_)
  have hv : (backW l)[i]? = some [.int .i64 ((l.length : Int) - 1 - ((i : Nat) : Int)), .agg cs.toArray] := by
   rw [backW_get hil, hc, show ((l.length - 1 - i : Nat) : Int) = (l.length : Int) - 1 - ((i : Nat) : Int) from by omega]
  refine yld rfl (hY i _ K hs hv hst) ?_
  rintro v17 K17 hs17 (⟨rfl, hn⟩ | ⟨rfl, hp⟩)
  ·refine WLI.fin ?_
   refine fin hT 1 rfl (nxX (thX (ifFX rfl ?_)))
   refine skX (blX (thX (rgX ?_)))
   refine ar hT 1 rfl (v' := .int .i64 ((l.length : Int) - 1 - ((i + 1 : Nat) : Int))) (by rw [i64w (by omega)]; congr 1; omega) ?_
   refine fin hT 1 rfl (nxX ?_)
   exact againX (x := (i, K, hs)) (i + 1, K17, hs17) ⟨rfl, rfl, rfl, trivial⟩ rfl rfl ⟨by dsimp only; omega, hn⟩ (by dsimp only; omega)
  ·refine WLI.fin ?_
   refine fin hT 1 rfl (nxX (thX (ifTX rfl ?_)))
   refine rtX (rBX (rTX (rTX (rBX ?_))))
   exact ret0X rfl (.inr hp)
 ·refine exX (xtX (xtX (xbX ?_)))
  obtain rfl : i = l.length := by omega
  exact end0X rfl (.inl (by rw [backW_len]; exact hst))
def cfgP (up : Nat) (e : Ent) : Bool := decide (e.kind = 2 /\ e.idx <= up)
theorem configLC {w0 : World} {K : PH} {m hs : List PH} (lb db : Nat) (L : Lg) (D : Dk) (c : Nat) (hb : LBd c L) (hc : c <= 1000000000) (hm : LgM K lb db L D m) (up : Nat) (hup : up <= mxU) :
  Ct Tryz.prog w0 59 [.pointer (some ⟨lb, 0, none⟩), .int .u64 ((up : Nat) : Int)] K (m ++ hs)
   (fun v K' hs' => Le K K' /\ hs' = m ++ hs /\ ∃ ao cap, v = .tuple #[.agg #[.slice ao (cfgAt L.sn L.l up).1.length cap], .int .u64 (((cfgAt L.sn L.l up).2 : Nat) : Int)] /\ IsS K' ao (cfgAt L.sn L.l up).1.length cap 1 (iv (cfgAt L.sn L.l up).1)) := by
 have hm0 := hm
 obtain ⟨wb, hb', eb, aV, cV, aD, cD, aL, cL, wh, hh, eh, gl, dh, rfl, hW, hH, hE, hG, hD, xV, xD⟩ := hm
 have h2 := hb.len
 have hG0 := hG
 obtain ⟨css, hn, oz, hal, hlen⟩ := hG
 have hcl : css.length = L.l.length := hal.len
 have hSl : SlS 4 (fun c x => c = x) gl aL css.length cL css := ⟨css, rfl, by rw [hcl]; exact oz.isS, Al2.refl css, hlen⟩
 obtain ⟨A, hA⟩ : ∃ A, A = lgA wb db hb' eb L (.slice aV L.sn.vot.length cV) (.slice aD L.sn.data.length cD) (.slice aL L.l.length cL) := ⟨_, rfl⟩
 have hA8 : A[12]? = some (.slice aL css.length cL) := by rw [hA, hcl]; rfl
 have hA6 : A[6]? = some (.int .u64 ((L.sn.idx : Nat) : Int)) := by rw [hA]; rfl
 rw [<- hA] at hm0 ⊢
 refine enterX Tryz.func59 (by kernel_rfl) rfl rfl rfl ?_
 refine sqX (rgX ?_)
 refine bx hT 0 rfl fun b3 => ?_
 refine al hT 0 (.agg #[.slice none 0 0]) rfl (by kernel_rfl) fun b4 => ?_
 refine al hT 0 (.int .u64 0) rfl (by kernel_rfl) fun b5 => ?_
 refine fin hT 0 rfl (nxX (thX (sqX (sqX (rgX ?_)))))
 refine ldp hT 3 3 rfl rfl hA8 ?_
 refine cl hT 0 rfl (backEC aL css.length cL) ?_
 rintro v14 K14 hs14 ⟨rfl, b1, rfl, rfl⟩
 refine fin hT 0 rfl (nxX (thX (bkX (WX.frz fun K1 le1 l1 => ?_))))
 refine WX.perm (hs' := (pt b5 #[.int .u64 0] 37 :: pt b4 #[.slice none 0 0] 59 :: pt b3 #[.int .u64 ((up : Nat) : Int)] 37 :: pt lb A 78 :: wh :: hh :: eh :: gl :: dh :: hs)) (List.Perm.refl _) ?_
 refine rgf [.pointer (some ⟨b1, 0, none⟩)] (backW css) (BackRe 4 b1 aL cL css) rfl (backEI b1 aL cL css (by omega)) (by kernel_rfl) (fun vs hv => ?_) rfl
  (fun i K' hs' => K' = K1 /\ hs' = pt b5 #[.int .u64 0] 37 :: pt b4 #[.slice none 0 0] 59 :: pt b3 #[.int .u64 ((up : Nat) : Int)] 37 :: pt lb A 78 :: wh :: hh :: eh :: gl :: dh :: hs /\ (L.l.reverse.take i).find? (cfgP up) = none)
  (fun c K' hs' => c = .ret /\ Le K1 K' /\ ∃ ao cap x, hs' = pt b5 #[.int .u64 (((cfgAt L.sn L.l up).2 : Nat) : Int)] 37 :: pt b4 #[.slice ao (cfgAt L.sn L.l up).1.length cap] 59 :: x :: pt lb A 78 :: wh :: hh :: eh :: gl :: dh :: hs /\ IsS K' ao (cfgAt L.sn L.l up).1.length cap 1 (iv (cfgAt L.sn L.l up).1))
  ⟨rfl, rfl, by simp⟩ (fun i K' hs' t u h => by obtain ⟨rfl, rfl, _⟩ := h; exact ⟨⟨K', .inl rfl, (Cell.pt rfl).le l1⟩, gl, .inr ⟨7, rfl⟩, hSl⟩) ?_ ?_ ?_
 ·obtain ⟨y, _, rfl⟩ := List.mem_map.1 (List.mem_reverse.1 hv)
  rfl
 ·rintro LL i vs K' hs' t u hvs ⟨rfl, rfl, hno⟩
  have hi : i < css.length := by have := (List.getElem?_eq_some_iff.1 hvs).1; rw [backW_len] at this; exact this
  rw [backW_get hi] at hvs
  cases hvs
  have hi2 : css.length - 1 - i < L.l.length := by omega
  obtain ⟨e, he⟩ : ∃ e, L.l[css.length - 1 - i]? = some e := ⟨L.l[css.length - 1 - i], List.getElem?_eq_getElem hi2⟩
  obtain ⟨d, hd, ao, cap, hdv, xe⟩ := hal.get he
  have hcs : css[css.length - 1 - i]'(by omega) = (e.v ao cap).toList := by
   rw [List.getElem?_eq_getElem (by omega)] at hd
   rw [<- hdv]; exact Option.some.inj hd
  rw [hcs, Array.toArray_toList]
  have her : L.l.reverse[i]? = some e := by
   rw [List.getElem?_reverse (by omega), <- hcl]
   exact he
  have hem := hb.ents e (List.mem_of_getElem? he)
  have hel := held_len hem.1.2.2
  refine rgX ?_
  refine al hT 0 (.agg #[.int .u64 0, .int .u64 0, .int .i64 0, .slice none 0 0]) rfl (by kernel_rfl) fun b7 => ?_
  refine stS hT 0 0 rfl rfl (by kernel_rfl) rfl rfl ?_
  refine fin hT 0 rfl (nxX (asgX (hs' := pt b7 (e.v ao cap) 111 :: pt b5 #[.int .u64 0] 37 :: pt b4 #[.slice none 0 0] 59 :: pt b3 #[.int .u64 ((up : Nat) : Int)] 37 :: pt lb A 78 :: wh :: hh :: eh :: gl :: dh :: hs) rfl fun u => ?_))
  refine bkX (sqX (rgX ?_))
  refine ldp hT 1 0 rfl rfl rfl ?_
  refine cmpS hT 0 rfl fun b19 h19 => ?_
  refine' bja (q := e.idx <= up) hT 1 5 25 [19, 20] h19 rfl rfl rfl rfl rfl rfl rfl (fun _ => ?x2) (fun b25 h25 => ?_)
  case x2 =>
   refine ldp hT 1 0 rfl rfl rfl ?_
   refine ldp hT 0 3 rfl rfl rfl ?_
   refine cmpS hT 0 rfl fun b24 h24 => ?_
   exact fin hT 1 rfl (bjx (h24.trans (by omega)) rfl rfl rfl)
  refine fin hT 0 rfl (nxX (thX (ifPX h25 rfl (fun e4 => ?_) (fun e4 => ?_))))
  ·have hcfg : cfgAt L.sn L.l up = ((getConf e.data).getD [], e.idx) := by
    unfold cfgAt
    have : L.l.reverse.find? (fun e => decide (e.kind = 2 /\ e.idx <= up)) = some e := find_take hno her (by simp [cfgP, e4.1, e4.2])
    rw [this]
   refine sqX (rgX ?_)
   refine ldp hT 1 0 rfl rfl rfl ?_
   refine cl hT 0 rfl (getConfC ao cap e.data (.inl rfl) (xe.le le1) (by omega)) ?_
   rintro v29 K29 hs29 ⟨rfl, h29, ao29, c29, rfl, rfl, o29⟩
   refine WL.frz fun K2 le2 l2 => ?_
   refine al hT 3 (.agg #[.slice none 0 0]) rfl (by kernel_rfl) fun b8 => ?_
   refine stS hT 0 0 rfl rfl (by kernel_rfl) rfl rfl ?_
   refine WL.hs (pt b8 #[.slice ao29 ((getConf e.data).getD []).length c29] 59 :: pt b7 (e.v ao cap) 111 :: pt b5 #[.int .u64 0] 37 :: pt b4 #[.slice none 0 0] 59 :: pt b3 #[.int .u64 ((up : Nat) : Int)] 37 :: pt lb A 78 :: wh :: hh :: eh :: gl :: dh :: (hs ++ [t, u])) rfl ?_
   refine fin hT 1 rfl (nxX (thX (sqX (rgaX [pt b8 #[.slice ao29 ((getConf e.data).getD []).length c29] 59, pt b7 (e.v ao cap) 111] 5 [0, 2, 4, 7, 9] (by simp) (by kernel_rfl) (by kernel_rfl) ?_))))
   refine dldS hT (by kernel_rfl) 0 0 rfl (by kernel_rfl) rfl (by kernel_rfl) ?_
   refine dldp hT (by kernel_rfl) 1 1 rfl rfl rfl ?_
   refine dact hT (by kernel_rfl) 0 rfl ?_
   refine stS hT 0 3 rfl rfl (by kernel_rfl) rfl rfl ?_
   refine dnex [pt b8 #[.slice ao29 ((getConf e.data).getD []).length c29] 59, pt b7 (e.v ao cap) 111] (by simp) (by simp) rfl ?_
   refine dact hT (by kernel_rfl) 0 rfl ?_
   refine stp hT 0 2 rfl rfl rfl rfl ?_
   refine dnex [pt b8 #[.slice ao29 ((getConf e.data).getD []).length c29] 59, pt b7 (e.v ao cap) 111] (by simp) (by simp) rfl ?_
   refine dend hT (by kernel_rfl) 0 rfl (nxX (thX (rtX (rBX ?_))))
   refine WQX.drop (WQX.drop (jmpR (hs' := pt b5 #[.int .u64 ((e.idx : Nat) : Int)] 37 :: pt b4 #[.slice ao29 ((getConf e.data).getD []).length c29] 59 :: pt b3 #[.int .u64 ((up : Nat) : Int)] 37 :: pt lb A 78 :: wh :: hh :: eh :: gl :: dh :: hs) rfl ?_))
   rw [hcfg]
   exact ⟨rfl, le2, ao29, c29, _, rfl, o29.isS.le l2⟩
  ·refine skX (blX (WQX.drop (rndX (hs' := pt b5 #[.int .u64 0] 37 :: pt b4 #[.slice none 0 0] 59 :: pt b3 #[.int .u64 ((up : Nat) : Int)] 37 :: pt lb A 78 :: wh :: hh :: eh :: gl :: dh :: hs) rfl ?_)))
   refine ⟨rfl, rfl, ?_⟩
   rw [List.take_add_one, her, List.find?_append, hno]
   simp only [Option.toList_some, List.find?_cons, List.find?_nil, Option.none_or]
   rw [show cfgP up e = false from by unfold cfgP; simp only [decide_eq_false_iff_not]; omega]
 ·rintro DD K' hs' ⟨rfl, rfl, hno⟩
  rw [backW_len, List.take_of_length_le (by simp; omega)] at hno
  have hcfg : cfgAt L.sn L.l up = (L.sn.vot, L.sn.idx) := by
   unfold cfgAt
   have : L.l.reverse.find? (fun e => decide (e.kind = 2 /\ e.idx <= up)) = none := hno
   rw [this]
  refine blX (thX (sqX (rgaX [pt lb A 78] 10 [0, 6, 8, 10, 12, 14, 3, 4, 17, 19] (by simp) (by kernel_rfl) (by kernel_rfl) ?_)))
  refine dldp hT (by kernel_rfl) 5 0 rfl rfl hA6 ?_
  refine dact hT (by kernel_rfl) 0 rfl ?_
  refine WL.perm (hs' := [pt lb A 78, wh, hh, eh, gl, dh] ++ (pt b5 #[.int .u64 0] 37 :: pt b4 #[.slice none 0 0] 59 :: pt b3 #[.int .u64 ((up : Nat) : Int)] 37 :: (hs ++ [dfr DD]))) (List.perm_append_comm_assoc [_, _, _] [_, _, _, _, _, _] _) ?_
  refine cl hT 0 rfl (snapLC lb db L D c hb (hm0.le le1)) ?_
  rintro v36 K36 hs36 ⟨le3, rfl, aV2, cV2, aD2, cD2, rfl, xV2, xD2⟩
  refine WL.perm (hs' := pt b5 #[.int .u64 0] 37 :: pt b4 #[.slice none 0 0] 59 :: pt b3 #[.int .u64 ((up : Nat) : Int)] 37 :: pt lb A 78 :: wh :: hh :: eh :: gl :: dh :: (hs ++ [dfr DD])) (List.perm_append_comm_assoc [_, _, _, _, _, _] [_, _, _] _) ?_
  refine dnexL [pt lb A 78] (by simp) (by simp) le3 ?_
  refine dopr hT (by kernel_rfl) 0 (v := .agg #[.slice aV2 L.sn.vot.length cV2]) rfl (fun A' w ha _ => ?_) ?_
  ·exact fld_run (t := 66) (x := .tmp 36) (i := 2) (v := .agg (snV L.sn aV2 cV2 aD2 cD2)) rfl rfl (fun w => by kernel_rfl) A' w ha
  refine dact hT (by kernel_rfl) 0 rfl ?_
  refine stS hT 0 1 rfl rfl (by kernel_rfl) rfl rfl ?_
  refine dnex [pt lb A 78] (by simp) (by simp) rfl ?_
  refine dact hT (by kernel_rfl) 0 rfl ?_
  refine stp hT 0 0 rfl rfl rfl rfl ?_
  refine dnex [pt lb A 78] (by simp) (by simp) rfl ?_
  refine dend hT (by kernel_rfl) 0 rfl (nxX (thX (rtX ?_)))
  refine retmD DD 3 (hs' := pt b5 #[.int .u64 ((L.sn.idx : Nat) : Int)] 37 :: pt b4 #[.slice aV2 L.sn.vot.length cV2] 59 :: pt b3 #[.int .u64 ((up : Nat) : Int)] 37 :: pt lb A 78 :: wh :: hh :: eh :: gl :: dh :: hs) rfl (.inl rfl) (res_cc hT 1 0 rfl rfl rfl rfl rfl (by kernel_rfl) rfl rfl) ?_
  rw [hcfg]
  exact ⟨le1.trans le3, rfl, aV2, cV2, rfl, xV2⟩
 ·rintro DD c' K' hs' ⟨rfl, le2, ao, cap, x, rfl, xs⟩
  refine rtX (retmD DD 3 (hs' := pt b5 #[.int .u64 (((cfgAt L.sn L.l up).2 : Nat) : Int)] 37 :: pt b4 #[.slice ao (cfgAt L.sn L.l up).1.length cap] 59 :: x :: pt lb A 78 :: wh :: hh :: eh :: gl :: dh :: hs) rfl (.inl rfl) (res_cc hT 1 0 rfl rfl rfl rfl rfl (by kernel_rfl) rfl rfl) ?_)
  exact ⟨le1.trans le2, rfl, ao, cap, rfl, xs⟩
end Go.Proofs.YtcncpbolcigpnaaGreat
end
section
namespace Go.En
theorem app1_step (e : Ent) (r : List Ent) (L : Lg) (D : Dk) : Lg.app1 (e :: r) L D =
  if (L.w.append e.bytes D).2.2 ≠ 0 then ({ L with w := (L.w.append e.bytes D).1, code := (L.w.append e.bytes D).2.2 }, (L.w.append e.bytes D).2.1, (L.w.append e.bytes D).2.2)
  else Lg.app1 r { L with w := (L.w.append e.bytes D).1, l := L.l ++ [e] } (L.w.append e.bytes D).2.1 := rfl
def entG (e : Ent) : Prop := e.ok /\ e.idx <= mxU /\ e.term <= mxU
theorem LBd.w1 {c : Nat} {L : Lg} (o : LBd c L) (b : List UInt8) (D : Dk) (k : Int) : LBd (c + 12) { L with w := (L.w.append b D).1, code := k } :=
 ⟨o.w.append b D, o.hard, o.head, o.kt, o.kv, o.idx, o.st, o.vot, o.data, by have := o.place; dsimp only; omega, by have := o.fr; dsimp only; omega, by have := o.len; dsimp only; omega, o.ents⟩
theorem LBd.w2 {c : Nat} {L : Lg} (o : LBd c L) (b : List UInt8) (D : Dk) (e : Ent) (he : entG e) : LBd (c + 12) { L with w := (L.w.append b D).1, l := L.l ++ [e] } :=
 ⟨o.w.append b D, o.hard, o.head, o.kt, o.kv, o.idx, o.st, o.vot, o.data, by have := o.place; dsimp only; omega, by have := o.fr; dsimp only; omega, by have := o.len; dsimp only; rw [List.length_append]; simp only [List.length_cons, List.length_nil]; omega, fun y hy => by
  rcases List.mem_append.1 hy with hy | hy
  ·exact o.ents y hy
  ·simp at hy; rw [hy]; exact he⟩
theorem LBd.app1 : ∀ (x : List Ent) (L : Lg) (D : Dk) (c : Nat), LBd c L -> DOk c D -> (∀ e ∈ x, entG e) -> c + 12 * x.length <= 999999990 -> LBd (c + 12 * x.length) (Lg.app1 x L D).1 /\ DOk (c + 12 * x.length) (Lg.app1 x L D).2.1
 | [], L, D, c, o, d, _, _ => ⟨o, d⟩
 | e :: r, L, D, c, o, d, hx, hc => by
  simp only [List.length_cons] at hc
  rw [app1_step]
  split
  ·exact ⟨(o.w1 e.bytes D _).up (by simp only [List.length_cons]; omega), (d.append o.w (by omega) _).up (by simp only [List.length_cons]; omega)⟩
  ·have := LBd.app1 r _ _ (c + 12) (o.w2 e.bytes D e (hx e (by simp))) (d.append o.w (by omega) e.bytes) (fun y hy => hx y (by simp [hy])) (by omega)
   rw [show c + 12 + 12 * r.length = c + 12 * (e :: r).length from by simp only [List.length_cons]; omega] at this
   exact this
theorem fol_ok {i t : Nat} {x : List Ent} (h : fol i t x = 0) : ∀ e ∈ x, e.ok := by
 unfold fol at h
 split at h
 ·rename_i h1
  simp only [List.all_eq_true, putEnt_ok] at h1
  exact h1
 ·cases h
theorem putEnt_eq {e : Ent} (h : e.ok) : putEnt e = some e.bytes := if_pos h
end Go.En
namespace Go.Proofs.YtcncpbolcigpnaaGreat
open Go.En
attribute [local irreducible] Code.wp wpList Calls
theorem appendLC {w0 : World} {K : PH} {m hs : List PH} (lb db : Nat) (L : Lg) (D : Dk) (c : Nat) (hb : LBd c L) (oD : DOk c D) (hm : LgM K lb db L D m) (ao : Option Addr) (cap : Nat) (x : List Ent) (xs : SlS 4 (EntC K) K ao x.length cap x) (hx : ∀ e ∈ x, entB e) (hc : c + 12 * x.length <= 999999000) :
  Ct Tryz.prog w0 54 [.pointer (some ⟨lb, 0, none⟩), .slice ao x.length cap] K (m ++ hs) (fun u K' hs' => Le K K' /\ ∃ m', hs' = m' ++ hs /\ LgM K' lb db (L.append x D).1 (L.append x D).2.1 m' /\ u = .int .i64 (L.append x D).2.2) := by
 have hm0 := hm
 obtain ⟨wb, hb', eb, aV, cV, aD, cD, aL, cL, wh, hh, eh, gl, dh, rfl, hW, hH, hE, hG, hD, xV, xD⟩ := hm
 unfold Lg.append
 have hidx := hb.idx
 have hlen := hb.len
 unfold lgTop at hidx
 refine enter Tryz.func54 (by kernel_rfl) rfl rfl rfl ?_
 refine sq (rg ?_)
 refine fin hT 1 rfl (th (sq (sq (rg ?_))))
 refine ldp hT 3 0 rfl rfl rfl ?_
 refine cmpS hT 0 rfl fun b16 h16 => ?_
 refine fin hT 0 rfl (th (ifP h16 rfl (fun e2 => ?_) (fun e2 => ?_)))
 ·rw [if_pos e2]
  refine sq (rg ?_)
  refine ldp hT 3 0 rfl rfl rfl ?_
  refine fin hT 1 rfl (th (rt (rT ?_)))
  exact ret1 rfl rfl ⟨Le.refl _, _, rfl, hm0, rfl⟩
 ·rw [if_neg e2]
  have hcode := Decidable.not_not.1 e2
  refine sk (th (sq (rg ?_)))
  refine cl hT 2 rfl (lastLC lb db L D c hb (by omega) hm0) ?_
  rintro v24 K24 hs24 ⟨rfl, rfl, rfl⟩
  refine cl hT 0 rfl (termLC lb db L D c hb (by omega) hm0 _ (by omega)) ?_
  rintro v25 K25 hs25 ⟨rfl, rfl, rfl⟩
  have ht : (trm L.sn L.l (L.sn.idx + L.l.length)).1 <= mxU := by
   unfold trm
   split
   ·exact hb.st
   ·split
    ·exact Nat.zero_le _
    ·cases hg : L.l[L.sn.idx + L.l.length - L.sn.idx - 1]? with
     | none => exact Nat.zero_le _
     | some e => exact (hb.ents e (List.mem_of_getElem? hg)).2.2
  refine fin hT 5 rfl (th (sq (rg ?_)))
  refine cl hT 1 rfl (lastLC lb db L D c hb (by omega) hm0) ?_
  rintro v29 K29 hs29 ⟨rfl, rfl, rfl⟩
  refine cl hT 2 rfl (followLC _ _ (by unfold mxU; omega) ht ao cap x xs hx (by omega)) ?_
  rintro v32 K32 hs32 ⟨rfl, rfl, rfl⟩
  have el : L.last = L.sn.idx + L.l.length := rfl
  rw [el]
  refine fin hT 1 rfl (th (sq (sq (rg ?_))))
  refine cmpS hT 1 rfl fun b34 h34 => ?_
  refine fin hT 0 rfl (th (ifP h34 rfl (fun e4 => ?_) (fun e4 => ?_)))
  ·rw [if_pos e4]
   refine sq (rg ?_)
   refine fin hT 2 rfl (th (rt (rT ?_)))
   exact ret1 rfl rfl ⟨Le.refl _, _, rfl, hm0, rfl⟩
  ·rw [if_neg e4]
   have hok := fol_ok (Decidable.not_not.1 e4)
   obtain ⟨R, hR⟩ : ∃ R, R = Lg.app1 x L D := ⟨_, rfl⟩
   rw [<- hR]
   obtain ⟨ys, hys⟩ := xs.isS
   refine sk (th (sq (sq (rg ?_))))
   refine fin hT 3 rfl (th (bk ?_))
   refine loop (σ := (Nat × Lg × Dk) × List PH × PH) (fun s => [(0, .pointer (some ⟨lb, 0, none⟩)), (36, .slice ao x.length cap), (37, .int .i64 ((x.length : Nat) : Int)), (38, .int .i64 ((s.1.1 : Nat) : Int))]) (fun s => s.2.2) (fun s => s.2.1 ++ hs)
    (fun s => s.1.1 <= x.length /\ Lg.app1 (x.drop s.1.1) s.1.2.1 s.1.2.2 = R /\ LBd (c + 12 * s.1.1) s.1.2.1 /\ DOk (c + 12 * s.1.1) s.1.2.2 /\ s.1.2.1.code = 0 /\ Le K32 s.2.2 /\ LgM s.2.2 lb db s.1.2.1 s.1.2.2 s.2.1) (fun s => x.length - s.1.1)
    ((0, L, D), [_, _, _, _, _, _], K32) ⟨Nat.zero_le _, hR.symm, hb, oD, hcode, Le.refl _, hm0⟩ ⟨rfl, rfl, rfl, rfl, trivial⟩ rfl rfl ?_
   clear hm0 hW hH hE hG hD xV xD hR hcode h16 h34 e4 e2 ht
   clear hidx hlen hb oD
   clear el L D
   clear wh hh eh gl dh
   rintro ⟨⟨j, L, D⟩, m, K1⟩ ⟨hj, hw, hb, oD, hcode, le1, hm⟩
   dsimp only at *
   obtain ⟨wb, hb', eb, aV, cV, aD, cD, aL, cL, wh, hh, eh, gl, dh, rfl, hW, hH, hE, hG, hD, xV, xD⟩ := id hm
   refine sq (rg ?_)
   refine cmpS hT 0 rfl fun b39 h39 => ?_
   refine fin hT 0 rfl (th (sq (ifP h39 rfl (fun e6 => ?_) (fun e6 => ?_))))
   ·have hjx : j < x.length := by omega
    obtain ⟨e, he⟩ : ∃ e, x[j]? = some e := ⟨x[j], List.getElem?_eq_getElem hjx⟩
    have hem := List.mem_of_getElem? he
    obtain ⟨q1, q2, q3⟩ := hx e hem
    have hoke := hok e hem
    obtain ⟨a, rfl⟩ := xs.addr (by omega) (by decide)
    obtain ⟨cc, ⟨ae, ce, rfl, xe⟩, _, hcell⟩ := xs.cells he
    rw [List.drop_eq_getElem_cons hjx, show x[j] = e from by rw [List.getElem?_eq_getElem hjx] at he; exact Option.some.inj he, app1_step] at hw
    obtain ⟨V, hV⟩ : ∃ V, V = L.w.append e.bytes D := ⟨_, rfl⟩
    have hb1 := hb.w1 e.bytes D V.2.2
    have hb2 := hb.w2 e.bytes D e ⟨hoke, q1, q2⟩
    have oD1 := oD.append hb.w (by omega) e.bytes
    have hll := hb.len
    rw [<- hV] at hb1 hb2 oD1 hw
    refine sk (th (sq (bk (sq (rg ?_)))))
    refine ixs hT 0 j rfl rfl (hys.le le1) hjx (by decide) fun a40 h40 => ?_
    cases h40
    refine lds hT 0 (e.v ae ce).toList rfl (by kernel_rfl) (.inl rfl) (fun j v hv => (hcell j v hv).le le1) ?_
    refine al hT 0 (.agg #[.int .u64 0, .int .u64 0, .int .i64 0, .slice none 0 0]) rfl (by kernel_rfl) fun b9 => ?_
    refine stS hT 0 0 rfl rfl (by kernel_rfl) rfl rfl ?_
    refine fin hT 0 rfl (th (sq (rg ?_)))
    refine ldS hT 0 0 rfl rfl (by kernel_rfl) ?_
    refine cl hT 0 rfl (putEntC e ae ce q1 q2 (.inl rfl) (xe.le le1) q3) ?_
    rintro v44 K44 hs44 ⟨rfl, h44, ao44, c44, rfl, rfl, o44⟩
    rw [putEnt_eq hoke] at o44 ⊢
    have o44 : Own h44 ao44 e.bytes.length c44 5 1 (bv e.bytes) := o44
    have hel := e.bytes_length hoke q1 q2
    refine fin hT 5 rfl (th (sq (sq (rg ?_))))
    refine ldp hT 4 2 rfl rfl rfl ?_
    refine cl hT 1 rfl (Ct.at2 3 6 rfl rfl (appendWH wb db L.w hW D (c + 12 * j) oD (by omega) hb.w hD ao44 c44 e.bytes (by omega) (.inr ⟨0, rfl⟩) o44.isS)) ?_
    rintro v53 K53 hs53 ⟨wh', dh', rfl, le2, hW', hD', rfl⟩
    rw [<- hV] at hW' hD' ⊢
    refine cl hT 0 rfl (Ct.at 2 rfl (didLC lb wb db hb' eb L _ _ _ _)) ?_
    rintro v54 K54 hs54 ⟨_, rfl, rfl, rfl, rfl⟩
    have ed : didV L.code V.2.2 = V.2.2 := by unfold didV; rw [if_pos hcode]
    rw [ed]
    refine cmpS hT 0 rfl fun b55 h55 => ?_
    refine fin hT 0 rfl (th (ifP h55 rfl (fun e8 => ?_) (fun e8 => ?_)))
    ·rw [if_pos e8] at hw
     refine sq (rg ?_)
     refine ldp hT 3 2 rfl rfl rfl ?_
     refine fin hT 1 rfl (th (rt (rT (rB (rT (rT (rB (rT (WQ.drop (WQ.drop ?_))))))))))
     rw [<- hw]
     exact ret1 rfl rfl ⟨le1.trans le2, [_, _, _, _, _, _], rfl, ⟨wb, hb', eb, aV, cV, aD, cD, aL, cL, wh', hh, eh, gl, dh', rfl, hW', hH.le le2, hE.le le2, hG.imp fun _ _ h => h.le le2, hD', xV.le le2, xD.le le2⟩, rfl⟩
    ·have e8 := Decidable.not_not.1 e8
     rw [if_neg (by rw [e8]; simp)] at hw
     have eL : ({ L with code := V.2.2 } : Lg) = L := by rw [e8, <- hcode]
     rw [eL]
     refine sk (th (rga [pt lb (lgA wb db hb' eb L (.slice aV L.sn.vot.length cV) (.slice aD L.sn.data.length cD) (.slice aL L.l.length cL)) 78, pt b9 (e.v ae ce) 111] 11 [0, 2, 4, 6, 8, 10, 13, 15, 17, 18, 20, 23] (by simp) (by kernel_rfl) (by kernel_rfl) ?_))
     refine dldpw hT (by kernel_rfl) 4 0 rfl (by kernel_rfl) rfl rfl ?_
     refine dldS hT (by kernel_rfl) 0 1 rfl (by kernel_rfl) rfl (by kernel_rfl) ?_
     refine dact hT (by kernel_rfl) 0 rfl ?_
     refine cl hT 0 rfl (copiedC e ae ce (.inl rfl) (xe.le (le1.trans le2)) q3) ?_
     rintro v66 K66 hs66 ⟨le3, rfl, ao2, c2, rfl, x2⟩
     refine dnexL [pt lb (lgA wb db hb' eb L (.slice aV L.sn.vot.length cV) (.slice aD L.sn.data.length cD) (.slice aL L.l.length cL)) 78, pt b9 (e.v ae ce) 111] (by simp) (by simp) le3 ?_
     refine dact hT (by kernel_rfl) 0 rfl ?_
     refine lit hT 0 (e.v ao2 c2) rfl (by decide) (by kernel_rfl) fun b67 => ?_
     refine dnex [pt lb (lgA wb db hb' eb L (.slice aV L.sn.vot.length cV) (.slice aD L.sn.data.length cD) (.slice aL L.l.length cL)) 78, pt b9 (e.v ae ce) 111] (by simp) (by simp) rfl ?_
     refine dact hT (by kernel_rfl) 0 rfl ?_
     refine appSq hT 0 7 (e.v ao2 c2).toList e rfl rfl rfl (hG.imp fun _ _ h => h.le (le2.trans le3)) ⟨ao2, c2, rfl, x2⟩ rfl (by simp [Ent.v, Value.oneCell']) rfl (by decide) (by show (L.l.length + 1) * 48 <= _; omega) (by simp only [maxLen]; omega) fun ao68 c68 g68 o68 => ?_
     refine dnex [pt lb (lgA wb db hb' eb L (.slice aV L.sn.vot.length cV) (.slice aD L.sn.data.length cD) (.slice aL L.l.length cL)) 78, pt b9 (e.v ae ce) 111] (by simp) (by simp) rfl ?_
     refine dact hT (by kernel_rfl) 2 rfl ?_
     refine stp hT 0 3 rfl rfl rfl rfl ?_
     refine dnext (.inl (by kernel_rfl)) ?_
     refine dend hT (by kernel_rfl) 0 rfl (bl (th (rg (WL.drop (WL.drop (WL.drop ?_))))))
     refine ar hT 0 rfl (i64w (x := ((j + 1 : Nat) : Int)) (by omega)) ?_
     refine fin hT 1 rfl ?_
     have le23 := le2.trans le3
     exact again (x := ((j, L, D), [], em)) ((j + 1, { L with w := V.1, l := L.l ++ [e] }, V.2.1), [_, _, _, _, _, _], K66) ⟨rfl, rfl, rfl, rfl, trivial⟩ rfl rfl ⟨by dsimp only; omega, hw, hb2.up (by dsimp only; omega), oD1.up (by dsimp only; omega), hcode, le1.trans le23, ⟨wb, hb', eb, aV, cV, aD, cD, ao68, c68, wh', hh, eh, g68, dh', by rw [List.length_append]; rfl, hW'.le le3, hH.le le23, hE.le le23, by rw [List.length_append]; exact o68, hD'.le le3, xV.le le23, xD.le le23⟩⟩ (by dsimp only; omega)
   ·obtain rfl : j = x.length := by omega
    rw [List.drop_length] at hw
    have hw : (L, D, (0 : Int)) = R := hw
    refine ex (xt (xt (xb (th (sq (rg ?_))))))
    refine fin hT 1 rfl (th (rt ?_))
    rw [<- hw]
    exact ret1 rfl rfl ⟨le1, [_, _, _, _, _, _], rfl, hm, rfl⟩
end Go.Proofs.YtcncpbolcigpnaaGreat
end
section
namespace Go.En
theorem LBd.append {c : Nat} {L : Lg} (o : LBd c L) {D : Dk} (d : DOk c D) (x : List Ent) (hx : ∀ e ∈ x, e.idx <= mxU /\ e.term <= mxU) (hc : c + 12 * x.length <= 999999990) : LBd (c + 12 * x.length) (L.append x D).1 /\ DOk (c + 12 * x.length) (L.append x D).2.1 := by
 unfold Lg.append
 split
 ·exact ⟨o.up (by omega), d.up (by omega)⟩
 ·split
  ·exact ⟨o.up (by omega), d.up (by omega)⟩
  ·rename_i h
   have hok := fol_ok (Decidable.not_not.1 h)
   exact LBd.app1 x L D c o d (fun e he => ⟨hok e he, hx e he⟩) hc
end Go.En
end
section
namespace Go.En
def chk1 (ao : Option Addr) (n i : Nat) : List Value := [.slice (cutA ao (64 * i + min 64 (n - 64 * i)) (64 * i) 1) (min 64 (n - 64 * i)) (min 64 (n - 64 * i))]
def chk (ao : Option Addr) (n : Nat) : List (List Value) := (List.range ((n + 63) / 64)).map (chk1 ao n)
attribute [local irreducible] Code.wp wpList Calls
section joinx
variable {P : Program} {w0 : World} {Q : Exit -> Act -> World -> Prop} {n : Nat} {l : Sl} {K : PH} {hs : List PH} {r : Option Nat} {ds : List Deferred}
end joinx
end Go.En
namespace Go.Proofs.YtcncpbolcigpnaaGreat
open Go.En
attribute [local irreducible] Code.wp wpList Calls
end Go.Proofs.YtcncpbolcigpnaaGreat
end
section
namespace Go.En
theorem putConf_len {l : List Int} (h : (putConf l).isSome = true) : l.length <= 7 := by
 unfold putConf at h
 split at h
 ·rename_i h1
  have := confOK_len l (-1) h1.2 (by omega) (by omega)
  omega
 ·simp at h
structure SBd (s : Snp) : Prop where
 idx : s.idx <= lgTop
 term : s.term <= mxU
 vot : s.vot.length <= 7
 data : s.data.length <= 2097152
theorem DOk.syncL {c : Nat} {D : Dk} (d : DOk c D) (L : Lg) : DOk (c + 1) (L.sync D).2.1 := by
 unfold Lg.sync
 split
 ·exact d.up (by omega)
 ·exact d.syncW L.w
end Go.En
namespace Go.Proofs.YtcncpbolcigpnaaGreat
open Go.En
attribute [local irreducible] Code.wp wpList Calls
end Go.Proofs.YtcncpbolcigpnaaGreat
end
section
namespace Go.En
def rdHard (S : Slt) : Option (Nat × Int) :=
 if S.num = 0 then some (0, -1)
 else if rEnd (rUint 7 (rUint mxU (S.val, 0)).2).2 = 0 then some ((rUint mxU (S.val, 0)).1, (((rUint 7 (rUint mxU (S.val, 0)).2).1 : Nat) : Int) - 1) else none
def rdDat (D : Dk) (place size : Nat) : Nat -> Nat -> List UInt8 -> Option (List UInt8)
 | 0, _, acc => some acc
 | f + 1, n, acc => if acc.length < size then (match D.read (lgA4 place) n with
   | none => none
   | some b => rdDat D place size f (n + 1) (acc ++ b)) else some acc
def hd1 (b : List UInt8) : Nat × Rd := rUint lgTop (b, 0)
def hd2 (b : List UInt8) : Nat × Rd := rUint mxU (hd1 b).2
def hd3 (b : List UInt8) : Nat × Rd := rUint lgTop (hd2 b).2
def hd4 (b : List UInt8) : Nat × Rd := rUint 2097152 (hd3 b).2
def hd5 (b : List UInt8) : Nat × Rd := rUint lgTop (hd4 b).2
def hd6 (b : List UInt8) : Nat × Rd := rByte (hd5 b).2
def rdHead (D : Dk) (S : Slt) (vot0 : List Int) : Option (Snp × Nat × Nat) :=
 if S.num = 0 then some (⟨0, 0, vot0, []⟩, 0, 0)
 else if rEnd (hd6 S.val).2 ≠ 0 \/ (getConf [UInt8.ofNat (hd6 S.val).1]).isSome = false then none
 else match rdDat D (hd3 S.val).1 (hd4 S.val).1 32769 0 [] with
  | none => none
  | some d => some (⟨(hd1 S.val).1, (hd2 S.val).1, (getConf [UInt8.ofNat (hd6 S.val).1]).getD [], d.take (hd4 S.val).1⟩, (hd3 S.val).1, (hd5 S.val).1)
def rdE : Nat -> List (List UInt8) -> Option (List Ent)
 | _, [] => some []
 | i, b :: r => match getEnt b with
  | none => none
  | some e => if e.idx = i then (rdE (i + 1) r).map (e :: ·) else none
def rdEnts (s : Snp) (W : Wl) : Option (List Ent) :=
 if s.idx + 1 < W.first \/ W.first + W.recs.length < s.idx + 1 then none else rdE (s.idx + 1) (W.recs.drop (s.idx + 1 - W.first))
def lgFree (pl : Nat) : List Int -> Dk -> Dk × Int
 | [], D => (D, 0)
 | a :: r, D => if a % 4 = 2 /\ a ≠ ((lgA4 pl : Nat) : Int) then (if (D.free a).2 ≠ 0 then D.free a else lgFree pl r (D.free a).1) else lgFree pl r D
def lOpen3 (D : Dk) (kh : Nat × Int) (h : Snp × Nat × Nat) (F : Dk) : Option Lg × Dk × Int :=
 match (wOpen F h.2.2 (h.1.idx + 1)).1 with
 | none => (none, (wOpen F h.2.2 (h.1.idx + 1)).2.1, if (wOpen F h.2.2 (h.1.idx + 1)).2.2 = 52 then 181 else (wOpen F h.2.2 (h.1.idx + 1)).2.2)
 | some w => match rdEnts h.1 w with
  | none => (none, (wOpen F h.2.2 (h.1.idx + 1)).2.1, 181)
  | some l => (some ⟨w, sltOpen D 0, sltOpen D 4, kh.1, kh.2, h.1, h.2.1, h.2.2, l, 0⟩, (wOpen F h.2.2 (h.1.idx + 1)).2.1, 0)
def lOpen2 (D : Dk) (kh : Nat × Int) (h : Snp × Nat × Nat) : Option Lg × Dk × Int :=
 if (lgFree h.2.1 (areasL D) D).2 ≠ 0 then (none, lgFree h.2.1 (areasL D) D) else lOpen3 D kh h (lgFree h.2.1 (areasL D) D).1
def lOpen (D : Dk) (first : List Int) : Option Lg × Dk × Int :=
 if (putConf first).isSome = false then (none, D, 181)
 else if D.dead = true then (none, D, 30)
 else match rdHard (sltOpen D 0) with
  | none => (none, D, 181)
  | some kh => match rdHead D (sltOpen D 4) first with
   | none => (none, D, 181)
   | some h => lOpen2 D kh h
def lgB (wp : Option Nat) (db : Nat) (hp ep : Option Nat) (kt : Nat) (kv : Int) (si st : Nat) (vS dS : Value) (pl fr : Nat) (lS : Value) (cd : Int) : Array Value :=
 #[.pointer (wp.map fun b => ⟨b, 0, none⟩), .pointer (some ⟨db, 0, none⟩), .pointer (hp.map fun b => ⟨b, 0, none⟩), .pointer (ep.map fun b => ⟨b, 0, none⟩), .int .u64 ((kt : Nat) : Int), .int .i64 kv,
  .int .u64 ((si : Nat) : Int), .int .u64 ((st : Nat) : Int), vS, dS, .int .u64 ((pl : Nat) : Int), .int .u64 ((fr : Nat) : Int), lS, .int .i64 cd]
end Go.En
namespace Go.Proofs.YtcncpbolcigpnaaGreat
open Go.En
attribute [local irreducible] Code.wp wpList Calls
theorem readHardC {w0 : World} {K hh : PH} {hs : List PH} (lb db hb : Nat) (wp ep : Option Nat) (si st : Nat) (vS dS : Value) (pl fr : Nat) (lS : Value) (cd : Int) (S : Slt) (hS : SltH K hb db 0 S hh) (hbd : S.bd) :
  Ct Tryz.prog w0 35 [.pointer (some ⟨lb, 0, none⟩)] K (pt lb (lgB wp db (some hb) ep 0 (-1) si st vS dS pl fr lS cd) 78 :: hh :: hs)
   (fun v K' hs' => Le K K' /\ ∃ kt kv, hs' = pt lb (lgB wp db (some hb) ep kt kv si st vS dS pl fr lS cd) 78 :: hh :: hs /\ v = .bool (rdHard S).isSome /\ ∀ p, rdHard S = some p -> p = (kt, kv)) := by
 unfold rdHard
 obtain ⟨hn, hv⟩ := hbd
 refine enter Tryz.func35 (by kernel_rfl) rfl rfl rfl ?_
 refine sq (rg ?_)
 refine fin hT 1 rfl (th (sq (sq (rg ?_))))
 refine ldp hT 3 0 rfl rfl rfl ?_
 refine cl hT 0 rfl (Ct.keep 1 rfl (numberSC hb db 0 S hS)) ?_
 rintro v8 K8 hs8 ⟨rfl, rfl, rfl⟩
 refine cmpS hT 0 rfl fun b9 h9 => ?_
 refine fin hT 0 rfl (th (ifP h9 rfl (fun e2 => ?_) (fun e2 => ?_)))
 ·rw [if_pos (by omega)]
  refine sq (rg ?_)
  refine fin hT 1 rfl (th (rt (rT ?_)))
  exact ret1 rfl rfl ⟨Le.refl _, 0, -1, rfl, rfl, fun p hp => (Option.some.inj hp).symm⟩
 ·rw [if_neg (by omega)]
  refine sk (th (sq (rg ?_)))
  refine ldp hT 3 0 rfl rfl rfl ?_
  refine cl hT 0 rfl (Ct.at 1 rfl (valueSC hb db 0 S hS ⟨hn, hv⟩)) ?_
  rintro v14 K14 hs14 ⟨hh, rfl, rfl, le, ao, k, rfl, x⟩
  refine cl hT 0 rfl (readC ao k S.val (.inl rfl) x (by omega)) ?_
  rintro v15 K15 hs15 ⟨rfl, rb, rd, rh, rfl, rfl, ir⟩
  obtain ⟨r1, hr1⟩ : ∃ r, r = rUint mxU (S.val, 0) := ⟨_, rfl⟩
  have hl1 := rUint_len mxU (S.val, 0)
  have hb1 := rUint_le mxU (S.val, 0)
  rw [<- hr1] at hl1 hb1 ⊢
  obtain ⟨r2, hr2⟩ : ∃ r, r = rUint 7 r1.2 := ⟨_, rfl⟩
  have hb2 := rUint_le 7 r1.2
  rw [<- hr2] at hb2 ⊢
  refine fin hT 1 rfl (th (sq (rg ?_)))
  refine cl hT 2 rfl (uintC (.inr ⟨0, rfl⟩) mxU (S.val, 0) (by dsimp only; omega) ir) ?_
  rintro v18 K18 hs18 ⟨rd2, rfl, rfl, rfl, ir2⟩
  rw [<- hr1] at ir2 ⊢
  refine stp hT 3 2 rfl rfl rfl rfl ?_
  refine fin hT 0 rfl (th (sq (rg ?_)))
  refine cl hT 2 rfl (uintC (.inr ⟨0, rfl⟩) 7 r1.2 (by dsimp only at hl1; omega) ir2) ?_
  rintro v24 K24 hs24 ⟨rd3, rfl, rfl, rfl, ir3⟩
  rw [<- hr2] at ir3 ⊢
  refine ar hT 0 rfl (i64w (by omega)) ?_
  refine ar hT 0 rfl (i64w (by omega)) ?_
  refine stp hT 3 2 rfl rfl rfl rfl ?_
  refine fin hT 0 rfl (th (sq (rg ?_)))
  refine cl hT 1 rfl (endC r2.2 ir3) ?_
  rintro v31 K31 hs31 ⟨rfl, rfl, rfl⟩
  refine cmpS hT 0 rfl fun b32 h32 => ?_
  refine fin hT 1 rfl (th (rt (WQ.drop (WQ.drop ?_))))
  by_cases e : rEnd r2.2 = 0
  ·rw [if_pos e]
   obtain rfl : b32 = true := h32.2 e
   exact ret1 rfl rfl ⟨le, r1.1, _, rfl, rfl, fun p hp => (Option.some.inj hp).symm⟩
  ·rw [if_neg e]
   obtain rfl : b32 = false := by cases b32 with | false => rfl | true => exact absurd (h32.1 rfl) e
   exact ret1 rfl rfl ⟨le, _, _, rfl, rfl, fun p hp => by cases hp⟩
end Go.Proofs.YtcncpbolcigpnaaGreat
end
section
namespace Go.En
theorem rdDat_step (D : Dk) (place size f n : Nat) (acc : List UInt8) : rdDat D place size (f + 1) n acc = if acc.length < size then (match D.read (lgA4 place) n with
   | none => none
   | some b => rdDat D place size f (n + 1) (acc ++ b)) else some acc := rfl
end Go.En
namespace Go.Proofs.YtcncpbolcigpnaaGreat
open Go.En
attribute [local irreducible] Code.wp wpList Calls
theorem readHeadC {w0 : World} {K eh dh : PH} {hs : List PH} (lb db eb : Nat) (wp hp : Option Nat) (kt : Nat) (kv : Int) (vot0 : List Int) (a0 : Option Addr) (c0 : Nat) (x0 : IsS K a0 vot0.length c0 1 (iv vot0)) (lS : Value) (cd : Int) (S : Slt) (hS : SltH K eb db 4 S eh) (hbd : S.bd) (D : Dk) (c : Nat) (oD : D.Ok c) (hc : c <= 1000000000) (hd : DskH K db D dh) :
  Ct Tryz.prog w0 36 [.pointer (some ⟨lb, 0, none⟩)] K (pt lb (lgB wp db hp (some eb) kt kv 0 0 (.slice a0 vot0.length c0) (.slice none 0 0) 0 0 lS cd) 78 :: eh :: dh :: hs)
   (fun v K' hs' => Le K K' /\ ∃ sn pl fr aV cV aD cD, hs' = pt lb (lgB wp db hp (some eb) kt kv (Snp.idx sn) sn.term (.slice aV sn.vot.length cV) (.slice aD sn.data.length cD) pl fr lS cd) 78 :: eh :: dh :: hs /\ v = .bool (rdHead D S vot0).isSome /\
    IsS K' aV sn.vot.length cV 1 (iv sn.vot) /\ IsS K' aD sn.data.length cD 1 (bv sn.data) /\ ∀ p, rdHead D S vot0 = some p -> p = (sn, pl, fr)) := by
 unfold rdHead
 obtain ⟨hn, hv⟩ := hbd
 refine enter Tryz.func36 (by kernel_rfl) rfl rfl rfl ?_
 refine sq (rg ?_)
 refine fin hT 1 rfl (th (sq (sq (rg ?_))))
 refine ldp hT 3 0 rfl rfl rfl ?_
 refine cl hT 0 rfl (Ct.keep 1 rfl (numberSC eb db 4 S hS)) ?_
 rintro v15 K15 hs15 ⟨rfl, rfl, rfl⟩
 refine cmpS hT 0 rfl fun b16 h16 => ?_
 refine fin hT 0 rfl (th (ifP h16 rfl (fun e2 => ?_) (fun e2 => ?_)))
 ·rw [if_pos (by omega)]
  refine sq (rg ?_)
  refine fin hT 1 rfl (th (rt (rT ?_)))
  exact ret1 rfl rfl ⟨Le.refl _, ⟨0, 0, vot0, []⟩, 0, 0, a0, c0, none, 0, rfl, rfl, x0, IsS.nil _ _ _ _, fun p hp => (Option.some.inj hp).symm⟩
 ·rw [if_neg (by omega)]
  obtain ⟨a1, h1⟩ : ∃ r, r = hd1 S.val := ⟨_, rfl⟩
  obtain ⟨a2, h2⟩ : ∃ r, r = hd2 S.val := ⟨_, rfl⟩
  obtain ⟨a3, h3⟩ : ∃ r, r = hd3 S.val := ⟨_, rfl⟩
  obtain ⟨a4, h4⟩ : ∃ r, r = hd4 S.val := ⟨_, rfl⟩
  obtain ⟨a5, h5⟩ : ∃ r, r = hd5 S.val := ⟨_, rfl⟩
  obtain ⟨a6, h6⟩ : ∃ r, r = hd6 S.val := ⟨_, rfl⟩
  have g1 : rUint lgTop (S.val, 0) = a1 := h1.symm
  have g2 : rUint mxU a1.2 = a2 := by rw [h2, h1]; rfl
  have g3 : rUint lgTop a2.2 = a3 := by rw [h3, h2]; rfl
  have g4 : rUint 2097152 a3.2 = a4 := by rw [h4, h3]; rfl
  have g5 : rUint lgTop a4.2 = a5 := by rw [h5, h4]; rfl
  have g6 : rByte a5.2 = a6 := by rw [h6, h5]; rfl
  rw [<- h1, <- h2, <- h3, <- h4, <- h5, <- h6]
  have l1 : a1.2.1.length <= 48 := by have := rUint_len lgTop (S.val, 0); rw [g1] at this; dsimp only at this; omega
  have l2 : a2.2.1.length <= 48 := by have := rUint_len mxU a1.2; rw [g2] at this; omega
  have l3 : a3.2.1.length <= 48 := by have := rUint_len lgTop a2.2; rw [g3] at this; omega
  have l4 : a4.2.1.length <= 48 := by have := rUint_len 2097152 a3.2; rw [g4] at this; omega
  have l5 : a5.2.1.length <= 48 := by have := rUint_len lgTop a4.2; rw [g5] at this; omega
  have m1 : a1.1 <= lgTop := by rw [<- g1]; exact rUint_le _ _
  have m3 : a3.1 <= lgTop := by rw [<- g3]; exact rUint_le _ _
  have m4 : a4.1 <= 2097152 := by rw [<- g4]; exact rUint_le _ _
  have m5 : a5.1 <= lgTop := by rw [<- g5]; exact rUint_le _ _
  clear h1 h2 h3 h4 h5 h6
  refine sk (th (sq (rg ?_)))
  refine ldp hT 3 0 rfl rfl rfl ?_
  refine cl hT 0 rfl (Ct.at 1 rfl (valueSC eb db 4 S hS ⟨hn, hv⟩)) ?_
  rintro v21 K21 hs21 ⟨eh, rfl, rfl, le, ao, k, rfl, x⟩
  refine cl hT 0 rfl (readC ao k S.val (.inl rfl) x (by omega)) ?_
  rintro v22 K22 hs22 ⟨rfl, rb, rd, rh, rfl, rfl, ir⟩
  refine fin hT 1 rfl (th (sq (rg ?_)))
  refine cl hT 1 rfl (uintC (.inr ⟨0, rfl⟩) lgTop (S.val, 0) (by dsimp only; omega) ir) ?_
  rintro v24 K24 hs24 ⟨rd1, rfl, rfl, rfl, ir⟩
  rw [g1] at ir ⊢
  refine cl hT 1 rfl (uintC (.inr ⟨0, rfl⟩) mxU a1.2 (by omega) ir) ?_
  rintro v26 K26 hs26 ⟨rd2, rfl, rfl, rfl, ir⟩
  rw [g2] at ir ⊢
  refine bd hT 0 (.agg #[.int .u64 ((a1.1 : Nat) : Int), .int .u64 ((a2.1 : Nat) : Int), .slice none 0 0, .slice none 0 0]) rfl (fun w => by kernel_rfl) ?_
  refine al hT 0 (.agg #[.int .u64 0, .int .u64 0, .slice none 0 0, .slice none 0 0]) rfl (by kernel_rfl) fun b4 => ?_
  refine stS hT 0 0 rfl rfl (by kernel_rfl) rfl rfl ?_
  refine fin hT 0 rfl (th (sq (rg ?_)))
  refine cl hT 2 rfl (Ct.at 1 rfl (uintC (.inr ⟨1, rfl⟩) lgTop a2.2 (by omega) ir)) ?_
  rintro v30 K30 hs30 ⟨rd3, rfl, rfl, rfl, ir⟩
  rw [g3] at ir ⊢
  refine stp hT 2 3 rfl rfl rfl rfl ?_
  refine fin hT 0 rfl (th (sq (rg ?_)))
  refine cl hT 1 rfl (Ct.at 1 rfl (uintC (.inr ⟨1, rfl⟩) 2097152 a3.2 (by omega) ir)) ?_
  rintro v34 K34 hs34 ⟨rd4, rfl, rfl, rfl, ir⟩
  rw [g4] at ir ⊢
  refine ar hT 0 rfl (i64w (x := ((a4.1 : Nat) : Int)) (by omega)) ?_
  refine fin hT 1 rfl (th (sq (rg ?_)))
  refine cl hT 2 rfl (Ct.at 1 rfl (uintC (.inr ⟨1, rfl⟩) lgTop a4.2 (by omega) ir)) ?_
  rintro v38 K38 hs38 ⟨rd5, rfl, rfl, rfl, ir⟩
  rw [g5] at ir ⊢
  refine stp hT 2 3 rfl rfl rfl rfl ?_
  refine WL.hs (pt b4 #[.int .u64 ((a1.1 : Nat) : Int), .int .u64 ((a2.1 : Nat) : Int), .slice none 0 0, .slice none 0 0] 66 :: rd5 :: rh :: pt lb (lgB wp db hp (some eb) kt kv 0 0 (.slice a0 vot0.length c0) (.slice none 0 0) a3.1 a5.1 lS cd) 78 :: eh :: dh :: hs) rfl ?_
  refine fin hT 0 rfl (th (sq (rg ?_)))
  refine cl hT 1 rfl (Ct.at 1 rfl (byteC (.inr ⟨1, rfl⟩) a5.2 ir)) ?_
  rintro v43 K43 hs43 ⟨rd6, rfl, rfl, rfl, ir⟩
  rw [g6] at ir ⊢
  have hb6 : a6.1 < 256 := by rw [<- g6]; exact rByte_lt _
  refine lit hT 0 #[.int .u8 ((a6.1 : Nat) : Int)] rfl (by decide) (by kernel_rfl) fun b44 => ?_
  have o44 := own_byte b44 a6.1 hb6
  refine cl hT 0 rfl (getConfC (some ⟨b44, 0, none⟩) 1 [UInt8.ofNat a6.1] (.inr ⟨0, rfl⟩) o44.isS (by simp)) ?_
  rintro v45 K45 hs45 ⟨rfl, h45, ao45, c45, rfl, rfl, o45⟩
  obtain ⟨C, hC⟩ : ∃ C, C = getConf [UInt8.ofNat a6.1] := ⟨_, rfl⟩
  rw [<- hC] at o45 ⊢
  refine al hT 3 (.agg #[.slice none 0 0]) rfl (by kernel_rfl) fun b6 => ?_
  refine stS hT 0 0 rfl rfl (by kernel_rfl) rfl rfl ?_
  refine WL.hs (pt b6 #[.slice ao45 (C.getD []).length c45] 59 :: h45 :: pt b44 #[.int .u8 ((a6.1 : Nat) : Int)] 5 :: pt b4 #[.int .u64 ((a1.1 : Nat) : Int), .int .u64 ((a2.1 : Nat) : Int), .slice none 0 0, .slice none 0 0] 66 :: rd6 :: rh :: pt lb (lgB wp db hp (some eb) kt kv 0 0 (.slice a0 vot0.length c0) (.slice none 0 0) a3.1 a5.1 lS cd) 78 :: eh :: dh :: hs) rfl ?_
  refine fin hT 1 rfl (th (sq (sq (rg ?_))))
  refine cl hT 1 rfl (Ct.keep 4 rfl (endC a6.2 ir)) ?_
  rintro v49 K49 hs49 ⟨rfl, rfl, rfl⟩
  refine cmpS hT 0 rfl fun b50 h50 => ?_
  refine' bjo (q := C.isSome = false) hT 1 3 54 [50, 51] h50 rfl rfl rfl rfl rfl rfl rfl (fun _ => ?x4) (fun b54 h54 => ?_)
  case x4 =>
   refine cmpS hT 1 rfl fun b53 h53 => ?_
   exact fin hT 1 rfl (bjx (h53.trans (by cases C <;> simp [ec])) rfl rfl rfl)
  refine fin hT 0 rfl (th (ifP h54 rfl (fun e6 => ?_) (fun e6 => ?_)))
  ·rw [if_pos e6]
   refine sq (rg ?_)
   refine fin hT 1 rfl (th (rt (rT (WQ.drop (WQ.drop (WQ.drop (WQ.drop (WQ.drop (WQ.drop ?_)))))))))
   exact ret1 rfl rfl ⟨le, ⟨0, 0, vot0, []⟩, a3.1, a5.1, a0, c0, none, 0, rfl, rfl, x0.le le, IsS.nil _ _ _ _, fun p hp => by cases hp⟩
  ·rw [if_neg e6]
   obtain ⟨cf, rfl⟩ : ∃ cf, C = some cf := by
    cases C with
    | none => exact absurd (.inr rfl) e6
    | some cf => exact ⟨cf, rfl⟩
   have o45 : Own h45 ao45 cf.length c45 3 1 (iv cf) := o45
   refine sk (th (sq (rg ?_)))
   refine ldS hT 0 0 rfl rfl (by kernel_rfl) ?_
   refine sts hT 1 3 rfl rfl (by kernel_rfl) (by simp) (fun v hv => by simp at hv; subst hv; rfl) ?_
   refine WL.drop (WL.frz fun K1 l1 l2 => WL.drop (WL.del 1 rfl (WL.del 1 rfl ?_)))
   have x45 := o45.isS.le l2
   have le1 := le.trans l1
   refine WL.hs (pt b4 #[.int .u64 ((a1.1 : Nat) : Int), .int .u64 ((a2.1 : Nat) : Int), .slice ao45 cf.length c45, .slice none 0 0] 66 :: pt lb (lgB wp db hp (some eb) kt kv 0 0 (.slice a0 vot0.length c0) (.slice none 0 0) a3.1 a5.1 lS cd) 78 :: eh :: dh :: hs) rfl ?_
   refine fin hT 0 rfl (th (sq (sq (rg ?_))))
   obtain ⟨R, hR⟩ : ∃ R, R = rdDat D a3.1 a4.1 32769 0 [] := ⟨_, rfl⟩
   rw [<- hR]
   refine fin hT 1 rfl (th (bk (WC.em ?_)))
   refine loop (σ := (Nat × List UInt8) × (Option Addr × Nat × PH) × PH) (fun s => [(0, .pointer (some ⟨lb, 0, none⟩)), (4, .pointer (some ⟨b4, 0, none⟩)), (5, .int .i64 ((a4.1 : Nat) : Int)), (8, .int .i64 ((s.1.1 : Nat) : Int))]) (fun s => s.2.2)
    (fun s => s.2.1.2.2 :: pt b4 #[.int .u64 ((a1.1 : Nat) : Int), .int .u64 ((a2.1 : Nat) : Int), .slice ao45 cf.length c45, .slice s.2.1.1 s.1.2.length s.2.1.2.1] 66 :: pt lb (lgB wp db hp (some eb) kt kv 0 0 (.slice a0 vot0.length c0) (.slice none 0 0) a3.1 a5.1 lS cd) 78 :: eh :: dh :: hs)
    (fun s => s.1.2.length = 64 * s.1.1 /\ s.1.1 <= 32768 /\ rdDat D a3.1 a4.1 (32769 - s.1.1) s.1.1 s.1.2 = R /\ Le K1 s.2.2 /\ Own s.2.1.2.2 s.2.1.1 s.1.2.length s.2.1.2.1 5 1 (bv s.1.2)) (fun s => 32769 - s.1.1)
    ((0, []), (none, 0, em), K1) ⟨rfl, Nat.zero_le _, hR.symm, Le.refl _, Own.nil _ _⟩ ⟨rfl, rfl, rfl, rfl, trivial⟩ rfl rfl ?_
   rintro ⟨⟨n, acc⟩, ⟨ag, cg, g⟩, K2⟩ ⟨hal, hn2, hw, le2, og⟩
   dsimp only at *
   have le12 := le1.trans le2
   rw [show 32769 - n = (32768 - n) + 1 from by omega, rdDat_step] at hw
   unfold lgTop at m3 m5 m1
   refine sq (sq (rg ?_))
   refine ldp hT 1 1 rfl rfl rfl ?_
   refine cmpS hT 2 rfl fun b61 h61 => ?_
   refine fin hT 0 rfl (th (ifP h61 rfl (fun e8 => ?_) (fun e8 => ?_)))
   ·rw [if_pos (by omega)] at hw
    have hn3 : n < 32768 := by omega
    refine sk (th (sq (bk (sq (rga [pt lb (lgB wp db hp (some eb) kt kv 0 0 (.slice a0 vot0.length c0) (.slice none 0 0) a3.1 a5.1 lS cd) 78] 16 [0, 2, 4, 6, 8, 10, 12, 14, 18, 17, 21, 22, 24, 26, 28, 30] (by simp) (by kernel_rfl) (by kernel_rfl) ?_)))))
    refine dldp hT (by kernel_rfl) 3 0 rfl rfl rfl ?_
    refine dldp hT (by kernel_rfl) 3 0 rfl rfl rfl ?_
    refine dact hT (by kernel_rfl) 1 rfl ?_
    refine cl hT 0 rfl (areaLC a3.1 (by omega)) ?_
    rintro v73 K73 hs73 ⟨rfl, rfl, rfl⟩
    refine dnex [pt lb (lgB wp db hp (some eb) kt kv 0 0 (.slice a0 vot0.length c0) (.slice none 0 0) a3.1 a5.1 lS cd) 78] (by simp) (by simp) rfl ?_
    refine dact hT (by kernel_rfl) 0 rfl ?_
    refine cl hT 0 rfl (Ct.at 4 rfl (readH db D c oD (by omega) (hd.le le12) (lgA4 a3.1) n)) ?_
    rintro v75 K75 hs75 ⟨dh, rfl, rfl, le3, hrd⟩
    refine dnexL [pt lb (lgB wp db hp (some eb) kt kv 0 0 (.slice a0 vot0.length c0) (.slice none 0 0) a3.1 a5.1 lS cd) 78] (by simp) (by simp) le3 ?_
    rcases hrd with ⟨hnone, rfl⟩ | ⟨bs, ab, kb, hsome, hbl, rfl, xb⟩
    ·rw [hnone] at hw
     refine dend hT (by kernel_rfl) 5 rfl (th (sq (sq (rg ?_))))
     refine fin hT 2 rfl (th (ifT rfl ?_))
     refine sq (rg ?_)
     refine fin hT 1 rfl (th (rt (rT (rB (rT (rT (rB (rT (WQ.drop (WQ.drop ?_))))))))))
     rw [<- hw]
     exact ret1 rfl rfl ⟨le12.trans le3, ⟨0, 0, vot0, []⟩, a3.1, a5.1, a0, c0, none, 0, rfl, rfl, x0.le (le12.trans le3), IsS.nil _ _ _ _, fun p hp => by cases hp⟩
    ·rw [hsome] at hw
     dsimp only at hw
     refine dend hT (by kernel_rfl) 5 rfl (th (sq (sq (rg ?_))))
     refine fin hT 2 rfl (th (ifF rfl ?_))
     refine sk (th (rg ?_))
     refine ldp hT 1 1 rfl rfl rfl ?_
     refine app hT 1 0 rfl rfl og (.inl rfl) xb rfl (by decide) (bv_one _) (by show (acc.length + bs.length) * 1 <= _; omega) (by simp only [maxLen]; omega) fun ao83 c83 g83 o83 => ?_
     have o83' : Own g83 ao83 (acc ++ bs).length c83 5 1 (bv (acc ++ bs)) := own_of o83 (by rw [List.length_append]) (by rw [bv_append])
     refine stp hT 1 1 rfl rfl rfl rfl ?_
     refine fin hT 0 rfl (bl (th (rg ?_)))
     refine ar hT 1 rfl (i64w (x := ((n + 1 : Nat) : Int)) (by omega)) ?_
     refine fin hT 1 rfl ?_
     refine again (x := ((n, acc), (ag, cg, g), em)) ((n + 1, acc ++ bs), (ao83, c83, g83), K75) ⟨rfl, rfl, rfl, rfl, trivial⟩ rfl (by dsimp only; rw [List.length_append]; rfl) ⟨by dsimp only; rw [List.length_append]; omega, by dsimp only; omega, ?_, le2.trans le3, o83'⟩ (by dsimp only; omega)
     dsimp only
     rw [show 32769 - (n + 1) = 32768 - n from by omega]
     exact hw
   ·rw [if_neg (by omega)] at hw
    rw [<- hw]
    dsimp only
    have hcg := og.isS.2.1
    refine ex (xt (xt (xb (th (sq (rg ?_))))))
    refine ldp hT 1 1 rfl rfl rfl ?_
    refine sl hT 1 0 a4.1 rfl og.isS rfl (by show ((a4.1 : Nat) : Int) = ((0 + a4.1 : Nat) : Int); omega) (by omega) (ys := bv (acc.take a4.1)) (by
     show ((bv acc).drop (0 * 1)).take (a4.1 * 1) = _
     simp [bv]) fun ao88 c88 x88 => ?_
    refine stp hT 1 1 rfl rfl rfl rfl ?_
    refine WL.frz fun K3 l3 l4 => ?_
    have x88' := x88.le l4
    have hln : (acc.take a4.1).length = a4.1 := by rw [List.length_take]; omega
    refine WL.hs (pt b4 #[.int .u64 ((a1.1 : Nat) : Int), .int .u64 ((a2.1 : Nat) : Int), .slice ao45 cf.length c45, .slice ao88 a4.1 c88] 66 :: pt lb (lgB wp db hp (some eb) kt kv 0 0 (.slice a0 vot0.length c0) (.slice none 0 0) a3.1 a5.1 lS cd) 78 :: eh :: dh :: hs) rfl ?_
    refine fin hT 0 rfl (th (sq (rg ?_)))
    refine ldS hT 1 0 rfl rfl (by kernel_rfl) ?_
    refine sts hT 2 1 rfl rfl (by kernel_rfl) (by simp [lgB]) (fun v hv => by simp at hv; rcases hv with rfl | rfl | rfl | rfl <;> rfl) ?_
    refine fin hT 0 rfl (th (sq (rg (WL.drop ?_))))
    refine fin hT 1 rfl (th (rt ?_))
    exact ret1 rfl rfl ⟨le12.trans l3, ⟨a1.1, a2.1, cf, acc.take a4.1⟩, a3.1, a5.1, ao45, c45, ao88, c88, by dsimp only; rw [hln]; rfl, rfl, x45.le (le2.trans l3), by dsimp only; rw [hln]; exact x88', fun p hp => (Option.some.inj hp).symm⟩
end Go.Proofs.YtcncpbolcigpnaaGreat
end
section
namespace Go.En
theorem WL.fr {P : Program} {w0 : World} {ops : Array Oper} {Q : Exit -> Act -> World -> Prop} {rest : List Oper} {n : Nat} {l : Sl} {K : PH} {hs : List PH} (i : Nat) {h : PH} (hi : hs[i]? = some h) (hk : WL P w0 ops Q rest n l K (h :: hs.eraseIdx i)) : WL P w0 ops Q rest n l K hs := fun a w ha hw => hk a w ha (hw.perm (perm_front hs i h hi))
theorem WC.fr {P : Program} {w0 : World} {Q : Exit -> Act -> World -> Prop} {n : Nat} {l : Sl} {K : PH} {hs : List PH} {c : Code} (i : Nat) {h : PH} (hi : hs[i]? = some h) (hk : WC P w0 c Q n l K (h :: hs.eraseIdx i)) : WC P w0 c Q n l K hs := fun a w ha hw => hk a w ha (hw.perm (perm_front hs i h hi))
theorem rdE_cons (i : Nat) (b : List UInt8) (r : List (List UInt8)) : rdE i (b :: r) = match getEnt b with
  | none => none
  | some e => if e.idx = i then (rdE (i + 1) r).map (e :: ·) else none := rfl
end Go.En
namespace Go.Proofs.YtcncpbolcigpnaaGreat
open Go.En
attribute [local irreducible] Code.wp wpList Calls
theorem readEntriesC {w0 : World} {K wh : PH} {hs : List PH} (lb db wb : Nat) (hp ep : Option Nat) (kt : Nat) (kv : Int) (s : Snp) (hsi : s.idx <= lgTop) (vS dS : Value) (pl fr : Nat) (cd : Int) (W : Wl) (hW : WalH K wb db W wh) (c : Nat) (hb : WBd c W) (hc : c <= 1000000000) :
  Ct Tryz.prog w0 42 [.pointer (some ⟨lb, 0, none⟩)] K (pt lb (lgB (some wb) db hp ep kt kv s.idx s.term vS dS pl fr (.slice none 0 0) cd) 78 :: wh :: hs)
   (fun v K' hs' => Le K K' /\ ∃ gl aL cL l, hs' = gl :: pt lb (lgB (some wb) db hp ep kt kv s.idx s.term vS dS pl fr (.slice aL (List.length l) cL) cd) 78 :: wh :: hs /\ v = .bool (rdEnts s W).isSome /\
    SlZ 4 111 (EntC K') gl aL l.length cL l /\ ∀ x, rdEnts s W = some x -> x = l) := by
 obtain ⟨R, hR⟩ : ∃ R, R = rdEnts s W := ⟨_, rfl⟩
 rw [<- hR]
 unfold rdEnts at hR
 have hlast := hb.last
 have hrecs := hb.recs
 unfold wTop at hlast
 unfold lgTop at hsi
 obtain ⟨total, htot⟩ : ∃ t, t = W.first + W.recs.length := ⟨_, rfl⟩
 have hlv : lastV total = if total = 0 then 18446744073709551615 else ((total : Nat) : Int) - 1 := rfl
 refine enter Tryz.func42 (by kernel_rfl) rfl rfl rfl ?_
 refine sq (rg ?_)
 refine fin hT 1 rfl (th (sq (rg ?_)))
 refine ldp hT 3 0 rfl rfl rfl ?_
 refine fin hT 1 rfl (th (sq (sq (rga [pt lb (lgB (some wb) db hp ep kt kv s.idx s.term vS dS pl fr (.slice none 0 0) cd) 78] 19 [0, 4, 6, 8, 10, 12, 14, 3, 16, 18, 20, 24, 26, 28, 30, 32, 23, 34, 36] (by simp) (by kernel_rfl) (by kernel_rfl) ?_))))
 refine dldp hT (by kernel_rfl) 5 0 rfl rfl rfl ?_
 refine dar hT (by kernel_rfl) 0 rfl (u64w (x := ((s.idx + 1 : Nat) : Int)) (by omega)) ?_
 refine dact hT (by kernel_rfl) 0 rfl ?_
 refine cl hT 0 rfl (Ct.keep 1 rfl (firstWH wb db W hW)) ?_
 rintro v14 K14 hs14 ⟨rfl, rfl, rfl⟩
 refine dnex [pt lb (lgB (some wb) db hp ep kt kv s.idx s.term vS dS pl fr (.slice none 0 0) cd) 78] (by simp) (by simp) rfl ?_
 refine dcmp hT (by kernel_rfl) 0 (s.idx + 1 < W.first) rfl (by simp; omega) (fun h1 => ?_) (fun h1 => ?_)
 ·rw [if_pos (.inl h1)] at hR
  refine dact hT (by kernel_rfl) 7 rfl ?_
  refine WL.pures hT 1 rfl ?_
  refine dnex [pt lb (lgB (some wb) db hp ep kt kv s.idx s.term vS dS pl fr (.slice none 0 0) cd) 78] (by simp) (by simp) rfl ?_
  refine dend hT (by kernel_rfl) 2 rfl (th (ifT rfl (sq (rg ?_))))
  refine fin hT 1 rfl (th (rt (rT (WQ.em ?_))))
  rw [hR]
  exact ret1 rfl rfl ⟨Le.refl _, em, none, 0, [], rfl, rfl, SlZ.nil _ _, fun x hx => by cases hx⟩
 ·refine dldp hT (by kernel_rfl) 6 0 rfl rfl rfl ?_
  refine dact hT (by kernel_rfl) 0 rfl ?_
  refine cl hT 0 rfl (Ct.keep 1 rfl (lastWH wb db W hW hb.last)) ?_
  rintro v24 K24 hs24 ⟨rfl, rfl, rfl⟩
  rw [<- htot] at hR ⊢
  refine dnex [pt lb (lgB (some wb) db hp ep kt kv s.idx s.term vS dS pl fr (.slice none 0 0) cd) 78] (by simp) (by simp) rfl ?_
  refine dcbS hT (by kernel_rfl) 0 (lastV total < ((s.idx : Nat) : Int)) rfl (by simp) fun b30 h30 => ?_
  refine dend hT (by kernel_rfl) 1 rfl (th (ifP h30 rfl (fun e2 => ?_) (fun e2 => ?_)))
  ·rw [if_pos (by right; rw [hlv] at e2; split at e2 <;> omega)] at hR
   refine sq (rg ?_)
   refine fin hT 1 rfl (th (rt (rT (WQ.em ?_))))
   rw [hR]
   exact ret1 rfl rfl ⟨Le.refl _, em, none, 0, [], rfl, rfl, SlZ.nil _ _, fun x hx => by cases hx⟩
  ·refine sk (th (sq (sq (rg ?_))))
   refine ldp hT 4 0 rfl rfl rfl ?_
   refine ar hT 0 rfl (u64w (x := ((s.idx + 1 + 0 : Nat) : Int)) (by omega)) ?_
   refine fin hT 1 rfl (th (bk (WC.em ?_)))
   have h0 : (total = 0 /\ R = none /\ 0 = 0) \/ (s.idx + 1 + 0 <= total /\ R = (rdE (s.idx + 1 + 0) (W.recs.drop (s.idx + 1 - W.first + 0))).map (([] : List Ent) ++ ·)) := by
    rw [hlv] at e2
    by_cases h : total = 0
    ·rw [if_pos (by omega)] at hR
     exact .inl ⟨h, hR, rfl⟩
    ·rw [if_neg h] at e2
     rw [if_neg (by omega)] at hR
     refine .inr ⟨by omega, ?_⟩
     rw [hR, Nat.add_zero, Nat.add_zero]
     simp
   refine loop (σ := (Nat × List Ent) × (Option Addr × Nat × PH) × PH) (fun x => [(0, .pointer (some ⟨lb, 0, none⟩)), (3, .pointer (some ⟨wb, 0, none⟩)), (4, .int .u64 ((s.idx + 1 + x.1.1 : Nat) : Int))]) (fun x => x.2.2)
    (fun x => x.2.1.2.2 :: pt lb (lgB (some wb) db hp ep kt kv s.idx s.term vS dS pl fr (.slice x.2.1.1 x.1.2.length x.2.1.2.1) cd) 78 :: wh :: hs)
    (fun x => ((total = 0 /\ R = none /\ x.1.1 = 0) \/ (s.idx + 1 + x.1.1 <= total /\ R = (rdE (s.idx + 1 + x.1.1) (W.recs.drop (s.idx + 1 - W.first + x.1.1))).map (x.1.2 ++ ·))) /\ x.1.2.length = x.1.1 /\ Le K24 x.2.2 /\ SlZ 4 111 (EntC x.2.2) x.2.1.2.2 x.2.1.1 x.1.2.length x.2.1.2.1 x.1.2) (fun x => W.recs.length + 1 - x.1.1)
    ((0, []), (none, 0, em), K24) ⟨h0, rfl, Le.refl _, SlZ.nil _ _⟩ ⟨rfl, rfl, rfl, trivial⟩ rfl rfl ?_
   clear h0 hR
   rintro ⟨⟨j, l⟩, ⟨aL, cL, gl⟩, K1⟩ ⟨hj, hl, le1, oL⟩
   dsimp only at *
   refine sq (sq (rg ?_))
   refine cl hT 2 rfl (Ct.keep 2 rfl (lastWH wb db W (hW.le le1) hb.last)) ?_
   rintro v40 K40 hs40 ⟨rfl, rfl, rfl⟩
   rw [<- htot]
   refine cmpS hT 0 rfl fun b41 h41 => ?_
   refine fin hT 0 rfl (th (ifP h41 rfl (fun e4 => ?_) (fun e4 => ?_)))
   ·obtain ⟨i, hi⟩ : ∃ i, i = s.idx + 1 + j := ⟨_, rfl⟩
    have hiB : i < 18446744073709551616 := by rw [hlv] at e4; split at e4 <;> omega
    refine sk (th (sq (bk (sq (rg ?_)))))
    refine cl hT 2 rfl (Ct.at 2 rfl (getWH wb db W c hc hb (hW.le le1) (s.idx + 1 + j) (by omega))) ?_
    rintro v47 K47 hs47 ⟨wh, rfl, rfl, le2, hv⟩
    have le12 := le1.trans le2
    obtain ⟨r0, ar0, kr, t0, rfl, xr, hcase⟩ : ∃ r0 ar0 kr t0, v47 = .tuple #[.slice ar0 (List.length r0) kr, .bool t0] /\ IsS K47 ar0 r0.length kr 1 (bv r0) /\ ((r0 = [] /\ ¬ (W.first <= s.idx + 1 + j /\ s.idx + 1 + j - W.first < W.recs.length)) \/ (W.first <= s.idx + 1 + j /\ W.recs[s.idx + 1 + j - W.first]? = some r0)) := by
     rcases hv with ⟨hno, rfl⟩ | ⟨r, ao, k, h1', h2', rfl, x⟩
     ·exact ⟨[], none, 0, false, rfl, IsS.nil _ _ _ _, .inl ⟨rfl, hno⟩⟩
     ·exact ⟨r, ao, k, true, rfl, x, .inr ⟨h1', h2'⟩⟩
    have hr0l : r0.length <= 512 := by
     rcases hcase with ⟨h, _⟩ | ⟨_, h⟩
     ·rw [h]; exact Nat.zero_le _
     ·exact hb.recl r0 (List.mem_of_getElem? h)
    have hstep : R = match getEnt r0 with
      | none => none
      | some e => if e.idx = i then (rdE (i + 1) (W.recs.drop (s.idx + 1 - W.first + (j + 1)))).map ((l ++ [e]) ++ ·) else none := by
     rcases hj with ⟨ht, hRn, _⟩ | ⟨ht, hRs⟩
     ·rcases hcase with ⟨h, _⟩ | ⟨_, h⟩
      ·rw [h, hRn]; rfl
      ·have := (List.getElem?_eq_some_iff.1 h).1; omega
     ·rcases hcase with ⟨_, h⟩ | ⟨hf, h⟩
      ·exfalso
       rw [hlv] at e4
       split at e4 <;> omega
      ·have hk : s.idx + 1 + j - W.first = s.idx + 1 - W.first + j := by omega
       rw [hk] at h
       have hkl := (List.getElem?_eq_some_iff.1 h).1
       rw [List.drop_eq_getElem_cons hkl, show W.recs[s.idx + 1 - W.first + j] = r0 from by rw [List.getElem?_eq_getElem hkl] at h; exact Option.some.inj h, rdE_cons, <- hi] at hRs
       rw [hRs]
       cases getEnt r0 with
       | none => rfl
       | some e =>
        dsimp only
        by_cases he : e.idx = i
        ·rw [if_pos he, if_pos he]
         cases rdE (i + 1) (W.recs.drop (s.idx + 1 - W.first + j + 1)) with
         | none => rfl
         | some t => simp
        ·rw [if_neg he, if_neg he]; rfl
    refine fin hT 5 rfl (th (sq (rg ?_)))
    refine cl hT 1 rfl (getEntC ar0 kr r0 (.inl rfl) xr (by omega)) ?_
    rintro v52 K52 hs52 ⟨rfl, h52, ao52, c52, rfl, rfl, o52⟩
    obtain ⟨oe, hoe⟩ : ∃ oe, oe = getEnt r0 := ⟨_, rfl⟩
    rw [<- hoe] at o52 hstep ⊢
    refine al hT 3 (.agg #[.int .u64 0, .int .u64 0, .int .i64 0, .slice none 0 0]) rfl (by kernel_rfl) fun b7 => ?_
    refine stS hT 0 0 rfl rfl (by kernel_rfl) rfl rfl ?_
    refine WL.hs (pt b7 ((oe.getD Ent.zero).v ao52 c52) 111 :: h52 :: gl :: pt lb (lgB (some wb) db hp ep kt kv s.idx s.term vS dS pl fr (.slice aL l.length cL) cd) 78 :: wh :: hs) rfl ?_
    refine fin hT 1 rfl (th (sq (sq (rg ?_))))
    refine cmpS hT 1 rfl fun b56 h56 => ?_
    refine' bjo (q := (oe.getD Ent.zero).idx ≠ i) hT 1 5 62 [56, 57] h56 rfl rfl rfl rfl rfl rfl rfl (fun _ => ?x6) (fun b62 h62 => ?_)
    case x6 =>
     refine ldp hT 1 0 rfl rfl rfl ?_
     refine cmpS hT 1 rfl fun b61 h61 => ?_
     exact fin hT 1 rfl (bjx (h61.trans (by rw [hi]; omega)) rfl rfl rfl)
    refine fin hT 0 rfl (th (ifP h62 rfl (fun e8 => ?_) (fun e8 => ?_)))
    ·have hRn : R = none := by
      rw [hstep]
      cases oe with
      | none => rfl
      | some e =>
       have : e.idx ≠ i := by
        rcases e8 with h | h
        ·simp [ec] at h
        ·exact h
       dsimp only
       rw [if_neg this]
     refine sq (rg (WL.drop (WL.drop ?_)))
     refine fin hT 1 rfl (th (rt (rT (rB (rT (rT (rB (rT ?_))))))))
     rw [hRn]
     exact ret1 rfl rfl ⟨le12, gl, aL, cL, l, rfl, rfl, oL.imp fun _ _ h => h.le le2, fun x hx => by cases hx⟩
    ·obtain ⟨e, rfl⟩ : ∃ e, oe = some e := by
      cases oe with
      | none => exact absurd (.inl (by simp [ec])) e8
      | some e => exact ⟨e, rfl⟩
     have hei : e.idx = i := by
      by_cases h : e.idx = i
      ·exact h
      ·exact absurd (.inr h) e8
     dsimp only at hstep
     rw [if_pos hei] at hstep
     have o52 : Own h52 ao52 e.data.length c52 5 1 (bv e.data) := o52
     have hjr : j <= W.recs.length := by
      rcases hj with ⟨h, hRn, _⟩ | ⟨h, _⟩
      ·rcases hcase with ⟨h9, _⟩ | ⟨_, h9⟩
       ·rw [h9] at hoe; cases hoe
       ·have := (List.getElem?_eq_some_iff.1 h9).1; omega
      ·omega
     have hnt : total ≠ 0 := fun ht => by
      rcases hcase with ⟨h9, _⟩ | ⟨_, h9⟩
      ·rw [h9] at hoe; cases hoe
      ·have := (List.getElem?_eq_some_iff.1 h9).1; omega
     have hit : i < total := by rw [hlv, if_neg hnt] at e4; omega
     refine sk (th (WC.fr 1 rfl (WC.frz fun K2 l1 l2 => ?_)))
     have le23 := le2.trans l1
     have x52 := o52.isS.le l2
     refine WC.perm (hs' := pt b7 (e.v ao52 c52) 111 :: gl :: pt lb (lgB (some wb) db hp ep kt kv s.idx s.term vS dS pl fr (.slice aL l.length cL) cd) 78 :: wh :: hs) (List.Perm.refl _) ?_
     refine rga [pt lb (lgB (some wb) db hp ep kt kv s.idx s.term vS dS pl fr (.slice aL l.length cL) cd) 78, pt b7 (e.v ao52 c52) 111] 10 [0, 2, 4, 6, 8, 10, 13, 15, 16, 18, 21] (by simp) (by kernel_rfl) (by kernel_rfl) ?_
     refine dldpw hT (by kernel_rfl) 4 0 rfl (by kernel_rfl) rfl rfl ?_
     refine dldS hT (by kernel_rfl) 0 1 rfl (by kernel_rfl) rfl (by kernel_rfl) ?_
     refine dact hT (by kernel_rfl) 0 rfl ?_
     refine lit hT 0 (e.v ao52 c52) rfl (by decide) (by kernel_rfl) fun b69 => ?_
     refine dnex [pt lb (lgB (some wb) db hp ep kt kv s.idx s.term vS dS pl fr (.slice aL l.length cL) cd) 78, pt b7 (e.v ao52 c52) 111] (by simp) (by simp) rfl ?_
     refine dact hT (by kernel_rfl) 0 rfl ?_
     refine appSq hT 0 2 (e.v ao52 c52).toList e rfl rfl rfl (oL.imp fun _ _ h => h.le le23) ⟨ao52, c52, rfl, x52⟩ rfl (by simp [Ent.v, Value.oneCell']) rfl (by decide) (by show (l.length + 1) * 48 <= _; omega) (by simp only [maxLen]; omega) fun ao70 c70 g70 o70 => ?_
     refine dnex [pt lb (lgB (some wb) db hp ep kt kv s.idx s.term vS dS pl fr (.slice aL l.length cL) cd) 78, pt b7 (e.v ao52 c52) 111] (by simp) (by simp) rfl ?_
     refine dact hT (by kernel_rfl) 2 rfl ?_
     refine stp hT 0 3 rfl rfl rfl rfl ?_
     refine dnext (.inl (by kernel_rfl)) ?_
     refine dend hT (by kernel_rfl) 0 rfl (bl (th (rg (WL.drop (WL.drop ?_)))))
     refine ar hT 1 rfl (u64w (x := ((s.idx + 1 + (j + 1) : Nat) : Int)) (by omega)) ?_
     refine fin hT 1 rfl ?_
     refine again (x := ((j, l), (aL, cL, gl), em)) ((j + 1, l ++ [e]), (ao70, c70, g70), K2) ⟨rfl, rfl, rfl, trivial⟩ rfl (by dsimp only; rw [List.length_append]; rfl) ⟨.inr ⟨by dsimp only; omega, ?_⟩, by dsimp only; rw [List.length_append]; simp only [List.length_cons, List.length_nil]; omega, le1.trans le23, by dsimp only; rw [List.length_append]; exact o70⟩ (by dsimp only; omega)
     dsimp only
     rw [hstep, show s.idx + 1 + (j + 1) = i + 1 from by omega]
   ·have hfin : R = some l := by
     rcases hj with ⟨h, hRn, hj0⟩ | ⟨h, hRs⟩
     ·rw [hlv, if_pos h] at e4; exfalso; omega
     ·have hit : s.idx + 1 + j = total := by
       rw [hlv] at e4
       split at e4 <;> omega
      rw [List.drop_eq_nil_of_le (by omega)] at hRs
      rw [hRs]
      simp [rdE]
    refine ex (xt (xt (xb (th (sq (rg ?_))))))
    refine fin hT 1 rfl (th (rt ?_))
    rw [hfin]
    exact ret1 rfl rfl ⟨le1, gl, aL, cL, l, rfl, rfl, oL, fun x hx => (Option.some.inj hx).symm⟩
end Go.Proofs.YtcncpbolcigpnaaGreat
end
section
namespace Go.En
theorem lgFree_cons (pl : Nat) (a : Int) (r : List Int) (D : Dk) : lgFree pl (a :: r) D = if a % 4 = 2 /\ a ≠ ((lgA4 pl : Nat) : Int) then (if (D.free a).2 ≠ 0 then D.free a else lgFree pl r (D.free a).1) else lgFree pl r D := rfl
theorem DOk.lgFree (pl : Nat) : ∀ (l : List Int) (D : Dk) (c : Nat), DOk c D -> DOk (c + l.length) (lgFree pl l D).1
 | [], D, c, o => o
 | a :: r, D, c, o => by
  rw [lgFree_cons]
  simp only [List.length_cons]
  split
  ·split
   ·exact (o.free a).up (by omega)
   ·exact (DOk.lgFree pl r _ _ (o.free a)).up (by omega)
  ·exact (DOk.lgFree pl r D c o).up (by omega)
theorem wOpen_code {D : Dk} {fr first : Nat} : ((wOpen D fr first).1 = none -> (wOpen D fr first).2.2 ≠ 0) /\ (∀ W, (wOpen D fr first).1 = some W -> (wOpen D fr first).2.2 = 0) := by
 unfold wOpen
 split
 ·exact ⟨fun _ => (show (30 : Int) ≠ 0 by decide), fun W h => by cases h⟩
 ·split
  ·exact ⟨fun _ => (show (52 : Int) ≠ 0 by decide), fun W h => by cases h⟩
  ·split
   ·exact ⟨fun _ => (show (52 : Int) ≠ 0 by decide), fun W h => by cases h⟩
   ·split
    ·exact ⟨fun _ => (show (52 : Int) ≠ 0 by decide), fun W h => by cases h⟩
    ·split
     ·rename_i h
      exact ⟨fun _ => h, fun W h => by cases h⟩
     ·exact ⟨(fun h => by cases h), fun W h => rfl⟩
theorem rdHead_bd {D : Dk} {S : Slt} {v : List Int} {p : Snp × Nat × Nat} (h : rdHead D S v = some p) : p.1.idx <= lgTop /\ p.2.1 <= lgTop /\ p.2.2 <= lgTop := by
 unfold rdHead at h
 split at h
 ·cases h; exact ⟨Nat.zero_le _, Nat.zero_le _, Nat.zero_le _⟩
 ·split at h
  ·cases h
  ·split at h
   ·cases h
   ·cases h; exact ⟨rUint_le _ _, rUint_le _ _, rUint_le _ _⟩
end Go.En
namespace Go.Proofs.YtcncpbolcigpnaaGreat
open Go.En
attribute [local irreducible] Code.wp wpList Calls
theorem openSH {w0 : World} {K h : PH} {hs : List PH} (b : Nat) (D : Dk) (c : Nat) (o : D.Ok c) (hc : c <= 1099511627) (hm : DskH K b D h) (area : Nat) :
  Ct Tryz.prog w0 34 [.pointer (some ⟨b, 0, none⟩), .int .u64 ((area : Nat) : Int)] K (h :: hs)
   (fun v K' hs' => ∃ h' new, hs' = new ++ h' :: hs /\ h' = h /\ Le K K' /\ ((D.dead = true /\ new = [] /\ v = .tuple #[.pointer none, .int .i64 30]) \/ (D.dead = false /\ ∃ sb s, new = [s] /\ SltH K' sb b area (sltOpen D area) s /\ v = .tuple #[.pointer (some ⟨sb, 0, none⟩), .int .i64 0]))) :=
 (openSC b D c o hc hm area).mono fun v K' hs' hR => by
  rcases hR with ⟨h1, rfl, rfl, rfl⟩ | ⟨h1, le, sb, s, rfl, hS, rfl⟩
  ·exact ⟨h, [], rfl, rfl, Le.refl _, .inl ⟨h1, rfl, rfl⟩⟩
  ·exact ⟨h, [s], rfl, rfl, le, .inr ⟨h1, sb, s, rfl, hS, rfl⟩⟩
theorem openWH {w0 : World} {K dh : PH} {hs : List PH} (db : Nat) (D : Dk) (c : Nat) (oD : DOk c D) (hc : c <= 400000000) (hd : DskH K db D dh) (fr first : Nat) (hfr : fr < 18446744073709551616) (hfi : first < 18446744073709551616) :
  Ct Tryz.prog w0 41 [.pointer (some ⟨db, 0, none⟩), .int .u64 ((fr : Nat) : Int), .int .u64 ((first : Nat) : Int)] K (dh :: hs)
   (fun v K' hs' => ∃ h' new, hs' = new ++ h' :: hs /\ Le K K' /\ DskH K' db (wOpen D fr first).2.1 h' /\ (((wOpen D fr first).1 = none /\ new = [] /\ v = .tuple #[.pointer none, .int .i64 (wOpen D fr first).2.2]) \/
    (∃ W wb wh, (wOpen D fr first).1 = some W /\ new = [wh] /\ WalH K' wb db W wh /\ v = .tuple #[.pointer (some ⟨wb, 0, none⟩), .int .i64 (wOpen D fr first).2.2]))) := by
 refine Ct.fix2 (openWC db D c oD hc hd fr first hfr hfi) ?_
 rintro w v K' hs' hS ⟨le, m', dh', rfl, hd', hR⟩
 cases hW : (wOpen D fr first).1 with
 | none =>
  rw [hW] at hR
  obtain ⟨rfl, rfl⟩ := hR
  exact ⟨K', _, ⟨dh', [], rfl, le, hd', .inl ⟨rfl, rfl, rfl⟩⟩, hS⟩
 | some W =>
  rw [hW] at hR
  obtain ⟨wb, hM, rfl⟩ := hR
  obtain ⟨d, hS'⟩ := Sat.join m' hS
  exact ⟨K', _, ⟨dh', [uns m'], rfl, le, hd', .inr ⟨W, wb, uns m', rfl, rfl, ⟨m', rfl, d, hM⟩, rfl⟩⟩, hS'⟩
theorem didLB {w0 : World} {K : PH} {hs : List PH} (lb : Nat) (wp : Option Nat) (db : Nat) (hp ep : Option Nat) (kt : Nat) (kv : Int) (si st : Nat) (vS dS : Value) (pl fr : Nat) (lS : Value) (cd e : Int) :
  Ct Tryz.prog w0 39 [.pointer (some ⟨lb, 0, none⟩), .int .i64 e] K (pt lb (lgB wp db hp ep kt kv si st vS dS pl fr lS cd) 78 :: hs)
   (fun v K' hs' => ∃ h', hs' = h' :: hs /\ K' = K /\ h' = pt lb (lgB wp db hp ep kt kv si st vS dS pl fr lS (didV cd e)) 78 /\ v = .int .i64 (didV cd e)) := by
 unfold didV
 refine enter Tryz.func39 (by kernel_rfl) rfl rfl rfl ?_
 refine sq (rg ?_)
 refine fin hT 1 rfl (th (sq (sq (rg ?_))))
 refine ldp hT 3 0 rfl rfl rfl ?_
 refine cmpS hT 0 rfl fun b9 h9 => ?_
 refine fin hT 0 rfl (th (ifP h9 rfl (fun e2 => ?_) (fun e2 => ?_)))
 ·rw [if_pos e2]
  refine rg ?_
  refine stp hT 4 0 rfl rfl rfl rfl ?_
  refine fin hT 0 rfl (th (sq (rg ?_)))
  refine ldp hT 3 0 rfl rfl rfl ?_
  refine fin hT 1 rfl (th (rt ?_))
  exact ret1 rfl rfl ⟨_, rfl, rfl, rfl, rfl⟩
 ·rw [if_neg e2]
  refine sk (th (sq (rg ?_)))
  refine ldp hT 3 0 rfl rfl rfl ?_
  refine fin hT 1 rfl (th (rt ?_))
  exact ret1 rfl rfl ⟨_, rfl, rfl, rfl, rfl⟩
theorem openLC {w0 : World} {K dh : PH} {hs : List PH} (db : Nat) (D : Dk) (c : Nat) (oD : DOk c D) (hc : c <= 199000000) (hd : DskH K db D dh) (first : List Int) (hfl : first.length <= 1000000) (aF : Option Addr) (cF : Nat) (xF : IsS K aF first.length cF 1 (iv first)) :
  Ct Tryz.prog w0 16 [.pointer (some ⟨db, 0, none⟩), .agg #[.slice aF first.length cF]] K (dh :: hs)
   (fun v K' hs' => Le K K' /\ (((lOpen D first).1 = none /\ v = .tuple #[.pointer none, .int .i64 (lOpen D first).2.2] /\ ∃ dh', hs' = dh' :: hs /\ DskH K' db (lOpen D first).2.1 dh') \/
    (∃ L lb m, (lOpen D first).1 = some L /\ v = .tuple #[.pointer (some ⟨lb, 0, none⟩), .int .i64 (lOpen D first).2.2] /\ hs' = m ++ hs /\ LgM K' lb db L (lOpen D first).2.1 m))) := by
 obtain ⟨R, hR⟩ : ∃ R, R = lOpen D first := ⟨_, rfl⟩
 rw [<- hR]
 unfold lOpen at hR
 have hlen := oD.len
 refine enter Tryz.func16 (by kernel_rfl) rfl rfl rfl ?_
 refine sq (rg ?_)
 refine bx hT 0 rfl fun b3 => ?_
 refine WL.hs (pt b3 #[.slice aF first.length cF] 59 :: dh :: hs) rfl ?_
 refine fin hT 2 rfl (th (sq (sq (rg ?_))))
 refine ldS hT 0 0 rfl rfl (by kernel_rfl) ?_
 refine cl hT 0 rfl (rightC aF cF first (.inl rfl) xF (by omega)) ?_
 rintro v13 K13 hs13 ⟨rfl, rfl, rfl⟩
 cases hps : (putConf first).isSome with
 | false =>
  rw [if_pos hps] at hR
  refine fin hT 1 rfl (th (ifT rfl ?_))
  refine sq (rg (WL.drop ?_))
  refine fin hT 2 rfl (th (rt (rT ?_)))
  rw [hR]
  exact ret2 rfl rfl rfl ⟨Le.refl _, .inl ⟨rfl, rfl, dh, rfl, hd⟩⟩
 | true =>
  rw [if_neg (by rw [hps]; simp)] at hR
  refine fin hT 1 rfl (th (ifF rfl ?_))
  refine sk (th (sq (rg ?_)))
  refine bd hT 1 (.agg #[.int .u64 0, .int .i64 (-1)]) rfl (fun w => by kernel_rfl) ?_
  refine ldp hT 1 0 rfl rfl rfl ?_
  refine cl hT 0 rfl (cloneIC aF cF first (.inl rfl) xF (by omega)) ?_
  rintro v19 K19 hs19 ⟨le1, rfl, a0, c0, rfl, x0⟩
  refine bd hT 0 (.agg #[.slice a0 first.length c0]) rfl (fun w => by kernel_rfl) ?_
  refine bd hT 0 (.agg #[.int .u64 0, .int .u64 0, .slice a0 first.length c0, .slice none 0 0]) rfl (fun w => by kernel_rfl) ?_
  refine bd hT 0 (.agg (lgB none db none none 0 (-1) 0 0 (.slice a0 first.length c0) (.slice none 0 0) 0 0 (.slice none 0 0) 0)) rfl (fun w => by kernel_rfl) ?_
  refine bx hT 0 rfl fun lb => ?_
  refine WL.hs (pt lb (lgB none db none none 0 (-1) 0 0 (.slice a0 first.length c0) (.slice none 0 0) 0 0 (.slice none 0 0) 0) 78 :: pt b3 #[.slice aF first.length cF] 59 :: dh :: hs) rfl (WL.del 1 rfl ?_)
  refine fin hT 1 rfl (th (sq (rg ?_)))
  refine fin hT 2 rfl (th (sq (rg ?_)))
  refine cl hT 2 rfl (Ct.atN 1 rfl (openSH db D c oD.ok (by omega) (hd.le le1) 0)) ?_
  rintro v27 K27 hs27 ⟨dh, new, rfl, rfl, le2, hA⟩
  have le12 := le1.trans le2
  rcases hA with ⟨hdead, rfl, rfl⟩ | ⟨hdead, hb, hh, rfl, hH, rfl⟩
  ·rw [if_pos hdead] at hR
   refine stp hT 5 0 rfl rfl rfl rfl ?_
   refine fin hT 1 rfl (th (sq (rg ?_)))
   refine cl hT 2 rfl (Ct.atN 1 rfl (openSH db D c oD.ok (by omega) (hd.le le12) 4)) ?_
   rintro v35 K35 hs35 ⟨dh, new, rfl, rfl, le3, hA⟩
   rcases hA with ⟨_, rfl, rfl⟩ | ⟨hx, _⟩
   ·refine stp hT 5 0 rfl rfl rfl rfl ?_
    refine fin hT 1 rfl (th (sq (sq (rg ?_))))
    refine fin hT 6 rfl (th (ifT rfl ?_))
    refine sq (rg (WL.drop ?_))
    refine fin hT 2 rfl (th (rt (rT ?_)))
    rw [hR]
    exact ret2 rfl rfl rfl ⟨le12.trans le3, .inl ⟨rfl, rfl, dh, rfl, hd.le (le12.trans le3)⟩⟩
   ·rw [hdead] at hx; cases hx
  ·rw [if_neg (by rw [hdead]; simp)] at hR
   refine stp hT 5 1 rfl rfl rfl rfl ?_
   refine fin hT 1 rfl (th (sq (rg ?_)))
   refine cl hT 2 rfl (Ct.atN 2 rfl (openSH db D c oD.ok (by omega) (hd.le le12) 4)) ?_
   rintro v35 K35 hs35 ⟨dh, new, rfl, rfl, le3, hA⟩
   have le13 := le12.trans le3
   rcases hA with ⟨hx, _⟩ | ⟨_, eb, eh, rfl, hE, rfl⟩
   ·rw [hdead] at hx; cases hx
   ·refine stp hT 5 2 rfl rfl rfl rfl ?_
    refine WL.fr 1 rfl (WL.fr 2 rfl ?_)
    refine WL.hs (pt lb (lgB none db (some hb) (some eb) 0 (-1) 0 0 (.slice a0 first.length c0) (.slice none 0 0) 0 0 (.slice none 0 0) 0) 78 :: hh :: eh :: dh :: hs) rfl ?_
    have hHb := sltUp_bd oD.ok 0 2
    have hEb := sltUp_bd oD.ok 4 2
    refine fin hT 1 rfl (th (sq (sq (rg ?_))))
    refine fin hT 6 rfl (th (ifF rfl ?_))
    refine sk (th (sq (sq (rg ?_))))
    refine cl hT 1 rfl (readHardC lb db hb none (some eb) 0 0 _ _ 0 0 _ 0 (sltOpen D 0) (hH.le le3) hHb) ?_
    rintro v47 K47 hs47 ⟨le4, kt, kv, rfl, rfl, hkh⟩
    have le14 := le13.trans le4
    cases hrh : rdHard (sltOpen D 0) with
    | none =>
     rw [hrh] at hR
     dsimp only at hR
     refine fin hT 6 rfl (th (ifT rfl ?_))
     refine sq (rg (WL.drop (WL.drop (WL.drop ?_))))
     refine fin hT 2 rfl (th (rt (rT ?_)))
     rw [hR]
     exact ret2 rfl rfl rfl ⟨le14, .inl ⟨rfl, rfl, dh, rfl, hd.le le14⟩⟩
    | some kh =>
     rw [hrh] at hR
     dsimp only at hR
     have hkh := hkh kh hrh
     subst hkh
     refine WL.fr 3 rfl (WL.fr 3 rfl (WL.fr 2 rfl ?_))
     refine cl hT 3 rfl (readHeadC lb db eb none (some hb) kt kv first a0 c0 (x0.le (le2.trans (le3.trans le4))) _ 0 (sltOpen D 4) (hE.le le4) hEb D c oD.ok (by omega) (hd.le le14)) ?_
     rintro v51 K51 hs51 ⟨le5, sn, pl, fr, aV, cV, aD, cD, rfl, rfl, xV, xD, hhd⟩
     have le15 := le14.trans le5
     cases hrd : rdHead D (sltOpen D 4) first with
     | none =>
      rw [hrd] at hR
      dsimp only at hR
      refine fin hT 2 rfl (th (ifT rfl ?_))
      refine sq (rg (WL.drop (WL.drop (WL.del 1 rfl ?_))))
      refine fin hT 2 rfl (th (rt (rT ?_)))
      rw [hR]
      exact ret2 rfl rfl rfl ⟨le15, .inl ⟨rfl, rfl, dh, rfl, hd.le le15⟩⟩
     | some hp =>
      rw [hrd] at hR
      dsimp only at hR
      obtain ⟨hB1, hB2, hB3⟩ := rdHead_bd hrd
      have hhd := hhd hp hrd
      subst hhd
      dsimp only at hB1 hB2 hB3
      unfold lgTop at hB1 hB2 hB3
      unfold lOpen2 at hR
      dsimp only at hR
      have hbd := areasL_bd oD
      have hal := areasL_len oD
      have hkH := hH.le (le3.trans (le4.trans le5))
      have hkE := hE.le (le4.trans le5)
      obtain ⟨l, hl⟩ : ∃ l, l = areasL D := ⟨_, rfl⟩
      obtain ⟨F, hF⟩ : ∃ F, F = lgFree pl l D := ⟨_, rfl⟩
      rw [<- hl] at hbd hal hR
      rw [<- hF] at hR
      refine fin hT 2 rfl (th (ifF rfl ?_))
      refine sk (th (sq (sq (rg ?_))))
      refine cl hT 1 rfl (Ct.at 2 rfl (areasH db D c oD (by omega) (hd.le le15))) ?_
      rintro v55 K55 hs55 ⟨dh, rfl, rfl, le6, aA, cA, rfl, xA⟩
      rw [<- hl] at xA ⊢
      have le16 := le15.trans le6
      refine fin hT 2 rfl (th (bk ?_))
      refine loop (σ := Nat × Dk × PH) (fun s => [(0, .pointer (some ⟨db, 0, none⟩)), (6, .pointer (some ⟨lb, 0, none⟩)), (55, .slice aA l.length cA), (56, .int .i64 ((l.length : Nat) : Int)), (57, .int .i64 ((s.1 : Nat) : Int))]) (fun _ => K55)
       (fun s => pt lb (lgB none db (some hb) (some eb) kt kv sn.idx sn.term (.slice aV sn.vot.length cV) (.slice aD sn.data.length cD) pl fr (.slice none 0 0) 0) 78 :: eh :: s.2.2 :: hh :: hs) (fun s => s.1 <= l.length /\ lgFree pl (l.drop s.1) s.2.1 = F /\ DOk (c + s.1) s.2.1 /\ DskH K55 db s.2.1 s.2.2) (fun s => l.length - s.1) (0, D, dh) ⟨Nat.zero_le _, hF.symm, oD, hd.le le16⟩ ⟨rfl, rfl, rfl, rfl, rfl, trivial⟩ rfl rfl ?_
      rintro ⟨j, D', dh'⟩ ⟨hj, hw, oD', hD'⟩
      dsimp only at *
      refine sq (rg ?_)
      refine cmpS hT 0 rfl fun b58 h58 => ?_
      refine fin hT 0 rfl (th (sq (ifP h58 rfl (fun e9 => ?_) (fun e9 => ?_))))
      ·have hjl : j < l.length := by omega
       obtain ⟨a, ha⟩ : ∃ a, l[j]? = some a := ⟨l[j], List.getElem?_eq_getElem hjl⟩
       have hab := hbd a (List.mem_of_getElem? ha)
       obtain ⟨n, rfl⟩ := Int.eq_ofNat_of_zero_le hab.1
       rw [List.drop_eq_getElem_cons hjl, show l[j] = ((n : Nat) : Int) from by rw [List.getElem?_eq_getElem hjl] at ha; exact Option.some.inj ha, lgFree_cons] at hw
       refine sk (th (sq (bk (sq (rg ?_)))))
       refine ix1 hT 0 j rfl rfl rfl xA (ivu_get ha) fun a59 hc59 => ?_
       refine ld hT 0 rfl (.inl rfl) hc59 ?_
       refine fin hT 1 rfl (th (sq (rg ?_)))
       refine ar hT 1 rfl (u_rem .u64 n 4) ?_
       have next : ∀ {l' : Sl}, lgFree pl (l.drop (j + 1)) D' = F -> True := fun _ => trivial
       by_cases q1 : n % 4 = 2
       ·refine cmp hT 0 rfl (fun _ => ?_) (fun h => absurd (show ((n % 4 : Nat) : Int) = 2 by omega) h)
        refine ldp hT 5 0 rfl rfl rfl ?_
        refine cl hT 0 rfl (areaLC pl (by omega)) ?_
        rintro v70 K70 hs70 ⟨rfl, rfl, rfl⟩
        by_cases q2 : n = lgA4 pl
        ·rw [if_neg (by rintro ⟨_, h⟩; exact h (by rw [q2]))] at hw
         refine cmp hT 0 rfl (fun h => absurd (show ((n : Nat) : Int) = ((lgA4 pl : Nat) : Int) by rw [q2]) h) (fun _ => ?_)
         refine fin hT 9 rfl (th (ifF rfl ?_))
         refine sk (bl (th (rg ?_)))
         refine ar hT 0 rfl (i64w (x := ((j + 1 : Nat) : Int)) (by omega)) ?_
         refine fin hT 1 rfl ?_
         exact again (x := (j, D', dh')) (j + 1, D', dh') ⟨rfl, rfl, rfl, rfl, rfl, trivial⟩ rfl rfl ⟨by dsimp only; omega, hw, oD'.up (by dsimp only; omega), hD'⟩ (by dsimp only; omega)
        ·rw [if_pos ⟨by omega, by omega⟩] at hw
         obtain ⟨E, hEE⟩ : ∃ E, E = D'.free ((n : Nat) : Int) := ⟨_, rfl⟩
         have oE := oD'.free ((n : Nat) : Int)
         rw [<- hEE] at hw oE
         refine cmp hT 0 rfl (fun _ => ?_) (fun h => absurd (show ¬ ((n : Nat) : Int) = ((lgA4 pl : Nat) : Int) by omega) h)
         refine cl hT 5 rfl (Ct.at 2 rfl (freeH db D' (c + j) oD'.ok (by omega) hD' ((n : Nat) : Int))) ?_
         rintro v77 K77 hs77 ⟨dh2, rfl, rfl, hD2, rfl⟩
         rw [<- hEE] at hD2 ⊢
         refine cl hT 0 rfl (didLB lb none db (some hb) (some eb) kt kv sn.idx sn.term _ _ pl fr _ 0 E.2) ?_
         rintro v78 K78 hs78 ⟨_, rfl, rfl, rfl, rfl⟩
         rw [show didV 0 E.2 = E.2 from rfl]
         refine cmpS hT 0 rfl fun b79 h79 => ?_
         refine fin hT 1 rfl (th (ifP h79 rfl (fun e15 => ?_) (fun e15 => ?_)))
         ·rw [if_pos e15] at hw
          rw [<- hw, if_pos e15] at hR
          refine sq (rga [pt lb (lgB none db (some hb) (some eb) kt kv sn.idx sn.term (.slice aV sn.vot.length cV) (.slice aD sn.data.length cD) pl fr (.slice none 0 0) E.2) 78] 6 [0, 2, 4, 6, 8, 10] (by simp) (by kernel_rfl) (by kernel_rfl) ?_)
          refine dldp hT (by kernel_rfl) 3 0 rfl rfl rfl ?_
          refine dend hT (by kernel_rfl) 2 rfl (th (rt (rB (rT (rT (rB (rT (WQ.drop (WQ.drop (WQ.del 1 rfl ?_))))))))))
          rw [hR]
          exact ret2 rfl rfl rfl ⟨le16, .inl ⟨rfl, rfl, dh2, rfl, hD2⟩⟩
         ·have e15 := Decidable.not_not.1 e15
          rw [if_neg (by rw [e15]; simp)] at hw
          rw [e15]
          refine sk (bl (th (rg ?_)))
          refine ar hT 0 rfl (i64w (x := ((j + 1 : Nat) : Int)) (by omega)) ?_
          refine fin hT 1 rfl ?_
          exact again (x := (j, D', dh')) (j + 1, E.1, dh2) ⟨rfl, rfl, rfl, rfl, rfl, trivial⟩ rfl rfl ⟨by dsimp only; omega, hw, oE.up (by dsimp only; omega), hD2⟩ (by dsimp only; omega)
       ·rw [if_neg (by rintro ⟨h, _⟩; omega)] at hw
        refine cmp hT 0 rfl (fun h => absurd (show ((n % 4 : Nat) : Int) = 2 from h) (by omega)) (fun _ => ?_)
        refine fin hT 17 rfl (th (ifF rfl ?_))
        refine sk (bl (th (rg ?_)))
        refine ar hT 0 rfl (i64w (x := ((j + 1 : Nat) : Int)) (by omega)) ?_
        refine fin hT 1 rfl ?_
        exact again (x := (j, D', dh')) (j + 1, D', dh') ⟨rfl, rfl, rfl, rfl, rfl, trivial⟩ rfl rfl ⟨by dsimp only; omega, hw, oD'.up (by dsimp only; omega), hD'⟩ (by dsimp only; omega)
      ·obtain rfl : j = l.length := by omega
       rw [List.drop_length] at hw
       have hw : (D', (0 : Int)) = F := hw
       rw [<- hw, if_neg (by simp)] at hR
       dsimp only at hR
       unfold lOpen3 at hR
       dsimp only at hR
       obtain ⟨X, hX⟩ : ∃ X, X = wOpen D' fr (sn.idx + 1) := ⟨_, rfl⟩
       obtain ⟨hXc, hXs⟩ := wOpen_code (D := D') (fr := fr) (first := sn.idx + 1)
       rw [<- hX] at hR hXc hXs
       refine ex (xt (xt (xb (th (sq (rga [pt lb (lgB none db (some hb) (some eb) kt kv sn.idx sn.term (.slice aV sn.vot.length cV) (.slice aD sn.data.length cD) pl fr (.slice none 0 0) 0) 78] 17 [0, 2, 4, 6, 8, 10, 12, 14, 16, 18, 20, 23, 24, 26, 28, 30, 32] (by simp) (by kernel_rfl) (by kernel_rfl) ?_))))))
       refine dldp hT (by kernel_rfl) 4 0 rfl rfl rfl ?_
       refine dldp hT (by kernel_rfl) 4 0 rfl rfl rfl ?_
       refine dar hT (by kernel_rfl) 0 rfl (u64w (x := ((sn.idx + 1 : Nat) : Int)) (by omega)) ?_
       refine dact hT (by kernel_rfl) 0 rfl ?_
       refine cl hT 0 rfl (Ct.atN 2 rfl (openWH db D' (c + l.length) oD' (by omega) hD' fr (sn.idx + 1) (by omega) (by omega))) ?_
       rintro v98 K98 hs98 ⟨dh2, new, rfl, le7, hD2, hA⟩
       rw [<- hX] at hD2 hA
       have le17 := le16.trans le7
       rcases hA with ⟨hn, rfl, rfl⟩ | ⟨W, wb, wh, hW, rfl, hWh, rfl⟩
       ·rw [hn] at hR
        dsimp only at hR
        have hXc := hXc hn
        refine dnexL [pt lb (lgB none db (some hb) (some eb) kt kv sn.idx sn.term (.slice aV sn.vot.length cV) (.slice aD sn.data.length cD) pl fr (.slice none 0 0) 0) 78] (by simp) (by simp) le7 ?_
        refine dend hT (by kernel_rfl) 5 rfl (th (sq (sq (rg ?_))))
        refine cmpS hT 1 rfl fun b102 h102 => ?_
        refine fin hT 0 rfl (th (ifP h102 rfl (fun e17 => ?_) (fun e17 => ?_)))
        ·rw [if_pos e17] at hR
         refine sq (rg (WL.drop (WL.drop (WL.del 1 rfl ?_))))
         refine fin hT 2 rfl (th (rt (rT ?_)))
         rw [hR]
         exact ret2 rfl rfl rfl ⟨le17, .inl ⟨rfl, rfl, dh2, rfl, hD2⟩⟩
        ·rw [if_neg e17] at hR
         refine sk (th (sq (sq (rg ?_))))
         refine cmpS hT 1 rfl fun b104 h104 => ?_
         refine fin hT 0 rfl (th (ifP h104 rfl (fun e19 => ?_) (fun e19 => absurd hXc e19)))
         refine sq (rg (WL.drop (WL.drop (WL.del 1 rfl ?_))))
         refine fin hT 3 rfl (th (rt (rT ?_)))
         rw [hR]
         exact ret2 rfl rfl rfl ⟨le17, .inl ⟨rfl, rfl, dh2, rfl, hD2⟩⟩
       ·rw [hW] at hR
        dsimp only at hR
        have hXs := hXs W hW
        rw [hXs]
        have hopen := WBd.opened oD' (fr := fr) (first := sn.idx + 1) (W := W) (E := X.2.1) (by rw [<- hX]; obtain ⟨x1, x2, x3⟩ := X; dsimp only at hW hXs ⊢; rw [hW, hXs])
        refine dnexL [pt lb (lgB none db (some hb) (some eb) kt kv sn.idx sn.term (.slice aV sn.vot.length cV) (.slice aD sn.data.length cD) pl fr (.slice none 0 0) 0) 78] (by simp) (by simp) le7 ?_
        refine dend hT (by kernel_rfl) 5 rfl (th (sq (sq (rg ?_))))
        refine fin hT 2 rfl (th (ifF rfl ?_))
        refine sk (th (sq (sq (rg ?_))))
        refine fin hT 2 rfl (th (ifF rfl ?_))
        refine sk (th (sq (rg (WL.fr 1 rfl ?_))))
        refine stp hT 4 0 rfl rfl rfl rfl ?_
        refine WL.hs (pt lb (lgB (some wb) db (some hb) (some eb) kt kv sn.idx sn.term (.slice aV sn.vot.length cV) (.slice aD sn.data.length cD) pl fr (.slice none 0 0) 0) 78 :: wh :: eh :: dh2 :: hh :: hs) rfl ?_
        refine fin hT 0 rfl (th (sq (sq (rg ?_))))
        refine cl hT 1 rfl (readEntriesC lb db wb (some hb) (some eb) kt kv sn (by unfold lgTop; omega) _ _ pl fr 0 W hWh (c + l.length) hopen.1 (by omega)) ?_
        rintro v111 K111 hs111 ⟨le8, gl, aL, cL, ll, rfl, rfl, hG, hll⟩
        have le18 := le17.trans le8
        cases hre : rdEnts sn W with
        | none =>
         rw [hre] at hR
         dsimp only at hR
         refine fin hT 1 rfl (th (ifT rfl ?_))
         refine sq (rg (WL.drop (WL.drop (WL.drop (WL.drop (WL.del 1 rfl ?_))))))
         refine fin hT 2 rfl (th (rt (rT ?_)))
         rw [hR]
         exact ret2 rfl rfl rfl ⟨le18, .inl ⟨rfl, rfl, dh2, rfl, hD2.le le8⟩⟩
        | some l2 =>
         rw [hre] at hR
         dsimp only at hR
         have hll := hll l2 hre
         subst hll
         refine fin hT 1 rfl (th (ifF rfl ?_))
         refine sk (th (sq (rg (WL.fr 4 rfl (WL.fr 1 rfl (WL.fr 4 rfl (WL.fr 5 rfl (WL.fr 5 rfl (WL.fr 5 rfl ?_)))))))))
         refine fin hT 3 rfl (th (rt ?_))
         rw [hR]
         have le78 := le7.trans le8
         exact ret2 rfl rfl rfl ⟨le18, .inr ⟨_, lb, [_, _, _, _, _, _], rfl, rfl, rfl, wb, hb, eb, aV, cV, aD, cD, aL, cL, wh, hh, eh, gl, dh2, rfl, hWh.le le8, hkH.le (le6.trans le78), hkE.le (le6.trans le78), hG, hD2.le le8, xV.le (le6.trans le78), xD.le (le6.trans le78)⟩⟩
end Go.Proofs.YtcncpbolcigpnaaGreat
end
section
namespace Go.Proofs.YtcncpbolcigpnaaGreat
open Go.En
attribute [local irreducible] Code.wp wpList Calls
def q0 : MA := ⟨none, 0, none, 0, none, 0⟩
end Go.Proofs.YtcncpbolcigpnaaGreat
namespace Go.Proofs.YtcncpbolcigpnaaGreat
open Go.En
attribute [local irreducible] Code.wp wpList Calls
end Go.Proofs.YtcncpbolcigpnaaGreat
namespace Go.Proofs.YtcncpbolcigpnaaGreat
open Go.En
attribute [local irreducible] Code.wp wpList Calls
end Go.Proofs.YtcncpbolcigpnaaGreat
namespace Go.Proofs.YtcncpbolcigpnaaGreat
open Go.En
attribute [local irreducible] Code.wp wpList Calls
end Go.Proofs.YtcncpbolcigpnaaGreat
end
section
namespace Go.En
structure Rl where
 kt : Nat
 kv : Int
 sn : Snp
 l : List Ent
def rlV (r : Rl) (aV : Option Addr) (cV : Nat) (aD : Option Addr) (cD : Nat) (aL : Option Addr) (cL : Nat) : Array Value :=
 #[.int .u64 ((r.kt : Nat) : Int), .int .i64 r.kv, .int .u64 ((r.sn.idx : Nat) : Int), .int .u64 ((r.sn.term : Nat) : Int), .slice aV r.sn.vot.length cV, .slice aD r.sn.data.length cD, .slice aL r.l.length cL]
end Go.En
namespace Go.Proofs.YtcncpbolcigpnaaGreat
open Go.En
attribute [local irreducible] Code.wp wpList Calls
def RlS (K : PH) (r : Rl) (v : Value) : Prop := ∃ aV cV aD cD aL cL, v = .agg (rlV r aV cV aD cD aL cL) /\ IsS K aV r.sn.vot.length cV 1 (iv r.sn.vot) /\ IsS K aD r.sn.data.length cD 1 (bv r.sn.data) /\ SlS 4 (EntC K) K aL r.l.length cL r.l
end Go.Proofs.YtcncpbolcigpnaaGreat
end
section
namespace Go.En
def Rl.append (r : Rl) (x : List Ent) : Rl × Int :=
 if fol (r.sn.idx + r.l.length) (trm r.sn r.l (r.sn.idx + r.l.length)).1 x ≠ 0 then (r, fol (r.sn.idx + r.l.length) (trm r.sn r.l (r.sn.idx + r.l.length)).1 x) else ({ r with l := r.l ++ x }, 0)
def Rl.setHard (r : Rl) (t : Nat) (v : Int) : Rl × Int :=
 if v < -1 \/ 6 < v then (r, 181) else if t < r.kt then (r, 180) else ({ r with kt := t, kv := v }, 0)
end Go.En
namespace Go.Proofs.YtcncpbolcigpnaaGreat
open Go.En
attribute [local irreducible] Code.wp wpList Calls
end Go.Proofs.YtcncpbolcigpnaaGreat
end
section
namespace Go.En
theorem SlS.pre {α : Type} {size : Nat} {R : List Value -> α -> Prop} {H : PH} {ao : Option Addr} {n cap : Nat} {xs : List α} (h : SlS size R H ao n cap xs) (N : Nat) (hN : N <= n) : SlS size R H ao N cap (xs.take N) := by
 obtain ⟨css, h1, h2, h3, h4⟩ := h
 have hl : css.length = n := by rw [h3.len, h1]
 have h5 := h2.cut 0 N (by omega) (ys := (css.take N).flatten) (by rw [Nat.zero_mul, List.drop_zero, flat_take N h4])
 rw [cutA_0, Nat.sub_zero] at h5
 exact ⟨css.take N, by rw [List.length_take]; omega, h5, h3.take N, fun d hd => h4 d (List.mem_of_mem_take hd)⟩
section
variable {P : Program} {w0 : World} {fn : Func} {R : Value -> PH -> List PH -> Prop} {n : Nat} {l : Sl} {K : PH} {hs : List PH}
end
end Go.En
namespace Go.Proofs.YtcncpbolcigpnaaGreat
open Go.En
attribute [local irreducible] Code.wp wpList Calls
end Go.Proofs.YtcncpbolcigpnaaGreat
end
section
namespace Go.En
section
variable {P : Program} {w0 : World} {fn : Func} {R : Value -> PH -> List PH -> Prop} {n : Nat} {l : Sl} {K : PH} {hs : List PH}
end
end Go.En
namespace Go.Proofs.YtcncpbolcigpnaaGreat
open Go.En
attribute [local irreducible] Code.wp wpList Calls
structure AdL where
 aV : Option Addr
 cV : Nat
 aD : Option Addr
 cD : Nat
 aL : Option Addr
 cL : Nat
theorem RlS.ad {K : PH} {r : Rl} {v : Value} (h : RlS K r v) : ∃ d : AdL, v = .agg (rlV r d.aV d.cV d.aD d.cD d.aL d.cL) /\ RlS K r (.agg (rlV r d.aV d.cV d.aD d.cD d.aL d.cL)) := by
 obtain ⟨aV, cV, aD, cD, aL, cL, rfl, h2, h3, h4⟩ := h
 exact ⟨⟨aV, cV, aD, cD, aL, cL⟩, rfl, aV, cV, aD, cD, aL, cL, rfl, h2, h3, h4⟩
end Go.Proofs.YtcncpbolcigpnaaGreat
end
section
namespace Go.En
structure Liv (n : Nat) (D : Dk) : Prop where
 left : D.left = -1
 dead : D.dead = false
 room : (n : Int) <= D.room
theorem Liv.mono {n m : Nat} {D : Dk} (h : Liv n D) (k : m <= n) : Liv m D := ⟨h.left, h.dead, by have := h.room; omega⟩
theorem Liv.write {n : Nat} {D : Dk} (h : Liv (n + 1) D) (a i : Int) (b : List UInt8) (h0 : 0 <= i) (hi : i < 65536) (hb : b.length <= 64) : (D.write a i b).2 = 0 /\ Liv n (D.write a i b).1 := by
 have h1 := h.left
 have h2 := h.dead
 have h3 := h.room
 have hd : ((D.laid a i b).stp).dead = false := by simp [Dk.stp, Dk.laid, h1]
 have hl : ((D.laid a i b).stp).left = -1 := by simp [Dk.stp, Dk.laid, h1]
 unfold Dk.write
 rw [if_neg (by rw [h2]; decide), if_neg (by omega), if_neg (by rintro ⟨_, h4⟩; omega)]
 refine ⟨by simp [hd], hl, hd, ?_⟩
 show (n : Int) <= (D.laid a i b).room
 unfold Dk.laid
 dsimp only
 split <;> omega
theorem Liv.stp {n : Nat} {D : Dk} (h : Liv n D) : Liv n D.stp := ⟨by simp [Dk.stp, h.left], by simp [Dk.stp, h.left], h.room⟩
theorem Liv.sync {n : Nat} {D : Dk} (h : Liv n D) (a : Int) : (D.sync a).2 = 0 /\ Liv n (D.sync a).1 := by
 have h1 := h.stp
 unfold Dk.sync
 rw [if_neg (by rw [h.dead]; decide), if_neg (by rw [h1.dead]; decide)]
 exact ⟨rfl, h1.left, h1.dead, h1.room⟩
theorem Liv.save {n : Nat} {D : Dk} (h : Liv (n + 1) D) (S : Slt) (area : Nat) (v : List UInt8) (hn : S.num < 18446744073709551615) (hv : v.length <= 48) :
  (S.save area D v).2.2 = 0 /\ Liv n (S.save area D v).2.1 /\ (S.save area D v).1 = ⟨S.num + 1, v⟩ := by
 have h1 := h.write area (((S.num + 1) % 2 : Nat) : Int) (sect (S.num + 1) v) (by omega) (by omega) (by rw [sect_length hv]; exact Nat.le_refl _)
 have h2 := h1.2.sync area
 unfold Slt.save
 rw [if_neg (by omega), if_pos h1.1, if_pos h2.1]
 exact ⟨h2.1, h2.2, rfl⟩
structure WLv (f : Nat) (W : Wl) : Prop where
 code : W.code = 0
 op : ∀ o, W.op = some o -> o.full <= f /\ o.rest.length <= 62
theorem wrL_live : ∀ (f : Nat) (o : WOp) (D : Dk) (n : Nat), Liv (n + (o.rest.length / 63 + 1)) D -> o.rest.length < 63 * f -> o.full + o.rest.length / 63 < 65536 ->
  (wrL f o D).2.2 = 0 /\ Liv n (wrL f o D).2.1 /\ (wrL f o D).1.full <= o.full + o.rest.length / 63 /\ (wrL f o D).1.rest.length <= 62
 | 0, o, D, n, _, hf, _ => by omega
 | f + 1, o, D, n, h, hf, hfu => by
  have h1 := Liv.write (n := n + o.rest.length / 63) (h.mono (by omega)) (segA o.num) o.full (UInt8.ofNat (min o.rest.length 63) :: o.rest.take (min o.rest.length 63)) (by omega) (by omega) (by simp only [List.length_cons, List.length_take]; omega)
  unfold wrL
  rw [h1.1]
  by_cases hl : o.rest.length < 63
  ·rw [if_pos (.inr hl)]
   exact ⟨rfl, h1.2.mono (by omega), by dsimp only; omega, by dsimp only; omega⟩
  ·rw [if_neg (by rintro (h2 | h2); exact h2 rfl; exact hl h2)]
   by_cases he : o.rest.length = 63
   ·rw [if_pos he]
    exact ⟨rfl, h1.2.mono (by omega), by dsimp only; omega, by simp⟩
   ·rw [if_neg he]
    have h3 := wrL_live f { o with full := o.full + 1, rest := o.rest.drop 63 } _ n (h1.2.mono (by dsimp only; rw [List.length_drop]; omega)) (by dsimp only; rw [List.length_drop]; omega) (by dsimp only; rw [List.length_drop]; omega)
    refine ⟨h3.1, h3.2.1, ?_, h3.2.2.2⟩
    have := h3.2.2.1
    dsimp only at this
    rw [List.length_drop] at this
    omega
theorem wrO_live {n : Nat} {D : Dk} (o : WOp) (b : List UInt8) (h : Liv (n + ((o.rest.length + b.length) / 63 + 1)) D) (hf : o.full + (o.rest.length + b.length) / 63 < 65536) :
  (wrO o b D).2.2 = 0 /\ Liv n (wrO o b D).2.1 /\ (wrO o b D).1.full <= o.full + (o.rest.length + b.length) / 63 /\ (wrO o b D).1.rest.length <= 62 := by
 have hl : (o.rest ++ b).length = o.rest.length + b.length := List.length_append
 have := wrL_live (o.rest.length + b.length + 1) { o with rest := o.rest ++ b } D n (by dsimp only; rw [hl]; exact h) (by dsimp only; rw [hl]; omega) (by dsimp only; rw [hl]; exact hf)
 dsimp only at this
 rw [hl] at this
 exact this
theorem WLv.sync {f n : Nat} {W : Wl} {D : Dk} (o : WLv f W) (h : Liv n D) : WLv f (W.sync D).1 /\ Liv n (W.sync D).2 /\ (W.sync D).1.first = W.first /\ (W.sync D).1.recs = W.recs /\ (W.sync D).1.next = W.next /\ (W.sync D).1.op = W.op /\ (W.sync D).1.old = W.old := by
 unfold Wl.sync
 rw [if_neg (by rw [o.code]; simp)]
 cases hop : W.op with
 | none => exact ⟨⟨o.code, fun q hq => by rw [hop] at hq; cases hq⟩, h, rfl, rfl, rfl, hop, rfl⟩
 | some q =>
  have h1 := h.sync (segA q.num)
  exact ⟨⟨h1.1, fun p hp => o.op p (by rw [hop]; exact hp)⟩, h1.2, rfl, rfl, rfl, rfl, rfl⟩
theorem uint10 {i : Nat} (h : i < 18446744073709551616) : (uint i).length <= 10 := uint_le10 h
theorem WLv.begin {f n : Nat} {W : Wl} {D : Dk} (o : WLv f W) (h : Liv (n + 1) D) (i : Nat) (hi : i < 18446744073709551616) :
  WLv 0 (W.begin i D).1 /\ Liv n (W.begin i D).2 /\ (W.begin i D).1.first = W.first /\ (W.begin i D).1.recs = W.recs /\ (W.begin i D).1.next = W.next + 1 /\ (W.begin i D).1.op ≠ none := by
 have h1 := o.sync h
 have hu := uint10 hi
 have h2 := wrO_live (n := n) (D := (W.sync D).2) ⟨W.next, i, 0, []⟩ (uint i) (h1.2.1.mono (by simp only [List.length_nil]; omega)) (by simp only [List.length_nil]; omega)
 unfold Wl.begin
 rw [if_neg (by rw [h1.1.code]; simp)]
 refine ⟨⟨h2.1, ?_⟩, h2.2.1, h1.2.2.1, h1.2.2.2.1, rfl, by simp⟩
 intro q hq
 cases hq
 have := h2.2.2
 simp only [List.length_nil] at this
 omega
theorem wLay_live {n : Nat} {W : Wl} {D : Dk} {b : List UInt8} (o : WLv 15 W) (hop : W.op ≠ none) (h : Liv (n + 10) D) (hb : b.length <= 512) :
  (wLay W b D).2.2 = 0 /\ WLv 24 (wLay W b D).1 /\ Liv n (wLay W b D).2.1 /\ (wLay W b D).1.first = W.first /\ (wLay W b D).1.recs = W.recs ++ [b] /\ (wLay W b D).1.next = W.next := by
 have hp := putBytes_le hb
 unfold wLay
 cases hq : W.op with
 | none => exact absurd hq hop
 | some q =>
  have h1 := o.op q hq
  have h2 := wrO_live (n := n) (D := D) q (putBytes b) (h.mono (by omega)) (by omega)
  dsimp only
  refine ⟨h2.1, ⟨h2.1, ?_⟩, h2.2.1, rfl, by rw [if_pos h2.1], rfl⟩
  intro p hp
  cases hp
  have := h2.2.2
  omega
theorem WLv.append {n : Nat} {W : Wl} {D : Dk} {b : List UInt8} (o : WLv 24 W) (h : Liv (n + 11) D) (hb : b.length <= 512) (hl : W.first + W.recs.length < wTop) :
  (W.append b D).2.2 = 0 /\ WLv 24 (W.append b D).1 /\ Liv n (W.append b D).2.1 /\ (W.append b D).1.first = W.first /\ (W.append b D).1.recs = W.recs ++ [b] /\ (W.append b D).1.next <= W.next + 1 := by
 have hl2 := hl
 unfold wTop at hl2
 unfold Wl.append
 rw [if_neg (by rw [o.code]; simp), if_neg (by omega), if_neg (by omega)]
 by_cases hn : wNeed W.op = true
 ·rw [if_pos hn]
  have h1 := o.begin (n := n + 10) h (W.first + W.recs.length) (by omega)
  rw [if_neg (by rw [h1.1.code]; simp)]
  have h2 := wLay_live (n := n) (b := b) ⟨h1.1.code, fun q hq => by have := h1.1.op q hq; omega⟩ h1.2.2.2.2.2 h1.2.1 hb
  exact ⟨h2.1, h2.2.1, h2.2.2.1, by rw [h2.2.2.2.1, h1.2.2.1], by rw [h2.2.2.2.2.1, h1.2.2.2.1], by rw [h2.2.2.2.2.2, h1.2.2.2.2.1]; exact Nat.le_refl _⟩
 ·rw [if_neg hn]
  have hop : W.op ≠ none := fun e => hn (by rw [e]; rfl)
  have h2 := wLay_live (n := n) (b := b) ⟨o.code, fun q hq => by
   have h3 := o.op q hq
   have h4 : ¬ 16 <= q.full := fun h5 => hn (by rw [hq]; simpa [wNeed] using h5)
   omega⟩ hop (h.mono (by omega)) hb
  exact ⟨h2.1, h2.2.1, h2.2.2.1, h2.2.2.2.1, h2.2.2.2.2.1, by rw [h2.2.2.2.2.2]; omega⟩
end Go.En
end
section
namespace Go.En
def Lg.rl (L : Lg) : Rl := ⟨L.kt, L.kv, L.sn, L.l⟩
structure Sim (k q : Nat) (L : Lg) : Prop where
 code : L.code = 0
 w : WLv 24 L.w
 hard : L.hard.num <= k
 head : L.head.num <= k
 place : L.place <= k
 next : L.w.next <= q
 fr : L.fr <= q
 first : L.w.first = L.sn.idx + 1
 recs : L.w.recs.length = L.l.length
theorem Sim.up {k q k' q' : Nat} {L : Lg} (o : Sim k q L) (h : k <= k') (h' : q <= q') : Sim k' q' L :=
 ⟨o.code, o.w, by have := o.hard; omega, by have := o.head; omega, by have := o.place; omega, by have := o.next; omega, by have := o.fr; omega, o.first, o.recs⟩
theorem Sim.setHard {k q n : Nat} {L : Lg} {D : Dk} (o : Sim k q L) (h : Liv (n + 1) D) (t : Nat) (v : Int) (ht : t <= mxU) (hk : k <= 1000000) :
  (L.setHard D t v).2.2 = (L.rl.setHard t v).2 /\ Liv n (L.setHard D t v).2.1 /\ Sim (k + 1) q (L.setHard D t v).1 /\ (L.setHard D t v).1.rl = (L.rl.setHard t v).1 := by
 unfold mxU at ht
 unfold Lg.setHard Rl.setHard
 rw [if_neg (by rw [o.code]; simp)]
 by_cases h1 : v < -1 \/ 7 <= v
 ·rw [if_pos h1, if_pos (show v < -1 \/ 6 < v by omega)]
  exact ⟨rfl, h.mono (by omega), o.up (by omega) (by omega), rfl⟩
 ·rw [if_neg h1, if_neg (show ¬ (v < -1 \/ 6 < v) by omega)]
  by_cases h2 : t < L.kt
  ·rw [if_pos h2, if_pos (show t < L.rl.kt from h2)]
   exact ⟨rfl, h.mono (by omega), o.up (by omega) (by omega), rfl⟩
  ·rw [if_neg h2, if_neg (show ¬ t < L.rl.kt from h2)]
   have hu : (uint t ++ uint (v + 1).toNat).length <= 48 := by
    rw [List.length_append]
    have h3 := uint10 (i := t) (by omega)
    have h4 := uint10 (i := (v + 1).toNat) (by omega)
    omega
   have hs := h.save L.hard 0 (uint t ++ uint (v + 1).toNat) (by have := o.hard; omega) hu
   have hn : (L.hard.save 0 D (uint t ++ uint (v + 1).toNat)).1.num <= k + 1 := by rw [hs.2.2]; have := o.hard; dsimp only; omega
   have hs0 : (L.hard.save 0 D (uint t ++ uint (v + 1).toNat)).2.2 = 0 := hs.1
   rw [if_pos hs0]
   exact ⟨rfl, hs.2.1, ⟨o.code, o.w, hn, by have := o.head; dsimp only; omega, by have := o.place; dsimp only; omega, o.next, o.fr, o.first, o.recs⟩, rfl⟩
theorem ent_bytes_le {e : Ent} (h : entG e) : e.bytes.length <= 512 := by
 obtain ⟨⟨_, _, h1⟩, h2, h3⟩ := h
 have h4 := held_len h1
 unfold mxU at h2 h3
 have h5 := uint10 (i := e.idx) (by omega)
 have h6 := uint10 (i := e.term) (by omega)
 have h7 := uint10 (i := e.data.length) (by omega)
 unfold Ent.bytes putBytes
 simp only [List.length_append, List.length_cons]
 omega
theorem Sim.app1 : ∀ (x : List Ent) (L : Lg) (D : Dk) (k q n : Nat), Sim k q L -> Liv (n + 11 * x.length) D -> (∀ e ∈ x, entG e) -> L.sn.idx + L.l.length + x.length < 2 * lgTop ->
  (Lg.app1 x L D).2.2 = 0 /\ Liv n (Lg.app1 x L D).2.1 /\ Sim k (q + x.length) (Lg.app1 x L D).1 /\ (Lg.app1 x L D).1.rl = { L.rl with l := L.l ++ x }
 | [], L, D, k, q, n, o, h, _, _ => ⟨rfl, h.mono (by omega), o.up (by omega) (by omega), by simp [Lg.app1, Lg.rl]⟩
 | e :: r, L, D, k, q, n, o, h, hx, hl => by
  simp only [List.length_cons] at h hl
  unfold lgTop at hl
  have h1 := o.w.append (n := n + 11 * r.length) (b := e.bytes) (h.mono (by omega)) (ent_bytes_le (hx e (by simp))) (by rw [o.first, o.recs]; unfold wTop; omega)
  unfold Lg.app1
  rw [if_neg (by rw [h1.1]; simp)]
  have hS : Sim k (q + 1) { L with w := (L.w.append e.bytes D).1, l := L.l ++ [e] } :=
   ⟨o.code, h1.2.1, o.hard, o.head, o.place, by have := o.next; have := h1.2.2.2.2.2; dsimp only; omega, by have := o.fr; dsimp only; omega, by dsimp only; rw [h1.2.2.2.1]; exact o.first, by dsimp only; rw [h1.2.2.2.2.1]; simp [o.recs]⟩
  have h2 := Sim.app1 r _ _ k (q + 1) n hS h1.2.2.1 (fun e he => hx e (by simp [he])) (by dsimp only; simp only [List.length_append, List.length_cons, List.length_nil]; unfold lgTop; omega)
  refine ⟨h2.1, h2.2.1, h2.2.2.1.up (Nat.le_refl _) (by simp only [List.length_cons]; omega), ?_⟩
  rw [h2.2.2.2]
  simp [Lg.rl]
theorem Sim.append {k q n : Nat} {L : Lg} {D : Dk} (o : Sim k q L) (x : List Ent) (h : Liv (n + 11 * x.length) D) (hx : ∀ e ∈ x, e.idx <= mxU /\ e.term <= mxU) (hl : L.sn.idx + L.l.length + x.length < 2 * lgTop) :
  (L.append x D).2.2 = (L.rl.append x).2 /\ Liv n (L.append x D).2.1 /\ Sim k (q + x.length) (L.append x D).1 /\ (L.append x D).1.rl = (L.rl.append x).1 := by
 unfold Lg.append Rl.append
 rw [if_neg (by rw [o.code]; simp)]
 by_cases hf : fol L.last (trm L.sn L.l L.last).1 x = 0
 ·rw [if_neg (by rw [hf]; simp), if_neg (by intro h2; exact h2 hf)]
  have hok := fol_ok hf
  exact Sim.app1 x L D k q n o h (fun e he => ⟨hok e he, hx e he⟩) hl
 ·rw [if_pos hf, if_pos (show fol (L.rl.sn.idx + L.rl.l.length) (trm L.rl.sn L.rl.l (L.rl.sn.idx + L.rl.l.length)).1 x ≠ 0 from hf)]
  exact ⟨rfl, h.mono (by omega), o.up (by omega) (by omega), rfl⟩
theorem Sim.sync {k q n : Nat} {L : Lg} {D : Dk} (o : Sim k q L) (h : Liv n D) : (L.sync D).2.2 = 0 /\ Liv n (L.sync D).2.1 /\ Sim k q (L.sync D).1 /\ (L.sync D).1.rl = L.rl /\ (L.sync D).1.sn = L.sn /\ (L.sync D).1.l = L.l := by
 have h1 := o.w.sync h
 unfold Lg.sync
 rw [if_neg (by rw [o.code]; simp)]
 exact ⟨h1.1.code, h1.2.1, ⟨h1.1.code, h1.1, o.hard, o.head, o.place, by dsimp only; rw [h1.2.2.2.2.1]; exact o.next, o.fr, by dsimp only; rw [h1.2.2.1]; exact o.first, by dsimp only; rw [h1.2.2.2.1]; exact o.recs⟩, rfl, rfl, rfl⟩
end Go.En
end
section
namespace Go.En
inductive Rw : List Int -> Dk -> Dk -> Prop
 | refl (A : List Int) (D : Dk) : Rw A D D
 | write {A : List Int} {D E : Dk} (a n : Int) (b : List UInt8) : a ∈ A -> Rw A D E -> Rw A D (E.write a n b).1
 | sync {A : List Int} {D E : Dk} (a : Int) : Rw A D E -> Rw A D (E.sync a).1
 | free {A : List Int} {D E : Dk} (a : Int) : Rw A D E -> Rw A D (E.free a).1
theorem Rw.mono {A B : List Int} {D E : Dk} (h : Rw A D E) (hs : ∀ a ∈ A, a ∈ B) : Rw B D E := by
 induction h with
 | refl => exact Rw.refl _ _
 | write a n b ha _ ih => exact ih.write a n b (hs a ha)
 | sync a _ ih => exact ih.sync a
 | free a _ ih => exact ih.free a
theorem Rw.trans {A : List Int} {D E : Dk} (h : Rw A D E) {F : Dk} (g : Rw A E F) : Rw A D F := by
 induction g with
 | refl => exact h
 | write a n b ha _ ih => exact ih.write a n b ha
 | sync a _ ih => exact ih.sync a
 | free a _ ih => exact ih.free a
theorem Rw.keys {A : List Int} {D E : Dk} (h : Rw A D E) : ∀ k ∈ E.areas.map (·.1), k ∈ D.areas.map (·.1) \/ k ∈ A := by
 induction h with
 | refl => exact fun k hk => .inl hk
 | write a n b ha _ ih =>
  rename_i E _
  unfold Dk.write
  split
  ·exact ih
  ·split
   ·exact ih
   ·split
    ·exact ih
    ·intro k hk
     obtain ⟨x, hx, rfl⟩ := List.mem_map.1 hk
     rcases mset_mem hx with rfl | hx
     ·exact .inr ha
     ·exact ih _ (List.mem_map.2 ⟨x, hx, rfl⟩)
 | sync a _ ih =>
  rename_i E _
  unfold Dk.sync
  split
  ·exact ih
  ·split
   ·exact ih
   ·show ∀ k ∈ (E.synA a).map (·.1), _
    rw [synA_keys]; exact ih
 | free a _ ih =>
  rename_i E _
  unfold Dk.free
  split
  ·exact ih
  ·split
   ·exact ih
   ·intro k hk
    obtain ⟨x, hx, rfl⟩ := List.mem_map.1 hk
    exact ih _ (List.mem_map.2 ⟨x, (mdel_sub (k := a) E.areas).subset hx, rfl⟩)
def Rk (k : Nat) (D E : Dk) : Prop := ∃ A : List Int, A.length <= k /\ Rw A D E
theorem Rk.of {k : Nat} (D : Dk) : Rk k D D := ⟨[], Nat.zero_le k, Rw.refl _ D⟩
theorem Rk.up {k j : Nat} {D E : Dk} (h : Rk k D E) (g : k <= j) : Rk j D E := let ⟨A, h1, h2⟩ := h; ⟨A, by omega, h2⟩
theorem Rk.trans {k j : Nat} {D E F : Dk} (h : Rk k D E) (g : Rk j E F) : Rk (k + j) D F := by
 obtain ⟨A, h1, h2⟩ := h
 obtain ⟨B, g1, g2⟩ := g
 exact ⟨A ++ B, by rw [List.length_append]; omega, (h2.mono fun a ha => List.mem_append.2 (.inl ha)).trans (g2.mono fun a ha => List.mem_append.2 (.inr ha))⟩
theorem Rk.sync {k : Nat} {D E : Dk} (h : Rk k D E) (a : Int) : Rk k D (E.sync a).1 := let ⟨A, h1, h2⟩ := h; ⟨A, h1, h2.sync a⟩
theorem Rk.free {k : Nat} {D E : Dk} (h : Rk k D E) (a : Int) : Rk k D (E.free a).1 := let ⟨A, h1, h2⟩ := h; ⟨A, h1, h2.free a⟩
theorem Rk.len {k c : Nat} {D E : Dk} (h : Rk k D E) (o : E.Ok c) : E.areas.length <= D.areas.length + k := by
 obtain ⟨A, h1, h2⟩ := h
 have := List.Nodup.length_le_of_subset o.keys (l₂ := D.areas.map (·.1) ++ A) (fun a ha => List.mem_append.2 (h2.keys a ha))
 rw [List.length_append, List.length_map, List.length_map] at this
 omega
theorem rw_save (S : Slt) (area : Nat) (D : Dk) (v : List UInt8) : Rw [((area : Nat) : Int)] D (S.save area D v).2.1 := by
 unfold Slt.save
 split
 ·exact Rw.refl _ D
 ·split
  ·exact ((Rw.refl _ D).write _ _ _ (by simp)).sync _
  ·exact (Rw.refl _ D).write _ _ _ (by simp)
theorem rw_wrL : ∀ (f : Nat) (o : WOp) (D : Dk), Rw [segA o.num] D (wrL f o D).2.1
 | 0, o, D => Rw.refl _ D
 | f + 1, o, D => by
  have hw := (Rw.refl [segA o.num] D).write (segA o.num) o.full (UInt8.ofNat (min o.rest.length 63) :: o.rest.take (min o.rest.length 63)) (by simp)
  rw [wrL_step]
  split
  ·exact hw
  ·split
   ·exact hw
   ·exact hw.trans (rw_wrL f { o with full := o.full + 1, rest := o.rest.drop 63 } _)
theorem rw_wrO (o : WOp) (b : List UInt8) (D : Dk) : Rw [segA o.num] D (wrO o b D).2.1 := rw_wrL (o.rest.length + b.length + 1) { o with rest := o.rest ++ b } D
theorem rw_wsync (A : List Int) (W : Wl) (D : Dk) : Rw A D (W.sync D).2 := by
 unfold Wl.sync
 split
 ·exact Rw.refl _ D
 ·split
  ·exact Rw.refl _ D
  ·exact (Rw.refl _ D).sync _
theorem rw_begin (W : Wl) (i : Nat) (D : Dk) : Rw [segA W.next] D (W.begin i D).2 := by
 unfold Wl.begin
 split
 ·exact rw_wsync _ W D
 ·exact (rw_wsync _ W D).trans (rw_wrO ⟨W.next, i, 0, []⟩ (uint i) _)
theorem rw_wlay (W : Wl) (A : List Int) (hA : ∀ q, W.op = some q -> segA q.num ∈ A) (b : List UInt8) (D : Dk) : Rw A D (wLay W b D).2.1 := by
 unfold wLay
 cases hop : W.op with
 | none => exact Rw.refl _ D
 | some q => exact (rw_wrO q (putBytes b) D).mono fun a ha => by simp only [List.mem_singleton] at ha; rw [ha]; exact hA q hop
theorem begin_num {W : Wl} {i : Nat} {D : Dk} (h : (W.begin i D).1.code = 0) : ∀ q, (W.begin i D).1.op = some q -> q.num = W.next := by
 intro q hq
 unfold Wl.begin at h hq
 split at hq
 ·rename_i h2
  rw [if_pos h2] at h
  exact absurd h h2
 ·simp only [Option.some.injEq] at hq
  rw [<- hq, (wrO_num _ _ _).1]
theorem rw_wappend (W : Wl) (b : List UInt8) (D : Dk) : Rk 1 D (W.append b D).2.1 := by
 unfold Wl.append
 split
 ·exact Rk.of D
 ·split
  ·exact Rk.of D
  ·split
   ·exact Rk.of D
   ·split
    ·have hb := rw_begin W (W.first + W.recs.length) D
     split
     ·exact ⟨_, Nat.le_refl _, hb⟩
     ·rename_i h2
      have hn := begin_num (Decidable.not_not.1 h2)
      exact ⟨[segA W.next], Nat.le_refl _, hb.trans (rw_wlay _ _ (fun q hq => by rw [hn q hq]; simp) b _)⟩
    ·cases hop : W.op with
     | none => exact ⟨[], Nat.zero_le _, rw_wlay W [] (fun q hq => by rw [hop] at hq; cases hq) b D⟩
     | some o => exact ⟨[segA o.num], Nat.le_refl _, rw_wlay W _ (fun q hq => by rw [hop] at hq; cases hq; simp) b D⟩
theorem begin_old (W : Wl) (i : Nat) (D : Dk) : (W.begin i D).1.old.length <= W.old.length + 1 := by
 unfold Wl.begin
 split
 ·rw [Wl.sync_eq]; exact Nat.le_succ _
 ·rw [Wl.sync_eq]; simp
theorem wlay_old (W : Wl) (b : List UInt8) (D : Dk) : (wLay W b D).1.old = W.old := by
 unfold wLay
 split <;> rfl
theorem append_old (W : Wl) (b : List UInt8) (D : Dk) : (W.append b D).1.old.length <= W.old.length + 1 := by
 unfold Wl.append
 split
 ·exact Nat.le_succ _
 ·split
  ·exact Nat.le_succ _
  ·split
   ·exact Nat.le_succ _
   ·split
    ·split
     ·exact begin_old _ _ _
     ·rw [wlay_old]; exact begin_old _ _ _
    ·rw [wlay_old]; exact Nat.le_succ _
structure Rn (c q : Nat) (L : Lg) (D : Dk) : Prop where
 lb : LBd c L
 ok : DOk c D
 old : L.w.old.length <= q
 ar : D.areas.length <= q
theorem Rn.up {c q c' q' : Nat} {L : Lg} {D : Dk} (o : Rn c q L D) (h : c <= c') (h' : q <= q') : Rn c' q' L D := ⟨o.lb.up h, o.ok.up h, by have := o.old; omega, by have := o.ar; omega⟩
theorem areasL_length (D : Dk) : (areasL D).length = D.areas.length := by unfold areasL; rw [(srtI_perm _).length_eq, List.length_map]
theorem rw_setHard (L : Lg) (D : Dk) (t : Nat) (v : Int) : Rk 1 D (L.setHard D t v).2.1 := by
 have h : Rk 1 D (L.hard.save 0 D (uint t ++ uint (v + 1).toNat)).2.1 := ⟨_, Nat.le_refl _, rw_save L.hard 0 D (uint t ++ uint (v + 1).toNat)⟩
 unfold Lg.setHard
 split
 ·exact Rk.of D
 ·split
  ·exact Rk.of D
  ·split
   ·exact Rk.of D
   ·split <;> exact h
theorem Rn.setHard {c q : Nat} {L : Lg} {D : Dk} (o : Rn c q L D) (t : Nat) (v : Int) (ht : t <= mxU) : Rn (c + 2) (q + 1) (L.setHard D t v).1 (L.setHard D t v).2.1 := by
 have hok : DOk (c + 2) (L.setHard D t v).2.1 := by
  have h := o.ok.save L.hard 0 (by omega) (uint t ++ uint (v + 1).toNat)
  unfold Lg.setHard
  split
  ·exact o.ok.up (by omega)
  ·split
   ·exact o.ok.up (by omega)
   ·split
    ·exact o.ok.up (by omega)
    ·split <;> exact h.up (by omega)
 refine ⟨(o.lb.setHard D t v ht).up (by omega), hok, ?_, ?_⟩
 ·have : (L.setHard D t v).1.w = L.w := by
   unfold Lg.setHard
   split
   ·rfl
   ·split
    ·rfl
    ·split
     ·rfl
     ·split <;> rfl
  rw [this]
  have := o.old
  omega
 ·have := (rw_setHard L D t v).len hok.ok
  have := o.ar
  omega
theorem app1_rw : ∀ (x : List Ent) (L : Lg) (D : Dk) (c : Nat), LBd c L -> DOk c D -> (∀ e ∈ x, entG e) -> c + 12 * x.length <= 999999990 -> Rk x.length D (Lg.app1 x L D).2.1 /\ (Lg.app1 x L D).1.w.old.length <= L.w.old.length + x.length
 | [], L, D, c, _, _, _, _ => ⟨Rk.of D, Nat.le_refl _⟩
 | e :: r, L, D, c, o, d, hx, hc => by
  simp only [List.length_cons] at hc
  have h1 := rw_wappend L.w e.bytes D
  have h2 := append_old L.w e.bytes D
  rw [app1_step]
  split
  ·exact ⟨h1.up (by simp only [List.length_cons]; omega), by dsimp only; simp only [List.length_cons]; omega⟩
  ·have h3 := app1_rw r _ _ (c + 12) (o.w2 e.bytes D e (hx e (by simp))) (d.append o.w (by omega) e.bytes) (fun y hy => hx y (by simp [hy])) (by omega)
   exact ⟨(h1.trans h3.1).up (by simp only [List.length_cons]; omega), by have := h3.2; dsimp only at this; simp only [List.length_cons]; omega⟩
theorem append_rw {c : Nat} {L : Lg} (o : LBd c L) {D : Dk} (d : DOk c D) (x : List Ent) (hx : ∀ e ∈ x, e.idx <= mxU /\ e.term <= mxU) (hc : c + 12 * x.length <= 999999990) : Rk x.length D (L.append x D).2.1 /\ (L.append x D).1.w.old.length <= L.w.old.length + x.length := by
 unfold Lg.append
 split
 ·exact ⟨Rk.of D, Nat.le_add_right _ _⟩
 ·split
  ·exact ⟨Rk.of D, Nat.le_add_right _ _⟩
  ·rename_i h
   have hok := fol_ok (Decidable.not_not.1 h)
   exact app1_rw x L D c o d (fun e he => ⟨hok e he, hx e he⟩) hc
theorem Rn.append {c q : Nat} {L : Lg} {D : Dk} (o : Rn c q L D) (x : List Ent) (hx : ∀ e ∈ x, e.idx <= mxU /\ e.term <= mxU) (hc : c + 12 * x.length <= 999999990) : Rn (c + 12 * x.length) (q + x.length) (L.append x D).1 (L.append x D).2.1 := by
 have h := append_rw o.lb o.ok x hx hc
 have h2 := o.lb.append o.ok x hx hc
 have hl := h.1.len h2.2.ok
 exact ⟨h2.1, h2.2, by have := o.old; omega, by have := o.ar; omega⟩
theorem rw_lsync (L : Lg) (D : Dk) : Rk 0 D (L.sync D).2.1 := by
 unfold Lg.sync
 split
 ·exact Rk.of D
 ·exact ⟨[], Nat.le_refl _, rw_wsync [] L.w D⟩
theorem lsync_old (L : Lg) (D : Dk) : (L.sync D).1.w.old = L.w.old := by
 unfold Lg.sync
 split
 ·rfl
 ·dsimp only; rw [Wl.sync_eq]
theorem Rn.sync {c q : Nat} {L : Lg} {D : Dk} (o : Rn c q L D) : Rn (c + 1) q (L.sync D).1 (L.sync D).2.1 :=
 ⟨(o.lb.sync D).up (by omega), o.ok.syncL L, by rw [lsync_old]; exact o.old, by have := (rw_lsync L D).len (o.ok.syncL L).ok; have := o.ar; omega⟩
end Go.En
end
section
namespace Go.Proofs.YtcncpbolcigpnaaGreat
open Go.En
attribute [local irreducible] Code.wp wpList Calls
def LgH (K : PH) (lb db : Nat) (L : Lg) (D : Dk) (h : PH) : Prop := ∃ m, h = uns m /\ Djs m /\ LgM K lb db L D m
theorem LgH.le {K K' : PH} (l : Le K K') {lb db : Nat} {L : Lg} {D : Dk} {h : PH} (x : LgH K lb db L D h) : LgH K' lb db L D h := let ⟨m, h1, h2, h3⟩ := x; ⟨m, h1, h2, h3.le l⟩
section
variable {w0 : World} {K h : PH} {hs : List PH}
theorem lgKeep {f : FuncId} {args : List Value} {lb db : Nat} {L : Lg} {D : Dk} {u : Value} (hL : LgH K lb db L D h) (c : ∀ m, LgM K lb db L D m -> Ct Tryz.prog w0 f args K (m ++ hs) (fun v K' hs' => K' = K /\ hs' = m ++ hs /\ v = u)) : Ct Tryz.prog w0 f args K (h :: hs) (fun v K' hs' => K' = K /\ hs' = h :: hs /\ v = u) := by
 obtain ⟨m, rfl, d, hm⟩ := hL
 refine Ct.bun2 d (c m hm) ?_
 rintro v K' hs' ⟨rfl, rfl, rfl⟩
 exact ⟨m, hs, rfl, fun _ => ⟨rfl, rfl, rfl⟩⟩
theorem lgRead {f : FuncId} {args : List Value} {lb db : Nat} {L : Lg} {D : Dk} {S : Value -> PH -> Prop} (hL : LgH K lb db L D h) (c : ∀ m, LgM K lb db L D m -> Ct Tryz.prog w0 f args K (m ++ hs) (fun v K' hs' => Le K K' /\ hs' = m ++ hs /\ S v K')) : Ct Tryz.prog w0 f args K (h :: hs) (fun v K' hs' => ∃ h', hs' = h' :: hs /\ h' = h /\ Le K K' /\ S v K') := by
 obtain ⟨m, rfl, d, hm⟩ := hL
 refine Ct.bun2 d (c m hm) ?_
 rintro v K' hs' ⟨le, rfl, hS⟩
 exact ⟨m, hs, rfl, fun _ => ⟨_, rfl, rfl, le, hS⟩⟩
theorem lgDo {f : FuncId} {args : List Value} {lb db : Nat} {L L' : Lg} {D D' : Dk} {u : Value} (hL : LgH K lb db L D h) (c : ∀ m, LgM K lb db L D m -> Ct Tryz.prog w0 f args K (m ++ hs) (fun v K' hs' => Le K K' /\ ∃ m', hs' = m' ++ hs /\ LgM K' lb db L' D' m' /\ v = u)) : Ct Tryz.prog w0 f args K (h :: hs) (fun v K' hs' => ∃ h', hs' = h' :: hs /\ Le K K' /\ LgH K' lb db L' D' h' /\ v = u) := by
 obtain ⟨m, rfl, d, hm⟩ := hL
 refine Ct.bun2 d (c m hm) ?_
 rintro v K' hs' ⟨le, m', rfl, hm', rfl⟩
 exact ⟨m', hs, rfl, fun d' => ⟨_, rfl, le, ⟨m', rfl, d', hm'⟩, rfl⟩⟩
variable (lb db : Nat) (L : Lg) (D : Dk) (c : Nat)
theorem hardH (hL : LgH K lb db L D h) : Ct Tryz.prog w0 26 [.pointer (some ⟨lb, 0, none⟩)] K (h :: hs) (fun v K' hs' => K' = K /\ hs' = h :: hs /\ v = .agg #[.int .u64 ((L.kt : Nat) : Int), .int .i64 L.kv]) :=
 lgKeep hL fun m hm => hardLC lb db L D hm
theorem lastH (hb : LBd c L) (hc : c <= 1000000000) (hL : LgH K lb db L D h) : Ct Tryz.prog w0 9 [.pointer (some ⟨lb, 0, none⟩)] K (h :: hs) (fun v K' hs' => K' = K /\ hs' = h :: hs /\ v = .int .u64 ((L.sn.idx + L.l.length : Nat) : Int)) :=
 lgKeep hL fun m hm => lastLC lb db L D c hb hc hm
theorem termH (hb : LBd c L) (hc : c <= 1000000000) (hL : LgH K lb db L D h) (i : Nat) (hi : i < 18446744073709551616) : Ct Tryz.prog w0 57 [.pointer (some ⟨lb, 0, none⟩), .int .u64 ((i : Nat) : Int)] K (h :: hs) (fun v K' hs' => K' = K /\ hs' = h :: hs /\ v = okT (trm L.sn L.l i)) :=
 lgKeep hL fun m hm => termLC lb db L D c hb hc hm i hi
theorem snapH (hb : LBd c L) (hL : LgH K lb db L D h) : Ct Tryz.prog w0 43 [.pointer (some ⟨lb, 0, none⟩)] K (h :: hs) (fun v K' hs' => ∃ h', hs' = h' :: hs /\ h' = h /\ Le K K' /\ SnpS K' L.sn v) :=
 lgRead hL fun m hm => snapLC lb db L D c hb hm
theorem configH (hb : LBd c L) (hc : c <= 1000000000) (hL : LgH K lb db L D h) (up : Nat) (hup : up <= mxU) : Ct Tryz.prog w0 59 [.pointer (some ⟨lb, 0, none⟩), .int .u64 ((up : Nat) : Int)] K (h :: hs)
  (fun v K' hs' => ∃ h', hs' = h' :: hs /\ h' = h /\ Le K K' /\ ∃ ao cap, v = .tuple #[.agg #[.slice ao (cfgAt L.sn L.l up).1.length cap], .int .u64 (((cfgAt L.sn L.l up).2 : Nat) : Int)] /\ IsS K' ao (cfgAt L.sn L.l up).1.length cap 1 (iv (cfgAt L.sn L.l up).1)) :=
 lgRead hL fun m hm => configLC lb db L D c hb hc hm up hup
theorem syncH' (hb : LBd c L) (hc : c <= 1000000000) (oD : DOk c D) (hL : LgH K lb db L D h) : Ct Tryz.prog w0 55 [.pointer (some ⟨lb, 0, none⟩)] K (h :: hs)
  (fun v K' hs' => ∃ h', hs' = h' :: hs /\ Le K K' /\ LgH K' lb db (L.sync D).1 (L.sync D).2.1 h' /\ v = .int .i64 (L.sync D).2.2) :=
 lgDo hL fun m hm => (syncLC lb db L D c hb hc oD hm).mono fun v K' hs' ⟨e, g⟩ => by subst e; exact ⟨Le.refl _, g⟩
theorem setHardH (hb : LBd c L) (hc : c <= 1000000000) (oD : DOk c D) (hL : LgH K lb db L D h) (t : Nat) (v : Int) (ht : t <= mxU) (hv : -9223372036854775808 <= v /\ v <= 9223372036854775807) : Ct Tryz.prog w0 111 [.pointer (some ⟨lb, 0, none⟩), .agg #[.int .u64 ((t : Nat) : Int), .int .i64 v]] K (h :: hs)
  (fun u K' hs' => ∃ h', hs' = h' :: hs /\ Le K K' /\ LgH K' lb db (L.setHard D t v).1 (L.setHard D t v).2.1 h' /\ u = .int .i64 (L.setHard D t v).2.2) :=
 lgDo hL fun m hm => setHardLC lb db L D c hb hc oD hm t v ht hv
theorem appendH (hb : LBd c L) (oD : DOk c D) (hL : LgH K lb db L D h) (ao : Option Addr) (cap : Nat) (x : List Ent) (xs : SlS 4 (EntC K) K ao x.length cap x) (hx : ∀ e ∈ x, entB e) (hc : c + 12 * x.length <= 999999000) : Ct Tryz.prog w0 54 [.pointer (some ⟨lb, 0, none⟩), .slice ao x.length cap] K (h :: hs)
  (fun u K' hs' => ∃ h', hs' = h' :: hs /\ Le K K' /\ LgH K' lb db (L.append x D).1 (L.append x D).2.1 h' /\ u = .int .i64 (L.append x D).2.2) :=
 lgDo hL fun m hm => appendLC lb db L D c hb oD hm ao cap x xs hx hc
end
theorem openH {w0 : World} {K dh : PH} {hs : List PH} (db : Nat) (D : Dk) (c : Nat) (oD : DOk c D) (hc : c <= 199000000) (hd : DskH K db D dh) (first : List Int) (hfl : first.length <= 1000000) (aF : Option Addr) (cF : Nat) (xF : IsS K aF first.length cF 1 (iv first)) :
  Ct Tryz.prog w0 16 [.pointer (some ⟨db, 0, none⟩), .agg #[.slice aF first.length cF]] K (dh :: hs)
   (fun v K' hs' => ∃ h', hs' = h' :: hs /\ Le K K' /\ (((lOpen D first).1 = none /\ v = .tuple #[.pointer none, .int .i64 (lOpen D first).2.2] /\ DskH K' db (lOpen D first).2.1 h') \/
    (∃ L lb, (lOpen D first).1 = some L /\ v = .tuple #[.pointer (some ⟨lb, 0, none⟩), .int .i64 (lOpen D first).2.2] /\ LgH K' lb db L (lOpen D first).2.1 h'))) := by
 refine Ct.fix2 (openLC db D c oD hc hd first hfl aF cF xF) ?_
 rintro w v K' hs' hS ⟨le, ⟨h1, rfl, dh', rfl, hD⟩ | ⟨L, lb, m, h1, rfl, rfl, hm⟩⟩
 ·exact ⟨K', _, ⟨dh', rfl, le, .inl ⟨h1, rfl, hD⟩⟩, hS⟩
 ·obtain ⟨d, hS'⟩ := Sat.join m hS
  exact ⟨K', _, ⟨_, rfl, le, .inr ⟨L, lb, h1, rfl, m, rfl, d, hm⟩⟩, hS'⟩
end Go.Proofs.YtcncpbolcigpnaaGreat
end
