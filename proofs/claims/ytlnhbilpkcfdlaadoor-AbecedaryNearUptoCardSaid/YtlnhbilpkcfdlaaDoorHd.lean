/-
  Package fuzzy: All's closures, and All, over a chain.
  The law AbecedaryNear.
-/
import Derived.Test.YtlnhbilpkcfdlaaDoorHa
import Derived.Test.YtlnhbilpkcfdlaaDoorSa
set_option linter.unusedSimpArgs false
set_option linter.unusedVariables false
namespace Go.Proofs.YtlnhbilpkcfdlaaDoor
open Go.En
set_option linter.unusedVariables false
attribute [local irreducible] Code.wp wpList Calls
theorem cloFC {w0 : World} {K : PH} {hs : List PH} (w x : List Nat) (o : Nat) (base : Int) (bW bL b3 b8 b10 b11 b12 : Nat) (hK : FzK K w x o base bW bL b3 b8 b10 b11 b12) (hx : LtW x) (hxl : x.length ≤ 24) (hb : 0 ≤ base ∧ base ≤ 1048576)
    (p : List Nat) (c : Nat) (r : List Nat) (hpr : x = p ++ c :: r) (bA bH bS bR : Nat) (aoH : Option Addr) (cH : Nat) (cA : ∀ (j : Nat) v, (arcV ⟨(c : Int), 0, (r.length : Int)⟩)[j]? = some v → Cell K ((⟨bA, 0, none⟩ : Addr).add j) v)
    (cHd : Cell K ⟨bH, 0, none⟩ (.slice aoH p.length cH)) (xH : IsS K aoH p.length cH 1 (rvv p)) (cS : Cell K ⟨bS, 0, none⟩ (.int .i64 base)) (cR : ∀ (j : Nat) v, (rowA (levF w x o p.length)).toList[j]? = some v → Cell K ((⟨bR, 0, none⟩ : Addr).add j) v)
    (m : List PH) (hm : FzO b10 b11 [] [] m) :
    Ct Tryd.prog w0 34 [.pointer (some ⟨b12, 0, none⟩), .pointer (some ⟨bA, 0, none⟩), .pointer (some ⟨bH, 0, none⟩), .pointer (some ⟨bS, 0, none⟩), .pointer (some ⟨b8, 0, none⟩), .pointer (some ⟨bR, 0, none⟩)]
      K (m ++ hs) (fun v K' hs' => FzR w x o base b8 b10 b11 b12 (p ++ [c]) r K hs K' hs') := by
  have hlx : x.length = p.length + (r.length + 1) := by rw [hpr]; simp
  have hgd : x.getD p.length 0 = c := by rw [hpr]; simp
  have hrow : (fun j => if j < w.length + 1 then levT w o c (cutF w.length o (levF w x o p.length)) j else 0) = levF w x o (p.length + 1) := funext fun j => by rw [← levF_next, hgd]
  have hlen : (p ++ [c]).length = p.length + 1 := by simp
  have hnone : aoH = none → p.length = 0 := fun h => by
    rcases Nat.eq_zero_or_pos p.length with h2 | h2
    · exact h2
    · obtain ⟨a, ha⟩ := xH.addr h2 (by decide); rw [h] at ha; cases ha
  have xC : IsS K (cutA aoH p.length 0 1) p.length p.length 1 (rvv p) := by rw [cutA_0]; exact ⟨xH.1, Nat.le_refl _, xH.2.2⟩
  have c1 : Cell K ⟨bA, 2, none⟩ (.int .i64 ((r.length : Nat) : Int)) := by have := cA 2 _ rfl; rwa [add_mk] at this
  have c2 : Cell K ⟨bA, 0, none⟩ (.int .i32 ((c : Nat) : Int)) := by have := cA 0 _ rfl; rwa [add_mk] at this
  have c3 : Cell K ⟨bA, 1, none⟩ (.int .i64 0) := by have := cA 1 _ rfl; rwa [add_mk] at this
  refine enter Tryd.func34 (by kernel_rfl) rfl rfl rfl ?_
  refine rga [] 19 [0, 2, 4, 6, 10, 12, 18, 20, 22, 24, 26, 28, 30, 32, 9, 15, 17, 35, 37] (by simp) (by kernel_rfl) (by kernel_rfl) ?_
  refine dld hT (by kernel_rfl) 0 rfl (.inl rfl) hK.c12 ?_
  refine dld hT (by kernel_rfl) 1 rfl (.inl rfl) c1 ?_
  refine dld hT (by kernel_rfl) 0 rfl (.inl rfl) cHd ?_
  refine dld hT (by kernel_rfl) 1 rfl (.inl rfl) c2 ?_
  refine dld hT (by kernel_rfl) 0 rfl (.inl rfl) cS ?_
  refine dld hT (by kernel_rfl) 1 rfl (.inl rfl) c3 ?_
  refine dar hT (by kernel_rfl) 0 rfl (v' := .int .i64 base) (by rw [Int.add_zero]; exact i64w (by omega)) ?_
  refine dld hT (by kernel_rfl) 0 rfl (.inl rfl) hK.c8 ?_
  refine dlds hT (by kernel_rfl) 0 (rowA (levF w x o p.length)).toList rfl (by kernel_rfl) (by rw [Array.length_toList, rowA_size]; kernel_rfl) (.inl rfl) cR ?_
  rw [Array.toArray_toList]
  refine dld hT (by kernel_rfl) 1 rfl (.inl rfl) c2 ?_
  refine dfork 7 hT (by kernel_rfl) 0 [9, 17, 35, 37] rfl (by kernel_rfl) ?_ ?_
  · refine cl hT 0 rfl (clipC aoH p.length cH xH.2.1) ?_
    rintro v10 K10 hs10 ⟨rfl, rfl, rfl⟩
    refine dnex [] (by simp) (by simp) rfl ?_
    refine dact hT (by kernel_rfl) 0 rfl ?_
    refine lit hT 0 #[.int .i32 ((c : Nat) : Int)] rfl (by decide) (by kernel_rfl) fun b13 => ?_
    refine dnex [] (by simp) (by simp) rfl ?_
    refine dact hT (by kernel_rfl) 0 rfl ?_
    refine appf hT 0 rfl (.inl rfl) xC (by rw [cutA_0]; exact hnone) (.inr ⟨0, rfl⟩) (Own.ofPt (b := b13) (c := #[.int .i32 ((c : Nat) : Int)]) (e := 21) (n := 1) (size := 1) rfl (by simp [maxLen])).isS rfl (by decide) (by omega) (by show (p.length + 1) * 4 ≤ _; omega) (by simp only [maxLen]; omega) fun ao14 c14 g14 o14 => WL.frz fun K2 le2 l2 => WL.drop ?_
    refine dnexL [] (by simp) (by simp) le2 ?_
    refine dact hT (by kernel_rfl) 0 rfl ?_
    refine cl hT 0 rfl (stepC bL w o c (levF w x o p.length) (hK.le le2).lv) ?_
    rintro v23 K23 hs23 ⟨rfl, rfl, rfl⟩
    rw [hrow]
    refine dnex [] (by simp) (by simp) rfl ?_
    refine dact hT (by kernel_rfl) 0 rfl ?_
    have xN : IsS K23 ao14 (p ++ [c]).length c14 1 (rvv (p ++ [c])) := by
      rw [hlen, rvv_append]
      exact o14.isS.le l2
    have hv := visitFC (w0 := w0) (hs := hs) w x o base bW bL b3 b8 b10 b11 b12 (hK.le le2) hx hxl hb (p ++ [c]) r (by rw [hpr]; simp) ao14 c14 xN m hm
    rw [hlen] at hv
    refine cl hT 0 rfl hv ?_
    rintro v24 K24 hs24 ⟨le24, hR⟩
    refine dnexL [] (by simp) (by simp) le24 ?_
    refine dend hT (by kernel_rfl) 0 rfl (?_)
    exact end0 rfl ⟨le2.trans le24, hR⟩
  · refine lit hT 0 #[.int .i32 ((c : Nat) : Int)] rfl (by decide) (by kernel_rfl) fun b13 => ?_
    refine dnex [] (by simp) (by simp) rfl ?_
    refine dact hT (by kernel_rfl) 0 rfl ?_
    refine cl hT 0 rfl (clipC aoH p.length cH xH.2.1) ?_
    rintro v10 K10 hs10 ⟨rfl, rfl, rfl⟩
    refine dnex [] (by simp) (by simp) rfl ?_
    refine dact hT (by kernel_rfl) 0 rfl ?_
    refine appf hT 0 rfl (.inl rfl) xC (by rw [cutA_0]; exact hnone) (.inr ⟨0, rfl⟩) (Own.ofPt (b := b13) (c := #[.int .i32 ((c : Nat) : Int)]) (e := 21) (n := 1) (size := 1) rfl (by simp [maxLen])).isS rfl (by decide) (by omega) (by show (p.length + 1) * 4 ≤ _; omega) (by simp only [maxLen]; omega) fun ao14 c14 g14 o14 => WL.frz fun K2 le2 l2 => WL.drop ?_
    refine dnexL [] (by simp) (by simp) le2 ?_
    refine dact hT (by kernel_rfl) 0 rfl ?_
    refine cl hT 0 rfl (stepC bL w o c (levF w x o p.length) (hK.le le2).lv) ?_
    rintro v23 K23 hs23 ⟨rfl, rfl, rfl⟩
    rw [hrow]
    refine dnex [] (by simp) (by simp) rfl ?_
    refine dact hT (by kernel_rfl) 0 rfl ?_
    have xN : IsS K23 ao14 (p ++ [c]).length c14 1 (rvv (p ++ [c])) := by
      rw [hlen, rvv_append]
      exact o14.isS.le l2
    have hv := visitFC (w0 := w0) (hs := hs) w x o base bW bL b3 b8 b10 b11 b12 (hK.le le2) hx hxl hb (p ++ [c]) r (by rw [hpr]; simp) ao14 c14 xN m hm
    rw [hlen] at hv
    refine cl hT 0 rfl hv ?_
    rintro v24 K24 hs24 ⟨le24, hR⟩
    refine dnexL [] (by simp) (by simp) le24 ?_
    refine dend hT (by kernel_rfl) 0 rfl (?_)
    exact end0 rfl ⟨le2.trans le24, hR⟩

theorem allFC {w0 : World} {K : PH} {hs : List PH} (word : List UInt8) (k : Int) (x : List Nat) (base : Int) (bW : Nat) (hW : WalkK K bW base (chn x)) (hx : LtW x) (hxl : x.length ≤ 24) (hb : 0 ≤ base ∧ base ≤ 1048576) (hw : wordP word ∧ 0 ≤ k ∧ k ≤ 3) (hG : LeastK K) :
    Ct Tryd.prog w0 15 [.pointer (some ⟨bW, 0, none⟩), str word, .int .i64 k] K hs
      (fun v K' hs' => Le K K' ∧ hs' = hs ∧ ∃ aoF cF, v = .tuple #[.slice aoF (ansP (rl word) x (k.toNat + 1) base).length cF, .int .i64 0] ∧ SlS 3 mtR K' aoF (ansP (rl word) x (k.toNat + 1) base).length cF (ansP (rl word) x (k.toNat + 1) base)) := by
  have hlen := chn_len x
  refine enter Tryd.func15 (by kernel_rfl) rfl rfl rfl ?_
  refine sq (rg (?_))
  refine bx hT 0 rfl fun b3 => ?_
  refine fin hT 2 rfl (th (sq (WC.frz fun K1 le1 l3 => rg (?_))))
  have c3 : Cell K1 ⟨b3, 0, none⟩ (.pointer (some ⟨bW, 0, none⟩)) := (Cell.pt rfl).le l3
  refine cl hT 2 rfl (newC word k (fun j hj => (hG j hj).le le1)) ?_
  rintro v17 K2 hs17 ⟨le2, rfl, ⟨hn, _⟩ | ⟨_, bL, rfl, hL⟩⟩
  · exact absurd hw hn
  refine al hT 3 (.pointer none) rfl (by kernel_rfl) fun b8 => ?_
  refine stp hT 0 0 rfl rfl rfl rfl ?_
  refine fin hT 1 rfl (th (sq (sq (WC.frz fun K3 le3 l8 => rg (?_)))))
  have c8 : Cell K3 ⟨b8, 0, none⟩ (.pointer (some ⟨bL, 0, none⟩)) := (Cell.pt rfl).le l8
  refine cmp hT 1 rfl (fun h21 => absurd rfl h21) (fun h21 => ?_)
  refine fin hT 0 rfl (th (ifF rfl (sk (th (sq (rg (?_)))))))
  refine al hT 0 (.slice none 0 0) rfl (by kernel_rfl) fun b10 => ?_
  refine fin hT 0 rfl (th (sq (WC.em (rg (?_)))))
  refine al hT 0 (.slice none 0 0) rfl (by kernel_rfl) fun b11 => ?_
  refine fin hT 0 rfl (th (sq (WC.em (rg (?_)))))
  refine al hT 0 (.nilFunc) rfl (by kernel_rfl) fun b12 => ?_
  refine fin hT 0 rfl (th (sq (rg (?_))))
  refine stp hT 1 0 rfl rfl rfl rfl ?_
  refine fin hT 0 rfl (th (WC.frz fun K4 le4 l12 => WC.perm (List.Perm.trans (perm_front _ 3 _ rfl) (List.Perm.cons _ (List.Perm.trans (perm_front _ 2 _ rfl) (List.Perm.cons _ (List.Perm.swap _ _ _))))) (sq (rga [] 8 [0, 2, 6, 10, 5, 9, 13, 15] (by simp) (by kernel_rfl) (by kernel_rfl) ?_))))
  have c12 : Cell K4 ⟨b12, 0, none⟩ (vFn b3 b8 b10 b11 b12) := (Cell.pt rfl).le l12
  have le14 : Le K1 K4 := le2.trans (le3.trans le4)
  have le04 : Le K K4 := le1.trans le14
  have hK : FzK K4 (rl word) x (k.toNat + 1) base bW bL b3 b8 b10 b11 b12 := ⟨c3.le le14, WalkK.le le04 hW, c8.le le4, hL.le (le3.trans le4), c12, fun j hj => (hG j hj).le le04⟩
  refine dld hT (by kernel_rfl) 0 rfl (.inl rfl) hK.c12 ?_
  refine dld hT (by kernel_rfl) 0 rfl (.inl rfl) hK.c3 ?_
  refine dld hT (by kernel_rfl) 0 rfl (.inl rfl) hK.c3 ?_
  refine dld hT (by kernel_rfl) 0 rfl (.inl rfl) hK.c8 ?_
  refine dact hT (by kernel_rfl) 0 rfl ?_
  refine cl hT 0 rfl (rootC bW base (chn x) hK.wk (by omega)) ?_
  rintro v26 K26 hs26 ⟨rfl, rfl, rfl⟩
  rw [show ((chn x).length : Int) - 1 = ((x.length : Nat) : Int) from by omega]
  refine dnex [] (by simp) (by simp) rfl ?_
  refine dact hT (by kernel_rfl) 0 rfl ?_
  refine cl hT 0 rfl (baseC bW base (chn x) hK.wk) ?_
  rintro v28 K28 hs28 ⟨rfl, rfl, rfl⟩
  refine dnex [] (by simp) (by simp) rfl ?_
  refine dact hT (by kernel_rfl) 0 rfl ?_
  refine cl hT 0 rfl (startC bL (rl word) (k.toNat + 1) hK.lv) ?_
  rintro v30 K30 hs30 ⟨rfl, rfl, rfl⟩
  rw [show startF (rl word).length (k.toNat + 1) = levF (rl word) x (k.toNat + 1) ([] : List Nat).length from funext fun j => levF_start (rl word) x (k.toNat + 1) j]
  refine dnex [] (by simp) (by simp) rfl ?_
  refine dact hT (by kernel_rfl) 0 rfl ?_
  refine cl hT 0 rfl (visitFC (rl word) x (k.toNat + 1) base bW bL b3 b8 b10 b11 b12 hK hx hxl hb [] x rfl none 0 (IsS.nil _ _ _ _) [pt b10 #[.slice none 0 0] 52, em, pt b11 #[.slice none 0 0] 92, em] ⟨none, 0, em, none, 0, em, rfl, SlO.nil _ _, Own.nil _ _⟩) ?_
  rintro v31 K31 hs31 ⟨le31, m', F, T, rfl, hm', hR⟩
  refine dnexL [] (by simp) (by simp) le31 ?_
  have hst : ∃ fu, (T = [] ∧ F = ansP (rl word) x (k.toNat + 1) base) ∨ (F = [] ∧ ∃ p c r V, x = p ++ c :: r ∧ fu = r.length + 1 ∧ T = [V] ∧ Clo K31 (rl word) x (k.toNat + 1) base b8 b12 V p c r) := by
    rcases hR with h | ⟨h1, c, r', V, h2, h3, h4⟩
    · exact ⟨0, .inl h⟩
    · exact ⟨r'.length + 1, .inr ⟨h1, [], c, r', V, h2, rfl, h3, h4⟩⟩
  obtain ⟨fu, hst⟩ := hst
  refine dend hT (by kernel_rfl) 0 rfl (th (sq (bk (?_))))
  refine loop (σ := Nat × PH × List MtP × List Value × List PH) (fun s => [(10, .pointer (some ⟨b10, 0, none⟩)), (11, .pointer (some ⟨b11, 0, none⟩))]) (fun s => s.2.1) (fun s => s.2.2.2.2 ++ hs17)
    (fun s => Le K30 s.2.1 ∧ FzO b10 b11 s.2.2.1 s.2.2.2.1 s.2.2.2.2 ∧ ((s.2.2.2.1 = [] ∧ s.2.2.1 = ansP (rl word) x (k.toNat + 1) base) ∨ (s.2.2.1 = [] ∧ ∃ p c r V, x = p ++ c :: r ∧ s.1 = r.length + 1 ∧ s.2.2.2.1 = [V] ∧ Clo s.2.1 (rl word) x (k.toNat + 1) base b8 b12 V p c r)))
    (fun s => s.1) (fu, K31, F, T, m') ⟨le31, hm', hst⟩ ⟨rfl, rfl, trivial⟩ rfl rfl ?_
  rintro ⟨fu, K5, F, T, m⟩ ⟨le5, hm, hst⟩
  dsimp only at *
  obtain ⟨aoF, cF, gF, aoT, cT, gT, rfl, oF, oT⟩ := hm
  refine sq (sq (rg (?_)))
  refine ldp hT 0 2 rfl rfl rfl ?_
  rcases hst with ⟨rfl, rfl⟩ | ⟨rfl, p, c, r, V, hpr, rfl, rfl, hC⟩
  · refine cmp hT 1 rfl (fun h => absurd h (by decide)) (fun _ => ?_)
    refine fin hT 0 rfl (th (ifF rfl (?_)))
    refine ex (xt (xt (xb (th (sq (rg (?_)))))))
    refine ldp hT 0 0 rfl rfl rfl ?_
    refine fin hT 2 rfl (th (rt (WQ.drop (WQ.frz fun K6 le6 l6 => WQ.drop (WQ.drop ?_)))))
    exact ret2 rfl rfl rfl ⟨le04.trans (le5.trans le6), rfl, aoF, cF, rfl, oF.slS.le l6 fun _ _ h => h⟩
  · obtain ⟨bA, bH, bS, bR, aoH, cH, rfl, cA, cHd, xH, cS, cR⟩ := hC
    have xT := oT.isS
    refine cmp hT 1 rfl (fun _ => ?_) (fun h => absurd (by simp) h)
    refine fin hT 0 rfl (th (ifT rfl (?_)))
    refine sk (th (bk (sq (rg (?_)))))
    refine ldp hT 0 2 rfl rfl rfl ?_
    refine ldp hT 0 2 rfl rfl rfl ?_
    refine ar hT 1 rfl (i64w (x := 0) (by omega)) ?_
    refine ix1 hT 0 0 rfl rfl rfl xT rfl fun a39 hc39 => ?_
    refine ld hT 0 rfl (.inr ⟨3, rfl⟩) hc39 ?_
    refine fin hT 1 rfl (th (sq (rg (?_))))
    refine ldp hT 0 2 rfl rfl rfl ?_
    refine ldp hT 0 2 rfl rfl rfl ?_
    refine ar hT 1 rfl (i64w (x := 0) (by omega)) ?_
    refine slx hT 0 0 0 rfl rfl rfl (Nat.zero_le _) ?_
    rw [cutA_0]
    refine stp hT 0 2 rfl rfl rfl rfl ?_
    refine fin hT 0 rfl (th (rg (?_)))
    have oT0 : Own gT aoT 0 cT 1 1 [] := by simpa using oT.pre 0 (Nat.zero_le _)
    refine cl hT 1 rfl (cloFC (rl word) x (k.toNat + 1) base bW bL b3 b8 b10 b11 b12 (hK.le le5) hx hxl hb p c r hpr bA bH bS bR aoH cH cA cHd xH cS cR [pt b10 #[.slice aoF 0 cF] 52, gF, pt b11 #[.slice aoT 0 cT] 92, gT] ⟨aoF, cF, gF, aoT, cT, gT, rfl, oF, oT0⟩) ?_
    rintro v47 K47 hs47 ⟨le47, m', F, T, rfl, hm', hR⟩
    refine fin hT 0 rfl (bl (?_))
    have hst : ∃ fu, fu < r.length + 1 ∧ ((T = [] ∧ F = ansP (rl word) x (k.toNat + 1) base) ∨ (F = [] ∧ ∃ p c r V, x = p ++ c :: r ∧ fu = r.length + 1 ∧ T = [V] ∧ Clo K47 (rl word) x (k.toNat + 1) base b8 b12 V p c r)) := by
      rcases hR with h | ⟨h1, c', r', V, h2, h3, h4⟩
      · exact ⟨0, by omega, .inl h⟩
      · exact ⟨r'.length + 1, by rw [h2]; simp, .inr ⟨h1, p ++ [c], c', r', V, by rw [hpr, h2]; simp, rfl, h3, h4⟩⟩
    obtain ⟨fu, hfu, hst⟩ := hst
    exact again (x := (r.length + 1, K5, [], [], [])) (fu, K47, F, T, m') ⟨rfl, rfl, trivial⟩ rfl rfl ⟨le5.trans le47, hm', hst⟩ hfu
end Go.Proofs.YtlnhbilpkcfdlaaDoor
namespace Go.Proofs.YtlnhbilpkcfdlaaDoor
open Go.En
set_option linter.unusedVariables false
attribute [local irreducible] Code.wp wpList Calls
theorem eqMt (m : MtP) (w : World) : (Op.equalIn 10000 56 (.agg (mtV m).toArray) (.agg (mtV m).toArray)).run Tryd.prog w = .ok true w := by
  have u3 := Tryd.underlying3
  have a3 := Tryd.isAgg3
  have z3 := Tryd.sizeOf3
  have u4 := Tryd.underlying9
  have a4 := Tryd.isAgg9
  have z4 := Tryd.sizeOf9
  have hS : Tryd.prog.underlying 56 = some (.struct (Tryd.prog.fieldsOf 56)) := by kernel_rfl
  have es : ∀ (s : List UInt8) (w : World), (Op.equalIn 9999 9 (str s) (str s)).run Tryd.prog w = .ok true w := fun s w => by unfold str; go_simp
  unfold mtV
  rw [show (10000 : Nat) = 9999 + 1 from rfl, run_equalIn_agg w 9999 56 _ _ hS (by kernel_rfl)]
  simp only [Program.fieldsOf, Tryd.underlying56]
  go_simp
  try simp [es]
theorem lawNear {w0 : World} {K : PH} {hs : List PH} (word other : List UInt8) (k : Int) (hk : -9223372036854775808 ≤ k ∧ k ≤ 9223372036854775807) (hG : LeastK K) : Ct Tryd.prog w0 3 [str word, str other, .int .i64 k] K hs
    (fun v K' hs' => Le K K' ∧ v = .bool true) := by
  refine enter Tryd.func3 (by kernel_rfl) rfl rfl rfl ?_
  refine sq (rg (?_))
  refine fin hT 1 rfl (th (sq (rg (?_))))
  refine cl hT 2 rfl (newC word k hG) ?_
  rintro v30 K1 hs30 ⟨le1, rfl, ⟨hn, rfl⟩ | ⟨hw, bL, rfl, hL⟩⟩
  · have hG1 : LeastK K1 := fun j hj => (hG j hj).le le1
    refine fin hT 5 rfl (th (sq (sq (rg (?_)))))
    refine cmp hT 1 rfl (fun h => ?_) (fun h => absurd (by decide) h)
    refine fin hT 5 rfl (th (ifT rfl ?_))
    refine sq (rg (?_))
    refine cmp hT 1 rfl (fun h41 => ?_) (fun h41 => ?_)
    · refine cmp hT 10 rfl (fun h => ?_) (fun h => absurd (by decide) h)
      refine fin hT 2 rfl (th (rt (rT (?_))))
      exact ret1 rfl rfl ⟨le1, rfl⟩
    · refine cmp hT 2 rfl (fun h44 => ?_) (fun h44 => ?_)
      · refine cmp hT 7 rfl (fun h => ?_) (fun h => absurd (by decide) h)
        refine fin hT 2 rfl (th (rt (rT (?_))))
        exact ret1 rfl rfl ⟨le1, rfl⟩
      · refine cl hT 3 rfl (wordC word hG1) ?_
        rintro v48 K48 hs48 ⟨rfl, rfl, t48, rfl, h48⟩
        obtain rfl : t48 = false := by
          cases t48 with
          | false => rfl
          | true => exact absurd ⟨h48.1 rfl, by omega, by omega⟩ hn
        refine cmp hT 3 rfl (fun h => ?_) (fun h => absurd (by decide) h)
        refine fin hT 2 rfl (th (rt (rT (?_))))
        exact ret1 rfl rfl ⟨le1, rfl⟩
  · have hG1 : LeastK K1 := fun j hj => (hG j hj).le le1
    refine fin hT 5 rfl (th (sq (sq (rg (?_)))))
    refine cmp hT 1 rfl (fun h => absurd rfl h) (fun h => ?_)
    refine cl hT 2 rfl (wordC other hG1) ?_
    rintro v37 K37 hs37 ⟨rfl, rfl, t37, rfl, h37⟩
    cases t37 with
    | false =>
      refine fin hT 2 rfl (th (ifT rfl ?_))
      refine sq (rg (?_))
      refine cmp hT 1 rfl (fun h41 => absurd h41 (by omega)) (fun h41 => ?_)
      refine cmp hT 2 rfl (fun h41 => absurd h41 (by omega)) (fun h44 => ?_)
      refine cl hT 3 rfl (wordC word hG1) ?_
      rintro v48 K48 hs48 ⟨rfl, rfl, t48, rfl, h48⟩
      obtain rfl : t48 = true := h48.2 hw.1
      refine cmp hT 3 rfl (fun h => absurd rfl h) (fun h => ?_)
      refine fin hT 2 rfl (th (rt (rT (?_))))
      exact ret1 rfl rfl ⟨le1, rfl⟩
    | true =>
      have ho : wordP other := h37.1 rfl
      refine fin hT 2 rfl (th (ifF rfl ?_))
      refine sk (th (sq (rg (?_))))
      refine cl hT 2 rfl (distC word other hw.1 ho hG1) ?_
      rintro v57 K57 hs57 ⟨rfl, rfl, rfl⟩
      refine fin hT 5 rfl (th (sq (rg (?_))))
      refine cl hT 2 rfl (pathC word other hw.1 ho hG1) ?_
      rintro v63 K63 hs63 ⟨rfl, rfl, ao63, c63, rfl⟩
      refine fin hT 5 rfl (th (sq (sq (rg (?_)))))
      obtain ⟨w, hwE⟩ : ∃ w, w = rl word := ⟨_, rfl⟩
      obtain ⟨x, hxE⟩ : ∃ x, x = rl other := ⟨_, rfl⟩
      obtain ⟨D, hDE⟩ : ∃ D, D = far word other := ⟨_, rfl⟩
      have hDd : D = dd w x w.length x.length := by rw [hDE, hwE, hxE]; rfl
      have hw24 : w.length ≤ 24 := by rw [hwE]; exact hw.1.2.2.2.2
      have hx24 : x.length ≤ 24 := by rw [hxE]; exact ho.2.2.2.2
      have hx1 : 1 ≤ x.length := by rw [hxE]; exact ho.2.2.2.1
      have hxL : LtW x := by rw [hxE]; exact wordP_ltw ho
      have hDb : D ≤ 48 := by rw [hDd]; have := dd_le w x w.length x.length; omega
      rw [← hDE]
      refine ar hT 10 rfl (i64w (x := ((D + 1 : Nat) : Int)) (by omega)) ?_
      refine cmp hT 0 rfl (fun h => absurd rfl h) (fun h => ?_)
      refine cl hT 5 rfl (withinC word other k hw.1 ho hG1) ?_
      rintro v83 K83 hs83 ⟨rfl, rfl, t83, rfl, h83⟩
      rw [← hDE] at h83
      refine cmpS hT 2 rfl fun b86 h86 => ?_
      refine cbS hT 0 False rfl (by
        have : t83 = b86 := by rw [Bool.eq_iff_iff, h83, h86]
        subst this
        simp) fun b87 h87 => ?_
      refine fin hT 1 rfl (th (ifP h87 rfl (fun h => h.elim) (fun _ => ?_)))
      refine sk (th (sq (rg (?_))))
      refine cl hT 1 rfl (startC bL (rl word) (k.toNat + 1) hL) ?_
      rintro v90 K90 hs90 ⟨rfl, rfl, rfl⟩
      rw [← hwE] at hL ⊢
      rw [show startF w.length (k.toNat + 1) = levF w x (k.toNat + 1) 0 from funext fun j => levF_start w x (k.toNat + 1) j]
      refine al hT 0 (.agg #[.int .u8 0, .int .u8 0, .int .u8 0, .int .u8 0, .int .u8 0, .int .u8 0, .int .u8 0, .int .u8 0, .int .u8 0, .int .u8 0, .int .u8 0, .int .u8 0, .int .u8 0, .int .u8 0, .int .u8 0, .int .u8 0, .int .u8 0, .int .u8 0, .int .u8 0, .int .u8 0, .int .u8 0, .int .u8 0, .int .u8 0, .int .u8 0, .int .u8 0]) rfl (by kernel_rfl) fun b13 => ?_
      refine stS hT 0 0 rfl rfl (by rw [rowA_size]; kernel_rfl) (by rw [rowA_size]; rfl) (rowA_all _) ?_
      refine fin hT 0 rfl (th (sq (rg (?_))))
      refine cl hT 1 rfl (runesC other hG1 (by have := ho.1; omega)) ?_
      rintro v93 K93 hs93 ⟨rfl, hR, aoR, cR, rfl, rfl, oR⟩
      have er : (runesP other).getD [] = x := by rw [hxE]; rfl
      rw [er] at oR ⊢
      refine fin hT 5 rfl (th (sq (sq (rg (?_)))))
      refine fin hT 3 rfl (th (bk (?_)))
      refine loop (σ := Nat) (fun i => [(0, str word), (1, str other), (2, .int .i64 k), (7, .pointer (some ⟨bL, 0, none⟩)), (9, .int .i64 ((D : Nat) : Int)), (13, .pointer (some ⟨b13, 0, none⟩)), (96, .slice aoR x.length cR), (97, .int .i64 ((x.length : Nat) : Int)), (98, .int .i64 ((i : Nat) : Int))]) (fun _ => K93)
        (fun i => hR :: pt b13 (rowA (levF w x (k.toNat + 1) i)) 34 :: hs90) (fun i => i ≤ x.length) (fun i => x.length - i) 0 (Nat.zero_le _) ⟨rfl, rfl, rfl, rfl, rfl, rfl, rfl, rfl, rfl, trivial⟩ rfl rfl ?_
      intro i hi
      refine sq (rg (?_))
      refine cmpS hT 0 rfl fun b99 h99 => ?_
      refine fin hT 0 rfl (th (sq (ifP h99 rfl (fun e17 => ?_) (fun e17 => ?_))))
      · have hil : i < x.length := by omega
        refine sk (th (sq (bk (sq (rg (?_))))))
        have hget : (rvv x)[i]? = some (.int .i32 ((x[i] : Nat) : Int)) := by simp [rvv, List.getElem?_eq_getElem hil, hil]
        refine ix1 hT 0 i rfl rfl rfl oR.isS hget fun a100 hc100 => ?_
        refine ld hT 0 rfl (.inr ⟨0, rfl⟩) hc100 ?_
        refine fin hT 1 rfl (th (rg (?_)))
        refine ldS hT 1 1 rfl rfl (by rw [rowA_size]; kernel_rfl) ?_
        refine cl hT 1 rfl (stepC bL w (k.toNat + 1) x[i] (levF w x (k.toNat + 1) i) hL) ?_
        rintro v105 K105 hs105 ⟨rfl, rfl, rfl⟩
        refine stS hT 0 1 rfl rfl (by rw [rowA_size]; kernel_rfl) (by rw [rowA_size, rowA_size]) (rowA_all _) ?_
        refine fin hT 0 rfl (bl (th (rg (?_))))
        refine ar hT 0 rfl (i64w (x := ((i + 1 : Nat) : Int)) (by omega)) ?_
        refine fin hT 1 rfl (?_)
        have hgd : x.getD i 0 = x[i] := by rw [List.getD_eq_getElem?_getD, List.getElem?_eq_getElem hil]; rfl
        have hrow : (fun j => if j < w.length + 1 then levT w (k.toNat + 1) x[i] (cutF w.length (k.toNat + 1) (levF w x (k.toNat + 1) i)) j else 0) = levF w x (k.toNat + 1) (i + 1) := funext fun j => by rw [← levF_next, hgd]
        exact again (x := i) (i + 1) ⟨rfl, rfl, rfl, rfl, rfl, rfl, rfl, rfl, rfl, trivial⟩ rfl (by rw [hrow]; rfl) hil (by omega)
      · obtain rfl : i = x.length := by omega
        refine ex (xt (xt (xb (th (sq (rg (?_)))))))
        refine ldS hT 1 1 rfl rfl (by rw [rowA_size]; kernel_rfl) ?_
        refine cl hT 0 rfl (levDistC bL w (k.toNat + 1) (levF w x (k.toNat + 1) x.length) hL) ?_
        rintro v110 K110 hs110 ⟨rfl, rfl, t110, h110, rfl⟩
        refine fin hT 5 rfl (th (sq (rg (?_))))
        refine bd hT 1 (.agg (pairV ⟨other, 1⟩).toArray) rfl (fun w => by kernel_rfl) ?_
        refine lit hT 0 (pairV ⟨other, 1⟩).toArray rfl (by decide) (by kernel_rfl) fun b116 => ?_
        refine WL.frz fun K2 le2 l2 => ?_
        have hG2 : LeastK K2 := fun j hj => (hG1 j hj).le le2
        have xP : SlS 2 pairR K2 (some ⟨b116, 0, none⟩) 1 1 [⟨other, 1⟩] := by
          have o := Own.ofPt (b := b116) (c := (pairV ⟨other, 1⟩).toArray) (e := 47) (n := 1) (size := 2) rfl (by simp [maxLen])
          exact ⟨[pairV ⟨other, 1⟩], rfl, by simpa using o.isS.le l2, ⟨rfl, trivial⟩, by simp [pairV]⟩
        refine cl hT 0 rfl (buildC (some ⟨b116, 0, none⟩) 1 1 [⟨other, 1⟩] xP ⟨by simp, by simp; exact ho, by simp⟩ hG2) ?_
        rintro v117 K3 hs117 ⟨rfl, le3, aoS, cS, rfl, xS⟩
        rw [buildP_one ho, ← hxE] at xS ⊢
        have hG3 : LeastK K3 := fun j hj => (hG2 j hj).le le3
        refine al hT 3 (.agg #[.int .i64 0, .slice none 0 0]) rfl (by kernel_rfl) fun b20 => ?_
        refine stS hT 0 0 rfl rfl (by kernel_rfl) rfl rfl ?_
        refine fin hT 1 rfl (th (sq (rg (?_))))
        refine ldS hT 0 0 rfl rfl (by kernel_rfl) ?_
        refine cl hT 0 rfl (newWC x 1 aoS cS xS (by omega) hxL hx1 hx24 hG3) ?_
        rintro v122 K4 hs122 ⟨le4, rfl, bW, rfl, hW⟩
        have hG4 : LeastK K4 := fun j hj => (hG3 j hj).le le4
        refine fin hT 5 rfl (th (sq (sq (rg (?_)))))
        refine fin hT 2 rfl (th (ifF rfl ?_))
        refine sk (th (sq (rg (?_))))
        refine cl hT 3 rfl (allFC word k x 1 bW hW hxL hx24 (by omega) hw hG4) ?_
        rintro v131 K5 hs131 ⟨le5, rfl, aoF, cF, rfl, xF⟩
        rw [← hwE] at xF ⊢
        have le15 : Le K K5 := le1.trans (le2.trans (le3.trans (le4.trans le5)))
        refine fin hT 5 rfl (th (sq (rg (?_))))
        have hl : levF w x (k.toNat + 1) x.length w.length = min D (k.toNat + 1) := by rw [lev_end, hDd]
        rw [hl] at h110
        rw [hl]
        by_cases hD : (D : Int) ≤ k
        · have e1 : ansP w x (k.toNat + 1) 1 = [⟨textP x, 1, ((D : Nat) : Int)⟩] := by unfold ansP; rw [← hDd, if_pos (by omega)]
          rw [e1] at xF ⊢
          obtain rfl : t110 = true := h110.2 (by omega)
          have e2 : (if min D (k.toNat + 1) < k.toNat + 1 then min D (k.toNat + 1) else 0) = D := by rw [if_pos (by omega)]; omega
          rw [e2]
          have hot : textP x = other := by
            obtain ⟨l, hl⟩ := Option.isSome_iff_exists.1 ho.2.1
            have e : rl other = l := by unfold rl; rw [hl]; rfl
            rw [hxE, e]
            exact (runesP_text hl).1
          rw [hot] at xF
          obtain ⟨adF, rfl⟩ := xF.addr (by simp) (by decide)
          obtain ⟨vsF, xvF⟩ := xF.isS
          obtain ⟨csF, hcs, hclF, hcellF⟩ := xF.cells (i := 0) (x := ⟨other, 1, ((D : Nat) : Int)⟩) rfl
          obtain rfl := hcs
          refine cmp hT 2 rfl (fun h => ?_) (fun h => absurd hD h)
          refine fin hT 1 rfl (th (sq (rg (?_))))
          refine cmp hT 1 rfl (fun h => ?_) (fun h => absurd rfl h)
          refine cmp hT 11 rfl (fun h => ?_) (fun h => absurd rfl h)
          refine cmp hT 5 rfl (fun h => ?_) (fun h => absurd rfl h)
          refine ixs hT 8 0 rfl rfl xvF (by simp) (by decide) fun a165 ha => ?_
          cases ha
          refine lds hT 0 (mtV ⟨other, 1, ((D : Nat) : Int)⟩) rfl (by kernel_rfl) (.inl rfl) hcellF ?_
          refine bd hT 2 (.agg (mtV ⟨other, 1, ((D : Nat) : Int)⟩).toArray) rfl (fun w => by kernel_rfl) ?_
          refine eqs hT 0 rfl (by kernel_rfl) (eqMt _) ?_
          refine fin hT 3 rfl (th (rt (?_)))
          exact ret1 rfl rfl ⟨le15, rfl⟩
        · have e1 : ansP w x (k.toNat + 1) 1 = [] := by unfold ansP; rw [← hDd, if_neg (by omega)]
          rw [e1] at xF ⊢
          obtain rfl : t110 = false := by
            cases t110 with
            | false => rfl
            | true => have := h110.1 rfl; omega
          refine cmp hT 2 rfl (fun h => absurd h hD) (fun h => ?_)
          refine fin hT 1 rfl (th (sq (rg (?_))))
          refine cmp hT 1 rfl (fun h => ?_) (fun h => absurd rfl h)
          refine cmp hT 17 rfl (fun h => absurd h (by decide)) (fun h => ?_)
          refine fin hT 17 rfl (th (rt (?_)))
          exact ret1 rfl rfl ⟨le15, rfl⟩
end Go.Proofs.YtlnhbilpkcfdlaaDoor
