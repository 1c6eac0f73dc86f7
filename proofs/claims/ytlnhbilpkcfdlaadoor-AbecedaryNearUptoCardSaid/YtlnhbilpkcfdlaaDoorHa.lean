/-
  Of Go's package slices: Clone of arcs, Clip; package walk: New, Root, Base, State.
  Package fuzzy: All, over a chain. Here: joins within rounds; what is kept; slices.Clip.
  Package fuzzy: All's visit, over a chain.
-/
import Derived.Test.YtlnhbilpkcfdlaaDoorGd
import Derived.Test.YtlnhbilpkcfdlaaDoorVa
import Derived.Test.YtlnhbilpkcfdlaaDoorEs
set_option linter.unusedSimpArgs false
set_option linter.unusedVariables false
namespace Go.En
set_option linter.unusedVariables false
theorem arcs_one : ∀ {css : List (List Value)} {l : List ArcP}, Al2 arcR css l → ∀ u ∈ css.flatten, u.oneCell' = true
  | [], [], _, u, hu => by simp at hu
  | c :: css, x :: l, h, u, hu => by
    rw [List.flatten_cons, List.mem_append] at hu
    rcases hu with hu | hu
    · have e : c = arcV x := h.1
      subst e
      simp [arcV] at hu
      rcases hu with rfl | rfl | rfl <;> rfl
    · exact arcs_one h.2 u hu
  | _ :: _, [], h, _, _ => h.elim
  | [], _ :: _, h, _, _ => h.elim
/-- a walk that is kept -/
structure WalkK (K : PH) (b : Nat) (base : Int) (sts : List StP) : Prop where
  bas : Cell K ⟨b, 0, none⟩ (.int .i64 base)
  sta : ∃ a c, Cell K ⟨b, 1, none⟩ (.slice (some a) sts.length c) ∧ SlS 3 (stR K) K (some a) sts.length c sts
end Go.En
namespace Go.Proofs.YtlnhbilpkcfdlaaDoor
open Go.En
set_option linter.unusedVariables false
attribute [local irreducible] Code.wp wpList Calls
theorem cloneAC {w0 : World} {K : PH} {hs : List PH} (ao : Option Addr) (n c : Nat) (l : List ArcP) (x : SlS 3 arcR K ao n c l) (hl : n ≤ 1000000) : Ct Tryd.prog w0 29 [.slice ao n c] K hs
    (fun v K' hs' => Le K K' ∧ hs' = hs ∧ ∃ ao' c', v = .slice ao' n c' ∧ SlS 3 arcR K' ao' n c' l) := by
  cases ao with
  | none =>
    obtain rfl : n = 0 := by
      rcases Nat.eq_zero_or_pos n with h | h
      · exact h
      · obtain ⟨a, ha⟩ := x.addr h (by decide); cases ha
    have hl0 : l = [] := List.eq_nil_of_length_eq_zero x.len.symm
    subst hl0
    refine enter Tryd.func29 (by kernel_rfl) rfl rfl rfl ?_
    refine sq (rg (?_))
    refine fin hT 1 rfl (th (sq (sq (rg (?_)))))
    refine cbS hT 1 True rfl (by simp) fun b4 h4 => ?_
    refine fin hT 0 rfl (th (ifP h4 rfl (fun e2 => ?_) (fun e2 => absurd trivial e2)))
    refine sq (rg (?_))
    refine fin hT 1 rfl (th (rt (rT (?_))))
    exact ret1 rfl rfl ⟨Le.refl _, rfl, none, _, rfl, SlS.nil _ _ _ _⟩
  | some a =>
    obtain rfl := x.len
    refine enter Tryd.func29 (by kernel_rfl) rfl rfl rfl ?_
    refine sq (rg (?_))
    refine fin hT 1 rfl (th (sq (sq (rg (?_)))))
    refine cbS hT 1 False rfl (by simp) fun b4 h4 => ?_
    refine fin hT 0 rfl (th (ifP h4 rfl (fun e2 => e2.elim) (fun e2 => ?_)))
    refine sk (th (sq (rg (?_))))
    refine lit hT 0 #[] rfl (by decide) (by kernel_rfl) fun b5 => ?_
    obtain ⟨css, q1, q2, q3, q4⟩ := x
    refine app hT 1 0 rfl rfl (Own.ofPt (b := b5) (c := #[]) (e := 91) (n := 0) (size := 3) rfl (by simp [maxLen])) (.inl rfl) q2 rfl (by decide) (arcs_one q3) (by show (0 + l.length) * 24 ≤ _; omega) (by simp only [maxLen]; omega) fun ao7 c7 g7 o7 => ?_
    refine fin hT 1 rfl (th (rt (WQ.frz fun K2 le1 le2 => ?_)))
    refine ret1 rfl rfl ⟨le1, rfl, ao7, c7, by rw [Nat.zero_add], ⟨css, rfl, ?_, q3, q4⟩⟩
    have := o7.isS.le le2
    simpa using this

theorem WalkK.le {K K' : PH} (l : Le K K') {b : Nat} {base : Int} {sts : List StP} (h : WalkK K b base sts) : WalkK K' b base sts :=
  ⟨h.bas.le l, let ⟨a, c, h1, h2⟩ := h.sta; ⟨a, c, h1.le l, stS_le l h2⟩⟩
theorem rootC {w0 : World} {K : PH} {hs : List PH} (b : Nat) (base : Int) (sts : List StP) (x : WalkK K b base sts) (hn : sts.length ≤ 1000000) : Ct Tryd.prog w0 36 [.pointer (some ⟨b, 0, none⟩)] K hs
    (fun v K' hs' => K' = K ∧ hs' = hs ∧ v = .int .i64 ((sts.length : Int) - 1)) := by
  obtain ⟨a, c, h1, h2⟩ := x.sta
  refine enter Tryd.func36 (by kernel_rfl) rfl rfl rfl ?_
  refine sq (rg (?_))
  refine fin hT 1 rfl (th (sq (rg (?_))))
  refine ld hT 3 rfl (.inl rfl) h1 ?_
  refine ar hT 1 rfl (i64w (by omega)) ?_
  refine fin hT 1 rfl (th (rt (?_)))
  exact ret1 rfl rfl ⟨rfl, rfl, rfl⟩
theorem baseC {w0 : World} {K : PH} {hs : List PH} (b : Nat) (base : Int) (sts : List StP) (x : WalkK K b base sts) : Ct Tryd.prog w0 37 [.pointer (some ⟨b, 0, none⟩)] K hs
    (fun v K' hs' => K' = K ∧ hs' = hs ∧ v = .int .i64 base) := by
  refine enter Tryd.func37 (by kernel_rfl) rfl rfl rfl ?_
  refine sq (rg (?_))
  refine fin hT 1 rfl (th (sq (rg (?_))))
  refine ld hT 3 rfl (.inl rfl) x.bas ?_
  refine fin hT 1 rfl (th (rt (?_)))
  exact ret1 rfl rfl ⟨rfl, rfl, rfl⟩
theorem stateWC {w0 : World} {K : PH} {hs : List PH} (b : Nat) (base : Int) (sts : List StP) (x : WalkK K b base sts) (i : Nat) (s : StP) (hi : sts[i]? = some s) (hn : sts.length ≤ 1000000) (hA : s.arcs.length ≤ 1000000) : Ct Tryd.prog w0 31 [.pointer (some ⟨b, 0, none⟩), .int .i64 ((i : Nat) : Int)] K hs
    (fun v K' hs' => Le K K' ∧ hs' = hs ∧ ∃ ao c, v = .tuple #[.agg (stV s ao s.arcs.length c).toArray, .bool true] ∧ SlS 3 arcR K' ao s.arcs.length c s.arcs) := by
  obtain ⟨a, c, h1, h2⟩ := x.sta
  have hil := (List.getElem?_eq_some_iff.1 hi).1
  obtain ⟨vs, xv⟩ := h2.isS
  obtain ⟨cs, ⟨aoA, nA, cA, rfl, xA⟩, hcl, hcell⟩ := h2.cells hi
  obtain rfl := xA.len
  refine enter Tryd.func31 (by kernel_rfl) rfl rfl rfl ?_
  refine sq (rg (?_))
  refine al hT 0 (.agg #[.bool false, .int .i64 0, .slice none 0 0]) rfl (by kernel_rfl) fun b4 => ?_
  refine fin hT 1 rfl (th (sq (sq (rg (?_)))))
  refine cmp hT 1 rfl (fun h8 => absurd h8 (by omega)) (fun h8 => ?_)
  refine ld hT 5 rfl (.inl rfl) h1 ?_
  refine cmp hT 1 rfl (fun h9 => absurd h9 (by omega)) (fun h9 => ?_)
  refine fin hT 1 rfl (th (ifF rfl (sk (th (sq (rg (?_)))))))
  refine ld hT 3 rfl (.inl rfl) h1 ?_
  refine ixs hT 1 i rfl rfl xv hil (by decide) fun a24 ha => ?_
  cases ha
  refine lds hT 0 (stV s aoA s.arcs.length cA) rfl (by kernel_rfl) (.inl rfl) hcell ?_
  refine al hT 0 (.agg #[.bool false, .int .i64 0, .slice none 0 0]) rfl (by kernel_rfl) fun b6 => ?_
  refine stS hT 0 0 rfl rfl (by kernel_rfl) rfl rfl ?_
  refine fin hT 0 rfl (th (sq (rg (?_))))
  refine ldp hT 1 0 rfl rfl rfl ?_
  refine cl hT 0 rfl (cloneAC aoA s.arcs.length cA s.arcs xA hA) ?_
  rintro v28 K28 hs28 ⟨le28, rfl, ao2, c2, rfl, x2⟩
  refine stp hT 1 0 rfl rfl rfl rfl ?_
  refine fin hT 0 rfl (th (sq (rg (?_))))
  refine ldS hT 0 0 rfl rfl (by kernel_rfl) ?_
  refine stS hT 0 1 rfl rfl (by kernel_rfl) rfl rfl ?_
  refine fin hT 1 rfl (th (rt (?_)))
  exact retcP 1 2 rfl rfl rfl rfl (by kernel_rfl) ⟨le28, rfl, ao2, c2, rfl, x2⟩
theorem newWC {w0 : World} {K : PH} {hs : List PH} (w : List Nat) (base : Int) (aoS : Option Addr) (cS : Nat) (hS : SlS 3 (stR K) K aoS (chn w).length cS (chn w)) (hb : 1 ≤ base ∧ base ≤ 1048576) (hw : LtW w) (hw1 : 1 ≤ w.length) (h24 : w.length ≤ 24) (hG : LeastK K) :
    Ct Tryd.prog w0 14 [.agg #[.int .i64 base, .slice aoS (chn w).length cS]] K hs (fun v K' hs' => Le K K' ∧ hs' = hs ∧ ∃ b, v = .tuple #[.pointer (some ⟨b, 0, none⟩), .bool true] ∧ WalkK K' b base (chn w)) := by
  have hlen := chn_len w
  have hS' := hS
  obtain ⟨ad, rfl⟩ := hS.addr (by omega) (by decide)
  obtain ⟨vs, xv⟩ := hS.isS
  refine enter Tryd.func14 (by kernel_rfl) rfl rfl rfl ?_
  refine sq (rg (?_))
  refine bx hT 0 rfl fun b1 => ?_
  refine fin hT 2 rfl (th (sq (sq (rg (?_)))))
  refine ldS hT 0 0 rfl rfl (by kernel_rfl) ?_
  refine cl hT 0 rfl (rightC w base (some ad) cS hS hb hw hw1 h24 hG) ?_
  rintro v11 K11 hs11 ⟨rfl, rfl, rfl⟩
  refine fin hT 1 rfl (th (ifF rfl (sk (th (sq (rg (?_)))))))
  refine ldp hT 1 0 rfl rfl rfl ?_
  refine bd hT 0 (.agg #[.int .i64 base, .slice none 0 0, .slice none 0 0]) rfl (fun w => by kernel_rfl) ?_
  refine bx hT 0 rfl fun b16 => ?_
  refine fin hT 1 rfl (th (sq (sq (rg (?_)))))
  refine ldp hT 1 1 rfl rfl rfl ?_
  refine fin hT 2 rfl (th (bk (WC.em (WC.em ?_))))
  refine loop (σ := Nat × PH × PH × PH × (Option Addr × Nat) × (Option Addr × Nat)) (fun x => [(2, .pointer none), (3, .bool false), (4, .pointer (some ⟨b16, 0, none⟩)), (18, .slice (some ad) (chn w).length cS), (19, .int .i64 (((chn w).length : Nat) : Int)), (20, .int .i64 ((x.1 : Nat) : Int))]) (fun x => x.2.1)
    (fun x => x.2.2.1 :: x.2.2.2.1 :: pt b16 #[.int .i64 base, .slice x.2.2.2.2.1.1 x.1 x.2.2.2.2.1.2, .slice x.2.2.2.2.2.1 x.1 x.2.2.2.2.2.2] 85 :: pt b1 #[.int .i64 base, .slice (some ad) (chn w).length cS] 43 :: hs)
    (fun x => x.1 ≤ (chn w).length ∧ Le K11 x.2.1 ∧ SlO 3 88 (stR x.2.1) x.2.2.1 x.2.2.2.2.1.1 x.1 x.2.2.2.2.1.2 ((chn w).take x.1) ∧ Own x.2.2.2.1 x.2.2.2.2.2.1 x.1 x.2.2.2.2.2.2 3 1 (List.replicate x.1 (.int .i64 1))) (fun x => (chn w).length - x.1) (0, K11, em, em, (none, 0), (none, 0))
    ⟨Nat.zero_le _, Le.refl _, SlO.nil _ _, Own.nil _ _⟩ ⟨rfl, rfl, rfl, rfl, rfl, rfl, trivial⟩ rfl rfl ?_
  rintro ⟨j, K, gS, gN, ⟨aoW, cW⟩, ⟨aoN, cN⟩⟩ ⟨hj, le0, oS, oN⟩
  dsimp only at *
  refine sq (rg (?_))
  refine cmpS hT 0 rfl fun b21 h21 => ?_
  refine fin hT 0 rfl (th (sq (ifP h21 rfl (fun e3 => ?_) (fun e3 => ?_))))
  · have hjl : j < (chn w).length := by omega
    obtain ⟨p, r, hwr, rfl, hget⟩ := chn_at hjl
    have hA1 := topS_arcs r
    obtain ⟨vs2, xv2⟩ := (hS.le le0 (fun _ _ h => h)).isS
    obtain ⟨cs, ⟨ao7, n7, c7, rfl, x7⟩, hcl7, hcell7⟩ := (stS_le le0 hS).cells hget
    obtain rfl := x7.len
    refine sk (th (sq (bk (sq (rg (?_))))))
    refine ixs hT 0 r.length rfl rfl xv2 hjl (by decide) fun a22 ha => ?_
    cases ha
    refine lds hT 0 (stV (topS r) ao7 (topS r).arcs.length c7) rfl (by kernel_rfl) (.inl rfl) hcell7 ?_
    refine al hT 0 (.agg #[.bool false, .int .i64 0, .slice none 0 0]) rfl (by kernel_rfl) fun b6 => ?_
    refine stS hT 0 0 rfl rfl (by kernel_rfl) rfl rfl ?_
    refine fin hT 0 rfl (th (sq (rg (?_))))
    refine ldp hT 1 0 rfl rfl rfl ?_
    refine cl hT 0 rfl (cloneAC ao7 (topS r).arcs.length c7 (topS r).arcs x7 (by omega)) ?_
    rintro v26 K26 hs26 ⟨le26, rfl, ao2, c2, rfl, x2⟩
    refine stp hT 1 0 rfl rfl rfl rfl ?_
    refine fin hT 0 rfl (th (sq (rg (?_))))
    refine fin hT 1 rfl (th (jn (σ := Int) (fun m => [(2, .pointer none), (3, .bool false), (4, .pointer (some ⟨b16, 0, none⟩)), (6, .pointer (some ⟨b6, 0, none⟩)), (7, .int .i64 m), (18, .slice (some ad) (chn w).length cS), (19, .int .i64 (((chn w).length : Nat) : Int)), (20, .int .i64 ((r.length : Nat) : Int))]) (fun m => pt b6 (stV (topS r) ao2 (topS r).arcs.length c2).toArray 88 :: gS :: gN :: pt b16 #[.int .i64 base, .slice aoW r.length cW, .slice aoN r.length cN] 85 :: pt b1 #[.int .i64 base, .slice (some ad) (chn w).length cS] 43 :: hs) (fun m => m = if 0 = (topS r).arcs.length then 1 else 0) ?_ ?_))
    · refine sq (rg (?_))
      refine ldp hT 1 0 rfl rfl rfl ?_
      refine nmS fun b29 h29 => ?_
      refine fin hT 0 rfl (th (ifP h29 rfl (fun e4 => ?_) (fun e4 => ?_)))
      · refine rg (?_)
        refine fin hT 1 rfl ?_
        exact jx 1 (by cases r with
          | nil => rfl
          | cons c r => simp [topS] at e4) ⟨rfl, rfl, rfl, rfl, rfl, rfl, rfl, rfl, trivial⟩ rfl rfl
      · refine sk (?_)
        exact jx 0 (by cases r with
          | nil => simp [topS] at e4
          | cons c r => rfl) ⟨rfl, rfl, rfl, rfl, rfl, rfl, rfl, rfl, trivial⟩ rfl rfl
    · rintro m0 hm0
      refine sq (sq (rg (?_)))
      refine ldp hT 1 0 rfl rfl rfl ?_
      refine fin hT 2 rfl (th (bk (?_)))
      refine loop (σ := Nat) (fun j => [(2, .pointer none), (3, .bool false), (4, .pointer (some ⟨b16, 0, none⟩)), (6, .pointer (some ⟨b6, 0, none⟩)), (7, .int .i64 (if j = (topS r).arcs.length then 1 else 0)), (18, .slice (some ad) (chn w).length cS), (19, .int .i64 (((chn w).length : Nat) : Int)), (20, .int .i64 ((r.length : Nat) : Int)), (31, .slice ao2 (topS r).arcs.length c2), (32, .int .i64 (((topS r).arcs.length : Nat) : Int)), (33, .int .i64 ((j : Nat) : Int))]) (fun _ => K26)
        (fun j => pt b6 (stV (topS r) ao2 (topS r).arcs.length c2).toArray 88 :: gS :: gN :: pt b16 #[.int .i64 base, .slice aoW r.length cW, .slice aoN r.length cN] 85 :: pt b1 #[.int .i64 base, .slice (some ad) (chn w).length cS] 43 :: hs) (fun j => j ≤ (topS r).arcs.length) (fun j => (topS r).arcs.length - j) 0 (Nat.zero_le _) ⟨rfl, rfl, rfl, rfl, by rw [hm0]; rfl, rfl, rfl, rfl, rfl, rfl, rfl, trivial⟩ rfl rfl ?_
      intro j hj
      refine sq (rg (?_))
      refine cmpS hT 0 rfl fun b34 h34 => ?_
      refine fin hT 0 rfl (th (sq (ifP h34 rfl (fun e6 => ?_) (fun e6 => ?_))))
      · have hjl2 : j < (topS r).arcs.length := by omega
        obtain rfl : j = 0 := by omega
        cases r with
        | nil => simp [topS] at hjl2
        | cons c r =>
          obtain ⟨adA, rfl⟩ := x2.addr (by omega) (by decide)
          obtain ⟨vsA, xvA⟩ := x2.isS
          obtain ⟨csA, hcs, hclA, hcellA⟩ := x2.cells (i := 0) (x := ⟨(c : Int), 0, (r.length : Int)⟩) rfl
          obtain rfl := hcs
          simp only [List.length_cons] at hjl
          obtain ⟨aN, rfl⟩ := oN.isS.addr (j := r.length) (by simp) (by decide)
          have hcN : Cell gN (aN.add (r.length * 1)) (.int .i64 1) := by
            obtain ⟨a', e, hc⟩ := oN.isS.2.2 r.length (.int .i64 1) (by simp)
            cases e
            simpa using hc
          refine sk (th (sq (bk (sq (rg (?_))))))
          refine ixs hT 0 0 rfl rfl xvA hjl2 (by decide) fun a35 ha => ?_
          cases ha
          refine lds hT 0 (arcV ⟨(c : Int), 0, (r.length : Int)⟩) rfl (by kernel_rfl) (.inl rfl) hcellA ?_
          refine al hT 0 (.agg #[.int .i32 0, .int .i64 0, .int .i64 0]) rfl (by kernel_rfl) fun b9 => ?_
          refine stS hT 0 0 rfl rfl (by kernel_rfl) rfl rfl ?_
          refine fin hT 0 rfl (th (rga [pt b9 (arcV ⟨(c : Int), 0, (r.length : Int)⟩).toArray 91, pt b16 #[.int .i64 base, .slice aoW (r.length + 1) cW, .slice (some aN) (r.length + 1) cN] 85, gN] 11 [0, 2, 4, 6, 8, 10, 12, 14, 16, 18, 20] (by simp) (by kernel_rfl) (by kernel_rfl) ?_))
          refine dldp hT (by kernel_rfl) 4 1 rfl rfl rfl ?_
          refine dldp hT (by kernel_rfl) 1 0 rfl rfl rfl ?_
          refine dixs hT (by kernel_rfl) 0 r.length rfl rfl (by omega) ?_
          refine dld hT (by kernel_rfl) 0 rfl (.inr ⟨2, rfl⟩) hcN ?_
          refine dar hT (by kernel_rfl) 0 rfl (i64w (x := 0 + 1) (by omega)) ?_
          refine dend hT (by kernel_rfl) 1 rfl (bl (th (rg (?_))))
          refine ar hT 0 rfl (i64w (x := ((0 + 1 : Nat) : Int)) (by omega)) ?_
          refine fin hT 1 rfl (WQ.drop ?_)
          exact again (x := 0) 1 ⟨rfl, rfl, rfl, rfl, rfl, rfl, rfl, rfl, rfl, rfl, rfl, trivial⟩ rfl rfl hjl2 (by omega)
      · obtain rfl : j = (topS r).arcs.length := by omega
        rw [if_pos rfl]
        have hl : r.length ≤ w.length := by omega
        refine ex (xt (xt (xb (th (sq (rga [pt b16 #[.int .i64 base, .slice aoW r.length cW, .slice aoN r.length cN] 85, pt b6 (stV (topS r) ao2 (topS r).arcs.length c2).toArray 88] 10 [0, 2, 4, 6, 8, 10, 13, 15, 16, 18, 21] (by simp) (by kernel_rfl) (by kernel_rfl) ?_))))))
        refine dldpw hT (by kernel_rfl) 4 0 rfl (by kernel_rfl) rfl rfl ?_
        refine dldS hT (by kernel_rfl) 0 1 rfl (by kernel_rfl) rfl (by kernel_rfl) ?_
        refine dact hT (by kernel_rfl) 0 rfl ?_
        refine lit hT 0 (stV (topS r) ao2 (topS r).arcs.length c2).toArray rfl (by decide) (by kernel_rfl) fun b54 => ?_
        refine dnex [pt b16 #[.int .i64 base, .slice aoW r.length cW, .slice aoN r.length cN] 85, pt b6 (stV (topS r) ao2 (topS r).arcs.length c2).toArray 88] (by simp) (by simp) rfl ?_
        refine dact hT (by kernel_rfl) 0 rfl ?_
        refine appS hT 0 2 (stV (topS r) ao2 (topS r).arcs.length c2) (topS r) rfl rfl rfl (oS.imp fun _ _ h => h.le le26) ⟨ao2, _, c2, rfl, x2⟩ rfl (by simp [stV, Value.oneCell']) rfl (by decide) (by show _ * 40 ≤ _; omega) (by simp only [maxLen]; omega) fun ao55 c55 g55 o55 => ?_
        refine dnex [pt b16 #[.int .i64 base, .slice aoW r.length cW, .slice aoN r.length cN] 85, pt b6 (stV (topS r) ao2 (topS r).arcs.length c2).toArray 88] (by simp) (by simp) rfl ?_
        refine dact hT (by kernel_rfl) 2 rfl ?_
        refine stp hT 0 4 rfl rfl rfl rfl ?_
        refine dnext (.inl (by kernel_rfl)) ?_
        refine dend hT (by kernel_rfl) 0 rfl (th (rg (?_)))
        refine ldp hT 4 4 rfl rfl rfl ?_
        refine lit hT 1 #[.int .i64 1] rfl (by decide) (by kernel_rfl) fun b64 => ?_
        refine app hT 0 4 rfl rfl oN (.inr ⟨0, rfl⟩) (Own.ofPt (b := b64) (c := #[.int .i64 1]) (e := 3) (n := 1) (size := 1) rfl (by simp [maxLen])).isS rfl (by decide) (fun u hu => by simp at hu; subst hu; rfl) (by show (r.length + 1) * 8 ≤ _; omega) (by simp only [maxLen]; omega) fun ao65 c65 g65 o65 => ?_
        refine stp hT 2 5 rfl rfl rfl rfl ?_
        refine fin hT 0 rfl (bl (th (rg (WL.drop (WL.drop (WL.drop ?_))))))
        refine ar hT 0 rfl (i64w (x := ((r.length + 1 : Nat) : Int)) (by omega)) ?_
        refine fin hT 1 rfl (?_)
        refine again (x := (r.length, K, gS, gN, (aoW, cW), (aoN, cN))) (r.length + 1, K26, g55, g65, (ao55, c55), (ao65, c65)) ⟨rfl, rfl, rfl, rfl, rfl, rfl, trivial⟩ rfl rfl ⟨by dsimp only; omega, le0.trans le26, ?_, ?_⟩ (by (try dsimp only); omega)
        · dsimp only
          rw [List.take_add_one, hget]
          exact o55
        · dsimp only
          rw [List.replicate_succ', ]
          exact o65
  · obtain rfl : j = (chn w).length := by omega
    refine ex (xt (xt (xb (th (WC.perm (perm_front _ 2 _ rfl) (WC.frz fun K2 le2 l2 => WC.frz fun K3 le3 l3 => sq (rg (?_))))))))
    refine fin hT 3 rfl (th (rt (WQ.drop (WQ.drop ?_))))
    have xS := oS.slS
    rw [List.take_length] at xS
    obtain ⟨aW, rfl⟩ := xS.addr (by omega) (by decide)
    have xS3 : SlS 3 (stR K3) K3 (some aW) (chn w).length cW (chn w) := xS.le l3 (fun _ _ h => (h.le le2).le le3)
    exact ret2 rfl rfl rfl ⟨le0.trans (le2.trans le3), rfl, b16, rfl, ((Cell.pt rfl).le l2).le le3, aW, cW, ((Cell.pt rfl).le l2).le le3, xS3⟩
end Go.Proofs.YtlnhbilpkcfdlaaDoor
namespace Go.En
set_option linter.unusedVariables false
attribute [local irreducible] Code.wp wpList Calls
section joinx
variable {P : Program} {w0 : World} {Q : Exit → Act → World → Prop} {n : Nat} {l : Sl} {K : PH} {hs : List PH} {r : Option Nat} {ds : List Deferred}
def JX (ds : List Deferred) (w0 : World) {σ : Type} (F : σ → Sl) (HK : σ → PH) (H : σ → List PH) (J : σ → Prop) (n : Nat) (Q : Exit → Act → World → Prop) : Exit → Act → World → Prop
  | .normal, a', w => ∃ s a, J s ∧ a' = wd ds a ∧ Ag n (F s) a ∧ Sat w0 w (HK s) (H s)
  | e, a, w => Q e a w
theorem jnX {σ : Type} {x y : Code} (F : σ → Sl) (HK : σ → PH) (H : σ → List PH) (J : σ → Prop) (h1 : WX P w0 r ds x (JX ds w0 F HK H J n Q) n l K hs) (h2 : ∀ s, J s → WX P w0 r ds y Q n (F s) (HK s) (H s)) : WX P w0 r ds (.seq x y) Q n l K hs :=
  sqX fun a w ha hw => wpIn_mono (h1 a w ha hw) (fun e a w h => by
    cases e with
    | normal => obtain ⟨s, a1, hJ, rfl, ha, hw⟩ := h; exact h2 s hJ a1 w ha hw
    | _ => exact h)
theorem jxX {σ : Type} {F : σ → Sl} {HK : σ → PH} {H : σ → List PH} {J : σ → Prop} (s : σ) (hJ : J s) (hF : Sub l (F s)) (hK : K = HK s) (hH : hs = H s) : WQX ds w0 (JX ds w0 F HK H J n Q) .normal n l K hs :=
  fun a w ha hw => ⟨s, a, hJ, rfl, ha.sub hF, by rw [← hK, ← hH]; exact hw⟩
theorem jrX {σ : Type} {F : σ → Sl} {HK : σ → PH} {H : σ → List PH} {J : σ → Prop} (h : WQX ds w0 Q .ret n l K hs) : WQX ds w0 (JX ds w0 F HK H J n Q) .ret n l K hs := h
end joinx
/-! What is too far stays so. -/
theorem lev_dead {w x : List Nat} {o i : Nat} (h : ∀ j, j < w.length + 1 → o ≤ levF w x o i j) : ∀ j, j < w.length + 1 → o ≤ levF w x o (i + 1) j := by
  have key : ∀ j, j < w.length + 1 → o ≤ levT w o (x.getD i 0) (levF w x o i) j := by
    intro j
    induction j with
    | zero => intro hj; have := h 0 hj; simp only [levT]; omega
    | succ j ih =>
      intro hj
      have h1 := h j (by omega)
      have h2 := h (j + 1) hj
      have h3 := ih (by omega)
      simp only [levT]
      split <;> omega
  intro j hj
  have := key j hj
  rw [levF_step w x o i j hj] at this
  unfold levF
  rw [if_pos hj]
  exact this
theorem lev_dead_all {w x : List Nat} {o i : Nat} (h : ∀ j, j < w.length + 1 → o ≤ levF w x o i j) : ∀ k j, j < w.length + 1 → o ≤ levF w x o (i + k) j
  | 0 => h
  | k + 1 => by
    have := lev_dead (lev_dead_all h k)
    rw [← Nat.add_assoc]
    exact this
theorem lev_end (w x : List Nat) (o : Nat) : levF w x o x.length w.length = min (dd w x w.length x.length) o := by unfold levF; rw [if_pos (by omega)]
/-! What is found. -/
structure MtP where
  word : List UInt8
  w : Int
  d : Int
def mtV (m : MtP) : List Value := [str m.word, .int .i64 m.w, .int .i64 m.d]
def mtR (c : List Value) (m : MtP) : Prop := c = mtV m
def ansP (w x : List Nat) (o : Nat) (base : Int) : List MtP := if dd w x w.length x.length < o then [⟨textP x, base, ((dd w x w.length x.length : Nat) : Int)⟩] else []
end Go.En
namespace Go.Proofs.YtlnhbilpkcfdlaaDoor
open Go.En
set_option linter.unusedVariables false
attribute [local irreducible] Code.wp wpList Calls
def vFn (b3 b8 b10 b11 b12 : Nat) : Value := .func (.func 30) #[] #[.pointer (some ⟨b3, 0, none⟩), .pointer (some ⟨b8, 0, none⟩), .pointer (some ⟨b10, 0, none⟩), .pointer (some ⟨b11, 0, none⟩), .pointer (some ⟨b12, 0, none⟩)]
/-- what the closures share -/
structure FzK (K : PH) (w x : List Nat) (o : Nat) (base : Int) (bW bL b3 b8 b10 b11 b12 : Nat) : Prop where
  c3 : Cell K ⟨b3, 0, none⟩ (.pointer (some ⟨bW, 0, none⟩))
  wk : WalkK K bW base (chn x)
  c8 : Cell K ⟨b8, 0, none⟩ (.pointer (some ⟨bL, 0, none⟩))
  lv : LevK K bL w o
  c12 : Cell K ⟨b12, 0, none⟩ (vFn b3 b8 b10 b11 b12)
  gl : LeastK K
theorem FzK.le {K K' : PH} (l : Le K K') {w x : List Nat} {o : Nat} {base : Int} {bW bL b3 b8 b10 b11 b12 : Nat} (h : FzK K w x o base bW bL b3 b8 b10 b11 b12) : FzK K' w x o base bW bL b3 b8 b10 b11 b12 :=
  ⟨h.c3.le l, WalkK.le l h.wk, h.c8.le l, h.lv.le l, h.c12.le l, fun j hj => (h.gl j hj).le l⟩
/-- found, and what is to do -/
def FzO (b10 b11 : Nat) (F : List MtP) (T : List Value) (m : List PH) : Prop :=
  ∃ aoF cF gF aoT cT gT, m = [pt b10 #[.slice aoF F.length cF] 52, gF, pt b11 #[.slice aoT T.length cT] 92, gT] ∧ SlO 3 56 mtR gF aoF F.length cF F ∧ Own gT aoT T.length cT 1 1 T
/-- one thing to do: the state of rest r behind p and c -/
def Clo (K : PH) (w x : List Nat) (o : Nat) (base : Int) (b8 b12 : Nat) (V : Value) (p : List Nat) (c : Nat) (r : List Nat) : Prop :=
  ∃ bA bH bS bR aoH cH, V = .func (.func 34) #[] #[.pointer (some ⟨b12, 0, none⟩), .pointer (some ⟨bA, 0, none⟩), .pointer (some ⟨bH, 0, none⟩), .pointer (some ⟨bS, 0, none⟩), .pointer (some ⟨b8, 0, none⟩), .pointer (some ⟨bR, 0, none⟩)] ∧
    (∀ (j : Nat) v, (arcV ⟨(c : Int), 0, (r.length : Int)⟩)[j]? = some v → Cell K ((⟨bA, 0, none⟩ : Addr).add j) v) ∧ Cell K ⟨bH, 0, none⟩ (.slice aoH p.length cH) ∧ IsS K aoH p.length cH 1 (rvv p) ∧ Cell K ⟨bS, 0, none⟩ (.int .i64 base) ∧
    (∀ (j : Nat) v, (rowA (levF w x o p.length)).toList[j]? = some v → Cell K ((⟨bR, 0, none⟩ : Addr).add j) v)
/-- what one visit makes -/
def FzR (w x : List Nat) (o : Nat) (base : Int) (b8 b10 b11 b12 : Nat) (p r : List Nat) (K0 : PH) (hs : List PH) (K' : PH) (hs' : List PH) : Prop :=
  Le K0 K' ∧ ∃ m' F T, hs' = m' ++ hs ∧ FzO b10 b11 F T m' ∧ ((T = [] ∧ F = ansP w x o base) ∨ (F = [] ∧ ∃ c r' V, r = c :: r' ∧ T = [V] ∧ Clo K' w x o base b8 b12 V p c r'))
theorem clipC {w0 : World} {K : PH} {hs : List PH} (ao : Option Addr) (n c : Nat) (hn : n ≤ c) : Ct Tryd.prog w0 35 [.slice ao n c] K hs (fun v K' hs' => K' = K ∧ hs' = hs ∧ v = .slice (cutA ao n 0 1) n n) := by
  refine enter Tryd.func35 (by kernel_rfl) rfl rfl rfl ?_
  refine sq (rg (?_))
  refine fin hT 1 rfl (th (sq (rg (?_))))
  refine sl3g hT 5 0 n n rfl rfl (by simp) rfl (by omega) hn ?_
  refine fin hT 1 rfl (th (rt (?_)))
  exact ret1 rfl rfl ⟨rfl, rfl, rfl⟩
end Go.Proofs.YtlnhbilpkcfdlaaDoor
namespace Go.Proofs.YtlnhbilpkcfdlaaDoor
open Go.En
set_option linter.unusedVariables false
attribute [local irreducible] Code.wp wpList Calls
theorem visitFC {w0 : World} {K : PH} {hs : List PH} (w x : List Nat) (o : Nat) (base : Int) (bW bL b3 b8 b10 b11 b12 : Nat) (hK : FzK K w x o base bW bL b3 b8 b10 b11 b12) (hx : LtW x) (hxl : x.length ≤ 24) (hb : 0 ≤ base ∧ base ≤ 1048576)
    (p r : List Nat) (hpr : x = p ++ r) (aoH : Option Addr) (cH : Nat) (xH : IsS K aoH p.length cH 1 (rvv p)) (m : List PH) (hm : FzO b10 b11 [] [] m) :
    Ct Tryd.prog w0 30 [.int .i64 ((r.length : Nat) : Int), .slice aoH p.length cH, .int .i64 base, .agg (rowA (levF w x o p.length)), .pointer (some ⟨b3, 0, none⟩), .pointer (some ⟨b8, 0, none⟩), .pointer (some ⟨b10, 0, none⟩), .pointer (some ⟨b11, 0, none⟩), .pointer (some ⟨b12, 0, none⟩)]
      K (m ++ hs) (fun v K' hs' => FzR w x o base b8 b10 b11 b12 p r K hs K' hs') := by
  have hlx : x.length = p.length + r.length := by rw [hpr]; simp
  have hlen := chn_len x
  have hget : (chn x)[r.length]? = some (topS r) := by rw [hpr]; exact chn_get p r
  have hA1 := topS_arcs r
  obtain ⟨aoF, cF, gF, aoT, cT, gT, rfl, oF, oT⟩ := hm
  refine enterX Tryd.func30 (by kernel_rfl) rfl rfl rfl ?_
  refine sqX (rgX (?_))
  refine bx hT 0 rfl fun bH => ?_
  refine bx hT 0 rfl fun bS => ?_
  refine bx hT 0 rfl fun bR => ?_
  refine fin hT 0 rfl (nxX (thX (WX.frz fun K1 le1 lR => WX.frz fun K2 le2 lS => WX.frz fun K3 le3 lH => sqX (rgX (?_)))))
  have cR : ∀ (j : Nat) v, (rowA (levF w x o p.length)).toList[j]? = some v → Cell K3 ((⟨bR, 0, none⟩ : Addr).add j) v := fun j v hv => (((cells_pt (b := bR) (off := 0) (c := rowA (levF w x o p.length)) (ty := 34) (fr := (0, 0)) _ (fun j v h => by simpa using h) j v hv).le lR).le le2).le le3
  have cS : Cell K3 ⟨bS, 0, none⟩ (.int .i64 base) := ((Cell.pt rfl).le lS).le le3
  have cHd : Cell K3 ⟨bH, 0, none⟩ (.slice aoH p.length cH) := (Cell.pt rfl).le lH
  have le03 := le1.trans (le2.trans le3)
  have hK3 := hK.le le03
  refine ld hT 0 rfl (.inl rfl) hK3.c3 ?_
  refine cl hT 1 rfl (stateWC bW base (chn x) hK3.wk r.length (topS r) hget (by omega) (by omega)) ?_
  rintro v24 K4 hs24 ⟨le4, rfl, aoA, cA, rfl, xA⟩
  have hK4 := hK3.le le4
  refine al hT 3 (.agg #[.bool false, .int .i64 0, .slice none 0 0]) rfl (by kernel_rfl) fun b13 => ?_
  refine stS hT 0 0 rfl rfl (by kernel_rfl) rfl rfl ?_
  refine fin hT 1 rfl (nxX (thX (sqX (sqX (rgX (?_))))))
  refine ld hT 3 rfl (.inl rfl) hK4.c8 ?_
  refine lds hT 0 (rowA (levF w x o p.length)).toList rfl (by rw [Array.length_toList, rowA_size]; kernel_rfl) (.inl rfl) (fun j v hv => (cR j v hv).le le4) ?_
  rw [Array.toArray_toList]
  refine cl hT 0 rfl (aliveC bL w o (levF w x o p.length) hK4.lv) ?_
  rintro v32 K32 hs32 ⟨rfl, rfl, t32, rfl, h32⟩
  refine cbS hT 0 _ rfl (bnot h32) fun b33 h33 => ?_
  refine fin hT 1 rfl (nxX (thX (ifPX h33 rfl (fun e2 => ?_) (fun e2 => ?_))))
  · refine rtX (rTX (WQX.drop ?_))
    refine ret0X rfl ⟨le03.trans le4, _, [], [], rfl, ⟨aoF, cF, gF, aoT, cT, gT, rfl, oF, oT⟩, .inl ⟨rfl, ?_⟩⟩
    have hd : ∀ j, j < w.length + 1 → o ≤ levF w x o p.length j := fun j hj => by
      rcases Nat.lt_or_ge (levF w x o p.length j) o with h | h
      · exact absurd ⟨j, hj, h⟩ e2
      · exact h
    have h2 := lev_dead_all hd r.length w.length (by omega)
    rw [← hlx, lev_end] at h2
    unfold ansP
    rw [if_neg (by omega)]
  · refine skX (thX (sqX (rgX (?_))))
    refine ld hT 0 rfl (.inl rfl) hK4.c8 ?_
    refine lds hT 0 (rowA (levF w x o p.length)).toList rfl (by rw [Array.length_toList, rowA_size]; kernel_rfl) (.inl rfl) (fun j v hv => (cR j v hv).le le4) ?_
    rw [Array.toArray_toList]
    refine cl hT 0 rfl (levDistC bL w o (levF w x o p.length) hK4.lv) ?_
    rintro v38 K38 hs38 ⟨rfl, rfl, t38, h38, rfl⟩
    refine fin hT 5 rfl (nxX (thX (jnX (σ := PH × List MtP × Option Addr × Nat × PH) (fun _ => [(0, .int .i64 ((r.length : Nat) : Int)), (4, .pointer (some ⟨b3, 0, none⟩)), (5, .pointer (some ⟨b8, 0, none⟩)), (6, .pointer (some ⟨b10, 0, none⟩)), (7, .pointer (some ⟨b11, 0, none⟩)), (8, .pointer (some ⟨b12, 0, none⟩)), (10, .pointer (some ⟨bH, 0, none⟩)), (11, .pointer (some ⟨bS, 0, none⟩)), (12, .pointer (some ⟨bR, 0, none⟩)), (13, .pointer (some ⟨b13, 0, none⟩))]) (fun s => s.1)
      (fun s => pt b13 (stV (topS r) aoA (topS r).arcs.length cA).toArray 88 :: pt b10 #[.slice s.2.2.1 s.2.1.length s.2.2.2.1] 52 :: s.2.2.2.2 :: pt b11 #[.slice aoT 0 cT] 92 :: gT :: hs)
      (fun s => Le K38 s.1 ∧ SlO 3 56 mtR s.2.2.2.2 s.2.2.1 s.2.1.length s.2.2.2.1 s.2.1 ∧ s.2.1 = if r = [] then ansP w x o base else []) ?_ ?_)))
    · refine sqX (rgX (?_))
      refine ldp hT 1 0 (v := .bool (topS r).fin) rfl rfl rfl ?_
      cases r with
      | cons c r =>
        rw [show (topS (c :: r)).fin = false from rfl]
        refine fin hT 3 rfl (nxX (thX (ifFX rfl (skX ?_))))
        exact jxX (K38, [], aoF, cF, gF) ⟨Le.refl _, oF, by rw [if_neg (by simp)]⟩ ⟨rfl, rfl, rfl, rfl, rfl, rfl, rfl, rfl, rfl, rfl, trivial⟩ rfl rfl
      | nil =>
        rw [show (topS []).fin = true from rfl]
        rw [List.append_nil] at hpr
        subst hpr
        refine fin hT 3 rfl (nxX (thX (ifPX h38 rfl (fun e4 => ?_) (fun e4 => ?_))))
        · have hd : levF w x o x.length w.length = dd w x w.length x.length ∧ dd w x w.length x.length < o := by rw [lev_end] at e4 ⊢; omega
          refine sqX (rgX (?_))
          refine ld hT 0 rfl (.inl rfl) (cHd.le le4) ?_
          refine cl hT 0 rfl (textC aoH cH x (.inl rfl) (xH.le (le03.trans le4)) (fun c hc => (hx c hc).2.2) hK4.gl (by omega)) ?_
          rintro v48 K48 hs48 ⟨rfl, rfl, rfl⟩
          refine fin hT 5 rfl (nxX (thX (rgX (?_))))
          refine ldp hT 0 1 rfl rfl rfl ?_
          refine ld hT 1 rfl (.inl rfl) (cS.le le4) ?_
          refine ldp hT 1 0 rfl rfl rfl ?_
          refine ar hT 0 rfl (i64w (x := base + 0) (by omega)) ?_
          refine bd hT 1 (.agg (mtV ⟨textP x, base, ((dd w x w.length x.length : Nat) : Int)⟩).toArray) rfl (fun w => by rw [if_pos e4, hd.1, Int.add_zero]; kernel_rfl) ?_
          refine lit hT 0 (mtV ⟨textP x, base, ((dd w x w.length x.length : Nat) : Int)⟩).toArray rfl (by decide) (by kernel_rfl) fun b59 => ?_
          refine appS hT 0 3 (mtV ⟨textP x, base, ((dd w x w.length x.length : Nat) : Int)⟩) (⟨textP x, base, ((dd w x w.length x.length : Nat) : Int)⟩ : MtP) rfl rfl rfl oF (show mtR _ _ from rfl) rfl (by intro u hu; simp [mtV] at hu; rcases hu with rfl | rfl | rfl <;> rfl) rfl (by decide) (by decide) (by simp [maxLen]) fun ao60 c60 g60 o60 => ?_
          refine stp hT 0 2 rfl rfl rfl rfl ?_
          refine fin hT 0 rfl (nxX (WQX.drop ?_))
          exact jxX (K48, [⟨textP x, base, ((dd w x w.length x.length : Nat) : Int)⟩], ao60, c60, g60) ⟨Le.refl _, o60, by rw [if_pos rfl]; unfold ansP; rw [if_pos hd.2]⟩ ⟨rfl, rfl, rfl, rfl, rfl, rfl, rfl, rfl, rfl, rfl, trivial⟩ rfl rfl
        · have hd : ¬ dd w x w.length x.length < o := by rw [lev_end] at e4; omega
          refine skX (?_)
          exact jxX (K38, [], aoF, cF, gF) ⟨Le.refl _, oF, by rw [if_pos rfl]; unfold ansP; rw [if_neg hd]⟩ ⟨rfl, rfl, rfl, rfl, rfl, rfl, rfl, rfl, rfl, rfl, trivial⟩ rfl rfl
    · rintro ⟨K5, F, aoF', cF', gF'⟩ ⟨le5, oF', hF⟩
      dsimp only at *
      refine sqX (rgX (?_))
      refine ldp hT 1 0 rfl rfl rfl ?_
      refine cl hT 0 rfl (backAC aoA (topS r).arcs.length cA) ?_
      rintro v63 K63 hs63 ⟨rfl, bk, rfl, rfl⟩
      refine fin hT 0 rfl (nxX (thX (bkX (WX.frz fun K6 le6 l6 => WX.drop ?_))))
      have le46 : Le K38 K6 := le5.trans le6
      have xA6 : SlS 3 arcR K6 aoA (topS r).arcs.length cA (topS r).arcs := xA.le le46 fun _ _ h => h
      have cK : Cell K6 ⟨bk, 0, none⟩ (.slice aoA (topS r).arcs.length cA) := (Cell.pt rfl).le l6
      refine rgf [.pointer (some ⟨bk, 0, none⟩)] (backV arcV (topS r).arcs) (BackRd 3 arcR bk aoA cA (topS r).arcs) rfl (backAI bk aoA cA (topS r).arcs (by omega)) (by kernel_rfl) (fun vs hv => ?_) rfl
        (fun i K' hs' => Le K6 K' ∧ ∃ T m', hs' = m' ++ hs ∧ FzO b10 b11 F T m' ∧ (i = 0 → T = []) ∧ (0 < i → ∃ c r' V, r = c :: r' ∧ T = [V] ∧ Clo K' w x o base b8 b12 V p c r'))
        (fun _ _ _ => False) ⟨Le.refl _, [], _, rfl, ⟨aoF', cF', gF', aoT, cT, gT, rfl, oF', oT⟩, fun _ => rfl, fun h => absurd h (by decide)⟩ (fun i K' hs' t u h => by obtain ⟨le, _⟩ := h; exact ⟨⟨K', .inl rfl, cK.le le⟩, K', .inl rfl, xA6.le le fun _ _ h => h⟩) ?_ ?_ ?_
      · obtain ⟨y, _, rfl⟩ := List.mem_map.1 (List.mem_reverse.1 hv)
        rfl
      · rintro L i vs K' hs' t u hvs ⟨le7, T, m', rfl, hm', hT0, _⟩
        have hi : i < (topS r).arcs.length := by have := (List.getElem?_eq_some_iff.1 hvs).1; rw [backV_len] at this; exact this
        obtain rfl : i = 0 := by omega
        obtain rfl := hT0 rfl
        rw [backV_get arcV hi] at hvs
        cases hvs
        cases r with
        | nil => simp [topS] at hi
        | cons c r =>
          obtain ⟨aoF2, cF2, gF2, aoT2, cT2, gT2, rfl, oF2, oT2⟩ := hm'
          have ha : (topS (c :: r)).arcs[(topS (c :: r)).arcs.length - 1 - 0]'(by omega) = ⟨(c : Int), 0, (r.length : Int)⟩ := rfl
          rw [ha]
          refine rgX (?_)
          refine al hT 0 (.agg #[.int .i32 0, .int .i64 0, .int .i64 0]) rfl (by kernel_rfl) fun b20 => ?_
          refine stS hT 0 0 rfl rfl (by kernel_rfl) rfl rfl ?_
          refine fin hT 0 rfl (nxX (asgX (hs' := pt b20 (arcV ⟨(c : Int), 0, (r.length : Int)⟩).toArray 91 :: pt b10 #[.slice aoF2 F.length cF2] 52 :: gF2 :: pt b11 #[.slice aoT2 0 cT2] 92 :: gT2 :: hs) rfl fun u => WX.frz fun K8 le8 l8 => ?_))
          refine bkX (rgX (?_))
          refine ldp hT 0 2 rfl rfl rfl ?_
          refine lit hT 1 #[.func (.func 34) #[] #[.pointer (some ⟨b12, 0, none⟩), .pointer (some ⟨b20, 0, none⟩), .pointer (some ⟨bH, 0, none⟩), .pointer (some ⟨bS, 0, none⟩), .pointer (some ⟨b8, 0, none⟩), .pointer (some ⟨bR, 0, none⟩)]] rfl (by decide) (by kernel_rfl) fun b68 => ?_
          refine app hT 0 4 rfl rfl oT2 (.inr ⟨0, rfl⟩) (Own.ofPt (b := b68) (e := 1) (n := 1) (size := 1) rfl (by simp [maxLen])).isS rfl (by decide) (fun u hu => by simp at hu; subst hu; rfl) (by decide) (by simp [maxLen]) fun ao69 c69 g69 o69 => ?_
          refine stp hT 0 3 rfl rfl rfl rfl ?_
          refine fin hT 0 rfl (nxX (blX (WQX.drop (rndX (hs' := pt b10 #[.slice aoF2 F.length cF2] 52 :: gF2 :: pt b11 #[.slice ao69 1 c69] 92 :: g69 :: hs) rfl ?_))))
          have le48 : Le K38 K8 := le46.trans (le7.trans le8)
          have le08 : Le K3 K8 := le4.trans le48
          refine ⟨le7.trans le8, [_], _, rfl, ⟨aoF2, cF2, gF2, ao69, c69, g69, rfl, oF2, o69⟩, (fun h => by cases h), fun _ => ⟨c, r, _, rfl, rfl, b20, bH, bS, bR, aoH, cH, rfl, ?_, cHd.le le08, xH.le (le03.trans le08), cS.le le08, fun j v hv => (cR j v hv).le le08⟩⟩
          exact fun j v hv => (cells_pt (b := b20) (off := 0) (c := (arcV ⟨(c : Int), 0, (r.length : Int)⟩).toArray) (ty := 91) (fr := (0, 0)) _ (fun j v h => by simpa using h) j v hv).le l8
      · rintro D K' hs' ⟨le7, T, m', rfl, hm', hT0, hT1⟩
        rw [backV_len] at hT0 hT1
        refine blX (end0M D rfl rfl ⟨le03.trans (le4.trans (le46.trans le7)), m', F, T, rfl, hm', ?_⟩)
        cases r with
        | nil => exact .inl ⟨hT0 rfl, by rw [hF, if_pos rfl]⟩
        | cons c r =>
          refine .inr ⟨by rw [hF, if_neg (by simp)], ?_⟩
          exact hT1 (by simp [topS])
      · rintro D c K' hs' h
        exact h.elim
end Go.Proofs.YtlnhbilpkcfdlaaDoor
