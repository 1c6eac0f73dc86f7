/-
  The table of fields; small tests.
  A message written, by the table of fields.
  A message written.
  A message read, by the table of fields.
-/
import Derived.Test.YthpiokdibknpaaaNi
import Derived.Test.YthpiokdibknpaaaMs
namespace Go.Proofs.Ythpiokdibknpaaa
open Go.En
set_option linter.unusedVariables false
set_option linter.unusedSimpArgs false
attribute [local irreducible] Code.wp wpList Calls

abbrev fv (g : Nat) : Value := .func (.func g) #[] #[]
abbrev fc (g b : Nat) : Value := .func (.func g) #[] #[Ptr b]
abbrev numV (b : Nat) : List Value := [fc 82 b, fc 83 b, fc 84 b]
abbrev placeV (b : Nat) : List Value := [fc 91 b, fc 92 b, fc 93 b]
abbrev goodV : List Value := [fv 85, fv 86, fv 87]
abbrev entsV : List Value := [fv 88, fv 89, fv 90]
abbrev votV : List Value := [fv 94, fv 95, fv 96]
abbrev dataV : List Value := [fv 97, fv 98, fv 99]
def NumC (K : PH) (g : Nat) (cs : List Value) : Prop := ∃ b, K b = some (capC 108 g) ∧ cs = numV b
def PlaceC (K : PH) (g : Nat) (cs : List Value) : Prop := ∃ b, K b = some (capC 111 g) ∧ cs = placeV b
def FV (K : PH) (cs : List Value) : Fld → Prop
  | .idx => NumC K 68 cs
  | .lt => NumC K 69 cs
  | .com => NumC K 71 cs
  | .rnd => NumC K 72 cs
  | .off => PlaceC K 75 cs
  | .whole => PlaceC K 76 cs
  | .good => cs = goodV
  | .ents => cs = entsV
  | .vot => cs = votV
  | .data => cs = dataV
theorem FV.le {K K' : PH} (l : Le K K') {cs : List Value} {f : Fld} (h : FV K cs f) : FV K' cs f := by
  cases f <;> first | exact h | (obtain ⟨b, h1, h2⟩ := h; exact ⟨b, l _ _ h1, h2⟩)
theorem capLe {K' : PH} {b ty g : Nat} (l : Le (pt b #[fv g] ty) K') : K' b = some (capC ty g) := l _ _ (by simp)
/-- the fields of a kind lie there -/
def FldsS (K : PH) (ao : Option Addr) (cap : Nat) (fs : List Fld) : Prop := ∃ css : List (List Value), IsS K ao fs.length cap 3 css.flatten ∧ All2 (FV K) css fs
theorem FldsS.le {K K' : PH} (l : Le K K') {ao : Option Addr} {cap : Nat} {fs : List Fld} (h : FldsS K ao cap fs) : FldsS K' ao cap fs := by
  obtain ⟨css, h1, h2⟩ := h
  exact ⟨css, h1.le l, All2.imp (fun _ _ => FV.le l) h2⟩
theorem FldsS.mk {K' : PH} {b n : Nat} {css : List (List Value)} {fs : List Fld} (hn : fs.length = n) (h : All2 (FV K') css fs) (hc : css.flatten.length = n * 3) (h' : n ≤ 10) (l : Le (pt b css.flatten.toArray 89) K') : FldsS K' (some ⟨b, 0, none⟩) n fs := by
  subst hn
  refine ⟨css, ?_, h⟩
  have := (Own.ofPt (b := b) (c := css.flatten.toArray) (e := 89) (n := fs.length) (size := 3) (by simpa using hc) (by simp only [maxLen]; omega)).isS.le l
  simpa using this
theorem numFC {w0 : World} {K : PH} {hs : List PH} (g : Nat) : Ct Try.prog w0 67 [fv g] K hs
    (fun v K' hs' => K' = K ∧ ∃ b, hs' = pt b #[fv g] 108 :: hs ∧ v = .agg #[fc 82 b, fc 83 b, fc 84 b]) := by
  refine enter Try.func67 (by kernel_rfl) rfl rfl rfl ?_
  refine sq (rg (?_))
  refine bx hT 0 rfl fun b1 => ?_   -- t1
  refine al hT 0 (.agg #[.nilFunc, .nilFunc, .nilFunc]) rfl (by kernel_rfl) fun b2 => ?_   -- t2
  refine fin hT 0 rfl (th (sq (rg (?_))))
  refine bd hT 3 (.agg #[fc 82 b1, fc 83 b1, fc 84 b1]) rfl (fun w => by kernel_rfl) ?_   -- t6
  refine stS hT 0 0 rfl rfl (by kernel_rfl) rfl rfl ?_   -- tNone t2 := t6
  refine fin hT 0 rfl (th (rt (?_)))
  exact retcA 0 1 rfl rfl rfl (by kernel_rfl) ⟨rfl, b1, rfl, rfl⟩
theorem plcFC {w0 : World} {K : PH} {hs : List PH} (g : Nat) : Ct Try.prog w0 74 [fv g] K hs
    (fun v K' hs' => K' = K ∧ ∃ b, hs' = pt b #[fv g] 111 :: hs ∧ v = .agg #[fc 91 b, fc 92 b, fc 93 b]) := by
  refine enter Try.func74 (by kernel_rfl) rfl rfl rfl ?_
  refine sq (rg (?_))
  refine bx hT 0 rfl fun b1 => ?_   -- t1
  refine al hT 0 (.agg #[.nilFunc, .nilFunc, .nilFunc]) rfl (by kernel_rfl) fun b2 => ?_   -- t2
  refine fin hT 0 rfl (th (sq (rg (?_))))
  refine bd hT 3 (.agg #[fc 91 b1, fc 92 b1, fc 93 b1]) rfl (fun w => by kernel_rfl) ?_   -- t6
  refine stS hT 0 0 rfl rfl (by kernel_rfl) rfl rfl ?_   -- tNone t2 := t6
  refine fin hT 0 rfl (th (rt (?_)))
  exact retcA 0 1 rfl rfl rfl (by kernel_rfl) ⟨rfl, b1, rfl, rfl⟩
theorem goodFC {w0 : World} {K : PH} {hs : List PH} : Ct Try.prog w0 70 [] K hs
    (fun v K' hs' => K' = K ∧ hs' = hs ∧ v = .agg #[fv 85, fv 86, fv 87]) := by
  refine enter Try.func70 (by kernel_rfl) rfl rfl rfl ?_
  refine sq (rg (?_))
  refine al hT 0 (.agg #[.nilFunc, .nilFunc, .nilFunc]) rfl (by kernel_rfl) fun b0 => ?_   -- t0
  refine fin hT 0 rfl (th (sq (rg (?_))))
  refine bd hT 0 (.agg #[fv 85, fv 86, fv 87]) rfl (fun w => by kernel_rfl) ?_   -- t1
  refine stS hT 0 0 rfl rfl (by kernel_rfl) rfl rfl ?_   -- tNone t0 := t1
  refine fin hT 0 rfl (th (rt (?_)))
  exact retcA 0 1 rfl rfl rfl (by kernel_rfl) ⟨rfl, rfl, rfl⟩
theorem entriesFC {w0 : World} {K : PH} {hs : List PH} : Ct Try.prog w0 73 [] K hs
    (fun v K' hs' => K' = K ∧ hs' = hs ∧ v = .agg #[fv 88, fv 89, fv 90]) := by
  refine enter Try.func73 (by kernel_rfl) rfl rfl rfl ?_
  refine sq (rg (?_))
  refine al hT 0 (.agg #[.nilFunc, .nilFunc, .nilFunc]) rfl (by kernel_rfl) fun b0 => ?_   -- t0
  refine fin hT 0 rfl (th (sq (rg (?_))))
  refine bd hT 0 (.agg #[fv 88, fv 89, fv 90]) rfl (fun w => by kernel_rfl) ?_   -- t1
  refine stS hT 0 0 rfl rfl (by kernel_rfl) rfl rfl ?_   -- tNone t0 := t1
  refine fin hT 0 rfl (th (rt (?_)))
  exact retcA 0 1 rfl rfl rfl (by kernel_rfl) ⟨rfl, rfl, rfl⟩
theorem votersFC {w0 : World} {K : PH} {hs : List PH} : Ct Try.prog w0 77 [] K hs
    (fun v K' hs' => K' = K ∧ hs' = hs ∧ v = .agg #[fv 94, fv 95, fv 96]) := by
  refine enter Try.func77 (by kernel_rfl) rfl rfl rfl ?_
  refine sq (rg (?_))
  refine al hT 0 (.agg #[.nilFunc, .nilFunc, .nilFunc]) rfl (by kernel_rfl) fun b0 => ?_   -- t0
  refine fin hT 0 rfl (th (sq (rg (?_))))
  refine bd hT 0 (.agg #[fv 94, fv 95, fv 96]) rfl (fun w => by kernel_rfl) ?_   -- t1
  refine stS hT 0 0 rfl rfl (by kernel_rfl) rfl rfl ?_   -- tNone t0 := t1
  refine fin hT 0 rfl (th (rt (?_)))
  exact retcA 0 1 rfl rfl rfl (by kernel_rfl) ⟨rfl, rfl, rfl⟩
theorem dataFC {w0 : World} {K : PH} {hs : List PH} : Ct Try.prog w0 78 [] K hs
    (fun v K' hs' => K' = K ∧ hs' = hs ∧ v = .agg #[fv 97, fv 98, fv 99]) := by
  refine enter Try.func78 (by kernel_rfl) rfl rfl rfl ?_
  refine sq (rg (?_))
  refine al hT 0 (.agg #[.nilFunc, .nilFunc, .nilFunc]) rfl (by kernel_rfl) fun b0 => ?_   -- t0
  refine fin hT 0 rfl (th (sq (rg (?_))))
  refine bd hT 0 (.agg #[fv 97, fv 98, fv 99]) rfl (fun w => by kernel_rfl) ?_   -- t1
  refine stS hT 0 0 rfl rfl (by kernel_rfl) rfl rfl ?_   -- tNone t0 := t1
  refine fin hT 0 rfl (th (rt (?_)))
  exact retcA 0 1 rfl rfl rfl (by kernel_rfl) ⟨rfl, rfl, rfl⟩
theorem bare_iff (m : Msg) (p : MA) : ((((((((((m.idx : Nat) : Int) = 0 ∧ ((m.lt : Nat) : Int) = 0) ∧ ((m.com : Nat) : Int) = 0) ∧ ((m.rnd : Nat) : Int) = 0) ∧ ¬ m.good = true) ∧ m.off = 0) ∧ m.whole = 0) ∧ ((m.ents.length : Nat) : Int) = 0) ∧ ((m.vot.length : Nat) : Int) = 0) ∧ ((m.data.length : Nat) : Int) = 0 ↔ bareP m := by
  unfold bareP
  have h1 : ∀ {α : Type} (l : List α), ((l.length : Nat) : Int) = 0 ↔ l = [] := fun l => by rw [← List.length_eq_zero_iff]; omega
  have h2 : ∀ n : Nat, ((n : Nat) : Int) = 0 ↔ n = 0 := fun n => by omega
  rw [h1, h1, h1, h2, h2, h2, h2]
  simp only [and_assoc, Bool.not_eq_true]
theorem fieldsC {w0 : World} {K : PH} {hs : List PH} (k : Int) : Ct Try.prog w0 51 [.int .i64 k] K hs
    (fun v K' hs' => Le K K' ∧ hs' = hs ∧ ∃ ao cap, v = .slice ao (fieldsOf k).length cap ∧ FldsS K' ao cap (fieldsOf k)) := by
  refine enter Try.func51 (by kernel_rfl) rfl rfl rfl ?_
  refine sq (rg (?_))
  refine fin hT 1 rfl (th (sq (sq (rg (?_)))))
  refine fin hT 1 rfl (th (bk (sq (rg (?_)))))
  refine cmpS hT 0 rfl fun b5 h5 => ?_   -- encode.go:126 t5 t3 = 1
  refine fin hT 1 rfl (th (ifP h5 rfl (fun e2 => ?_) (fun e2 => ?_)))
  · refine sq (rg (?_))
    refine cl hT 0 rfl (numFC 68) ?_   -- encode.go:127 t6
    rintro v6 K6 hs6 ⟨rfl, c6, rfl, rfl⟩
    refine cl hT 0 rfl (numFC 69) ?_   -- encode.go:127 t7
    rintro v7 K7 hs7 ⟨rfl, c7, rfl, rfl⟩
    refine lit hT 0 #[fc 82 c6, fc 83 c6, fc 84 c6, fc 82 c7, fc 83 c7, fc 84 c7] rfl (by decide) (by kernel_rfl) fun b8 => ?_   -- encode.go:127 t8
    refine fin hT 1 rfl (th (rt (rB (rT (?_)))))
    refine WQ.frz fun KL leKL leHL => (WQ.frz fun K7 leK7 leH7 => (WQ.frz fun K6 leK6 leH6 => ?_))
    exact ret1 rfl rfl ⟨((leKL.trans leK7).trans leK6), rfl, some ⟨b8, 0, none⟩, 2, by rw [fieldsOf, if_pos e2]; rfl, by rw [fieldsOf, if_pos e2]; exact FldsS.mk (css := [numV c6, numV c7]) rfl ⟨⟨c6, capLe leH6, rfl⟩, ⟨c7, capLe (leH7.trans leK6), rfl⟩, trivial⟩ rfl (by decide) ((leHL.trans leK7).trans leK6)⟩
  · refine sq (rg (?_))
    refine cmpS hT 0 rfl fun b10 h10 => ?_   -- encode.go:128 t10 t3 = 2
    refine fin hT 1 rfl (th (ifP h10 rfl (fun e4 => ?_) (fun e4 => ?_)))
    · refine sq (rg (?_))
      refine cl hT 0 rfl goodFC ?_   -- encode.go:129 t11
      rintro v11 K11 hs11 ⟨rfl, rfl, rfl⟩
      refine lit hT 0 #[fv 85, fv 86, fv 87] rfl (by decide) (by kernel_rfl) fun b12 => ?_   -- encode.go:129 t12
      refine fin hT 1 rfl (th (rt (rB (rT (?_)))))
      refine WQ.frz fun KL leKL leHL => ?_
      exact ret1 rfl rfl ⟨leKL, rfl, some ⟨b12, 0, none⟩, 1, by rw [fieldsOf, if_neg e2, if_pos e4]; rfl, by rw [fieldsOf, if_neg e2, if_pos e4]; exact FldsS.mk (css := [goodV]) rfl ⟨rfl, trivial⟩ rfl (by decide) leHL⟩
    · refine sq (rg (?_))
      refine cmpS hT 0 rfl fun b14 h14 => ?_   -- encode.go:130 t14 t3 = 3
      refine fin hT 1 rfl (th (ifP h14 rfl (fun e6 => ?_) (fun e6 => ?_)))
      · refine sq (rg (?_))
        refine cl hT 0 rfl (numFC 68) ?_   -- encode.go:131 t15
        rintro v15 K15 hs15 ⟨rfl, c15, rfl, rfl⟩
        refine cl hT 0 rfl (numFC 69) ?_   -- encode.go:131 t16
        rintro v16 K16 hs16 ⟨rfl, c16, rfl, rfl⟩
        refine cl hT 0 rfl (numFC 71) ?_   -- encode.go:131 t17
        rintro v17 K17 hs17 ⟨rfl, c17, rfl, rfl⟩
        refine cl hT 0 rfl (numFC 72) ?_   -- encode.go:131 t18
        rintro v18 K18 hs18 ⟨rfl, c18, rfl, rfl⟩
        refine cl hT 0 rfl entriesFC ?_   -- encode.go:131 t19
        rintro v19 K19 hs19 ⟨rfl, rfl, rfl⟩
        refine lit hT 0 #[fc 82 c15, fc 83 c15, fc 84 c15, fc 82 c16, fc 83 c16, fc 84 c16, fc 82 c17, fc 83 c17, fc 84 c17, fc 82 c18, fc 83 c18, fc 84 c18, fv 88, fv 89, fv 90] rfl (by decide) (by kernel_rfl) fun b20 => ?_   -- encode.go:131 t20
        refine fin hT 1 rfl (th (rt (rB (rT (?_)))))
        refine WQ.frz fun KL leKL leHL => (WQ.frz fun K18 leK18 leH18 => (WQ.frz fun K17 leK17 leH17 => (WQ.frz fun K16 leK16 leH16 => (WQ.frz fun K15 leK15 leH15 => ?_))))
        exact ret1 rfl rfl ⟨((((leKL.trans leK18).trans leK17).trans leK16).trans leK15), rfl, some ⟨b20, 0, none⟩, 5, by rw [fieldsOf, if_neg e2, if_neg e4, if_pos e6]; rfl, by rw [fieldsOf, if_neg e2, if_neg e4, if_pos e6]; exact FldsS.mk (css := [numV c15, numV c16, numV c17, numV c18, entsV]) rfl ⟨⟨c15, capLe leH15, rfl⟩, ⟨c16, capLe (leH16.trans leK15), rfl⟩, ⟨c17, capLe ((leH17.trans leK16).trans leK15), rfl⟩, ⟨c18, capLe (((leH18.trans leK17).trans leK16).trans leK15), rfl⟩, rfl, trivial⟩ rfl (by decide) ((((leHL.trans leK18).trans leK17).trans leK16).trans leK15)⟩
      · refine sq (rg (?_))
        refine cmpS hT 0 rfl fun b22 h22 => ?_   -- encode.go:132 t22 t3 = 4
        refine fin hT 1 rfl (th (ifP h22 rfl (fun e8 => ?_) (fun e8 => ?_)))
        · refine sq (rg (?_))
          refine cl hT 0 rfl goodFC ?_   -- encode.go:133 t23
          rintro v23 K23 hs23 ⟨rfl, rfl, rfl⟩
          refine cl hT 0 rfl (numFC 68) ?_   -- encode.go:133 t24
          rintro v24 K24 hs24 ⟨rfl, c24, rfl, rfl⟩
          refine cl hT 0 rfl (numFC 72) ?_   -- encode.go:133 t25
          rintro v25 K25 hs25 ⟨rfl, c25, rfl, rfl⟩
          refine lit hT 0 #[fv 85, fv 86, fv 87, fc 82 c24, fc 83 c24, fc 84 c24, fc 82 c25, fc 83 c25, fc 84 c25] rfl (by decide) (by kernel_rfl) fun b26 => ?_   -- encode.go:133 t26
          refine fin hT 1 rfl (th (rt (rB (rT (?_)))))
          refine WQ.frz fun KL leKL leHL => (WQ.frz fun K25 leK25 leH25 => (WQ.frz fun K24 leK24 leH24 => ?_))
          exact ret1 rfl rfl ⟨((leKL.trans leK25).trans leK24), rfl, some ⟨b26, 0, none⟩, 3, by rw [fieldsOf, if_neg e2, if_neg e4, if_neg e6, if_pos e8]; rfl, by rw [fieldsOf, if_neg e2, if_neg e4, if_neg e6, if_pos e8]; exact FldsS.mk (css := [goodV, numV c24, numV c25]) rfl ⟨rfl, ⟨c24, capLe leH24, rfl⟩, ⟨c25, capLe (leH25.trans leK24), rfl⟩, trivial⟩ rfl (by decide) ((leHL.trans leK25).trans leK24)⟩
        · refine sq (rg (?_))
          refine cmpS hT 0 rfl fun b28 h28 => ?_   -- encode.go:134 t28 t3 = 5
          refine fin hT 1 rfl (th (ifP h28 rfl (fun e10 => ?_) (fun e10 => ?_)))
          · refine sq (rg (?_))
            refine cl hT 0 rfl (numFC 68) ?_   -- encode.go:135 t29
            rintro v29 K29 hs29 ⟨rfl, c29, rfl, rfl⟩
            refine cl hT 0 rfl (numFC 69) ?_   -- encode.go:135 t30
            rintro v30 K30 hs30 ⟨rfl, c30, rfl, rfl⟩
            refine cl hT 0 rfl (plcFC 75) ?_   -- encode.go:135 t31
            rintro v31 K31 hs31 ⟨rfl, c31, rfl, rfl⟩
            refine cl hT 0 rfl (plcFC 76) ?_   -- encode.go:135 t32
            rintro v32 K32 hs32 ⟨rfl, c32, rfl, rfl⟩
            refine cl hT 0 rfl votersFC ?_   -- encode.go:135 t33
            rintro v33 K33 hs33 ⟨rfl, rfl, rfl⟩
            refine cl hT 0 rfl dataFC ?_   -- encode.go:135 t34
            rintro v34 K34 hs34 ⟨rfl, rfl, rfl⟩
            refine lit hT 0 #[fc 82 c29, fc 83 c29, fc 84 c29, fc 82 c30, fc 83 c30, fc 84 c30, fc 91 c31, fc 92 c31, fc 93 c31, fc 91 c32, fc 92 c32, fc 93 c32, fv 94, fv 95, fv 96, fv 97, fv 98, fv 99] rfl (by decide) (by kernel_rfl) fun b35 => ?_   -- encode.go:135 t35
            refine fin hT 1 rfl (th (rt (rB (rT (?_)))))
            refine WQ.frz fun KL leKL leHL => (WQ.frz fun K32 leK32 leH32 => (WQ.frz fun K31 leK31 leH31 => (WQ.frz fun K30 leK30 leH30 => (WQ.frz fun K29 leK29 leH29 => ?_))))
            exact ret1 rfl rfl ⟨((((leKL.trans leK32).trans leK31).trans leK30).trans leK29), rfl, some ⟨b35, 0, none⟩, 6, by rw [fieldsOf, if_neg e2, if_neg e4, if_neg e6, if_neg e8, if_pos e10]; rfl, by rw [fieldsOf, if_neg e2, if_neg e4, if_neg e6, if_neg e8, if_pos e10]; exact FldsS.mk (css := [numV c29, numV c30, placeV c31, placeV c32, votV, dataV]) rfl ⟨⟨c29, capLe leH29, rfl⟩, ⟨c30, capLe (leH30.trans leK29), rfl⟩, ⟨c31, capLe ((leH31.trans leK30).trans leK29), rfl⟩, ⟨c32, capLe (((leH32.trans leK31).trans leK30).trans leK29), rfl⟩, rfl, rfl, trivial⟩ rfl (by decide) ((((leHL.trans leK32).trans leK31).trans leK30).trans leK29)⟩
          · refine sq (rg (?_))
            refine cmpS hT 0 rfl fun b37 h37 => ?_   -- encode.go:136 t37 t3 = 6
            refine fin hT 1 rfl (th (ifP h37 rfl (fun e12 => ?_) (fun e12 => ?_)))
            · refine sq (rg (?_))
              refine cl hT 0 rfl (numFC 68) ?_   -- encode.go:137 t38
              rintro v38 K38 hs38 ⟨rfl, c38, rfl, rfl⟩
              refine cl hT 0 rfl (plcFC 75) ?_   -- encode.go:137 t39
              rintro v39 K39 hs39 ⟨rfl, c39, rfl, rfl⟩
              refine lit hT 0 #[fc 82 c38, fc 83 c38, fc 84 c38, fc 91 c39, fc 92 c39, fc 93 c39] rfl (by decide) (by kernel_rfl) fun b40 => ?_   -- encode.go:137 t40
              refine fin hT 1 rfl (th (rt (rB (rT (?_)))))
              refine WQ.frz fun KL leKL leHL => (WQ.frz fun K39 leK39 leH39 => (WQ.frz fun K38 leK38 leH38 => ?_))
              exact ret1 rfl rfl ⟨((leKL.trans leK39).trans leK38), rfl, some ⟨b40, 0, none⟩, 2, by rw [fieldsOf, if_neg e2, if_neg e4, if_neg e6, if_neg e8, if_neg e10, if_pos e12]; rfl, by rw [fieldsOf, if_neg e2, if_neg e4, if_neg e6, if_neg e8, if_neg e10, if_pos e12]; exact FldsS.mk (css := [numV c38, placeV c39]) rfl ⟨⟨c38, capLe leH38, rfl⟩, ⟨c39, capLe (leH39.trans leK38), rfl⟩, trivial⟩ rfl (by decide) ((leHL.trans leK39).trans leK38)⟩
            · refine sk (bl (th (sq (rg (?_)))))
              refine fin hT 1 rfl (th (rt (?_)))
              exact ret1 rfl rfl ⟨Le.refl _, rfl, none, 0, by rw [fieldsOf, if_neg e2, if_neg e4, if_neg e6, if_neg e8, if_neg e10, if_neg e12]; rfl, [], by rw [fieldsOf, if_neg e2, if_neg e4, if_neg e6, if_neg e8, if_neg e10, if_neg e12]; exact IsS.nil _ _ _ _, by rw [fieldsOf, if_neg e2, if_neg e4, if_neg e6, if_neg e8, if_neg e10, if_neg e12]; trivial⟩
theorem placedC {w0 : World} {K : PH} {hs : List PH} (n : Int) : Ct Try.prog w0 52 [.int .i64 n] K hs (fun v K' hs' => K' = K ∧ hs' = hs ∧ ∃ t : Bool, v = .bool t ∧ (t = true ↔ placedP n)) := by
  refine enter Try.func52 (by kernel_rfl) rfl rfl rfl ?_
  refine sq (rg (?_))
  refine fin hT 1 rfl (th (sq (rg (?_))))
  refine cmpS hT 1 rfl fun b4 h4 => ?_   -- encode.go:149 t4 t3 ≥ 0
  refine' bja hT 1 3 8 [4, 5] h4 rfl rfl rfl rfl rfl rfl rfl (fun _ => ?x2) (fun b8 h8 => ?_)   -- encode.go:149 t8
  case x2 =>
    refine cmpS hT 1 rfl fun b7 h7 => ?_   -- encode.go:149 t7 t6 < 7
    exact fin hT 1 rfl (bjx h7 rfl rfl rfl)
  refine fin hT 1 rfl (th (rt (?_)))
  exact ret1 rfl rfl ⟨rfl, rfl, b8, rfl, h8⟩
theorem bareC {w0 : World} {K : PH} {hs : List PH} (m : Msg) (p : MA) : Ct Try.prog w0 53 [.agg (mv m p)] K hs (fun v K' hs' => K' = K ∧ hs' = hs ∧ ∃ t : Bool, v = .bool t ∧ (t = true ↔ bareP m)) := by
  refine enter Try.func53 (by kernel_rfl) rfl rfl rfl ?_
  refine sq (rg (?_))
  refine bx hT 0 rfl fun b1 => ?_   -- encode.go:143 t1
  refine fin hT 1 rfl (th (sq (rg (?_))))
  refine ldp hT 1 0 rfl rfl rfl ?_   -- encode.go:144 t4 *t3
  refine cmpS hT 0 rfl fun b5 h5 => ?_   -- encode.go:144 t5 t4 = 0
  refine' bja hT 1 4 10 [5, 6] h5 rfl rfl rfl rfl rfl rfl rfl (fun _ => ?x2) (fun b10 h10 => ?_)   -- encode.go:144 t10
  case x2 =>
    refine ldp hT 1 0 rfl rfl rfl ?_   -- encode.go:144 t8 *t7
    refine cmpS hT 0 rfl fun b9 h9 => ?_   -- encode.go:144 t9 t8 = 0
    exact fin hT 1 rfl (bjx h9 rfl rfl rfl)
  refine' bja hT 1 4 15 [10, 11] h10 rfl rfl rfl rfl rfl rfl rfl (fun _ => ?x4) (fun b15 h15 => ?_)   -- encode.go:144 t15
  case x4 =>
    refine ldp hT 1 0 rfl rfl rfl ?_   -- encode.go:144 t13 *t12
    refine cmpS hT 0 rfl fun b14 h14 => ?_   -- encode.go:144 t14 t13 = 0
    exact fin hT 1 rfl (bjx h14 rfl rfl rfl)
  refine' bja hT 1 4 20 [15, 16] h15 rfl rfl rfl rfl rfl rfl rfl (fun _ => ?x6) (fun b20 h20 => ?_)   -- encode.go:144 t20
  case x6 =>
    refine ldp hT 1 0 rfl rfl rfl ?_   -- encode.go:144 t18 *t17
    refine cmpS hT 0 rfl fun b19 h19 => ?_   -- encode.go:144 t19 t18 = 0
    exact fin hT 1 rfl (bjx h19 rfl rfl rfl)
  refine' bja hT 1 4 25 [20, 21] h20 rfl rfl rfl rfl rfl rfl rfl (fun _ => ?x8) (fun b25 h25 => ?_)   -- encode.go:144 t25
  case x8 =>
    refine ldp hT 1 0 rfl rfl rfl ?_   -- encode.go:144 t23 *t22
    refine nmS fun b23 h23 => ?_
    refine cbS hT 0 _ rfl (bnot h23) fun b24 h24 => ?_   -- not
    exact fin hT 1 rfl (bjx h24 rfl rfl rfl)
  refine' bja hT 1 4 30 [25, 26] h25 rfl rfl rfl rfl rfl rfl rfl (fun _ => ?x9) (fun b30 h30 => ?_)   -- encode.go:144 t30
  case x9 =>
    refine ldp hT 1 0 rfl rfl rfl ?_   -- encode.go:144 t28 *t27
    refine cmpS hT 0 rfl fun b29 h29 => ?_   -- encode.go:144 t29 t28 = 0
    exact fin hT 1 rfl (bjx h29 rfl rfl rfl)
  refine' bja hT 1 4 35 [30, 31] h30 rfl rfl rfl rfl rfl rfl rfl (fun _ => ?x11) (fun b35 h35 => ?_)   -- encode.go:144 t35
  case x11 =>
    refine ldp hT 1 0 rfl rfl rfl ?_   -- encode.go:144 t33 *t32
    refine cmpS hT 0 rfl fun b34 h34 => ?_   -- encode.go:144 t34 t33 = 0
    exact fin hT 1 rfl (bjx h34 rfl rfl rfl)
  refine' bja hT 1 5 41 [35, 36] h35 rfl rfl rfl rfl rfl rfl rfl (fun _ => ?x13) (fun b41 h41 => ?_)   -- encode.go:144 t41
  case x13 =>
    refine ldp hT 1 0 rfl rfl rfl ?_   -- encode.go:144 t38 *t37
    refine cmpS hT 1 rfl fun b40 h40 => ?_   -- encode.go:144 t40 t39 = 0
    exact fin hT 1 rfl (bjx h40 rfl rfl rfl)
  refine' bja hT 1 5 47 [41, 42] h41 rfl rfl rfl rfl rfl rfl rfl (fun _ => ?x15) (fun b47 h47 => ?_)   -- encode.go:144 t47
  case x15 =>
    refine ldp hT 1 0 rfl rfl rfl ?_   -- encode.go:144 t44 *t43
    refine cmpS hT 1 rfl fun b46 h46 => ?_   -- encode.go:144 t46 t45 = 0
    exact fin hT 1 rfl (bjx h46 rfl rfl rfl)
  refine' bja hT 1 5 53 [47, 48] h47 rfl rfl rfl rfl rfl rfl rfl (fun _ => ?x17) (fun b53 h53 => ?_)   -- encode.go:144 t53
  case x17 =>
    refine ldp hT 1 0 rfl rfl rfl ?_   -- encode.go:144 t50 *t49
    refine cmpS hT 1 rfl fun b52 h52 => ?_   -- encode.go:144 t52 t51 = 0
    exact fin hT 1 rfl (bjx h52 rfl rfl rfl)
  refine fin hT 1 rfl (th (rt (?_)))
  refine WQ.drop ?_
  exact ret1 rfl rfl ⟨rfl, rfl, b53, rfl, h53.trans (bare_iff m p)⟩
theorem equalC {w0 : World} {K h1 h2 : PH} {hs : List PH} (a1 a2 : Option Addr) (c1 c2 : Nat) (l1 l2 : List UInt8) (m1 : In K hs h1) (m2 : In K hs h2) (x1 : IsS h1 a1 l1.length c1 1 (bv l1)) (x2 : IsS h2 a2 l2.length c2 1 (bv l2)) (hl : l1.length < 1099511627776) :
    Ct Try.prog w0 58 [.slice a1 l1.length c1, .slice a2 l2.length c2] K hs (fun v K' hs' => K' = K ∧ hs' = hs ∧ ∃ b : Bool, v = .bool b ∧ (b = true ↔ l1 = l2)) := by
  refine enter Try.func58 (by kernel_rfl) rfl rfl rfl ?_
  refine sq (rg (?_))
  refine fin hT 1 rfl (th (sq (sq (rg (?_)))))
  refine cmpS hT 4 rfl fun b10 h10 => ?_   -- slices.go:21 t10 t7 ≠ t9
  refine fin hT 0 rfl (th (ifP h10 rfl (fun e2 => ?_) (fun e2 => ?_)))
  · refine sq (rg (?_))
    refine fin hT 1 rfl (th (rt (rT (?_))))
    exact ret1 rfl rfl ⟨rfl, rfl, false, rfl, by simp; intro h; subst h; exact e2 rfl⟩
  · have hll : l1.length = l2.length := by omega
    refine sk (th (sq (sq (rg (?_)))))
    refine fin hT 3 rfl (th (bk (?_)))
    refine loop (σ := Nat) (fun i => [(0, .slice a1 l1.length c1), (1, .slice a2 l2.length c2), (12, .int .i64 (l1.length : Nat)), (13, .int .i64 (i : Nat))]) (fun _ => K) (fun _ => hs) (fun i => i ≤ l1.length ∧ l1.take i = l2.take i) (fun i => l1.length - i) 0 ⟨Nat.zero_le _, rfl⟩ ⟨rfl, rfl, rfl, rfl, trivial⟩ rfl rfl ?_
    rintro i ⟨hi, he⟩
    refine sq (rg (?_))
    refine cmpS hT 0 rfl fun b14 h14 => ?_   -- slices.go:24 t14 t13 < t12
    refine fin hT 0 rfl (th (sq (ifP h14 rfl (fun e4 => ?_) (fun e4 => ?_))))
    · have hi1 : i < l1.length := by omega
      refine sk (th (sq (bk (sq (rg (?_))))))
      have hi2 : i < l2.length := by omega
      obtain ⟨a1, rfl⟩ := x1.addr hi1 (by decide)
      obtain ⟨a2, rfl⟩ := x2.addr hi2 (by decide)
      obtain ⟨a1', ha1, hc1⟩ := x1.2.2 i _ (bv_get hi1)
      obtain ⟨a2', ha2, hc2⟩ := x2.2.2 i _ (bv_get hi2)
      cases ha1
      cases ha2
      refine fin hT 2 rfl (th (sq (rga hs 9 [0, 2, 4, 6, 8, 10, 12, 14, 16] (by simp) (by kernel_rfl) (by kernel_rfl) ?_)))
      refine dixs hT (by kernel_rfl) 2 i rfl rfl hi1 ?_   -- slices.go:25 t18 t16[t17]
      refine dld hT (by kernel_rfl) 0 rfl m1 (by simpa using hc1) ?_
      refine dixs hT (by kernel_rfl) 2 i rfl rfl hi2 ?_   -- slices.go:25 t22 t20[t21]
      refine dld hT (by kernel_rfl) 0 rfl m2 (by simpa using hc2) ?_
      refine dcbS hT (by kernel_rfl) 0 (((l1[i].toNat : Nat) : Int) ≠ (l2[i].toNat : Nat)) rfl (by simp) fun b24 h24 => ?_   -- slices.go:25 t24 t19 ≠ t23
      refine dend hT (by kernel_rfl) 0 rfl (th (ifP h24 rfl (fun e5 => ?_) (fun e5 => ?_)))
      · refine sq (rg (?_))
        refine fin hT 1 rfl (th (rt (rB (rT (rT (rB (rT (?_))))))))
        exact ret1 rfl rfl ⟨rfl, rfl, false, rfl, by simp; intro h; subst h; exact e5 rfl⟩
      · refine sk (bl (th (rg (?_))))
        refine ar hT 0 rfl (i64w (by omega)) ?_   -- slices.go:24 t25 t13 add 1
        refine fin hT 1 rfl (?_)
        exact again (x := i) (i + 1) ⟨rfl, rfl, rfl, rfl, trivial⟩ rfl rfl ⟨by omega, by rw [take_succ_get l1 i hi1, take_succ_get l2 i hi2, he, UInt8.toNat_inj.1 (Int.ofNat_inj.1 (Decidable.not_not.1 e5))]⟩ (by (try dsimp only); omega)
    · obtain rfl : i = l1.length := by omega
      refine ex (xt (xt (xb (th (sq (rg (?_)))))))
      refine fin hT 1 rfl (th (rt (?_)))
      exact ret1 rfl rfl ⟨rfl, rfl, true, rfl, by simp; rw [List.take_of_length_le (Nat.le_refl _), hll, List.take_of_length_le (Nat.le_refl _)] at he; exact he⟩
end Go.Proofs.Ythpiokdibknpaaa
namespace Go.Proofs.Ythpiokdibknpaaa
open Go.En
set_option linter.unusedVariables false
set_option linter.unusedSimpArgs false
attribute [local irreducible] Code.wp wpList Calls

/-! plain -/
theorem entsOK_mem {a : Nat} : ∀ {l : List Ent} {i : Nat}, entsOK a i l → ∀ e ∈ l, e.ok
  | [], _, _ => by simp
  | e :: l, i, h => by
    intro x hx
    rcases List.mem_cons.1 hx with rfl | hx
    · exact h.1
    · exact entsOK_mem h.2.2.2 x hx
theorem pby_len {m : Msg} {f : Fld} (h : f.pok m) (hbd : m.bd) : (f.pby m).length ≤ 2200 := by
  have hmx : mxU = 18446744073709551615 := rfl
  have e1 := uint_le10 (n := m.idx) (by have := hbd.idx; omega)
  have e2 := uint_le10 (n := m.lt) (by have := hbd.lt; omega)
  have e3 := uint_le10 (n := m.com) (by have := hbd.com; omega)
  have e4 := uint_le10 (n := m.rnd) (by have := hbd.rnd; omega)
  have e5 := uint_le10 (u64of_lt m.off)
  have e6 := uint_le10 (u64of_lt m.whole)
  cases f
  case idx => simp only [Fld.pby]; omega
  case lt => simp only [Fld.pby]; omega
  case com => simp only [Fld.pby]; omega
  case rnd => simp only [Fld.pby]; omega
  case off => simp only [Fld.pby]; omega
  case whole => simp only [Fld.pby]; omega
  case good => simp [Fld.pby]
  case ents =>
    obtain ⟨h1, h2⟩ := h
    have h3 := entsBytes_len m.idx m.ents 0 h1 (fun e he => ⟨(hbd.ents e he).1, (hbd.ents e he).2.1⟩)
    have h4 := uint_le10 (n := m.ents.length) (by omega)
    simp only [Fld.pby, List.length_append]
    omega
  case vot => have := ob_conf_len m.vot; simp only [Fld.pby]; omega
  case data =>
    have h1 := h.1
    have h4 := uint_le10 (n := m.data.length) (by omega)
    simp only [Fld.pby, putBytes, List.length_append]
    omega
theorem pbyAll_len {m : Msg} (hbd : m.bd) : ∀ {fs : List Fld}, (∀ f ∈ fs, f.pok m) → (pbyAll m fs).length ≤ 2200 * fs.length
  | [], _ => by simp [pbyAll]
  | f :: fs, h => by
    have h1 := pby_len (h f (by simp)) hbd
    have h2 := pbyAll_len hbd (fs := fs) (fun x hx => h x (by simp [hx]))
    simp only [pbyAll, List.length_append, List.length_cons]
    omega
theorem pbyAll_append (m : Msg) : ∀ l r : List Fld, pbyAll m (l ++ r) = pbyAll m l ++ pbyAll m r
  | [], r => rfl
  | f :: l, r => by simp [pbyAll, pbyAll_append m l r]
theorem clrAll_append : ∀ (l r : List Fld) (m : Msg), clrAll (l ++ r) m = clrAll r (clrAll l m)
  | [], r, m => rfl
  | f :: l, r, m => by simp [clrAll, clrAll_append l r]
theorem fieldsOf_len (k : Int) : (fieldsOf k).length ≤ 6 := by
  unfold fieldsOf
  repeat' split
  all_goals simp
theorem fieldsOf_kind {k : Int} (h : fieldsOf k ≠ []) : 1 ≤ k ∧ k ≤ 6 := by
  unfold fieldsOf at h
  repeat' split at h
  all_goals first | omega | exact absurd rfl h
theorem hdr_len (m : Msg) (hbd : m.bd) : (hdr m).length ≤ 13 := by
  have hmx : mxU = 18446744073709551615 := rfl
  have e1 := uint_le10 (n := m.term) (by have := hbd.term; omega)
  simp only [hdr, List.length_cons]
  omega
theorem body_len {m : Msg} (hbd : m.bd) (h : ∀ f ∈ fieldsOf m.kind, f.pok m) : m.body.length ≤ 20000 := by
  have h1 := pbyAll_len hbd h
  have h2 := fieldsOf_len m.kind
  have h3 := hdr_len m hbd
  simp only [Msg.body, List.length_append]
  omega
theorem getD_take_succF (l : List Fld) (i : Nat) (h : i < l.length) (d : Fld) : l.take (i + 1) = l.take i ++ [l.getD i d] := by
  rw [take_succ_get l i h]; simp [List.getD, h]
/-! the fields' functions, by the table -/
def PutCt (K : PH) (f : Fld) (g : Nat) (cap : Array Value) : Prop := ∀ (w0 : World) (h : PH) (R : List PH) (mb : Nat) (m : Msg) (p : MA) (ao : Option Addr) (c1 : Nat) (bs : List UInt8), Own h ao bs.length c1 5 1 (bv bs) → bs.length < 68719476736 → MsgS K m p → m.bd →
  Ct Try.prog w0 g ([.slice ao bs.length c1, Ptr mb] ++ cap.toList) K (h :: pt mb (mv m p) 51 :: R) (PutR f m bs (pt mb (mv m p) 51 :: R) K)
def ClrCt (K : PH) (f : Fld) (g : Nat) (cap : Array Value) : Prop := ∀ (w0 : World) (R : List PH) (mb : Nat) (m : Msg) (p : MA), MsgS K m p →
  Ct Try.prog w0 g ([Ptr mb] ++ cap.toList) K (pt mb (mv m p) 51 :: R) (fun v K' hs' => ∃ h', hs' = h' :: R ∧ K' = K ∧ ∃ p', h' = pt mb (mv (f.clr m) p') 51 ∧ MsgS K (f.clr m) p')
def GetCt (K : PH) (f : Fld) (g : Nat) (cap : Array Value) : Prop := ∀ (w0 : World) (h hb : PH) (R : List PH) (rb mb ii : Nat) (m : Msg) (p : MA) (s : Rd), (f = .ents → m.ents = [] ∧ p.ae = none ∧ p.ce = 0) → R[ii]? = some hb → s.1.length < 1099511627776 → IsRd rb hb s h → MsgS K m p →
  Ct Try.prog w0 g ([Ptr rb, Ptr mb] ++ cap.toList) K (h :: pt mb (mv m p) 51 :: R) (GetR f s m p rb mb hb R K)
theorem put_num {K : PH} {g off cb : Nat} {f : Fld} (hs : ∀ w0, Sel w0 g off) (hc : K cb = some (capC 108 g)) (n : Msg → Nat) (hn : ∀ m : Msg, m.bd → n m ≤ mxU) (hv : ∀ m p, (mv m p)[off]? = some (.int .u64 (n m : Nat))) (hok : ∀ m, f.pok m) (hby : ∀ m, f.pby m = uint (n m)) :
    PutCt K f 82 #[Ptr cb] := by
  intro w0 h R mb m p ao c1 bs o hb hS hbd
  refine (numPut m p ao c1 bs o hb (hs w0) hc (n m) (hn m hbd) (hv m p)).mono ?_
  rintro v K' hs' ⟨rfl, h', ao', c', rfl, rfl, o'⟩
  exact ⟨rfl, h', ao', c', _, true, rfl, rfl, ⟨fun _ => hok m, fun _ => rfl⟩, fun _ => by rw [hby], o'⟩
theorem put_place {K : PH} {g off cb : Nat} {f : Fld} (hs : ∀ w0, Sel w0 g off) (hc : K cb = some (capC 111 g)) (n : Msg → Int) (hv : ∀ m p, (mv m p)[off]? = some (.int .i64 (n m))) (hok : ∀ m, f.pok m ↔ 0 ≤ n m ∧ n m ≤ 2097152) (hby : ∀ m, f.pby m = uint (u64of (n m))) :
    PutCt K f 91 #[Ptr cb] := by
  intro w0 h R mb m p ao c1 bs o hb hS hbd
  refine (placePut m p ao c1 bs o hb (hs w0) hc (n m) (hv m p)).mono ?_
  rintro v K' hs' ⟨rfl, h', ao', c', t, rfl, rfl, ht, o'⟩
  exact ⟨rfl, h', ao', c', _, t, rfl, rfl, ht.trans (hok m).symm, fun _ => by rw [hby], o'⟩
theorem clr_num {K : PH} {g off cb : Nat} {f : Fld} (hs : ∀ w0, Sel w0 g off) (hc : K cb = some (capC 108 g)) (hv : ∀ m p, ∃ u, (mv m p)[off]? = some u) (hm : ∀ m p, (mv m p).setIfInBounds off (.int .u64 0) = mv (f.clr m) p) (hS' : ∀ m p, MsgS K m p → MsgS K (f.clr m) p) :
    ClrCt K f 84 #[Ptr cb] := by
  intro w0 R mb m p hS
  obtain ⟨u, hu⟩ := hv m p
  refine (numClr (mv m p) (hs w0) hc u hu).mono ?_
  rintro v K' hs' ⟨rfl, rfl⟩
  exact ⟨_, rfl, rfl, p, by rw [hm], hS' m p hS⟩
theorem clr_place {K : PH} {g off cb : Nat} {f : Fld} (hs : ∀ w0, Sel w0 g off) (hc : K cb = some (capC 111 g)) (hv : ∀ m p, ∃ u, (mv m p)[off]? = some u) (hm : ∀ m p, (mv m p).setIfInBounds off (.int .i64 0) = mv (f.clr m) p) (hS' : ∀ m p, MsgS K m p → MsgS K (f.clr m) p) :
    ClrCt K f 93 #[Ptr cb] := by
  intro w0 R mb m p hS
  obtain ⟨u, hu⟩ := hv m p
  refine (placeClr (mv m p) (hs w0) hc u hu).mono ?_
  rintro v K' hs' ⟨rfl, rfl⟩
  exact ⟨_, rfl, rfl, p, by rw [hm], hS' m p hS⟩
theorem get_num {K : PH} {g off cb : Nat} {f : Fld} (hs : ∀ w0, Sel w0 g off) (hc : K cb = some (capC 108 g)) (hv : ∀ m p, ∃ u, (mv m p)[off]? = some u) (hm : ∀ s m p, (mv m p).setIfInBounds off (.int .u64 ((rUint mxU s).1 : Nat)) = mv (f.get s m).2 p) (hr : ∀ s m, (f.get s m).1 = (rUint mxU s).2) (hS' : ∀ s m p, MsgS K m p → MsgS K (f.get s m).2 p) :
    GetCt K f 83 #[Ptr cb] := by
  intro w0 h hb R rb mb ii m p s _ hR hl rd hS
  obtain ⟨u, hu⟩ := hv m p
  refine (numGet (.inr ⟨ii + 1, hR⟩) s hl rd (hs w0) hc u hu).mono ?_
  rintro v K' hs' ⟨rfl, h', rfl, rd'⟩
  exact ⟨Le.refl _, h', p, by rw [hm], by rw [hr]; exact rd', hS' s m p hS, fun _ => ⟨rfl, rfl⟩⟩
theorem get_place {K : PH} {g off cb : Nat} {f : Fld} (hs : ∀ w0, Sel w0 g off) (hc : K cb = some (capC 111 g)) (hv : ∀ m p, ∃ u, (mv m p)[off]? = some u) (hm : ∀ s m p, (mv m p).setIfInBounds off (.int .i64 ((rUint 2097152 s).1 : Nat)) = mv (f.get s m).2 p) (hr : ∀ s m, (f.get s m).1 = (rUint 2097152 s).2) (hS' : ∀ s m p, MsgS K m p → MsgS K (f.get s m).2 p) :
    GetCt K f 92 #[Ptr cb] := by
  intro w0 h hb R rb mb ii m p s _ hR hl rd hS
  obtain ⟨u, hu⟩ := hv m p
  refine (placeGet (.inr ⟨ii + 1, hR⟩) s hl rd (hs w0) hc u hu).mono ?_
  rintro v K' hs' ⟨rfl, h', rfl, rd'⟩
  exact ⟨Le.refl _, h', p, by rw [hm], by rw [hr]; exact rd', hS' s m p hS, fun _ => ⟨rfl, rfl⟩⟩
/-- ClrR in the form that is used at any place -/
theorem clrR_at {K : PH} {f : Fld} {w0 : World} {g mb : Nat} {args : List Value} {R : List PH} {m : Msg} {p : MA} (c : Ct Try.prog w0 g args K (pt mb (mv m p) 51 :: R) (ClrR f m mb R K)) :
    Ct Try.prog w0 g args K (pt mb (mv m p) 51 :: R) (fun v K' hs' => ∃ h', hs' = h' :: R ∧ K' = K ∧ ∃ p', h' = pt mb (mv (f.clr m) p') 51 ∧ MsgS K (f.clr m) p') :=
  c.mono fun v K' hs' ⟨h1, p', h2, h3⟩ => ⟨_, h2, h1, p', rfl, h3⟩
theorem FV.fns {K : PH} {cs : List Value} {f : Fld} (h : FV K cs f) : ∃ g1 c1 g2 c2 g3 c3, cs = [.func (.func g1) #[] c1, .func (.func g2) #[] c2, .func (.func g3) #[] c3] ∧ PutCt K f g1 c1 ∧ GetCt K f g2 c2 ∧ ClrCt K f g3 c3 := by
  cases f
  case idx =>
    obtain ⟨b, hc, rfl⟩ := h
    exact ⟨_, _, _, _, _, _, rfl, put_num (fun w0 => sel_index) hc (·.idx) (fun m h => h.idx) (fun m p => rfl) (fun m => trivial) (fun m => rfl),
      get_num (fun w0 => sel_index) hc (fun m p => ⟨_, rfl⟩) (fun s m p => rfl) (fun s m => rfl) (fun s m p h => h), clr_num (fun w0 => sel_index) hc (fun m p => ⟨_, rfl⟩) (fun m p => rfl) (fun m p h => h)⟩
  case lt =>
    obtain ⟨b, hc, rfl⟩ := h
    exact ⟨_, _, _, _, _, _, rfl, put_num (fun w0 => sel_logTerm) hc (·.lt) (fun m h => h.lt) (fun m p => rfl) (fun m => trivial) (fun m => rfl),
      get_num (fun w0 => sel_logTerm) hc (fun m p => ⟨_, rfl⟩) (fun s m p => rfl) (fun s m => rfl) (fun s m p h => h), clr_num (fun w0 => sel_logTerm) hc (fun m p => ⟨_, rfl⟩) (fun m p => rfl) (fun m p h => h)⟩
  case com =>
    obtain ⟨b, hc, rfl⟩ := h
    exact ⟨_, _, _, _, _, _, rfl, put_num (fun w0 => sel_commit) hc (·.com) (fun m h => h.com) (fun m p => rfl) (fun m => trivial) (fun m => rfl),
      get_num (fun w0 => sel_commit) hc (fun m p => ⟨_, rfl⟩) (fun s m p => rfl) (fun s m => rfl) (fun s m p h => h), clr_num (fun w0 => sel_commit) hc (fun m p => ⟨_, rfl⟩) (fun m p => rfl) (fun m p h => h)⟩
  case rnd =>
    obtain ⟨b, hc, rfl⟩ := h
    exact ⟨_, _, _, _, _, _, rfl, put_num (fun w0 => sel_round) hc (·.rnd) (fun m h => h.rnd) (fun m p => rfl) (fun m => trivial) (fun m => rfl),
      get_num (fun w0 => sel_round) hc (fun m p => ⟨_, rfl⟩) (fun s m p => rfl) (fun s m => rfl) (fun s m p h => h), clr_num (fun w0 => sel_round) hc (fun m p => ⟨_, rfl⟩) (fun m p => rfl) (fun m p h => h)⟩
  case off =>
    obtain ⟨b, hc, rfl⟩ := h
    exact ⟨_, _, _, _, _, _, rfl, put_place (fun w0 => sel_offset) hc (·.off) (fun m p => rfl) (fun m => Iff.rfl) (fun m => rfl),
      get_place (fun w0 => sel_offset) hc (fun m p => ⟨_, rfl⟩) (fun s m p => rfl) (fun s m => rfl) (fun s m p h => h), clr_place (fun w0 => sel_offset) hc (fun m p => ⟨_, rfl⟩) (fun m p => rfl) (fun m p h => h)⟩
  case whole =>
    obtain ⟨b, hc, rfl⟩ := h
    exact ⟨_, _, _, _, _, _, rfl, put_place (fun w0 => sel_whole) hc (·.whole) (fun m p => rfl) (fun m => Iff.rfl) (fun m => rfl),
      get_place (fun w0 => sel_whole) hc (fun m p => ⟨_, rfl⟩) (fun s m p => rfl) (fun s m => rfl) (fun s m p h => h), clr_place (fun w0 => sel_whole) hc (fun m p => ⟨_, rfl⟩) (fun m p => rfl) (fun m p h => h)⟩
  case good =>
    subst h
    exact ⟨_, _, _, _, _, _, rfl, fun w0 h R mb m p ao c1 bs o hb hS hbd => goodPut m p ao c1 bs o hb, fun w0 h hb R rb mb ii m p s _ hR hl rd hS => goodGet m p (.inr ⟨ii + 1, hR⟩) s rd hS, fun w0 R mb m p hS => clrR_at (goodClr m p hS)⟩
  case ents =>
    subst h
    exact ⟨_, _, _, _, _, _, rfl, fun w0 h R mb m p ao c1 bs o hb hS hbd => entsPut m p ao c1 bs o hb hS hbd, fun w0 h hb R rb mb ii m p s he hR hl rd hS => entsGet m p (he rfl).1 (he rfl).2.1 (he rfl).2.2 hR s hl rd hS, fun w0 R mb m p hS => clrR_at (entsClr m p hS)⟩
  case vot =>
    subst h
    exact ⟨_, _, _, _, _, _, rfl, fun w0 h R mb m p ao c1 bs o hb hS hbd => votPut m p ao c1 bs o hb hS hbd, fun w0 h hb R rb mb ii m p s _ hR hl rd hS => votGet m p (.inr ⟨ii + 1, hR⟩) s rd hS, fun w0 R mb m p hS => clrR_at (votClr m p hS)⟩
  case data =>
    subst h
    exact ⟨_, _, _, _, _, _, rfl, fun w0 h R mb m p ao c1 bs o hb hS hbd => dataPut m p ao c1 bs o hb hS hbd, fun w0 h hb R rb mb ii m p s _ hR hl rd hS => dataGet m p (.inr ⟨ii + 1, hR⟩) s hl rd hS, fun w0 R mb m p hS => clrR_at (dataClr m p hS)⟩
theorem FldsS.get {K : PH} {d : Fld} : ∀ {css : List (List Value)} {fs : List Fld} {i : Nat}, All2 (FV K) css fs → i < fs.length →
    ∃ cs, FV K cs (fs.getD i d) ∧ cs.length = 3 ∧ ∀ (j : Nat) v, cs[j]? = some v → css.flatten[i * 3 + j]? = some v
  | [], [], i, _, h => by simp at h
  | [], _ :: _, _, g, _ => g.elim
  | _ :: _, [], _, g, _ => g.elim
  | c :: css, f :: fs, 0, g, h => by
    obtain ⟨g1, c1, g2, c2, g3, c3, hc, _⟩ := g.1.fns
    refine ⟨c, by simpa using g.1, by rw [hc]; rfl, fun j v hv => ?_⟩
    have hj : j < c.length := (List.getElem?_eq_some_iff.1 hv).1
    rw [List.flatten_cons, Nat.zero_mul, Nat.zero_add, List.getElem?_append_left hj]
    exact hv
  | c :: css, f :: fs, i + 1, g, h => by
    obtain ⟨cs, x, hl, hx⟩ := FldsS.get (d := d) (i := i) g.2 (by simpa using h)
    obtain ⟨g1, c1, g2, c2, g3, c3, hc, _⟩ := g.1.fns
    have hcl : c.length = 3 := by rw [hc]; rfl
    refine ⟨cs, by simpa using x, hl, fun j v hv => ?_⟩
    have := hx j v hv
    rw [List.flatten_cons, List.getElem?_append_right (by omega), show (i + 1) * 3 + j - c.length = i * 3 + j from by omega]
    exact this
end Go.Proofs.Ythpiokdibknpaaa
namespace Go.Proofs.Ythpiokdibknpaaa
open Go.En
set_option linter.unusedVariables false
set_option linter.unusedSimpArgs false
attribute [local irreducible] Code.wp wpList Calls

theorem own_b3 (b k f t : Nat) (hk : k < 256) (hf : f < 256) (ht : t < 256) : Own (pt b #[.int .u8 ((k : Nat) : Int), .int .u8 ((f : Nat) : Int), .int .u8 ((t : Nat) : Int)] 5) (some ⟨b, 0, none⟩) ([UInt8.ofNat k, UInt8.ofNat f, UInt8.ofNat t] : List UInt8).length 3 5 1 (bv [UInt8.ofNat k, UInt8.ofNat f, UInt8.ofNat t]) :=
  own_of (Own.ofPt (n := 3) (size := 1) (by simp) (by simp [maxLen])) rfl (by simp [bv, byteV hk, byteV hf, byteV ht])
theorem enc_no {m : Msg} (h : ¬ m.ok) : enc m = none := if_neg h
theorem encodeC {w0 : World} {K : PH} {hs : List PH} (m : Msg) (p : MA) (hS : MsgS K m p) (hbd : m.bd) :
    Ct Try.prog w0 29 [.agg (mv m p)] K hs (fun v K' hs' => K' = K ∧ OutB (enc m) hs v hs') := by
  have hmx : mxU = 18446744073709551615 := rfl
  have hterm := hbd.term
  have hfl := fieldsOf_len m.kind
  have hfk := fieldsOf_kind (k := m.kind)
  have hhd := hdr_len m hbd
  have hbl := body_len hbd
  refine enter Try.func29 (by kernel_rfl) rfl rfl rfl ?_
  refine sq (rg (?_))
  refine bx hT 0 rfl fun b1 => ?_   -- encode.go:152 t1
  refine fin hT 2 rfl (th (sq (rg (?_))))
  refine ldp hT 1 0 rfl rfl rfl ?_   -- encode.go:153 t13 *t12
  refine cl hT 0 rfl (fieldsC m.kind) ?_   -- encode.go:153 t14
  rintro v14 K14 hs14 ⟨le, rfl, aof, capf, rfl, css, xF, hA⟩
  have hS' := hS.le le
  generalize hfs : fieldsOf m.kind = fs at hfl hfk hbl xF hA
  refine fin hT 1 rfl (th (sq (sq (rg (?_)))))
  refine cmpS hT 2 rfl fun b17 h17 => ?_   -- encode.go:154 t17 t16 = 0
  refine' bjo hT 1 5 23 [17, 18] h17 rfl rfl rfl rfl rfl rfl rfl (fun _ => ?x2) (fun b23 h23 => ?_)   -- encode.go:154 t23
  case x2 =>
    refine ldp hT 1 0 rfl rfl rfl ?_   -- encode.go:154 t20 *t19
    refine cl hT 0 rfl (placedC m.frm) ?_   -- encode.go:154 t21
    rintro v21 K21 hs21 ⟨rfl, rfl, b21, rfl, h21⟩
    refine cbS hT 0 _ rfl (bnot h21) fun b22 h22 => ?_   -- not
    exact fin hT 1 rfl (bjx h22 rfl rfl rfl)
  refine' bjo hT 1 5 29 [23, 24] h23 rfl rfl rfl rfl rfl rfl rfl (fun _ => ?x3) (fun b29 h29 => ?_)   -- encode.go:154 t29
  case x3 =>
    refine ldp hT 1 0 rfl rfl rfl ?_   -- encode.go:154 t26 *t25
    refine cl hT 0 rfl (placedC m.to) ?_   -- encode.go:154 t27
    rintro v27 K27 hs27 ⟨rfl, rfl, b27, rfl, h27⟩
    refine cbS hT 0 _ rfl (bnot h27) fun b28 h28 => ?_   -- not
    exact fin hT 1 rfl (bjx h28 rfl rfl rfl)
  refine' bjo hT 1 6 36 [29, 30] h29 rfl rfl rfl rfl rfl rfl rfl (fun _ => ?x4) (fun b36 h36 => ?_)   -- encode.go:154 t36
  case x4 =>
    refine ldp hT 1 0 rfl rfl rfl ?_   -- encode.go:154 t32 *t31
    refine ldp hT 1 0 rfl rfl rfl ?_   -- encode.go:154 t34 *t33
    refine cmpS hT 0 rfl fun b35 h35 => ?_   -- encode.go:154 t35 t32 = t34
    exact fin hT 1 rfl (bjx h35 rfl rfl rfl)
  refine' bjo hT 1 4 41 [36, 37] h36 rfl rfl rfl rfl rfl rfl rfl (fun _ => ?x6) (fun b41 h41 => ?_)   -- encode.go:154 t41
  case x6 =>
    refine ldp hT 1 0 rfl rfl rfl ?_   -- encode.go:154 t39 *t38
    refine cmpS hT 0 rfl fun b40 h40 => ?_   -- encode.go:154 t40 t39 = 0
    exact fin hT 1 rfl (bjx h40 rfl rfl rfl)
  refine fin hT 0 rfl (th (ifP h41 rfl (fun e8 => ?_) (fun e8 => ?_)))
  · have hno : ¬ m.ok := fun h => by
      obtain ⟨⟨p1, p2, p3, p4, p5⟩, _⟩ := h
      rw [hfs] at p1
      rcases e8 with (((e | e) | e) | e) | e
      · exact p1 (List.eq_nil_of_length_eq_zero (by omega))
      · exact e p2
      · exact e p3
      · exact p4 e
      · exact p5 (by omega)
    refine sq (rg (?_))
    refine fin hT 2 rfl (th (rt (rT (?_))))
    refine WQ.drop (WQ.em (WQ.weak le ?_))
    exact ret2 rfl rfl rfl ⟨rfl, outN (enc_no hno)⟩
  · have hpre : m.pre := ⟨by rw [hfs]; exact fun h => e8 (by rw [h]; exact .inl (.inl (.inl (.inl rfl)))), Decidable.not_not.1 fun h => e8 (.inl (.inl (.inl (.inr h)))), Decidable.not_not.1 fun h => e8 (.inl (.inl (.inr h))), fun h => e8 (.inl (.inr h)), fun h => e8 (.inr (by rw [h]; rfl))⟩
    clear e8
    have hk6 := hfk (by have := hpre.1; rwa [hfs] at this)
    have hpf := hpre.2.1
    have hpt := hpre.2.2.1
    unfold placedP at hpf hpt
    obtain ⟨k, hk⟩ : ∃ k : Nat, m.kind = (k : Nat) := Int.eq_ofNat_of_zero_le (show 0 ≤ m.kind by omega)
    obtain ⟨f0, hf0⟩ : ∃ k : Nat, m.frm = (k : Nat) := Int.eq_ofNat_of_zero_le hpf.1
    obtain ⟨t0, ht0⟩ : ∃ k : Nat, m.to = (k : Nat) := Int.eq_ofNat_of_zero_le hpt.1
    refine sk (th (sq (rg (?_))))
    refine ldp hT 1 0 rfl rfl rfl ?_   -- encode.go:157 t43 *t42
    refine ar hT 0 rfl (v' := .int .u8 ((k : Nat) : Int)) (by rw [hk, u8w (by omega)]) ?_
    refine ldp hT 1 0 rfl rfl rfl ?_   -- encode.go:157 t46 *t45
    refine ar hT 0 rfl (v' := .int .u8 ((f0 : Nat) : Int)) (by rw [hf0, u8w (by omega)]) ?_
    refine ldp hT 1 0 rfl rfl rfl ?_   -- encode.go:157 t49 *t48
    refine ar hT 0 rfl (v' := .int .u8 ((t0 : Nat) : Int)) (by rw [ht0, u8w (by omega)]) ?_
    refine lit hT 0 #[.int .u8 ((k : Nat) : Int), .int .u8 ((f0 : Nat) : Int), .int .u8 ((t0 : Nat) : Int)] rfl (by decide) (by kernel_rfl) fun b51 => ?_   -- encode.go:157 t51
    refine ldp hT 1 1 rfl rfl rfl ?_   -- encode.go:157 t53 *t52
    refine cl hT 0 rfl (putUint _ _ [UInt8.ofNat k, UInt8.ofNat f0, UInt8.ofNat t0] m.term (own_b3 b51 k f0 t0 (by omega) (by omega) (by omega)) (by omega) (by simp)) ?_   -- encode.go:157 t54
    rintro v54 K54 hs54 ⟨g54, rfl, rfl, ao54, c54, rfl, o54⟩
    have hh : [UInt8.ofNat k, UInt8.ofNat f0, UInt8.ofNat t0] ++ uint m.term = hdr m := by rw [hdr, hk, hf0, ht0]; rfl
    rw [hh] at o54 ⊢
    refine fin hT 1 rfl (th (sq (sq (rg (?_)))))
    refine fin hT 3 rfl (th (bk (?_)))
    refine loop (σ := Nat × Option Addr × Nat × PH) (fun s => [(1, Ptr b1), (4, .slice aof fs.length capf), (5, .slice s.2.1 (hdr m ++ pbyAll m (fs.take s.1)).length s.2.2.1), (55, .slice aof fs.length capf), (56, .int .i64 (fs.length : Nat)), (57, .int .i64 (s.1 : Nat))]) (fun _ => K54) (fun s => s.2.2.2 :: pt b1 (mv m p) 51 :: hs) (fun s => s.1 ≤ fs.length ∧ (∀ f ∈ fs.take s.1, f.pok m) ∧ Own s.2.2.2 s.2.1 (hdr m ++ pbyAll m (fs.take s.1)).length s.2.2.1 5 1 (bv (hdr m ++ pbyAll m (fs.take s.1)))) (fun s => fs.length - s.1) (0, ao54, c54, g54) ⟨Nat.zero_le _, by simp, by simpa [pbyAll] using o54⟩ (by simp only [pbyAll, List.take_zero, List.append_nil]; exact ⟨rfl, rfl, rfl, rfl, rfl, rfl, trivial⟩) rfl rfl ?_
    rintro ⟨i, ao, c1, h⟩ ⟨hi, hok, o⟩
    dsimp only at hi hok o ⊢
    have hpl := pbyAll_len hbd hok
    have htl : (fs.take i).length ≤ 6 := by simp; omega
    refine sq (rg (?_))
    refine cmpS hT 0 rfl fun b58 h58 => ?_   -- encode.go:158 t58 t57 < t56
    refine fin hT 0 rfl (th (sq (ifP h58 rfl (fun e10 => ?_) (fun e10 => ?_))))
    · have hin : i < fs.length := by omega
      refine sk (th (sq (bk (sq (rg (?_))))))
      obtain ⟨cs, hV, hcl, hcell⟩ := FldsS.get (d := .idx) hA hin
      obtain ⟨g1, k1, g2, k2, g3, k3, rfl, hput, hget, hclr⟩ := hV.fns
      have htk := getD_take_succF fs i hin .idx
      have hmem : fs.getD i .idx ∈ fs := by simp [List.getD, hin]
      generalize fs.getD i .idx = f at hV hput hget hclr htk hmem
      refine ixs hT 0 i rfl rfl xF hin (by decide) fun a59 ha59 => ?_
      refine lds hT 0 [.func (.func g1) #[] k1, .func (.func g2) #[] k2, .func (.func g3) #[] k3] rfl (by kernel_rfl) (.inl rfl) (fun j v hv => ?_) ?_
      · obtain ⟨a', q1, q2⟩ := xF.2.2 (i * 3 + j) v (hcell j v hv)
        rw [ha59] at q1
        cases q1
        rw [Deep.add_add]
        exact q2
      refine al hT 0 (.agg #[.nilFunc, .nilFunc, .nilFunc]) rfl (by kernel_rfl) fun b7 => ?_   -- encode.go:158 t7
      refine stS hT 0 0 rfl rfl (by kernel_rfl) rfl rfl ?_   -- encode.go:158 tNone t7 := t60
      refine fin hT 0 rfl (th (sq (rg (?_))))
      refine ldp hT 1 0 rfl rfl rfl ?_   -- encode.go:159 t63 *t62
      refine WL.drop ?_
      refine cl hT 1 rfl (hput w0 h hs b1 m p ao c1 _ o (by simp only [List.length_append]; omega) hS' hbd) ?_   -- encode.go:159 t65
      rintro v65 K65 hs65 ⟨rfl, h', ao', c', out, t, rfl, rfl, ht, hout, o'⟩
      refine fin hT 5 rfl (th (sq (sq (rg (?_)))))
      refine fin hT 2 rfl (th (ifB rfl (fun h11 => ?_) (fun h11 => ?_)))
      · refine sq (rg (?_))
        refine fin hT 2 rfl (th (rt (rT (rB (rT (rT (rB (rT (?_)))))))))
        refine WQ.drop (WQ.drop (WQ.em (WQ.weak le ?_)))
        exact ret2 rfl rfl rfl ⟨rfl, outN (enc_no fun hh => by have := hh.2.1 f (by rw [hfs]; exact hmem); rw [ht.2 this] at h11; cases h11)⟩
      · have htt : t = true := by simpa using h11
        obtain rfl := hout htt
        have ee : hdr m ++ pbyAll m (fs.take i) ++ f.pby m = hdr m ++ pbyAll m (fs.take (i + 1)) := by rw [htk, pbyAll_append]; simp [pbyAll]
        rw [ee] at o' ⊢
        refine sk (th (rg (?_)))
        refine fin hT 2 rfl (bl (th (rg (?_))))
        refine ar hT 0 rfl (i64w (by omega)) ?_   -- encode.go:158 t71 t57 add 1
        refine fin hT 1 rfl (?_)
        exact again (x := (i, ao, c1, h)) (i + 1, ao', c', h') ⟨rfl, rfl, rfl, rfl, rfl, rfl, trivial⟩ rfl rfl ⟨by omega, by rw [htk]; intro x hx; exact (List.mem_append.1 hx).elim (hok x) (fun hx => by rw [List.mem_singleton.1 hx]; exact ht.1 htt), o'⟩ (by (try dsimp only); omega)
    · obtain rfl : i = fs.length := by omega
      refine ex (xt (xt (xb (th (sq (sq (rg (?_))))))))
      rw [List.take_of_length_le (Nat.le_refl _)] at o hok ⊢
      refine fin hT 3 rfl (th (bk (?_)))
      refine loop (σ := Nat × MA) (fun s => [(1, Ptr b1), (5, .slice ao (hdr m ++ pbyAll m fs).length c1), (72, .slice aof fs.length capf), (73, .int .i64 (fs.length : Nat)), (74, .int .i64 (s.1 : Nat))]) (fun _ => K54) (fun s => h :: pt b1 (mv (clrAll (fs.take s.1) m) s.2) 51 :: hs) (fun s => s.1 ≤ fs.length ∧ MsgS K54 (clrAll (fs.take s.1) m) s.2) (fun s => fs.length - s.1) (0, p) ⟨Nat.zero_le _, hS'⟩ ⟨rfl, rfl, rfl, rfl, rfl, trivial⟩ rfl rfl ?_
      rintro ⟨i, p2⟩ ⟨hi, hS2⟩
      dsimp only at hi hS2 ⊢
      refine sq (rg (?_))
      refine cmpS hT 0 rfl fun b75 h75 => ?_   -- encode.go:165 t75 t74 < t73
      refine fin hT 0 rfl (th (sq (ifP h75 rfl (fun e13 => ?_) (fun e13 => ?_))))
      · have hin : i < fs.length := by omega
        refine sk (th (sq (bk (sq (rg (?_))))))
        obtain ⟨cs, hV, hcl, hcell⟩ := FldsS.get (d := .idx) hA hin
        obtain ⟨g1, k1, g2, k2, g3, k3, rfl, hput, hget, hclr⟩ := hV.fns
        have htk := getD_take_succF fs i hin .idx
        generalize fs.getD i .idx = f at hV hput hget hclr htk
        refine ixs hT 0 i rfl rfl xF hin (by decide) fun a76 ha76 => ?_
        refine lds hT 0 [.func (.func g1) #[] k1, .func (.func g2) #[] k2, .func (.func g3) #[] k3] rfl (by kernel_rfl) (.inl rfl) (fun j v hv => ?_) ?_
        · obtain ⟨a', q1, q2⟩ := xF.2.2 (i * 3 + j) v (hcell j v hv)
          rw [ha76] at q1
          cases q1
          rw [Deep.add_add]
          exact q2
        refine al hT 0 (.agg #[.nilFunc, .nilFunc, .nilFunc]) rfl (by kernel_rfl) fun b11 => ?_   -- encode.go:165 t11
        refine stS hT 0 0 rfl rfl (by kernel_rfl) rfl rfl ?_   -- encode.go:165 tNone t11 := t77
        refine fin hT 0 rfl (th (rg (?_)))
        refine ldp hT 1 0 rfl rfl rfl ?_   -- encode.go:166 t79 *t78
        refine WL.drop ?_
        refine cl hT 0 rfl (Ct.at 1 rfl (hclr w0 _ b1 _ _ hS2)) ?_   -- encode.go:166 t80
        rintro v80 K80 hs80 ⟨h', rfl, rfl, p3, rfl, hS3⟩
        have ee : f.clr (clrAll (fs.take i) m) = clrAll (fs.take (i + 1)) m := by rw [htk, clrAll_append]; rfl
        rw [ee] at hS3 ⊢
        refine fin hT 0 rfl (bl (th (rg (?_))))
        refine ar hT 0 rfl (i64w (by omega)) ?_   -- encode.go:165 t81 t74 add 1
        refine fin hT 1 rfl (?_)
        exact again (x := (i, p2)) (i + 1, p3) ⟨rfl, rfl, rfl, rfl, rfl, trivial⟩ rfl rfl ⟨by omega, hS3⟩ (by (try dsimp only); omega)
      · obtain rfl : i = fs.length := by omega
        refine ex (xt (xt (xb (th (sq (sq (rg (?_))))))))
        rw [List.take_of_length_le (Nat.le_refl _)] at hS2 ⊢
        refine ldS hT 0 1 rfl rfl (by kernel_rfl) ?_   -- encode.go:168 t82 t1
        refine cl hT 0 rfl (bareC _ _) ?_   -- encode.go:168 t83
        rintro v83 K83 hs83 ⟨rfl, rfl, b83, rfl, h83⟩
        refine cbS hT 0 _ rfl (bnot h83) fun b84 h84 => ?_   -- not
        refine fin hT 0 rfl (th (ifP h84 rfl (fun e14 => ?_) (fun e14 => ?_)))
        · refine sq (rg (?_))
          refine fin hT 2 rfl (th (rt (rT (?_))))
          refine WQ.drop (WQ.drop (WQ.em (WQ.weak le ?_)))
          exact ret2 rfl rfl rfl ⟨rfl, outN (enc_no fun hh => e14 (by have := hh.2.2; rwa [hfs] at this))⟩
        · have hokk : m.ok := ⟨hpre, by rw [hfs]; exact hok, by rw [hfs]; exact Decidable.not_not.1 e14⟩
          have hbody : m.body = hdr m ++ pbyAll m fs := by rw [Msg.body, hfs]
          have hbl2 := hbl hok
          rw [← hbody] at o ⊢
          refine sk (th (sq (rg (?_))))
          refine cl hT 1 rfl (sealC ao c1 m.body (.inr ⟨0, rfl⟩) o.isS (by omega)) ?_   -- encode.go:171 t86
          rintro v86 K86 hs86 ⟨rfl, gs, rfl, hor⟩
          obtain ⟨hbig, _⟩ | ⟨hsm, aos, cs, rfl, os⟩ := hor
          · exact absurd hbig (by omega)
          refine fin hT 4 rfl (th (rt (?_)))
          refine WQ.perm (List.perm_middle (l₁ := [_, _])).symm (WQ.drop (WQ.drop (WQ.weak le ?_)))
          exact ret2 rfl rfl rfl ⟨rfl, outS (by rw [enc, if_pos hokk]) os⟩
end Go.Proofs.Ythpiokdibknpaaa
namespace Go.Proofs.Ythpiokdibknpaaa
open Go.En
set_option linter.unusedVariables false
set_option linter.unusedSimpArgs false
attribute [local irreducible] Code.wp wpList Calls

def p0 : MA := ⟨none, 0, none, 0, none, 0⟩
theorem MsgS.zero (K : PH) : MsgS K Msg.zero p0 := ⟨EntsS.nil _ _ _, IsS.nil _ _ _ _, IsS.nil _ _ _ _⟩
def OutM (o : Option Msg) (K : PH) (v : Value) (K' : PH) : Prop :=
  Le K K' ∧ ∃ p, v = .tuple #[.agg (mv (o.getD Msg.zero) p), .int .i64 (ec o)] ∧ MsgS K' (o.getD Msg.zero) p
theorem outM_no {o : Option Msg} {K K' : PH} (h : o = none) (le : Le K K') : OutM o K (.tuple #[.agg (mv Msg.zero p0), .int .i64 170]) K' := by subst h; exact ⟨le, p0, rfl, MsgS.zero _⟩
theorem getAll_drop {fs : List Fld} {i : Nat} (h : i < fs.length) (d : Fld) (s : Rd) (m : Msg) : getAll (fs.drop i) s m = getAll (fs.drop (i + 1)) ((fs.getD i d).get s m).1 ((fs.getD i d).get s m).2 := by
  rw [List.drop_eq_getElem_cons h]
  simp [getAll, List.getD, h]
theorem enc_len (m : Msg) (hbd : m.bd) : (ob (enc m)).length ≤ 30000 := by
  unfold enc
  split
  · rename_i hok
    have h1 := body_len hbd hok.2.1
    have h2 := uint_le10 (n := m.body.length) (by omega)
    show (sealed m.body).length ≤ 30000
    rw [sealed_length]
    omega
  · exact Nat.zero_le _
theorem decodeC {w0 : World} {K hb : PH} {hs : List PH} (ao : Option Addr) (cap : Nat) (b : List UInt8) (hm : In K hs hb) (x : IsS hb ao b.length cap 1 (bv b)) (hl : b.length < 1099511627776) :
    Ct Try.prog w0 31 [.slice ao b.length cap] K hs (fun v K' hs' => hs' = hs ∧ OutM (dec b) K v K') := by
  have hmx : mxU = 18446744073709551615 := rfl
  have hul := unsealed_len b
  have hde : dec b = if (unsealed b).2.2 = 0 ∧ (unsealed b).2.1 = b.length ∧ rEnd (readR (unsealed b).1).1 = 0 ∧ enc (readR (unsealed b).1).2 = some b then some (readR (unsealed b).1).2 else none := rfl
  have hrbd := readR_bd (unsealed b).1
  refine enter Try.func31 (by kernel_rfl) rfl rfl rfl ?_
  refine sq (rg (?_))
  refine al hT 0 (.agg #[.int .i64 0, .int .i64 0, .int .i64 0, .int .u64 0, .int .u64 0, .int .u64 0, .int .u64 0, .int .u64 0, .bool false, .slice none 0 0, .int .i64 0, .int .i64 0, .slice none 0 0, .slice none 0 0]) rfl (by kernel_rfl) fun b2 => ?_   -- encode.go:175 t2
  refine fin hT 1 rfl (th (sq (rg (?_))))
  refine cl hT 1 rfl (unsealC ao cap b (In.cons hm) x hl) ?_   -- encode.go:176 t14
  rintro v14 K14 hs14 ⟨rfl, gx, rfl, aox, cx, rfl, ox⟩
  generalize hU : unsealed b = U at hul hde hrbd ox ⊢
  obtain ⟨xs, n, e⟩ := U
  dsimp only at hul hde hrbd ox ⊢
  refine fin hT 7 rfl (th (sq (sq (rg (?_)))))
  refine cmpS hT 1 rfl fun b19 h19 => ?_   -- encode.go:177 t19 t18 ≠ 0
  refine' bjo hT 1 5 25 [19, 20] h19 rfl rfl rfl rfl rfl rfl rfl (fun _ => ?x2) (fun b25 h25 => ?_)   -- encode.go:177 t25
  case x2 =>
    refine cmpS hT 3 rfl fun b24 h24 => ?_   -- encode.go:177 t24 t21 ≠ t23
    exact fin hT 1 rfl (bjx h24 rfl rfl rfl)
  refine fin hT 0 rfl (th (ifP h25 rfl (fun e4 => ?_) (fun e4 => ?_)))
  · have hn : dec b = none := by
      rw [hde, if_neg]
      exact fun h => e4.elim (fun e => e h.1) (fun e => e (by rw [h.2.1]))
    refine sq (rg (?_))
    refine bd hT 0 (.agg (mv Msg.zero p0)) rfl (fun w => by kernel_rfl) ?_   -- encode.go:178 t26
    refine stS hT 0 1 rfl rfl (by kernel_rfl) rfl rfl ?_   -- encode.go:178 tNone t2 := t26
    refine fin hT 1 rfl (th (rt (rT (?_))))
    refine WQ.drop ?_
    exact retcP 0 1 rfl rfl rfl rfl (by kernel_rfl) ⟨rfl, outM_no hn (Le.refl _)⟩
  · have he0 : e = 0 := Decidable.not_not.1 fun h => e4 (.inl h)
    have hn0 : n = b.length := by have := Decidable.not_not.1 fun h => e4 (.inr h); omega
    refine sk (th (sq (rg (?_))))
    refine cl hT 1 rfl (readC aox cx xs (.inr ⟨0, rfl⟩) ox.isS (by omega)) ?_   -- encode.go:180 t28
    rintro v28 K28 hs28 ⟨rfl, rb, h, hb', rfl, rfl, rd⟩
    refine fin hT 1 rfl (th (sq (rg (?_))))
    refine cl hT 1 rfl (byteC (.inr ⟨0, rfl⟩) (xs, 0) rd) ?_   -- encode.go:181 t30
    rintro v30 K30 hs30 ⟨h1, rfl, rfl, rfl, rd1⟩
    have hk1 := rByte_lt (xs, 0)
    have hl1 := rByte_len (xs, 0)
    dsimp only at hl1
    refine ar hT 0 rfl (i64w (by omega)) ?_   -- encode.go:181 t31 convert t30
    refine cl hT 1 rfl (byteC (.inr ⟨0, rfl⟩) _ rd1) ?_   -- encode.go:181 t33
    rintro v33 K33 hs33 ⟨h2, rfl, rfl, rfl, rd2⟩
    have hk2 := rByte_lt (rByte (xs, 0)).2
    have hl2 := rByte_len (rByte (xs, 0)).2
    refine ar hT 0 rfl (i64w (by omega)) ?_   -- encode.go:181 t34 convert t33
    refine cl hT 1 rfl (byteC (.inr ⟨0, rfl⟩) _ rd2) ?_   -- encode.go:181 t36
    rintro v36 K36 hs36 ⟨h3, rfl, rfl, rfl, rd3⟩
    have hk3 := rByte_lt (rByte (rByte (xs, 0)).2).2
    have hl3 := rByte_len (rByte (rByte (xs, 0)).2).2
    refine ar hT 0 rfl (i64w (by omega)) ?_   -- encode.go:181 t37 convert t36
    refine cl hT 1 rfl (uintC (.inr ⟨0, rfl⟩) mxU _ (by omega) rd3) ?_   -- encode.go:181 t39
    rintro v39 K39 hs39 ⟨h4, rfl, rfl, rfl, rd4⟩
    have hl4 := rUint_len mxU (rByte (rByte (rByte (xs, 0)).2).2).2
    refine bd hT 0 (.agg (mv (hdrR xs).2 p0)) rfl (fun w => by kernel_rfl) ?_   -- encode.go:181 t40
    refine al hT 0 (.agg #[.int .i64 0, .int .i64 0, .int .i64 0, .int .u64 0, .int .u64 0, .int .u64 0, .int .u64 0, .int .u64 0, .bool false, .slice none 0 0, .int .i64 0, .int .i64 0, .slice none 0 0, .slice none 0 0]) rfl (by kernel_rfl) fun b8 => ?_   -- encode.go:181 t8
    refine stS hT 0 0 rfl rfl (by kernel_rfl) rfl rfl ?_   -- encode.go:181 tNone t8 := t40
    refine WL.perm (List.Perm.swap _ _ _) ?_
    refine fin hT 0 rfl (th (sq (sq (rg (?_)))))
    refine ldp hT 1 1 rfl rfl rfl ?_   -- encode.go:182 t42 *t41
    refine cl hT 0 rfl (fieldsC (hdrR xs).2.kind) ?_   -- encode.go:182 t43
    rintro v43 K43 hs43 ⟨hle0, rfl, aof, capf, rfl, css, xF, hA⟩
    have hrR : readR xs = getAll (fieldsOf (hdrR xs).2.kind) (hdrR xs).1 (hdrR xs).2 := rfl
    have hnd := fields_nodup (hdrR xs).2.kind
    have hfl := fieldsOf_len (hdrR xs).2.kind
    have hrd4 : IsRd rb hb' (hdrR xs).1 h4 := rd4
    have hln4 : (hdrR xs).1.1.length < 1099511627776 := by show (rUint mxU (rByte (rByte (rByte (xs, 0)).2).2).2).2.1.length < 1099511627776; omega
    have hz : MsgS K43 (hdrR xs).2 p0 := MsgS.zero _
    have hz2 : (hdrR xs).2.ents = [] := rfl
    generalize (hdrR xs).1 = s0 at hrd4 hrR hln4
    generalize (hdrR xs).2 = m0 at hrR hz hz2 hA hnd hfl xF ⊢
    generalize fieldsOf m0.kind = fs at hrR hA hnd hfl xF ⊢
    clear rd rd1 rd2 rd3 rd4 hk1 hk2 hk3 hl1 hl2 hl3 hl4
    refine fin hT 2 rfl (th (bk (?_)))
    refine loop (σ := Nat × Rd × Msg × MA × PH × PH) (fun s => [(0, .slice ao b.length cap), (2, Ptr b2), (7, Ptr rb), (8, Ptr b8), (43, .slice aof fs.length capf), (44, .int .i64 (fs.length : Nat)), (45, .int .i64 (s.1 : Nat))]) (fun s => s.2.2.2.2.1) (fun s => s.2.2.2.2.2 :: pt b8 (mv s.2.2.1 s.2.2.2.1) 51 :: hb' :: gx :: pt b2 (mv Msg.zero p0) 51 :: hs)
      (fun s => s.1 ≤ fs.length ∧ Le K43 s.2.2.2.2.1 ∧ getAll (fs.drop s.1) s.2.1 s.2.2.1 = getAll fs s0 m0 ∧ (Fld.ents ∈ fs.drop s.1 → s.2.2.1.ents = [] ∧ s.2.2.2.1.ae = none ∧ s.2.2.2.1.ce = 0) ∧ s.2.1.1.length < 1099511627776 ∧ IsRd rb hb' s.2.1 s.2.2.2.2.2 ∧ MsgS s.2.2.2.2.1 s.2.2.1 s.2.2.2.1) (fun s => fs.length - s.1)
      (0, s0, m0, p0, K43, h4) ⟨Nat.zero_le _, Le.refl _, rfl, fun _ => ⟨hz2, rfl, rfl⟩, hln4, hrd4, hz⟩ ⟨rfl, rfl, rfl, rfl, rfl, rfl, rfl, trivial⟩ rfl rfl ?_
    rintro ⟨i, s, m, p, K', h⟩ ⟨hi, hle, hge, hen, hsl, rd, hS⟩
    dsimp only at hi hle hge hen hsl rd hS ⊢
    refine sq (rg (?_))
    refine cmpS hT 0 rfl fun b46 h46 => ?_   -- encode.go:182 t46 t45 < t44
    refine fin hT 0 rfl (th (sq (ifP h46 rfl (fun e6 => ?_) (fun e6 => ?_))))
    · have hin : i < fs.length := by omega
      refine sk (th (sq (bk (sq (rg (?_))))))
      have hA2 : All2 (FV K') css fs := All2.imp (fun _ _ => FV.le hle) hA
      obtain ⟨cs, hV, hcl, hcell⟩ := FldsS.get (d := .idx) hA2 hin
      obtain ⟨g1, k1, g2, k2, g3, k3, rfl, hput, hget, hclr⟩ := hV.fns
      have hgd := getAll_drop hin .idx s m
      have hdr : fs.drop i = fs.getD i .idx :: fs.drop (i + 1) := by rw [List.drop_eq_getElem_cons hin]; simp [List.getD, hin]
      have hnd2 : (fs.drop i).Nodup := hnd.sublist (List.drop_sublist _ _)
      generalize fs.getD i .idx = f at hV hput hget hclr hgd hdr
      rw [hdr] at hnd2 hen
      obtain ⟨hn1, hn2⟩ := List.nodup_cons.1 hnd2
      refine ixs hT 0 i rfl rfl xF hin (by decide) fun a47 ha47 => ?_
      refine lds hT 0 [.func (.func g1) #[] k1, .func (.func g2) #[] k2, .func (.func g3) #[] k3] rfl (by kernel_rfl) (.inl rfl) (fun j v hv => ?_) ?_
      · obtain ⟨a', q1, q2⟩ := xF.2.2 (i * 3 + j) v (hcell j v hv)
        rw [ha47] at q1
        cases q1
        rw [Deep.add_add]
        exact q2.le hle
      refine al hT 0 (.agg #[.nilFunc, .nilFunc, .nilFunc]) rfl (by kernel_rfl) fun b10 => ?_   -- encode.go:182 t10
      refine stS hT 0 0 rfl rfl (by kernel_rfl) rfl rfl ?_   -- encode.go:182 tNone t10 := t48
      refine fin hT 0 rfl (th (rg (?_)))
      refine ldp hT 1 0 rfl rfl rfl ?_   -- encode.go:183 t50 *t49
      refine WL.drop ?_
      refine cl hT 1 rfl (hget w0 h hb' _ rb b8 0 m p s (fun hf => hen (by simp [hf])) rfl hsl rd hS) ?_   -- encode.go:183 t52
      rintro v52 K52 hs52 ⟨le2, h', p', rfl, rd', hS2, hkeep⟩
      have hgl := get_len f s m
      refine fin hT 0 rfl (bl (th (rg (?_))))
      refine ar hT 0 rfl (i64w (by omega)) ?_   -- encode.go:182 t53 t45 add 1
      refine fin hT 1 rfl (?_)
      exact again (x := (i, s, m, p, K', h)) (i + 1, (f.get s m).1, (f.get s m).2, p', K52, h') ⟨rfl, rfl, rfl, rfl, rfl, rfl, rfl, trivial⟩ rfl rfl ⟨by omega, hle.trans le2, by rw [← hgd]; exact hge, fun hmem => (by
        have hne : f ≠ .ents := fun hf => hn1 (by rw [hf]; exact hmem)
        have h1 := hen (List.mem_cons_of_mem _ hmem)
        have h2 := hkeep hne
        exact ⟨by rw [get_ents hne]; exact h1.1, by rw [h2.1]; exact h1.2.1, by rw [h2.2]; exact h1.2.2⟩), by dsimp only; omega, rd', hS2⟩ (by (try dsimp only); omega)
    · obtain rfl : i = fs.length := by omega
      refine ex (xt (xt (xb (th (sq (rg (?_)))))))
      have hfin : readR xs = (s, m) := by rw [hrR, ← hge, List.drop_length]; rfl
      rw [hfin] at hrbd hde
      dsimp only at hrbd hde
      obtain ⟨hb2, hm2, leb⟩ := hm.le (hle0.trans hle)
      refine ldS hT 0 1 rfl rfl (by kernel_rfl) ?_   -- encode.go:185 t55 t8
      refine cl hT 0 rfl (encodeC m p hS hrbd) ?_   -- encode.go:185 t56
      rintro v56 K56 hs56 ⟨rfl, ge, aoe, ce, rfl, rfl, oe⟩
      refine fin hT 5 rfl (th (sq (sq (rg (?_)))))
      refine cl hT 1 rfl (Ct.keep 1 rfl (endC s rd)) ?_   -- encode.go:186 t60
      rintro v60 K60 hs60 ⟨rfl, rfl, rfl⟩
      refine cmpS hT 0 rfl fun b61 h61 => ?_   -- encode.go:186 t61 t60 ≠ 0
      refine' bjo hT 1 3 65 [61, 62] h61 rfl rfl rfl rfl rfl rfl rfl (fun _ => ?x8) (fun b65 h65 => ?_)   -- encode.go:186 t65
      case x8 =>
        refine cmpS hT 1 rfl fun b64 h64 => ?_   -- encode.go:186 t64 t63 ≠ 0
        exact fin hT 1 rfl (bjx h64 rfl rfl rfl)
      refine' bjo hT 1 5 71 [65, 66] h65 rfl rfl rfl rfl rfl rfl rfl (fun _ => ?x10) (fun b71 h71 => ?_)   -- encode.go:186 t71
      case x10 =>
        refine cl hT 2 rfl (equalC aoe ao ce cap (ob (enc m)) b (.inr ⟨0, rfl⟩) (In.cons4 (In.cons (In.cons hm2))) oe.isS (x.le leb) (by have := enc_len m hrbd; omega)) ?_   -- encode.go:186 t69
        rintro v69 K69 hs69 ⟨rfl, rfl, b69, rfl, h69⟩
        refine cbS hT 0 _ rfl (bnot h69) fun b70 h70 => ?_   -- not
        exact fin hT 1 rfl (bjx h70 rfl rfl rfl)
      refine fin hT 0 rfl (th (ifP h71 rfl (fun e11 => ?_) (fun e11 => ?_)))
      · have hn : dec b = none := by
          rw [hde, if_neg]
          intro hh
          have := ec_ob.2 hh.2.2.2
          exact e11.elim (fun e => e.elim (fun e => e hh.2.2.1) (fun e => e this.1)) (fun e => e this.2)
        refine sq (rg (?_))
        refine bd hT 0 (.agg (mv Msg.zero p0)) rfl (fun w => by kernel_rfl) ?_   -- encode.go:187 t72
        refine stS hT 0 5 rfl rfl (by kernel_rfl) rfl rfl ?_   -- encode.go:187 tNone t2 := t72
        refine fin hT 1 rfl (th (rt (rT (?_))))
        refine WQ.drop (WQ.drop (WQ.drop (WQ.drop (WQ.drop ?_))))
        exact retcP 0 1 rfl rfl rfl rfl (by kernel_rfl) ⟨rfl, outM_no hn (hle0.trans hle)⟩
      · have hn : dec b = some m := by
          simp only [not_or, ne_eq, Decidable.not_not] at e11
          rw [hde, if_pos ⟨he0, hn0, e11.1.1, ec_ob.1 ⟨e11.1.2, e11.2⟩⟩]
        refine sk (th (sq (rg (?_))))
        refine ldS hT 0 2 rfl rfl (by kernel_rfl) ?_   -- encode.go:189 t73 t8
        refine stS hT 0 5 rfl rfl (by kernel_rfl) rfl rfl ?_   -- encode.go:189 tNone t2 := t73
        refine fin hT 1 rfl (th (rt (?_)))
        refine WQ.drop (WQ.drop (WQ.drop (WQ.drop (WQ.drop ?_))))
        exact retcP 0 1 rfl rfl rfl rfl (by kernel_rfl) ⟨rfl, by rw [hn]; exact ⟨hle0.trans hle, p, rfl, hS⟩⟩
end Go.Proofs.Ythpiokdibknpaaa
