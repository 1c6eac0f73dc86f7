/-
  Package lev: Start.
  Package lev: cut.
  Package lev: Step.
  Package lev: Dist, New.
  Package lev: New.
  Plain: the automaton's row tells the distance, cut.
  Package lev: Alive.
-/
import Derived.Test.YtlnhbilpkcfdlaaDoorPa
import Derived.ChangeKeysEq
set_option linter.unusedSimpArgs false
set_option linter.unusedVariables false
namespace Go.En
/-- a row of 25 bytes -/
def rowA (f : Nat → Nat) : Array Value := ((List.range 25).map fun j => Value.int .u8 ((f j : Nat) : Int)).toArray
theorem rowA_size (f : Nat → Nat) : (rowA f).size = 25 := by simp [rowA]
theorem rowA_get (f : Nat → Nat) {j : Nat} (h : j < 25) : (rowA f)[j]? = some (.int .u8 ((f j : Nat) : Int)) := by simp [rowA, h]
theorem rowA_ext {cur : Array Value} {f : Nat → Nat} (h1 : cur.size = 25) (h2 : ∀ j, j < 25 → cur[j]? = some (.int .u8 ((f j : Nat) : Int))) : cur = rowA f := by
  apply Array.ext_getElem?
  intro j
  by_cases h : j < 25
  · rw [h2 j h, rowA_get f h]
  · rw [Array.getElem?_eq_none (by omega), Array.getElem?_eq_none (by rw [rowA_size]; omega)]
theorem rowA_congr {f g : Nat → Nat} (h : ∀ j, j < 25 → f j = g j) : rowA f = rowA g := rowA_ext (rowA_size f) fun j hj => by rw [rowA_get f hj, h j hj]
theorem rowA_all (f : Nat → Nat) : (rowA f).toList.all (·.oneCell') = true := by
  rw [List.all_eq_true]
  intro v hv
  simp [rowA] at hv
  obtain ⟨j, _, rfl⟩ := hv
  rfl
/-- one cell more is laid -/
def RF (f : Nat → Nat) (cur : Array Value) (k : Nat) : Prop := cur.size = 25 ∧ ∀ j, j < 25 → cur[j]? = some (.int .u8 (((if j < k then f j else 0) : Nat) : Int))
theorem RF.set {f : Nat → Nat} {cur : Array Value} {k : Nat} (h : RF f cur k) (hk : k < 25) {v : Nat} (hv : v = f k) : RF f (cur.setIfInBounds k (.int .u8 ((v : Nat) : Int))) (k + 1) := by
  obtain ⟨h1, h2⟩ := h
  refine ⟨by simpa using h1, fun j hj => ?_⟩
  rw [Array.getElem?_setIfInBounds]
  by_cases e : k = j
  · subst e hv
    rw [if_pos rfl, if_pos (by omega), if_pos (by omega)]
  · rw [if_neg e, h2 j hj]
    by_cases h3 : j < k
    · rw [if_pos h3, if_pos (by omega)]
    · rw [if_neg h3, if_neg (by omega)]
theorem RF.zero (f : Nat → Nat) : RF f (rowA fun _ => 0) 0 := ⟨rowA_size _, fun j hj => by rw [rowA_get _ hj, if_neg (by omega)]⟩
theorem RF.fin {f : Nat → Nat} {cur : Array Value} {k : Nat} (h : RF f cur k) : cur = rowA fun j => if j < k then f j else 0 := rowA_ext h.1 h.2
end Go.En
namespace Go.Proofs.YtlnhbilpkcfdlaaDoor
open Go.En
set_option linter.unusedVariables false
attribute [local irreducible] Code.wp wpList Calls

/-- what a Lev has: the word's runes, what is too far, the dead row -/
structure LevK (K : PH) (b : Nat) (w : List Nat) (o : Nat) : Prop where
  runes : ∃ ao c, Cell K ⟨b, 0, none⟩ (.slice ao w.length c) ∧ IsS K ao w.length c 1 (rvv w)
  out : Cell K ⟨b, 1, none⟩ (.int .u8 ((o : Nat) : Int))
  dead : ∀ j, j < 25 → Cell K ⟨b, 2 + j, none⟩ (.int .u8 (((if j < w.length + 1 then o else 0) : Nat) : Int))
  len : w.length ≤ 24
  lim : o ≤ 4
theorem LevK.le {K K' : PH} {b : Nat} {w : List Nat} {o : Nat} (h : LevK K b w o) (l : Le K K') : LevK K' b w o := by
  obtain ⟨⟨ao, c, h1, h2⟩, h3, h4, h5, h6⟩ := h
  exact ⟨⟨ao, c, h1.le l, h2.le l⟩, h3.le l, fun j hj => (h4 j hj).le l, h5, h6⟩
/-- the row ahead of all -/
def startF (n o : Nat) (j : Nat) : Nat := if j < n + 1 then min j o else 0
theorem startC {w0 : World} {K : PH} {hs : List PH} (b : Nat) (w : List Nat) (o : Nat) (hL : LevK K b w o) : Ct Tryd.prog w0 9 [.pointer (some ⟨b, 0, none⟩)] K hs
    (fun v K' hs' => K' = K ∧ hs' = hs ∧ v = .agg (rowA (startF w.length o))) := by
  obtain ⟨⟨ao, c, hr, hx⟩, ho, _, hlen, hlim⟩ := hL
  refine enter Tryd.func9 (by kernel_rfl) rfl rfl rfl ?_
  refine sq (rg (?_))
  refine al hT 0 (.agg #[.int .u8 0, .int .u8 0, .int .u8 0, .int .u8 0, .int .u8 0, .int .u8 0, .int .u8 0, .int .u8 0, .int .u8 0, .int .u8 0, .int .u8 0, .int .u8 0, .int .u8 0, .int .u8 0, .int .u8 0, .int .u8 0, .int .u8 0, .int .u8 0, .int .u8 0, .int .u8 0, .int .u8 0, .int .u8 0, .int .u8 0, .int .u8 0, .int .u8 0]) rfl (by kernel_rfl) fun b2 => ?_   -- lev.go:30 t2
  refine fin hT 0 rfl (th (sq (rg (?_))))
  refine al hT 0 (.agg #[.int .u8 0, .int .u8 0, .int .u8 0, .int .u8 0, .int .u8 0, .int .u8 0, .int .u8 0, .int .u8 0, .int .u8 0, .int .u8 0, .int .u8 0, .int .u8 0, .int .u8 0, .int .u8 0, .int .u8 0, .int .u8 0, .int .u8 0, .int .u8 0, .int .u8 0, .int .u8 0, .int .u8 0, .int .u8 0, .int .u8 0, .int .u8 0, .int .u8 0]) rfl (by kernel_rfl) fun b3 => ?_   -- lev.go:31 t3
  refine fin hT 0 rfl (th (sq (sq (rg (?_)))))
  refine ld hT 3 (v := .slice ao w.length c) rfl (.inl rfl) hr ?_
  refine ar hT 1 rfl (i64w (by omega)) ?_   -- lev.go:32 t10 t9 add 1
  refine fin hT 1 rfl (th (bk (?_)))
  refine loop (σ := Nat × Array Value) (fun s => [(0, .pointer (some ⟨b, 0, none⟩)), (2, .pointer (some ⟨b2, 0, none⟩)), (3, .pointer (some ⟨b3, 0, none⟩)), (10, .int .i64 ((w.length : Nat) + 1)), (11, .int .i64 ((s.1 : Nat) : Int))]) (fun _ => K) (fun s => pt b3 s.2 34 :: pt b2 (rowA fun _ => 0) 34 :: hs) (fun s => s.1 ≤ w.length + 1 ∧ RF (fun j => min j o) s.2 s.1) (fun s => w.length + 1 - s.1) (0, rowA fun _ => 0) ⟨Nat.zero_le _, RF.zero _⟩ ⟨rfl, rfl, rfl, rfl, rfl, trivial⟩ rfl rfl ?_
  rintro ⟨j, cur⟩ ⟨hj, hF⟩
  dsimp only at hj hF ⊢
  refine sq (rg (?_))
  refine cmpS hT 0 rfl fun b12 h12 => ?_   -- lev.go:32 t12 t11 < t10
  refine fin hT 0 rfl (th (sq (ifP h12 rfl (fun e2 => ?_) (fun e2 => ?_))))
  · have hj25 : j < 25 := by omega
    obtain ⟨old, hold⟩ : ∃ old, cur[j]? = some old := ⟨_, Array.getElem?_eq_getElem (by rw [hF.1]; exact hj25)⟩
    refine sk (th (sq (bk (sq (rg (?_))))))
    refine fin hT 2 rfl (th (rg (?_)))
    refine ld hT 5 rfl (.inl rfl) ho ?_
    refine ar hT 0 rfl (i64w (by omega)) ?_   -- lev.go:33 t20 convert t19
    refine ar hT 1 rfl (v' := .int .u8 ((min j o : Nat) : Int)) (by rw [show (if ((o : Nat) : Int) < ((j : Nat) : Int) then ((o : Nat) : Int) else ((j : Nat) : Int)) = ((min j o : Nat) : Int) from by split <;> omega, u8w (by omega)]) ?_
    refine ixa hT 0 (sz := 1) j rfl Tryd.underlying34 (by kernel_rfl) rfl hj25 ?_
    simp only [add_mk, Nat.mul_one, Nat.zero_add]
    refine stp hT 0 0 rfl rfl hold rfl ?_
    refine fin hT 0 rfl (bl (th (rg (?_))))
    refine ar hT 0 rfl (i64w (by omega)) ?_   -- lev.go:32 t24 t11 add 1
    refine fin hT 1 rfl (?_)
    exact again (x := (j, cur)) (j + 1, cur.setIfInBounds j (.int .u8 ((min j o : Nat) : Int))) ⟨rfl, rfl, rfl, rfl, rfl, trivial⟩ rfl rfl ⟨by omega, hF.set hj25 rfl⟩ (by (try dsimp only); omega)
  · obtain rfl : j = w.length + 1 := by omega
    have hfin := hF.fin
    refine ex (xt (xt (xb (th (sq (rg (?_)))))))
    refine ldS hT 0 0 rfl rfl (by rw [hF.1]; kernel_rfl) ?_
    refine stS hT 0 1 rfl rfl (by rw [hF.1]; kernel_rfl) (by rw [hF.1, rowA_size]) (by rw [hfin]; exact rowA_all _) ?_
    refine fin hT 0 rfl (th (rt (?_)))
    exact retcA 1 2 rfl rfl rfl (by rw [hF.1]; kernel_rfl) ⟨rfl, rfl, by rw [hfin]; rfl⟩
end Go.Proofs.YtlnhbilpkcfdlaaDoor
namespace Go.Proofs.YtlnhbilpkcfdlaaDoor
open Go.En
set_option linter.unusedVariables false
attribute [local irreducible] Code.wp wpList Calls

/-- a row without what is too far -/
def cutF (n o : Nat) (f : Nat → Nat) (j : Nat) : Nat := if j < n + 1 then min (f j) o else 0
theorem cutC {w0 : World} {K : PH} {hs : List PH} (b : Nat) (w : List Nat) (o : Nat) (f : Nat → Nat) (hL : LevK K b w o) : Ct Tryd.prog w0 24 [.pointer (some ⟨b, 0, none⟩), .agg (rowA f)] K hs
    (fun v K' hs' => K' = K ∧ hs' = hs ∧ v = .agg (rowA (cutF w.length o f))) := by
  obtain ⟨⟨ao, c, hr, hx⟩, ho, _, hlen, hlim⟩ := hL
  refine enter Tryd.func24 (by kernel_rfl) rfl rfl rfl ?_
  refine sq (rg (?_))
  refine bx hT 0 rfl fun b3 => ?_   -- lev.go:39 t3
  refine al hT 0 (.agg #[.int .u8 0, .int .u8 0, .int .u8 0, .int .u8 0, .int .u8 0, .int .u8 0, .int .u8 0, .int .u8 0, .int .u8 0, .int .u8 0, .int .u8 0, .int .u8 0, .int .u8 0, .int .u8 0, .int .u8 0, .int .u8 0, .int .u8 0, .int .u8 0, .int .u8 0, .int .u8 0, .int .u8 0, .int .u8 0, .int .u8 0, .int .u8 0, .int .u8 0]) rfl (by kernel_rfl) fun b4 => ?_   -- lev.go:39 t4
  refine fin hT 0 rfl (th (sq (rg (?_))))
  refine al hT 0 (.agg #[.int .u8 0, .int .u8 0, .int .u8 0, .int .u8 0, .int .u8 0, .int .u8 0, .int .u8 0, .int .u8 0, .int .u8 0, .int .u8 0, .int .u8 0, .int .u8 0, .int .u8 0, .int .u8 0, .int .u8 0, .int .u8 0, .int .u8 0, .int .u8 0, .int .u8 0, .int .u8 0, .int .u8 0, .int .u8 0, .int .u8 0, .int .u8 0, .int .u8 0]) rfl (by kernel_rfl) fun b5 => ?_   -- lev.go:40 t5
  refine fin hT 0 rfl (th (sq (sq (rg (?_)))))
  refine ld hT 3 (v := .slice ao w.length c) rfl (.inl rfl) hr ?_
  refine ar hT 1 rfl (i64w (by omega)) ?_   -- lev.go:41 t12 t11 add 1
  refine fin hT 1 rfl (th (bk (?_)))
  refine loop (σ := Nat × Array Value) (fun s => [(0, .pointer (some ⟨b, 0, none⟩)), (3, .pointer (some ⟨b3, 0, none⟩)), (4, .pointer (some ⟨b4, 0, none⟩)), (5, .pointer (some ⟨b5, 0, none⟩)), (12, .int .i64 ((w.length : Nat) + 1)), (13, .int .i64 ((s.1 : Nat) : Int))]) (fun _ => K) (fun s => pt b5 s.2 34 :: pt b4 (rowA fun _ => 0) 34 :: pt b3 (rowA f) 34 :: hs) (fun s => s.1 ≤ w.length + 1 ∧ RF (fun j => min (f j) o) s.2 s.1) (fun s => w.length + 1 - s.1) (0, rowA fun _ => 0) ⟨Nat.zero_le _, RF.zero _⟩ ⟨rfl, rfl, rfl, rfl, rfl, rfl, trivial⟩ rfl rfl ?_
  rintro ⟨j, cur⟩ ⟨hj, hF⟩
  dsimp only at hj hF ⊢
  refine sq (rg (?_))
  refine cmpS hT 0 rfl fun b14 h14 => ?_   -- lev.go:41 t14 t13 < t12
  refine fin hT 0 rfl (th (sq (ifP h14 rfl (fun e2 => ?_) (fun e2 => ?_))))
  · have hj25 : j < 25 := by omega
    obtain ⟨old, hold⟩ : ∃ old, cur[j]? = some old := ⟨_, Array.getElem?_eq_getElem (by rw [hF.1]; exact hj25)⟩
    refine sk (th (sq (bk (sq (rg (?_))))))
    refine fin hT 2 rfl (th (rga [pt b5 cur 34, pt b3 (rowA f) 34] 10 [0, 2, 4, 6, 8, 10, 12, 14, 16, 18, 21] (by simp) (by kernel_rfl) (by kernel_rfl) ?_))
    refine dixa hT (by kernel_rfl) 2 (sz := 1) j rfl Tryd.underlying34 (by kernel_rfl) rfl hj25 ?_
    simp only [add_mk, Nat.mul_one, Nat.zero_add]
    refine dldpw hT (by kernel_rfl) 0 1 rfl (by kernel_rfl) rfl (rowA_get f hj25) ?_
    refine dldw hT (by kernel_rfl) 3 rfl (by kernel_rfl) (.inl rfl) ho ?_
    refine dixa hT (by kernel_rfl) 1 (sz := 1) j rfl Tryd.underlying34 (by kernel_rfl) rfl hj25 ?_
    simp only [add_mk, Nat.mul_one, Nat.zero_add]
    rw [show (if ((o : Nat) : Int) < ((f j : Nat) : Int) then ((o : Nat) : Int) else ((f j : Nat) : Int)) = ((min (f j) o : Nat) : Int) from by split <;> omega]
    refine dact hT (by kernel_rfl) 0 rfl ?_
    refine stp hT 0 0 rfl rfl hold rfl ?_
    refine dnext (.inl (by kernel_rfl)) ?_
    refine dend hT (by kernel_rfl) 0 rfl (bl (th (rg (?_))))
    refine ar hT 0 rfl (i64w (by omega)) ?_   -- lev.go:41 t26 t13 add 1
    refine fin hT 1 rfl (?_)
    exact again (x := (j, cur)) (j + 1, cur.setIfInBounds j (.int .u8 ((min (f j) o : Nat) : Int))) ⟨rfl, rfl, rfl, rfl, rfl, rfl, trivial⟩ rfl rfl ⟨by omega, hF.set hj25 rfl⟩ (by (try dsimp only); omega)
  · obtain rfl : j = w.length + 1 := by omega
    have hfin := hF.fin
    refine ex (xt (xt (xb (th (sq (rg (?_)))))))
    refine ldS hT 0 0 rfl rfl (by rw [hF.1]; kernel_rfl) ?_
    refine stS hT 0 1 rfl rfl (by rw [hF.1]; kernel_rfl) (by rw [hF.1, rowA_size]) (by rw [hfin]; exact rowA_all _) ?_
    refine fin hT 0 rfl (th (rt (?_)))
    exact retcA 1 3 rfl rfl rfl (by rw [hF.1]; kernel_rfl) ⟨rfl, rfl, by rw [hfin]; rfl⟩
end Go.Proofs.YtlnhbilpkcfdlaaDoor
namespace Go.En
/-- the row behind one rune more -/
def levT (w : List Nat) (o r : Nat) (s : Nat → Nat) : Nat → Nat
  | 0 => min (s 0 + 1) o
  | j + 1 => min (min (min (s j + if w.getD j 0 = r then 0 else 1) (s (j + 1) + 1)) (levT w o r s j + 1)) o
theorem levT_le (w : List Nat) (o r : Nat) (s : Nat → Nat) (j : Nat) : levT w o r s j ≤ o := by cases j <;> simp only [levT] <;> omega
theorem min4 (a b c d : Nat) : (if ((d : Nat) : Int) < (if ((c : Nat) : Int) < (if ((b : Nat) : Int) < ((a : Nat) : Int) then ((b : Nat) : Int) else ((a : Nat) : Int)) then ((c : Nat) : Int) else (if ((b : Nat) : Int) < ((a : Nat) : Int) then ((b : Nat) : Int) else ((a : Nat) : Int))) then ((d : Nat) : Int)
    else (if ((c : Nat) : Int) < (if ((b : Nat) : Int) < ((a : Nat) : Int) then ((b : Nat) : Int) else ((a : Nat) : Int)) then ((c : Nat) : Int) else (if ((b : Nat) : Int) < ((a : Nat) : Int) then ((b : Nat) : Int) else ((a : Nat) : Int)))) = ((min (min (min a b) c) d : Nat) : Int) := by
  have e1 : (if ((b : Nat) : Int) < ((a : Nat) : Int) then ((b : Nat) : Int) else ((a : Nat) : Int)) = ((min a b : Nat) : Int) := by split <;> omega
  rw [e1]
  have e2 : (if ((c : Nat) : Int) < ((min a b : Nat) : Int) then ((c : Nat) : Int) else ((min a b : Nat) : Int)) = ((min (min a b) c : Nat) : Int) := by split <;> omega
  rw [e2]
  split <;> omega
end Go.En
namespace Go.Proofs.YtlnhbilpkcfdlaaDoor
open Go.En
set_option linter.unusedVariables false
attribute [local irreducible] Code.wp wpList Calls

theorem stepC {w0 : World} {K : PH} {hs : List PH} (b : Nat) (w : List Nat) (o r : Nat) (f : Nat → Nat) (hL : LevK K b w o) : Ct Tryd.prog w0 11 [.pointer (some ⟨b, 0, none⟩), .agg (rowA f), .int .i32 (r : Nat)] K hs
    (fun v K' hs' => K' = K ∧ hs' = hs ∧ v = .agg (rowA fun j => if j < w.length + 1 then levT w o r (cutF w.length o f) j else 0)) := by
  have hL2 := hL
  obtain ⟨⟨ao, c, hr, hx⟩, ho, _, hlen, hlim⟩ := hL
  have hsb : ∀ j, cutF w.length o f j ≤ 4 := fun j => by unfold cutF; split <;> omega
  obtain ⟨s, hs0⟩ : ∃ s, s = cutF w.length o f := ⟨_, rfl⟩
  rw [← hs0] at hsb ⊢
  refine enter Tryd.func11 (by kernel_rfl) rfl rfl rfl ?_
  refine sq (rg (?_))
  refine bx hT 0 rfl fun b4 => ?_   -- lev.go:48 t4
  refine al hT 0 (.agg #[.int .u8 0, .int .u8 0, .int .u8 0, .int .u8 0, .int .u8 0, .int .u8 0, .int .u8 0, .int .u8 0, .int .u8 0, .int .u8 0, .int .u8 0, .int .u8 0, .int .u8 0, .int .u8 0, .int .u8 0, .int .u8 0, .int .u8 0, .int .u8 0, .int .u8 0, .int .u8 0, .int .u8 0, .int .u8 0, .int .u8 0, .int .u8 0, .int .u8 0]) rfl (by kernel_rfl) fun b6 => ?_   -- lev.go:48 t6
  refine fin hT 0 rfl (th (sq (rg (?_))))
  refine ldS hT 1 1 rfl rfl (by rw [show (Value.agg (rowA f)).cells.size = 25 from rowA_size f]; kernel_rfl) ?_
  refine cl hT 0 rfl (cutC b w o f hL2) ?_   -- lev.go:49 t13
  rintro v13 K13 hs13 ⟨rfl, rfl, rfl⟩
  rw [← hs0]
  refine stS hT 0 1 rfl rfl (by rw [rowA_size]; kernel_rfl) (by rw [rowA_size]; exact (rowA_size f).symm) (rowA_all _) ?_
  refine fin hT 0 rfl (th (sq (rg (?_))))
  refine al hT 0 (.agg #[.int .u8 0, .int .u8 0, .int .u8 0, .int .u8 0, .int .u8 0, .int .u8 0, .int .u8 0, .int .u8 0, .int .u8 0, .int .u8 0, .int .u8 0, .int .u8 0, .int .u8 0, .int .u8 0, .int .u8 0, .int .u8 0, .int .u8 0, .int .u8 0, .int .u8 0, .int .u8 0, .int .u8 0, .int .u8 0, .int .u8 0, .int .u8 0, .int .u8 0]) rfl (by kernel_rfl) fun b7 => ?_   -- lev.go:50 t7
  refine WL.hs (pt b7 (rowA fun _ => 0) 34 :: pt b6 (rowA fun _ => 0) 34 :: pt b4 (rowA s) 34 :: hs) rfl ?_
  refine fin hT 0 rfl (th (sq (rga [pt b7 (rowA fun _ => 0) 34, pt b4 (rowA s) 34] 9 [0, 2, 4, 6, 8, 10, 12, 14, 16, 19] (by simp) (by kernel_rfl) (by kernel_rfl) ?_)))
  refine dixa hT (by kernel_rfl) 0 (sz := 1) 0 rfl Tryd.underlying34 (by kernel_rfl) rfl (by decide) ?_
  simp only [add_mk, Nat.mul_one, Nat.zero_add]
  refine dldpw hT (by kernel_rfl) 0 1 rfl (by kernel_rfl) rfl (rowA_get s (by decide)) ?_
  refine dar hT (by kernel_rfl) 0 rfl (v' := .int .u8 ((s 0 + 1 : Nat) : Int)) (by rw [u8w (by have := hsb 0; omega)]; rfl) ?_
  refine dldw hT (by kernel_rfl) 3 rfl (by kernel_rfl) (.inl rfl) ho ?_
  refine dixa hT (by kernel_rfl) 1 (sz := 1) 0 rfl Tryd.underlying34 (by kernel_rfl) rfl (by decide) ?_
  simp only [add_mk, Nat.mul_one, Nat.zero_add]
  rw [show (if ((o : Nat) : Int) < ((s 0 + 1 : Nat) : Int) then ((o : Nat) : Int) else ((s 0 + 1 : Nat) : Int)) = ((min (s 0 + 1) o : Nat) : Int) from by split <;> omega]
  refine dact hT (by kernel_rfl) 0 rfl ?_
  refine stp hT 0 0 rfl rfl (rowA_get _ (by decide)) rfl ?_
  refine dnext (.inl (by kernel_rfl)) ?_
  refine dend hT (by kernel_rfl) 0 rfl (th (sq (sq (rg (?_)))))
  refine ld hT 3 (v := .slice ao w.length c) rfl (.inl rfl) hr ?_
  refine fin hT 2 rfl (th (bk (?_)))
  refine loop (σ := Nat × Array Value) (fun s' => [(0, .pointer (some ⟨b, 0, none⟩)), (2, .int .i32 ((r : Nat) : Int)), (4, .pointer (some ⟨b4, 0, none⟩)), (6, .pointer (some ⟨b6, 0, none⟩)), (7, .pointer (some ⟨b7, 0, none⟩)), (26, .slice ao w.length c), (27, .int .i64 (w.length : Nat)), (28, .int .i64 ((s'.1 : Nat) : Int))]) (fun _ => K13) (fun s' => pt b7 s'.2 34 :: pt b6 (rowA fun _ => 0) 34 :: pt b4 (rowA s) 34 :: hs) (fun s' => s'.1 ≤ w.length ∧ RF (levT w o r s) s'.2 (s'.1 + 1)) (fun s' => w.length - s'.1) (0, (rowA fun _ => 0).setIfInBounds 0 (.int .u8 ((min (s 0 + 1) o : Nat) : Int))) ⟨Nat.zero_le _, (RF.zero _).set (by decide) rfl⟩ ⟨rfl, rfl, rfl, rfl, rfl, rfl, rfl, rfl, trivial⟩ rfl rfl ?_
  rintro ⟨j, cur⟩ ⟨hj, hF⟩
  dsimp only at hj hF ⊢
  refine sq (rg (?_))
  refine cmpS hT 0 rfl fun b29 h29 => ?_   -- lev.go:52 t29 t28 < t27
  refine fin hT 0 rfl (th (sq (ifP h29 rfl (fun e2 => ?_) (fun e2 => ?_))))
  · have hjw : j < w.length := by omega
    have hj25 : j < 25 := by omega
    have hj26 : j + 1 < 25 := by omega
    obtain ⟨old, hold⟩ : ∃ old, cur[j + 1]? = some old := ⟨_, Array.getElem?_eq_getElem (by rw [hF.1]; exact hj26)⟩
    have hcj : cur[j]? = some (.int .u8 ((levT w o r s j : Nat) : Int)) := by have := hF.2 j hj25; rwa [if_pos (by omega)] at this
    have hstl := levT_le w o r s j
    obtain ⟨δ, hδ⟩ : ∃ δ, δ = (if w.getD j 0 = r then 0 else 1) := ⟨_, rfl⟩
    have hδ1 : δ ≤ 1 := by rw [hδ]; split <;> omega
    have hs1 := hsb j
    have hs2 := hsb (j + 1)
    refine sk (th (sq (bk (sq (rg (?_))))))
    refine ix1 hT 1 j rfl rfl rfl hx (rvvD hjw) fun a31 hc31 => ?_
    refine ld hT 0 rfl (.inl rfl) hc31 ?_
    refine fin hT 2 rfl (th (sq (rg (?_))))
    refine ixa hT 1 (sz := 1) j rfl Tryd.underlying34 (by kernel_rfl) rfl hj25 ?_
    simp only [add_mk, Nat.mul_one, Nat.zero_add]
    refine ldp hT 0 2 rfl rfl (rowA_get s hj25) ?_
    refine fin hT 1 rfl (th (jn (σ := Unit) (fun _ => [(0, .pointer (some ⟨b, 0, none⟩)), (2, .int .i32 ((r : Nat) : Int)), (4, .pointer (some ⟨b4, 0, none⟩)), (6, .pointer (some ⟨b6, 0, none⟩)), (7, .pointer (some ⟨b7, 0, none⟩)), (8, .int .i64 ((j : Nat) : Int)), (10, .int .u8 ((s j + δ : Nat) : Int)), (26, .slice ao w.length c), (27, .int .i64 (w.length : Nat)), (28, .int .i64 ((j : Nat) : Int))]) (fun _ => pt b7 cur 34 :: pt b6 (rowA fun _ => 0) 34 :: pt b4 (rowA s) 34 :: hs) (fun _ => True) ?_ ?_))
    · refine sq (rg (?_))
      refine cmpS hT 2 rfl fun b38 h38 => ?_   -- lev.go:54 t38 t36 ≠ t37
      refine fin hT 0 rfl (th (ifP h38 rfl (fun e4 => ?_) (fun e4 => ?_)))
      · refine rg (?_)
        refine ar hT 1 rfl (v' := .int .u8 ((s j + 1 : Nat) : Int)) (by rw [u8w (by omega)]; rfl) ?_
        refine fin hT 1 rfl (?_)
        obtain rfl : δ = 1 := by rw [hδ, if_neg (by omega)]
        exact jx () trivial ⟨rfl, rfl, rfl, rfl, rfl, rfl, rfl, rfl, rfl, rfl, trivial⟩ rfl rfl
      · refine sk (?_)
        obtain rfl : δ = 0 := by rw [hδ, if_pos (by omega)]
        exact jx () trivial ⟨rfl, rfl, rfl, rfl, rfl, rfl, rfl, rfl, rfl, rfl, trivial⟩ rfl rfl
    · rintro ⟨⟩ htr
      clear htr
      refine rga [pt b7 cur 34, pt b4 (rowA s) 34] 18 [0, 2, 4, 6, 8, 10, 12, 14, 16, 18, 20, 22, 24, 26, 28, 30, 32, 34, 37] (by simp) (by kernel_rfl) (by kernel_rfl) ?_
      refine dar hT (by kernel_rfl) 1 rfl (v' := .int .i64 ((j + 1 : Nat) : Int)) (by rw [i64w (by omega)]; rfl) ?_
      refine dar hT (by kernel_rfl) 2 rfl (v' := .int .i64 ((j + 1 : Nat) : Int)) (by rw [i64w (by omega)]; rfl) ?_
      refine dixa hT (by kernel_rfl) 0 (sz := 1) (j + 1) rfl Tryd.underlying34 (by kernel_rfl) rfl hj26 ?_
      simp only [add_mk, Nat.mul_one, Nat.zero_add]
      refine dldpw hT (by kernel_rfl) 0 1 rfl (by kernel_rfl) rfl (rowA_get s hj26) ?_
      refine dar hT (by kernel_rfl) 0 rfl (v' := .int .u8 ((s (j + 1) + 1 : Nat) : Int)) (by rw [u8w (by omega)]; rfl) ?_
      refine dixa hT (by kernel_rfl) 1 (sz := 1) j rfl Tryd.underlying34 (by kernel_rfl) rfl hj25 ?_
      simp only [add_mk, Nat.mul_one, Nat.zero_add]
      refine dldpw hT (by kernel_rfl) 0 0 rfl (by kernel_rfl) rfl hcj ?_
      refine dar hT (by kernel_rfl) 0 rfl (v' := .int .u8 ((levT w o r s j + 1 : Nat) : Int)) (by rw [u8w (by omega)]; rfl) ?_
      refine dldw hT (by kernel_rfl) 3 rfl (by kernel_rfl) (.inl rfl) ho ?_
      refine dixa hT (by kernel_rfl) 1 (sz := 1) (j + 1) rfl Tryd.underlying34 (by kernel_rfl) rfl hj26 ?_
      simp only [add_mk, Nat.mul_one, Nat.zero_add]
      rw [min4]
      refine dact hT (by kernel_rfl) 0 rfl ?_
      refine stp hT 0 0 rfl rfl hold rfl ?_
      refine dnext (.inl (by kernel_rfl)) ?_
      refine dend hT (by kernel_rfl) 0 rfl (bl (th (rg (?_))))
      refine ar hT 0 rfl (i64w (by omega)) ?_   -- lev.go:52 t59 t28 add 1
      refine fin hT 1 rfl (?_)
      exact again (x := (j, cur)) (j + 1, cur.setIfInBounds (j + 1) (.int .u8 ((min (min (min (s j + δ) (s (j + 1) + 1)) (levT w o r s j + 1)) o : Nat) : Int))) ⟨rfl, rfl, rfl, rfl, rfl, rfl, rfl, rfl, trivial⟩ rfl rfl ⟨by omega, hF.set hj26 (by rw [levT, ← hδ])⟩ (by (try dsimp only); omega)
  · obtain rfl : j = w.length := by omega
    have hfin := hF.fin
    refine ex (xt (xt (xb (th (sq (rg (?_)))))))
    refine ldS hT 0 0 rfl rfl (by rw [hF.1]; kernel_rfl) ?_
    refine stS hT 0 1 rfl rfl (by rw [hF.1]; kernel_rfl) (by rw [hF.1, rowA_size]) (by rw [hfin]; exact rowA_all _) ?_
    refine fin hT 0 rfl (th (rt (?_)))
    exact retcA 1 3 rfl rfl rfl (by rw [hF.1]; kernel_rfl) ⟨rfl, rfl, by rw [hfin]⟩
end Go.Proofs.YtlnhbilpkcfdlaaDoor
namespace Go.Proofs.YtlnhbilpkcfdlaaDoor
open Go.En
set_option linter.unusedVariables false
attribute [local irreducible] Code.wp wpList Calls

theorem levDistC {w0 : World} {K : PH} {hs : List PH} (b : Nat) (w : List Nat) (o : Nat) (f : Nat → Nat) (hL : LevK K b w o) : Ct Tryd.prog w0 12 [.pointer (some ⟨b, 0, none⟩), .agg (rowA f)] K hs
    (fun v K' hs' => K' = K ∧ hs' = hs ∧ ∃ t : Bool, (t = true ↔ f w.length < o) ∧ v = .tuple #[.int .i64 ((if f w.length < o then f w.length else 0 : Nat) : Int), .bool t]) := by
  obtain ⟨⟨ao, c, hr, hx⟩, ho, _, hlen, hlim⟩ := hL
  refine enter Tryd.func12 (by kernel_rfl) rfl rfl rfl ?_
  refine sq (rg (?_))
  refine bx hT 0 rfl fun b3 => ?_   -- lev.go:63 t3
  refine fin hT 2 rfl (th (sq (rg (?_))))
  refine ld hT 3 (v := .slice ao w.length c) rfl (.inl rfl) hr ?_
  refine ixa hT 1 (sz := 1) w.length rfl Tryd.underlying34 (by kernel_rfl) rfl (by omega) ?_
  simp only [add_mk, Nat.mul_one, Nat.zero_add]
  refine ldp hT 0 0 rfl rfl (rowA_get f (by omega)) ?_
  refine fin hT 1 rfl (th (sq (sq (rg (?_)))))
  refine ld hT 4 rfl (.inl rfl) ho ?_
  refine cmpS hT 0 rfl fun b19 h19 => ?_   -- lev.go:65 t19 t14 ≥ t18
  refine fin hT 0 rfl (th (ifP h19 rfl (fun e2 => ?_) (fun e2 => ?_)))
  · refine sq (rg (?_))
    refine fin hT 2 rfl (th (rt (rT (?_))))
    refine WQ.drop ?_
    exact ret2 rfl rfl rfl ⟨rfl, rfl, false, ⟨fun h => (by cases h), fun h => by omega⟩, by rw [if_neg (by omega)]; rfl⟩
  · refine sk (th (sq (rg (?_))))
    refine ar hT 1 rfl (i64w (by omega)) ?_   -- lev.go:68 t21 convert t20
    refine fin hT 2 rfl (th (rt (?_)))
    refine WQ.drop ?_
    exact ret2 rfl rfl rfl ⟨rfl, rfl, true, ⟨fun _ => by omega, fun _ => rfl⟩, by rw [if_pos (by omega)]⟩
end Go.Proofs.YtlnhbilpkcfdlaaDoor
namespace Go.Proofs.YtlnhbilpkcfdlaaDoor
open Go.En
set_option linter.unusedVariables false
attribute [local irreducible] Code.wp wpList Calls

/-- a Lev's cells -/
def levA (x : Value) (o : Nat) (f : Nat → Nat) : Array Value := #[x, .int .u8 ((o : Nat) : Int)] ++ rowA f
/-- the dead row is laid up to k -/
structure LF (x : Value) (o : Nat) (cur : Array Value) (k : Nat) : Prop where
  size : cur.size = 27
  runes : cur[0]? = some x
  out : cur[1]? = some (.int .u8 ((o : Nat) : Int))
  dead : ∀ j, j < 25 → cur[2 + j]? = some (.int .u8 (((if j < k then o else 0) : Nat) : Int))
theorem LF.zero (x : Value) (o : Nat) : LF x o (levA x o fun _ => 0) 0 := by
  refine ⟨by simp [levA, rowA_size], by rw [levA, Array.getElem?_append_left (by simp)]; rfl, by rw [levA, Array.getElem?_append_left (by simp)]; rfl, fun j hj => ?_⟩
  rw [if_neg (by omega), levA, Array.getElem?_append_right (by simp)]
  simp only [List.size_toArray, List.length_cons, List.length_nil]
  rw [show 2 + j - 2 = j from by omega]
  exact rowA_get _ hj
theorem LF.set {x : Value} {o : Nat} {cur : Array Value} {k : Nat} (h : LF x o cur k) (hk : k < 25) : LF x o (cur.setIfInBounds (2 + k) (.int .u8 ((o : Nat) : Int))) (k + 1) := by
  obtain ⟨h1, h2, h3, h4⟩ := h
  refine ⟨by simpa using h1, by rw [Array.getElem?_setIfInBounds, if_neg (by omega)]; exact h2, by rw [Array.getElem?_setIfInBounds, if_neg (by omega)]; exact h3, fun j hj => ?_⟩
  rw [Array.getElem?_setIfInBounds]
  by_cases e : k = j
  · subst e
    rw [if_pos rfl, if_pos (by omega), if_pos (by omega)]
  · rw [if_neg (by omega), h4 j hj]
    by_cases h5 : j < k
    · rw [if_pos h5, if_pos (by omega)]
    · rw [if_neg h5, if_neg (by omega)]
theorem LF.set0 {x : Value} {o : Nat} {cur : Array Value} {k : Nat} (h : LF x o cur k) (y : Value) : LF y o (cur.setIfInBounds 0 y) k := by
  obtain ⟨h1, h2, h3, h4⟩ := h
  refine ⟨by simpa using h1, by rw [Array.getElem?_setIfInBounds, if_pos rfl, if_pos (by omega)], by rw [Array.getElem?_setIfInBounds, if_neg (by omega)]; exact h3, fun j hj => ?_⟩
  rw [Array.getElem?_setIfInBounds, if_neg (by omega)]
  exact h4 j hj
theorem newC {w0 : World} {K : PH} {hs : List PH} (s : List UInt8) (k : Int) (hG : LeastK K) : Ct Tryd.prog w0 4 [str s, .int .i64 k] K hs
    (fun v K' hs' => Le K K' ∧ hs' = hs ∧ (¬ (wordP s ∧ 0 ≤ k ∧ k ≤ 3) ∧ v = .tuple #[.pointer none, .int .i64 110] ∨
      (wordP s ∧ 0 ≤ k ∧ k ≤ 3) ∧ ∃ b, v = .tuple #[.pointer (some ⟨b, 0, none⟩), .int .i64 0] ∧ LevK K' b (rl s) (k.toNat + 1))) := by
  refine enter Tryd.func4 (by kernel_rfl) rfl rfl rfl ?_
  refine sq (rg (?_))
  refine fin hT 2 rfl (th (sq (sq (rg (?_)))))
  refine cl hT 1 rfl (wordC s hG) ?_   -- lev.go:18 t9
  rintro v9 K9 hs9 ⟨rfl, rfl, b9, rfl, h9⟩
  refine cbS hT 0 _ rfl (bnot h9) fun b10 h10 => ?_   -- not
  refine' bjo hT 1 3 14 [10, 11] h10 rfl rfl rfl rfl rfl rfl rfl (fun _ => ?x1) (fun b14 h14 => ?_)   -- lev.go:18 t14
  case x1 =>
    refine cmpS hT 1 rfl fun b13 h13 => ?_   -- lev.go:18 t13 t12 < 0
    exact fin hT 1 rfl (bjx h13 rfl rfl rfl)
  refine' bjo hT 1 3 18 [14, 15] h14 rfl rfl rfl rfl rfl rfl rfl (fun _ => ?x3) (fun b18 h18 => ?_)   -- lev.go:18 t18
  case x3 =>
    refine cmpS hT 1 rfl fun b17 h17 => ?_   -- lev.go:18 t17 t16 > 3
    exact fin hT 1 rfl (bjx h17 rfl rfl rfl)
  refine fin hT 0 rfl (th (ifP h18 rfl (fun e5 => ?_) (fun e5 => ?_)))
  · refine sq (rg (?_))
    refine fin hT 2 rfl (th (rt (rT (?_))))
    exact ret2 rfl rfl rfl ⟨Le.refl _, rfl, .inl ⟨fun h => e5.elim (fun h' => h'.elim (fun h' => h' h.1) (fun h' => by omega)) (fun h' => by omega), rfl⟩⟩
  · simp only [not_or] at e5
    have hword : wordP s := Classical.not_not.1 e5.1.1
    obtain ⟨n, rfl⟩ := Int.eq_ofNat_of_zero_le (by omega : 0 ≤ k)
    have hn3 : n ≤ 3 := by omega
    obtain ⟨s1, _, _, s2, s3⟩ := id hword
    refine sk (th (sq (rg (?_))))
    refine ar hT 1 rfl (u8w (by omega)) ?_   -- lev.go:21 t20 convert t19
    refine ar hT 0 rfl (v' := .int .u8 ((n + 1 : Nat) : Int)) (by rw [u8w (by omega)]; rfl) ?_
    refine bd hT 0 (.agg (levA (.slice none 0 0) (n + 1) fun _ => 0)) rfl (fun w => by kernel_rfl) ?_   -- lev.go:21 t22
    refine bx hT 0 rfl fun b23 => ?_   -- lev.go:21 t23
    refine fin hT 1 rfl (th (sq (rg (?_))))
    refine cl hT 2 rfl (runesC s hG (by omega)) ?_   -- lev.go:22 t27
    rintro v27 K27 hs27 ⟨rfl, g, ao, c, rfl, rfl, o⟩
    rw [show (runesP s).getD [] = rl s from rfl] at o ⊢
    refine stp hT 5 1 rfl rfl (LF.zero (.slice none 0 0) (n + 1)).runes rfl ?_
    have hF0 := (LF.zero (.slice none 0 0) (n + 1)).set0 (.slice ao (rl s).length c)
    generalize hc0 : (levA (.slice none 0 0) (n + 1) fun _ => 0).setIfInBounds 0 (.slice ao (rl s).length c) = cur0 at hF0
    refine WL.hs (g :: pt b23 cur0 58 :: hs9) (by rw [← hc0]; rfl) ?_
    refine fin hT 0 rfl (th (sq (sq (rg (?_)))))
    refine ldp hT 3 1 rfl rfl hF0.runes ?_
    refine ar hT 1 rfl (v' := .int .i64 (((rl s).length + 1 : Nat) : Int)) (by rw [i64w (by omega)]; rfl) ?_
    refine fin hT 1 rfl (th (bk (?_)))
    refine loop (σ := Nat × Array Value) (fun x => [(6, .pointer (some ⟨b23, 0, none⟩)), (37, .int .i64 (((rl s).length + 1 : Nat) : Int)), (38, .int .i64 ((x.1 : Nat) : Int))]) (fun _ => K27) (fun x => g :: pt b23 x.2 58 :: hs9) (fun x => x.1 ≤ (rl s).length + 1 ∧ LF (.slice ao (rl s).length c) (n + 1) x.2 x.1) (fun x => (rl s).length + 1 - x.1) (0, cur0) ⟨Nat.zero_le _, hF0⟩ ⟨rfl, rfl, rfl, trivial⟩ rfl rfl ?_
    rintro ⟨j, cur⟩ ⟨hj, hF⟩
    dsimp only at hj hF ⊢
    refine sq (rg (?_))
    refine cmpS hT 0 rfl fun b39 h39 => ?_   -- lev.go:23 t39 t38 < t37
    refine fin hT 0 rfl (th (sq (ifP h39 rfl (fun e7 => ?_) (fun e7 => ?_))))
    · have hj25 : j < 25 := by omega
      obtain ⟨old, hold⟩ : ∃ old, cur[2 + j]? = some old := ⟨_, Array.getElem?_eq_getElem (by rw [hF.size]; omega)⟩
      refine sk (th (sq (bk (sq (rg (?_))))))
      refine fin hT 2 rfl (th (rga [pt b23 cur 58] 9 [0, 2, 4, 6, 8, 10, 12, 14, 16, 19] (by simp) (by kernel_rfl) (by kernel_rfl) ?_))
      refine dldpw hT (by kernel_rfl) 5 0 rfl (by kernel_rfl) rfl hF.out ?_
      refine dixa hT (by kernel_rfl) 2 (sz := 1) j rfl Tryd.underlying34 (by kernel_rfl) rfl hj25 ?_
      simp only [add_mk, Nat.mul_one, Nat.zero_add]
      refine dact hT (by kernel_rfl) 0 rfl ?_
      refine stp hT 0 1 rfl rfl hold rfl ?_
      refine dnext (.inl (by kernel_rfl)) ?_
      refine dend hT (by kernel_rfl) 0 rfl (bl (th (rg (?_))))
      refine ar hT 0 rfl (i64w (by omega)) ?_   -- lev.go:23 t50 t38 add 1
      refine fin hT 1 rfl (?_)
      exact again (x := (j, cur)) (j + 1, cur.setIfInBounds (2 + j) (.int .u8 ((n + 1 : Nat) : Int))) ⟨rfl, rfl, rfl, trivial⟩ rfl rfl ⟨by omega, hF.set hj25⟩ (by (try dsimp only); omega)
    · obtain rfl : j = (rl s).length + 1 := by omega
      refine ex (xt (xt (xb (th (sq (rg (?_)))))))
      refine fin hT 3 rfl (th (rt (?_)))
      refine WQ.frz fun K1 le1 le2 => WQ.frz fun K2 le3 le4 => ?_
      exact ret2 rfl rfl rfl ⟨le1.trans le3, rfl, .inr ⟨⟨hword, by omega, by omega⟩, b23, rfl, ⟨ao, c, (Cell.pt hF.runes).le le4, (o.isS.le le2).le le3⟩, (Cell.pt hF.out).le le4, fun q hq => (Cell.pt (hF.dead q hq)).le le4, s3, by simp; omega⟩⟩
end Go.Proofs.YtlnhbilpkcfdlaaDoor
namespace Go.En
open Go.Proofs.YtlnhbilpkcfdlaaDoor
/-- the row behind i runes of x -/
def levF (w x : List Nat) (o i : Nat) (j : Nat) : Nat := if j < w.length + 1 then min (dd w x j i) o else 0
theorem levF_start (w x : List Nat) (o j : Nat) : startF w.length o j = levF w x o 0 j := by
  unfold startF levF
  rw [dd_col]
theorem levF_cut (w x : List Nat) (o i j : Nat) : cutF w.length o (levF w x o i) j = levF w x o i j := by
  unfold cutF levF
  split
  · omega
  · rfl
theorem levF_step (w x : List Nat) (o i : Nat) : ∀ j, j < w.length + 1 → levT w o (x.getD i 0) (levF w x o i) j = min (dd w x j (i + 1)) o
  | 0, _ => by
    simp only [levT]
    unfold levF
    rw [if_pos (by omega), dd_zero, dd_zero]
    omega
  | j + 1, h => by
    have ih := levF_step w x o i j (by omega)
    simp only [levT]
    rw [ih]
    have e1 : levF w x o i j = min (dd w x j i) o := by unfold levF; rw [if_pos (by omega)]
    have e2 : levF w x o i (j + 1) = min (dd w x (j + 1) i) o := by unfold levF; rw [if_pos h]
    rw [e1, e2, dd_succ]
    have n1 := dd_near w x j i
    split <;> omega
theorem levF_next (w x : List Nat) (o i j : Nat) : (if j < w.length + 1 then levT w o (x.getD i 0) (cutF w.length o (levF w x o i)) j else 0) = levF w x o (i + 1) j := by
  have e : cutF w.length o (levF w x o i) = levF w x o i := funext fun j => levF_cut w x o i j
  rw [e]
  by_cases h : j < w.length + 1
  · rw [if_pos h, levF_step w x o i j h]; unfold levF; rw [if_pos h]
  · rw [if_neg h]; unfold levF; rw [if_neg h]
end Go.En
namespace Go.Proofs.YtlnhbilpkcfdlaaDoor
open Go.En
set_option linter.unusedVariables false
attribute [local irreducible] Code.wp wpList Calls

theorem eqRowL (d : Nat) (f g : Nat → Nat) (w : World) : ∀ is : List Nat, (∀ j ∈ is, j < 25) → (Op.eqItems (d + 1) 5 1 (rowA f) (rowA g) is).run Tryd.prog w = .ok (is.all fun j => f j == g j) w
  | [], _ => by simp [Op.eqItems]
  | j :: is, h => by
    have u3 := Tryd.underlying5
    have a3 := Tryd.isAgg5
    have z3 := Tryd.sizeOf5
    have ih := eqRowL d f g w is (fun x hx => h x (by simp [hx]))
    have hj := h j (by simp)
    have e1 := rowA_get f hj
    have e2 := rowA_get g hj
    simp only [Op.eqItems]
    go_simp
    by_cases hq : f j = g j
    · simp [hq]
    · have : ¬ ((f j : Nat) : Int) = ((g j : Nat) : Int) := by omega
      simp [hq, this]
theorem eqRow (f g : Nat → Nat) (w : World) : (Op.equalIn 10000 34 (.agg (rowA f)) (.agg (rowA g))).run Tryd.prog w = .ok ((List.range 25).all fun j => f j == g j) w := by
  obtain ⟨i, hi⟩ := info_of_underlying (P := Tryd.prog) Tryd.underlying5
  rw [show (10000 : Nat) = 9999 + 1 from rfl, run_equalIn_array w 9999 (rowA f) (rowA g) Tryd.underlying34 hi, show Tryd.prog.cellsOf 5 = 1 from by kernel_rfl]
  exact eqRowL 9998 f g w (List.range 25) (fun j hj => List.mem_range.1 hj)
theorem alive_iff {n o : Nat} {f : Nat → Nat} (hn : n ≤ 24) : (((List.range 25).all fun j => cutF n o f j == (if j < n + 1 then o else 0)) == false) = true ↔ ∃ j, j < n + 1 ∧ f j < o := by
  rw [beq_iff_eq, List.all_eq_false]
  constructor
  · rintro ⟨j, hj, h⟩
    rw [List.mem_range] at hj
    unfold cutF at h
    by_cases hjn : j < n + 1
    · simp only [if_pos hjn, beq_iff_eq] at h
      exact ⟨j, hjn, by omega⟩
    · simp [if_neg hjn] at h
  · rintro ⟨j, hj, h⟩
    refine ⟨j, List.mem_range.2 (by omega), ?_⟩
    unfold cutF
    simp only [if_pos hj, beq_iff_eq]
    omega
theorem aliveC {w0 : World} {K : PH} {hs : List PH} (b : Nat) (w : List Nat) (o : Nat) (f : Nat → Nat) (hL : LevK K b w o) : Ct Tryd.prog w0 32 [.pointer (some ⟨b, 0, none⟩), .agg (rowA f)] K hs
    (fun v K' hs' => K' = K ∧ hs' = hs ∧ ∃ t : Bool, v = .bool t ∧ (t = true ↔ ∃ j, j < w.length + 1 ∧ f j < o)) := by
  have hL2 := hL
  obtain ⟨_, _, hd, hlen, hlim⟩ := hL
  refine enter Tryd.func32 (by kernel_rfl) rfl rfl rfl ?_
  refine sq (rg (?_))
  refine bx hT 0 rfl fun b3 => ?_   -- lev.go:72 t3
  refine fin hT 1 rfl (th (sq (rga [pt b3 (Value.agg (rowA f)).cells 34] 9 [0, 2, 6, 8, 10, 12, 5, 15, 16] (by simp) (by kernel_rfl) (by kernel_rfl) ?_)))
  refine dldS hT (by kernel_rfl) 1 0 rfl (by kernel_rfl) rfl (by rw [show (Value.agg (rowA f)).cells.size = 25 from rowA_size f]; kernel_rfl) ?_
  refine dlds hT (by kernel_rfl) 3 (rowA fun j => if j < w.length + 1 then o else 0).toList rfl (by kernel_rfl) (by rw [Array.length_toList, rowA_size]; kernel_rfl) (.inl rfl) (fun j v hv => ?_) ?_
  · have hj : j < 25 := by have := (List.getElem?_eq_some_iff.1 hv).1; rw [Array.length_toList, rowA_size] at this; exact this
    rw [Array.getElem?_toList, rowA_get _ hj] at hv
    cases hv
    show Cell K ((⟨b, 2, none⟩ : Addr).add j) _
    rw [add_mk]
    exact hd j hj
  simp only [Array.toArray_toList]
  refine dact hT (by kernel_rfl) 0 rfl ?_
  refine cl hT 0 rfl (cutC b w o f hL2) ?_   -- lev.go:72 t7
  rintro v7 K7 hs7 ⟨rfl, rfl, rfl⟩
  refine dnex [pt b3 (Value.agg (rowA f)).cells 34] (by simp) (by simp) rfl ?_
  refine dact hT (by kernel_rfl) 0 rfl ?_
  refine eqs hT 0 rfl (by kernel_rfl) (fun w' => eqRow _ _ w') ?_
  refine dnex [pt b3 (Value.agg (rowA f)).cells 34] (by simp) (by simp) rfl ?_
  refine dend hT (by kernel_rfl) 1 rfl (th (rt (?_)))
  refine WQ.drop ?_
  exact ret1 rfl rfl ⟨rfl, rfl, _, rfl, alive_iff hlen⟩
end Go.Proofs.YtlnhbilpkcfdlaaDoor
