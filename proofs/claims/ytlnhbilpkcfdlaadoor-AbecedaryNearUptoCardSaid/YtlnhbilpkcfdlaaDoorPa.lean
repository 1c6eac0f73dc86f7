/-
  Package edit: both texts' runes.
  Plain words: how far two lists of runes are.
  Package edit: the table.
  Package edit: Distance, Within.
-/
import Derived.Test.YtlnhbilpkcfdlaaDoorLp
set_option linter.unusedSimpArgs false
set_option linter.unusedVariables false
namespace Go.Proofs.YtlnhbilpkcfdlaaDoor
open Go.En
set_option linter.unusedVariables false
attribute [local irreducible] Code.wp wpList Calls

theorem word_some {s : List UInt8} (h : wordP s) : runesP s = some (rl s) := by
  obtain ⟨_, h1, _⟩ := h
  unfold rl
  cases hh : runesP s with
  | none => rw [hh] at h1; cases h1
  | some l => rfl
theorem bothC {w0 : World} {K : PH} {hs : List PH} (a b : List UInt8) (ha : wordP a) (hb : wordP b) (hG : LeastK K) : Ct Tryd.prog w0 16 [str a, str b] K hs
    (fun v K' hs' => K' = K ∧ ∃ h1 h2 ao1 c1 ao2 c2, hs' = h2 :: h1 :: hs ∧ v = .tuple #[.slice ao1 (rl a).length c1, .slice ao2 (rl b).length c2, .bool true] ∧ Own h1 ao1 (rl a).length c1 21 1 (rvv (rl a)) ∧ Own h2 ao2 (rl b).length c2 21 1 (rvv (rl b))) := by
  have hsa : (⟨a.toArray⟩ : ByteArray).size = a.length := by simp [ByteArray.size]
  have hsb : (⟨b.toArray⟩ : ByteArray).size = b.length := by simp [ByteArray.size]
  have wa := ha
  have wb := hb
  obtain ⟨a1, _, _, a2, a3⟩ := wa
  obtain ⟨b1, _, _, b2, b3⟩ := wb
  refine enter Tryd.func16 (by kernel_rfl) rfl rfl rfl ?_
  refine sq (rg (?_))
  refine fin hT 3 rfl (th (sq (sq (rg (?_)))))
  refine cmpS hT 2 rfl fun b11 h11 => ?_   -- edit.go:39 t11 t10 > 4096
  rw [hsa] at h11
  refine' bjo hT 1 4 16 [11, 12] h11 rfl rfl rfl rfl rfl rfl rfl (fun _ => ?x2) (fun b16 h16 => ?_)   -- edit.go:39 t16
  case x2 =>
    refine cmpS hT 2 rfl fun b15 h15 => ?_   -- edit.go:39 t15 t14 > 4096
    rw [hsb] at h15
    exact fin hT 1 rfl (bjx h15 rfl rfl rfl)
  refine fin hT 0 rfl (th (ifP h16 rfl (fun e4 => ?_) (fun e4 => ?_)))
  · · exact absurd e4 (by rintro (h | h) <;> omega)
  · refine sk (th (sq (rg (?_))))
    refine cl hT 1 rfl (runesC a hG (by omega)) ?_   -- edit.go:42 t19
    rintro v19 K19 hs19 ⟨rfl, g1, ao1, c1, rfl, rfl, o1⟩
    rw [show (runesP a).getD [] = rl a from rfl] at o1 ⊢
    rw [word_some ha]
    simp only [Option.isSome_some]
    refine fin hT 5 rfl (th (sq (rg (?_))))
    refine cl hT 1 rfl (runesC b hG (by omega)) ?_   -- edit.go:43 t24
    rintro v24 K24 hs24 ⟨rfl, g2, ao2, c2, rfl, rfl, o2⟩
    rw [show (runesP b).getD [] = rl b from rfl] at o2 ⊢
    rw [word_some hb]
    simp only [Option.isSome_some]
    refine fin hT 5 rfl (th (sq (rg (?_))))
    refine' bja hT 4 2 32 [7, 21, 29, 30] (show true = true ↔ True from ⟨fun _ => trivial, fun _ => rfl⟩) rfl rfl rfl rfl rfl rfl rfl (fun _ => ?x5) (fun b32 h32 => ?_)
    case x5 =>
      exact fin hT 2 rfl (bjx (show true = true ↔ True from ⟨fun _ => trivial, fun _ => rfl⟩) rfl rfl rfl)
    refine' bja hT 1 4 37 [32, 33] h32 rfl rfl rfl rfl rfl rfl rfl (fun _ => ?x6) (fun b37 h37 => ?_)   -- edit.go:44 t37
    case x6 =>
      refine cmpS hT 2 rfl fun b36 h36 => ?_   -- edit.go:44 t36 t35 ≤ 1024
      exact fin hT 1 rfl (bjx h36 rfl rfl rfl)
    refine' bja hT 1 4 42 [37, 38] h37 rfl rfl rfl rfl rfl rfl rfl (fun _ => ?x8) (fun b42 h42 => ?_)   -- edit.go:44 t42
    case x8 =>
      refine cmpS hT 2 rfl fun b41 h41 => ?_   -- edit.go:44 t41 t40 ≤ 1024
      exact fin hT 1 rfl (bjx h41 rfl rfl rfl)
    refine fin hT 3 rfl (th (rt (?_)))
    have hfin : b42 = true := h42.2 ⟨⟨⟨trivial, trivial⟩, by omega⟩, by omega⟩
    exact ret3 rfl rfl rfl rfl ⟨rfl, g1, g2, ao1, c1, ao2, c2, rfl, by rw [hfin]; rfl, o1, o2⟩
end Go.Proofs.YtlnhbilpkcfdlaaDoor
namespace Go.En
set_option linter.unusedVariables false

/-- how far the beginnings of i and j runes are -/
def dd (a b : List Nat) : Nat → Nat → Nat
  | 0, j => j
  | i + 1, 0 => i + 1
  | i + 1, j + 1 => if a.getD i 0 = b.getD j 0 then dd a b i j else 1 + min (min (dd a b i j) (dd a b i (j + 1))) (dd a b (i + 1) j)
theorem dd_zero (a b : List Nat) (j : Nat) : dd a b 0 j = j := by unfold dd; rfl
theorem dd_col (a b : List Nat) : ∀ i : Nat, dd a b i 0 = i
  | 0 => dd_zero a b 0
  | i + 1 => by unfold dd; rfl
theorem dd_succ (a b : List Nat) (i j : Nat) : dd a b (i + 1) (j + 1) = if a.getD i 0 = b.getD j 0 then dd a b i j else 1 + min (min (dd a b i j) (dd a b i (j + 1))) (dd a b (i + 1) j) := by
  conv => lhs; unfold dd
theorem dd_le (a b : List Nat) : ∀ i j : Nat, dd a b i j ≤ i + j
  | 0, j => by rw [dd_zero]; omega
  | i + 1, 0 => by rw [dd_col]; omega
  | i + 1, j + 1 => by
    rw [dd_succ]
    have h1 := dd_le a b i j
    split
    · omega
    · omega
/-- neighbours differ by one at most -/
theorem dd_near (a b : List Nat) : ∀ i j : Nat, dd a b (i + 1) j ≤ dd a b i j + 1 ∧ dd a b i j ≤ dd a b (i + 1) j + 1 ∧ dd a b i (j + 1) ≤ dd a b i j + 1 ∧ dd a b i j ≤ dd a b i (j + 1) + 1
  | 0, 0 => by simp only [dd_zero, dd_col]; omega
  | 0, j + 1 => by
    have h := dd_near a b 0 j
    rw [dd_succ]
    simp only [dd_zero] at h ⊢
    split <;> omega
  | i + 1, 0 => by
    have h := dd_near a b i 0
    rw [dd_succ]
    simp only [dd_col] at h ⊢
    split <;> omega
  | i + 1, j + 1 => by
    have h1 := dd_near a b i j
    have h2 := dd_near a b i (j + 1)
    have h3 := dd_near a b (i + 1) j
    have e1 := dd_succ a b i j
    have e2 := dd_succ a b (i + 1) j
    have e3 := dd_succ a b i (j + 1)
    rw [show i + 1 + 1 = (i + 1) + 1 from rfl, e2, e3]
    refine ⟨?_, ?_, ?_, ?_⟩ <;> (split <;> (split at e1 <;> omega))
termination_by i j => i + j
end Go.En
namespace Go.En
/-- the table's first so many cells are there -/
def FL (a b : List Nat) (W S : Nat) (cur : Array Value) (p0 : Nat) : Prop := cur.size = S ∧ ∀ p, p < p0 → cur[p]? = some (.int .i64 ((dd a b (p / W) (p % W) : Nat) : Int))
theorem FL.set {a b : List Nat} {W S p0 : Nat} {cur : Array Value} (h : FL a b W S cur p0) (hp : p0 < S) {v : Nat} (hv : v = dd a b (p0 / W) (p0 % W)) : FL a b W S (cur.setIfInBounds p0 (.int .i64 ((v : Nat) : Int))) (p0 + 1) := by
  obtain ⟨h1, h2⟩ := h
  refine ⟨by simpa using h1, fun p hlt => ?_⟩
  rw [Array.getElem?_setIfInBounds]
  by_cases e : p0 = p
  · subst e hv
    rw [if_pos rfl, if_pos (by omega)]
  · rw [if_neg e]
    exact h2 p (by omega)
theorem idx_div {i j W : Nat} (h : j < W) : (i * W + j) / W = i ∧ (i * W + j) % W = j := by
  rw [Nat.mul_comm, Nat.mul_add_div (by omega), Nat.div_eq_of_lt h, Nat.mul_add_mod, Nat.mod_eq_of_lt h]
  exact ⟨rfl, rfl⟩
theorem FL.get {a b : List Nat} {W S p0 : Nat} {cur : Array Value} (h : FL a b W S cur p0) {i j : Nat} (hj : j < W) (hp : i * W + j < p0) : cur[i * W + j]? = some (.int .i64 ((dd a b i j : Nat) : Int)) := by
  rw [h.2 _ hp, (idx_div hj).1, (idx_div hj).2]
/-- the rows: parts of one block -/
def rowsV (g W n : Nat) : List Value := (List.range n).map fun k => .slice (some ⟨g, k * W, none⟩) W W
theorem rowsV_succ (g W n : Nat) : rowsV g W (n + 1) = rowsV g W n ++ [.slice (some ⟨g, n * W, none⟩) W W] := by simp [rowsV, List.range_succ]
theorem rowsV_len (g W n : Nat) : (rowsV g W n).length = n := by simp [rowsV]
theorem rowsV_get {g W n i : Nat} (h : i < n) : (rowsV g W n)[i]? = some (.slice (some ⟨g, i * W, none⟩) W W) := by simp [rowsV, h]
end Go.En
namespace Go.Proofs.YtlnhbilpkcfdlaaDoor
open Go.En
set_option linter.unusedVariables false
attribute [local irreducible] Code.wp wpList Calls

theorem rowIs {b S p : Nat} {cur : Array Value} {e W : Nat} (hs : cur.size = S) (hp : p + W ≤ S) : IsS (pt b cur e) (some ⟨b, p, none⟩) W W 1 ((cur.toList.drop p).take W) := by
  refine ⟨by simp; omega, Nat.le_refl _, fun j u hu => ⟨_, rfl, ?_⟩⟩
  rw [add_mk]
  rw [List.getElem?_take] at hu
  split at hu
  · rw [List.getElem?_drop] at hu
    exact Cell.pt (by simpa using hu)
  · cases hu
theorem rvvD {l : List Nat} {k : Nat} (h : k < l.length) : (rvv l)[k]? = some (.int .i32 ((l.getD k 0 : Nat) : Int)) := by simp [rvv, List.getD, h]
theorem cellD {K : PH} {l : List Nat} {a : Addr} {c : Nat} (x : IsS K (some a) l.length c 1 (rvv l)) {k : Nat} (h : k < l.length) : Cell K (a.add (k * 1)) (.int .i32 ((l.getD k 0 : Nat) : Int)) := by
  obtain ⟨a', e, hc⟩ := x.2.2 k _ (rvvD h)
  cases e
  rw [Nat.mul_one]
  exact hc
theorem cellR {g : PH} {a : Addr} {c n b W : Nat} (x : IsS g (some a) n c 1 (rowsV b W n)) {k : Nat} (h : k < n) : Cell g (a.add (k * 1)) (.slice (some ⟨b, k * W, none⟩) W W) := by
  obtain ⟨a', e, hc⟩ := x.2.2 k _ (rowsV_get h)
  cases e
  rw [Nat.mul_one]
  exact hc
theorem rowsV_one (b W n : Nat) : ∀ u ∈ rowsV b W n, u.oneCell' = true := by
  intro u hu
  obtain ⟨k, _, rfl⟩ := List.mem_map.1 hu
  rfl
theorem min3 (a b c : Nat) : (if ((c : Nat) : Int) < (if ((b : Nat) : Int) < ((a : Nat) : Int) then ((b : Nat) : Int) else ((a : Nat) : Int)) then ((c : Nat) : Int) else (if ((b : Nat) : Int) < ((a : Nat) : Int) then ((b : Nat) : Int) else ((a : Nat) : Int))) = ((min (min a b) c : Nat) : Int) := by
  by_cases h : ((b : Nat) : Int) < ((a : Nat) : Int)
  · simp only [if_pos h]
    split <;> omega
  · simp only [if_neg h]
    split <;> omega
theorem tableC {w0 : World} {K : PH} {hs : List PH} (la lb : List Nat) (ao1 ao2 : Option Addr) (c1 c2 : Nat) (x1 : IsS K ao1 la.length c1 1 (rvv la)) (x2 : IsS K ao2 lb.length c2 1 (rvv lb)) (h1 : la.length ≤ 24) (h2 : lb.length ≤ 24) :
    Ct Tryd.prog w0 17 [.slice ao1 la.length c1, .slice ao2 lb.length c2] K hs
      (fun v K' hs' => K' = K ∧ ∃ g b cur ao c, hs' = g :: pt b cur 3 :: hs ∧ v = .slice ao (la.length + 1) c ∧ FL la lb (lb.length + 1) ((la.length + 1) * (lb.length + 1)) cur ((la.length + 1) * (lb.length + 1)) ∧ Own g ao (la.length + 1) c 61 1 (rowsV b (lb.length + 1) (la.length + 1))) := by
  obtain ⟨N, hN⟩ : ∃ N, N = la.length := ⟨_, rfl⟩
  obtain ⟨W, hW⟩ : ∃ W, W = lb.length + 1 := ⟨_, rfl⟩
  rw [← hN, ← hW]
  have hS : (N + 1) * W ≤ 25 * 25 := Nat.mul_le_mul (by omega) (by omega)
  have hS0 : 0 < (N + 1) * W := Nat.mul_pos (by omega) (by omega)
  refine enter Tryd.func17 (by kernel_rfl) rfl rfl rfl ?_
  refine sq (rg (?_))
  refine fin hT 1 rfl (th (sq (rg (?_))))
  refine ar hT 2 rfl (i64w (x := ((N + 1 : Nat) : Int)) (by omega)) ?_
  refine ar hT 2 rfl (v' := .int .i64 ((W : Nat) : Int)) (by rw [i64w (by omega)]; congr 1; omega) ?_
  refine ar hT 0 rfl (v' := .int .i64 (((N + 1) * W : Nat) : Int)) (by rw [show ((N + 1 : Nat) : Int) * ((W : Nat) : Int) = (((N + 1) * W : Nat) : Int) from by push_cast; rfl, i64w (by omega)]) ?_
  refine mks hT 0 ((N + 1) * W) (.int .i64 0) rfl rfl rfl rfl (by show (N + 1) * W * 8 ≤ 2 ^ 47; omega) hS0 (by omega) (by decide) fun b18 o18 => ?_
  refine fin hT 1 rfl (th (sq (rg (?_))))
  refine fin hT 1 rfl (th (sq (sq (rg (?_)))))
  refine ar hT 2 rfl (i64w (x := ((N + 1 : Nat) : Int)) (by omega)) ?_
  refine fin hT 1 rfl (th (bk (WC.em ?_)))
  refine loop (σ := Nat × Array Value × PH × Option Addr × Nat) (fun s => [(0, .slice ao1 N c1), (1, .slice ao2 lb.length c2), (5, .slice (some ⟨b18, 0, none⟩) ((N + 1) * W) ((N + 1) * W)), (6, .slice s.2.2.2.1 s.1 s.2.2.2.2), (21, .int .i64 ((N + 1 : Nat) : Int)), (22, .int .i64 ((s.1 : Nat) : Int))]) (fun _ => K) (fun s => s.2.2.1 :: pt b18 s.2.1 3 :: hs) (fun s => s.1 ≤ N + 1 ∧ FL la lb W ((N + 1) * W) s.2.1 (s.1 * W) ∧ Own s.2.2.1 s.2.2.2.1 s.1 s.2.2.2.2 61 1 (rowsV b18 W s.1)) (fun s => N + 1 - s.1)
    (0, Array.replicate ((N + 1) * W) (.int .i64 0), em, none, 0) ⟨Nat.zero_le _, ⟨by simp, fun p hp => by dsimp only at hp; omega⟩, Own.nil _ _⟩ ⟨rfl, rfl, rfl, rfl, rfl, rfl, trivial⟩ rfl rfl ?_
  rintro ⟨i, cur, g, ao, c⟩ ⟨hi, hF, o⟩
  dsimp only at hi hF o ⊢
  refine sq (rg (?_))
  refine cmpS hT 0 rfl fun b23 h23 => ?_   -- edit.go:17 t23 t22 < t21
  refine fin hT 0 rfl (th (sq (ifP h23 rfl (fun e2 => ?_) (fun e2 => ?_))))
  · have hiN : i < N + 1 := by omega
    have him : i * W + W ≤ (N + 1) * W := by rw [← Nat.succ_mul]; exact Nat.mul_le_mul_right W (by omega)
    refine sk (th (sq (bk (sq (rg (?_))))))
    refine fin hT 2 rfl (th (sq (rg (?_))))
    refine ar hT 3 rfl (v' := .int .i64 ((W : Nat) : Int)) (by rw [i64w (by omega)]; congr 1; omega) ?_
    refine ar hT 0 rfl (v' := .int .i64 ((i * W : Nat) : Int)) (by rw [show ((i : Nat) : Int) * ((W : Nat) : Int) = ((i * W : Nat) : Int) from by push_cast; rfl, i64w (by omega)]) ?_
    refine fin hT 1 rfl (th (sq (rg (?_))))
    refine ar hT 5 rfl (v' := .int .i64 ((i * W + lb.length : Nat) : Int)) (by rw [i64w (by omega)]; congr 1) ?_
    refine ar hT 0 rfl (v' := .int .i64 ((i * W + W : Nat) : Int)) (by rw [i64w (by omega)]; congr 1; omega) ?_
    refine ar hT 3 rfl (v' := .int .i64 ((i * W + lb.length : Nat) : Int)) (by rw [i64w (by omega)]; congr 1) ?_
    refine ar hT 0 rfl (v' := .int .i64 ((i * W + W : Nat) : Int)) (by rw [i64w (by omega)]; congr 1; omega) ?_
    refine sl3 hT 0 (i * W) W rfl rfl rfl rfl (by omega) (by omega) ?_
    dsimp only
    rw [show (⟨b18, 0, none⟩ : Addr).add (i * W * 1) = ⟨b18, i * W, none⟩ from by rw [add_mk]; simp]
    refine fin hT 1 rfl (th (sq (sq (rg (?_)))))
    refine fin hT 3 rfl (th (bk (?_)))
    refine loop (σ := Nat × Array Value) (fun s => [(0, .slice ao1 N c1), (1, .slice ao2 lb.length c2), (5, .slice (some ⟨b18, 0, none⟩) ((N + 1) * W) ((N + 1) * W)), (6, .slice ao i c), (7, .int .i64 ((i : Nat) : Int)), (9, .slice (some ⟨b18, i * W, none⟩) W W), (21, .int .i64 ((N + 1 : Nat) : Int)), (22, .int .i64 ((i : Nat) : Int)), (44, .int .i64 ((W : Nat) : Int)), (45, .int .i64 ((s.1 : Nat) : Int))]) (fun _ => K) (fun s => g :: pt b18 s.2 3 :: hs) (fun s => s.1 ≤ W ∧ FL la lb W ((N + 1) * W) s.2 (i * W + s.1)) (fun s => W - s.1) (0, cur) ⟨Nat.zero_le _, hF⟩ ⟨rfl, rfl, rfl, rfl, rfl, rfl, rfl, rfl, rfl, rfl, trivial⟩ rfl rfl ?_
    rintro ⟨j, cu⟩ ⟨hj, hF⟩
    dsimp only at hj hF ⊢
    refine sq (rg (?_))
    refine cmpS hT 0 rfl fun b46 h46 => ?_   -- edit.go:20 t46 t45 < t44
    refine fin hT 0 rfl (th (sq (ifP h46 rfl (fun e4 => ?_) (fun e4 => ?_))))
    · have hjW : j < W := by omega
      have hpS : i * W + j < (N + 1) * W := by omega
      have xrow : IsS (pt b18 cu 3) (some ⟨b18, i * W, none⟩) W W 1 _ := rowIs hF.1 him
      obtain ⟨old, hold⟩ : ∃ old, cu[i * W + j]? = some old := ⟨_, Array.getElem?_eq_getElem (by rw [hF.1]; exact hpS)⟩
      have hid := idx_div (i := i) hjW
      refine sk (th (jn (σ := Array Value) (fun s => [(0, .slice ao1 N c1), (1, .slice ao2 lb.length c2), (5, .slice (some ⟨b18, 0, none⟩) ((N + 1) * W) ((N + 1) * W)), (6, .slice ao i c), (7, .int .i64 ((i : Nat) : Int)), (9, .slice (some ⟨b18, i * W, none⟩) W W), (21, .int .i64 ((N + 1 : Nat) : Int)), (22, .int .i64 ((i : Nat) : Int)), (44, .int .i64 ((W : Nat) : Int)), (45, .int .i64 ((j : Nat) : Int))]) (fun s => g :: pt b18 s 3 :: hs) (fun s => FL la lb W ((N + 1) * W) s (i * W + j + 1)) ?_ ?_))
      · refine bk (sq (rg (?_)))
        refine fin hT 2 rfl (th (bk (sq (rg (?_)))))
        refine cmpS hT 1 rfl fun b77 h77 => ?_   -- edit.go:22 t77 t76 = 0
        refine fin hT 1 rfl (th (ifP h77 rfl (fun e6 => ?_) (fun e6 => ?_)))
        · refine rg (?_)
          refine ixs hT 3 j rfl rfl xrow hjW (by decide) fun a81 ha81 => ?_
          cases ha81
          simp only [add_mk, Nat.mul_one]
          refine stp hT 0 1 rfl rfl hold rfl ?_
          refine fin hT 0 rfl (bl (bl (?_)))
          exact jx (cu.setIfInBounds (i * W + j) (.int .i64 ((j : Nat) : Int))) (hF.set hpS (by rw [hid.1, hid.2, show i = 0 from by omega, dd_zero])) ⟨rfl, rfl, rfl, rfl, rfl, rfl, rfl, rfl, rfl, rfl, trivial⟩ rfl rfl
        · refine sq (rg (?_))
          refine cmpS hT 1 rfl fun b84 h84 => ?_   -- edit.go:24 t84 t83 = 0
          refine fin hT 1 rfl (th (ifP h84 rfl (fun e8 => ?_) (fun e8 => ?_)))
          · refine rg (?_)
            refine ixs hT 3 j rfl rfl xrow hjW (by decide) fun a81 ha81 => ?_
            cases ha81
            simp only [add_mk, Nat.mul_one]
            refine stp hT 0 1 rfl rfl hold rfl ?_
            refine fin hT 0 rfl (bl (bl (?_)))
            exact jx (cu.setIfInBounds (i * W + j) (.int .i64 ((i : Nat) : Int))) (hF.set hpS (by rw [hid.1, hid.2, show j = 0 from by omega, dd_col])) ⟨rfl, rfl, rfl, rfl, rfl, rfl, rfl, rfl, rfl, rfl, trivial⟩ rfl rfl
          · obtain ⟨i', rfl⟩ : ∃ i', i = i' + 1 := ⟨i - 1, by omega⟩
            obtain ⟨j', rfl⟩ : ∃ j', j = j' + 1 := ⟨j - 1, by omega⟩
            have hsm : (i' + 1) * W = i' * W + W := Nat.succ_mul i' W
            obtain ⟨a1, rfl⟩ := x1.addr (j := i') (by omega) (by decide)
            obtain ⟨a2, rfl⟩ := x2.addr (j := j') (by omega) (by decide)
            obtain ⟨ar', rfl⟩ := o.isS.addr (j := i') (by omega) (by decide)
            have hdd := dd_succ la lb i' j'
            refine sq (rga [] 12 [0, 2, 4, 6, 8, 10, 12, 14, 16, 18, 20, 22] (by simp) (by kernel_rfl) (by kernel_rfl) ?_)
            refine dar hT (by kernel_rfl) 2 rfl (v' := .int .i64 ((i' : Nat) : Int)) (by rw [i64w (by omega)]; congr 1; omega) ?_
            refine dixs hT (by kernel_rfl) 0 i' rfl rfl (by omega) ?_
            refine dld hT (by kernel_rfl) 0 rfl (.inl rfl) (cellD x1 (by omega)) ?_
            refine dar hT (by kernel_rfl) 2 rfl (v' := .int .i64 ((j' : Nat) : Int)) (by rw [i64w (by omega)]; congr 1; omega) ?_
            refine dixs hT (by kernel_rfl) 0 j' rfl rfl (by omega) ?_
            refine dld hT (by kernel_rfl) 0 rfl (.inl rfl) (cellD x2 (by omega)) ?_
            refine dcbS hT (by kernel_rfl) 0 (((la.getD i' 0 : Nat) : Int) = ((lb.getD j' 0 : Nat) : Int)) rfl (by simp) fun b100 h100 => ?_
            refine dend hT (by kernel_rfl) 1 rfl (th (ifP h100 rfl (fun e9 => ?_) (fun e9 => ?_)))
            · refine rg (?_)
              refine ar hT 4 rfl (v' := .int .i64 ((i' : Nat) : Int)) (by rw [i64w (by omega)]; congr 1; omega) ?_
              refine ixs hT 0 i' rfl rfl o.isS (by omega) (by decide) fun a106 ha106 => ?_
              cases ha106
              refine ld hT 0 rfl (.inr ⟨0, rfl⟩) (cellR o.isS (by omega)) ?_
              refine ar hT 1 rfl (v' := .int .i64 ((j' : Nat) : Int)) (by rw [i64w (by omega)]; congr 1; omega) ?_
              refine ixs hT 0 j' rfl rfl (rowIs (e := 3) (p := i' * W) hF.1 (by omega)) (by omega) (by decide) fun a110 ha110 => ?_
              cases ha110
              simp only [add_mk, Nat.mul_one]
              refine ldp hT 0 1 rfl rfl (hF.get (by omega) (by omega)) ?_
              refine ixs hT 0 (j' + 1) rfl rfl xrow hjW (by decide) fun a112 ha112 => ?_
              cases ha112
              simp only [add_mk, Nat.mul_one]
              refine stp hT 0 1 rfl rfl hold rfl ?_
              refine fin hT 0 rfl (bl (bl (?_)))
              exact jx (cu.setIfInBounds ((i' + 1) * W + (j' + 1)) (.int .i64 ((dd la lb i' j' : Nat) : Int))) (hF.set hpS (by rw [hid.1, hid.2, hdd, if_pos (by omega)])) ⟨rfl, rfl, rfl, rfl, rfl, rfl, rfl, rfl, rfl, rfl, trivial⟩ rfl rfl
            · refine rga [g, pt b18 cu 3] 27 [0, 2, 4, 6, 8, 10, 12, 14, 16, 18, 20, 22, 24, 26, 28, 30, 32, 34, 36, 38, 40, 42, 44, 46, 48, 50, 52, 55] (by simp) (by kernel_rfl) (by kernel_rfl) ?_
              have l1 := dd_le la lb i' j'
              have l2 := dd_le la lb i' (j' + 1)
              have l3 := dd_le la lb (i' + 1) j'
              refine dar hT (by kernel_rfl) 4 rfl (v' := .int .i64 ((i' : Nat) : Int)) (by rw [i64w (by omega)]; congr 1; omega) ?_
              refine dixs hT (by kernel_rfl) 0 i' rfl rfl (by omega) ?_
              refine dldw hT (by kernel_rfl) 0 rfl (by kernel_rfl) (.inr ⟨0, rfl⟩) (cellR o.isS (by omega)) ?_
              refine dar hT (by kernel_rfl) 1 rfl (v' := .int .i64 ((j' : Nat) : Int)) (by rw [i64w (by omega)]; congr 1; omega) ?_
              refine dixs hT (by kernel_rfl) 0 j' rfl rfl (by omega) ?_
              simp only [add_mk, Nat.mul_one]
              refine dldpw hT (by kernel_rfl) 0 1 rfl (by kernel_rfl) rfl (hF.get (i := i') (j := j') (by omega) (by omega)) ?_
              refine dar hT (by kernel_rfl) 2 rfl (v' := .int .i64 ((i' : Nat) : Int)) (by rw [i64w (by omega)]; congr 1; omega) ?_
              refine dixs hT (by kernel_rfl) 0 i' rfl rfl (by omega) ?_
              refine dldw hT (by kernel_rfl) 0 rfl (by kernel_rfl) (.inr ⟨0, rfl⟩) (cellR o.isS (by omega)) ?_
              refine dixs hT (by kernel_rfl) 1 (j' + 1) rfl rfl (by omega) ?_
              simp only [add_mk, Nat.mul_one]
              refine dldpw hT (by kernel_rfl) 0 1 rfl (by kernel_rfl) rfl (hF.get (i := i') (j := j' + 1) (by omega) (by omega)) ?_
              refine dar hT (by kernel_rfl) 2 rfl (v' := .int .i64 ((j' : Nat) : Int)) (by rw [i64w (by omega)]; congr 1; omega) ?_
              refine dixs hT (by kernel_rfl) 0 j' rfl rfl (by omega) ?_
              simp only [add_mk, Nat.mul_one]
              refine dldpw hT (by kernel_rfl) 0 1 rfl (by kernel_rfl) rfl (hF.get (i := i' + 1) (j := j') (by omega) (by omega)) ?_
              refine dar hT (by kernel_rfl) 1 rfl (v' := .int .i64 ((1 + min (min (dd la lb i' j') (dd la lb i' (j' + 1))) (dd la lb (i' + 1) j') : Nat) : Int)) (by rw [min3, i64w (by omega)]; congr 1) ?_
              refine dixs hT (by kernel_rfl) 0 (j' + 1) rfl rfl (by omega) ?_
              simp only [add_mk, Nat.mul_one]
              refine dact hT (by kernel_rfl) 0 rfl ?_
              refine stp hT 0 1 rfl rfl hold rfl ?_
              refine dnext (.inl (by kernel_rfl)) ?_
              refine dend hT (by kernel_rfl) 0 rfl (bl (bl (?_)))
              exact jx (cu.setIfInBounds ((i' + 1) * W + (j' + 1)) (.int .i64 ((1 + min (min (dd la lb i' j') (dd la lb i' (j' + 1))) (dd la lb (i' + 1) j') : Nat) : Int))) (hF.set hpS (by rw [hid.1, hid.2, hdd, if_neg (by omega)])) ⟨rfl, rfl, rfl, rfl, rfl, rfl, rfl, rfl, rfl, rfl, trivial⟩ rfl rfl
      · rintro cu2 hF2
        have hF3 := hF2
        refine rg (?_)
        refine ar hT 0 rfl (i64w (by omega)) ?_   -- edit.go:20 t113 t45 add 1
        refine fin hT 1 rfl (?_)
        exact again (x := (j, cu)) (j + 1, cu2) ⟨rfl, rfl, rfl, rfl, rfl, rfl, rfl, rfl, rfl, rfl, trivial⟩ rfl rfl ⟨by omega, hF2⟩ (by (try dsimp only); omega)
    · have hFW : FL la lb W ((N + 1) * W) cu ((i + 1) * W) := by
        have e : j = W := by omega
        rw [e] at hF
        rw [show (i + 1) * W = i * W + W from Nat.succ_mul i W]
        exact hF
      refine ex (xt (xt (xb (th (rg (?_))))))
      refine lit hT 2 #[.slice (some ⟨b18, i * W, none⟩) W W] rfl (by decide) (by kernel_rfl) fun b116 => ?_   -- edit.go:32 t116
      refine app hT 0 1 rfl rfl o (.inr ⟨0, rfl⟩) (Own.ofPt (b := b116) (c := #[.slice (some ⟨b18, i * W, none⟩) W W]) (e := 61) (n := 1) (size := 1) rfl (by simp [maxLen])).isS rfl (by decide) (fun u hu => by simp at hu; subst hu; rfl) (by dsimp only; omega) (by simp only [maxLen]; omega) fun ao117 c117 g117 o117 => ?_
      have e117 : rowsV b18 W i ++ (#[Value.slice (some ⟨b18, i * W, none⟩) W W] : Array Value).toList = rowsV b18 W (i + 1) := (rowsV_succ b18 W i).symm
      rw [e117] at o117
      refine fin hT 1 rfl (bl (th (WC.drop (rg (?_)))))
      refine ar hT 0 rfl (i64w (by omega)) ?_   -- edit.go:17 t118 t22 add 1
      refine fin hT 1 rfl (?_)
      exact again (x := (i, cur, g, ao, c)) (i + 1, cu, g117, ao117, c117) ⟨rfl, rfl, rfl, rfl, rfl, rfl, trivial⟩ rfl rfl ⟨by omega, hFW, o117⟩ (by (try dsimp only); omega)
  · obtain rfl : i = N + 1 := by omega
    refine ex (xt (xt (xb (th (sq (rg (?_)))))))
    refine fin hT 2 rfl (th (rt (?_)))
    exact ret1 rfl rfl ⟨rfl, g, b18, cur, ao, c, rfl, rfl, hF, o⟩
end Go.Proofs.YtlnhbilpkcfdlaaDoor
namespace Go.En
/-- how far two texts are -/
def far (a b : List UInt8) : Nat := dd (rl a) (rl b) (rl a).length (rl b).length
end Go.En
namespace Go.Proofs.YtlnhbilpkcfdlaaDoor
open Go.En
set_option linter.unusedVariables false
attribute [local irreducible] Code.wp wpList Calls

theorem distC {w0 : World} {K : PH} {hs : List PH} (a b : List UInt8) (ha : wordP a) (hb : wordP b) (hG : LeastK K) : Ct Tryd.prog w0 6 [str a, str b] K hs
    (fun v K' hs' => K' = K ∧ hs' = hs ∧ v = .tuple #[.int .i64 (far a b : Nat), .bool true]) := by
  obtain ⟨_, _, _, a2, a3⟩ := id ha
  obtain ⟨_, _, _, b2, b3⟩ := id hb
  refine enter Tryd.func6 (by kernel_rfl) rfl rfl rfl ?_
  refine sq (rg (?_))
  refine fin hT 2 rfl (th (sq (rg (?_))))
  refine cl hT 2 rfl (bothC a b ha hb hG) ?_   -- edit.go:49 t12
  rintro v12 K12 hs12 ⟨rfl, h1, h2, ao1, c1, ao2, c2, rfl, rfl, o1, o2⟩
  refine fin hT 7 rfl (th (WC.frz fun K1 le1 le2 => WC.frz fun K2 le3 le4 => sq (sq (rg (?_)))))
  refine cbS hT 1 _ rfl (bnot (show true = true ↔ True from ⟨fun _ => trivial, fun _ => rfl⟩)) fun b17 h17 => ?_
  refine fin hT 0 rfl (th (ifP h17 rfl (fun e1 => ?_) (fun e1 => ?_)))
  · exact absurd trivial e1
  · refine sk (th (sq (rg (?_))))
    refine cl hT 2 rfl (tableC (rl a) (rl b) ao1 ao2 c1 c2 (o1.isS.le le4) ((o2.isS.le le2).le le3) a3 b3) ?_   -- edit.go:53 t20
    rintro v20 K20 hs20 ⟨rfl, g, bb, cur, ao, c, rfl, rfl, hF, o⟩
    obtain ⟨ar', rfl⟩ := o.isS.addr (j := 0) (by omega) (by decide)
    have hsz : (rl a).length * ((rl b).length + 1) + ((rl b).length + 1) = ((rl a).length + 1) * ((rl b).length + 1) := (Nat.succ_mul _ _).symm
    refine ixs hT 2 (rl a).length rfl rfl o.isS (by omega) (by decide) fun a23 ha23 => ?_
    cases ha23
    refine ld hT 0 rfl (.inr ⟨0, rfl⟩) (cellR o.isS (by omega)) ?_
    refine ixs hT 2 (rl b).length rfl rfl (rowIs (e := 3) (p := (rl a).length * ((rl b).length + 1)) hF.1 (by omega)) (by omega) (by decide) fun a27 ha27 => ?_
    cases ha27
    simp only [add_mk, Nat.mul_one]
    refine ldp hT 0 1 rfl rfl (hF.get (by omega) (by omega)) ?_
    refine fin hT 2 rfl (th (rt (?_)))
    refine WQ.drop (WQ.drop (WQ.weak (le1.trans le3) ?_))
    exact ret2 rfl rfl rfl ⟨rfl, rfl, rfl⟩
theorem withinC {w0 : World} {K : PH} {hs : List PH} (a b : List UInt8) (k : Int) (ha : wordP a) (hb : wordP b) (hG : LeastK K) : Ct Tryd.prog w0 8 [str a, str b, .int .i64 k] K hs
    (fun v K' hs' => K' = K ∧ hs' = hs ∧ ∃ t : Bool, v = .bool t ∧ (t = true ↔ (far a b : Int) ≤ k)) := by
  refine enter Tryd.func8 (by kernel_rfl) rfl rfl rfl ?_
  refine sq (rg (?_))
  refine fin hT 1 rfl (th (sq (rg (?_))))
  refine cl hT 2 rfl (distC a b ha hb hG) ?_   -- edit.go:58 t12
  rintro v12 K12 hs12 ⟨rfl, rfl, rfl⟩
  refine fin hT 5 rfl (th (sq (rg (?_))))
  refine' bja hT 2 4 20 [8, 14, 15, 16] (show true = true ↔ True from ⟨fun _ => trivial, fun _ => rfl⟩) rfl rfl rfl rfl rfl rfl rfl (fun _ => ?x1) (fun b20 h20 => ?_)
  case x1 =>
    refine cmpS hT 2 rfl fun b19 h19 => ?_   -- edit.go:59 t19 t17 ≤ t18
    exact fin hT 1 rfl (bjx h19 rfl rfl rfl)
  refine fin hT 1 rfl (th (rt (?_)))
  exact ret1 rfl rfl ⟨rfl, rfl, b20, rfl, by rw [h20]; exact ⟨fun h => h.2, fun h => ⟨trivial, h⟩⟩⟩
end Go.Proofs.YtlnhbilpkcfdlaaDoor
