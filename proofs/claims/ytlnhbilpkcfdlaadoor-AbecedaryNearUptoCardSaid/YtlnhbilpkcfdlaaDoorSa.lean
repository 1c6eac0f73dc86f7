/-
  Of Go's package slices: Clone.
  Of Go's package slices: Reverse of texts.
  Of Go's package slices: Delete of one rune, Insert of one.
  Package edit: Path: how many texts it has.
-/
import Derived.Test.YtlnhbilpkcfdlaaDoorVa
import Derived.Test.YtlnhbilpkcfdlaaDoorEc
import Derived.Test.YtlnhbilpkcfdlaaDoorPa
set_option linter.unusedSimpArgs false
set_option linter.unusedVariables false
namespace Go.En
theorem rvv_len (l : List Nat) : (rvv l).length = l.length := by simp [rvv]
end Go.En
namespace Go.Proofs.YtlnhbilpkcfdlaaDoor
open Go.En
set_option linter.unusedVariables false
attribute [local irreducible] Code.wp wpList Calls

theorem own0R (b : Nat) : Own (pt b #[] 21) (some ⟨b, 0, none⟩) 0 0 21 1 (rvv []) :=
  Own.ofPt (b := b) (c := #[]) (e := 21) (n := 0) (size := 1) rfl (by simp [maxLen])
theorem appRs {P : Program} {T : Tab} {w0 : World} {ops : Array Oper} {Q : Exit → Act → World → Prop} {rest rest' : List Oper} {n : Nat} {l l' : Sl} {K : PH} {hs : List PH}
    (hT : TabOK P T) (k i : Nat) (xs ys : List Nat) {d : Nat} {si : SlI} {ao ao2 : Option Addr} {c1 c2 : Nat} {h h2 : PH} (h0 : apAt T ops n k rest l = some (d, si, (ao, xs.length, c1), (ao2, ys.length, c2), rest', l'))
    (hi : hs[i]? = some h) (hsz : (si.size, si.bytes, si.zero.cells.size) = (1, 4, 1)) (o : Own h ao xs.length c1 si.elem 1 (rvv xs)) (hm : In K hs h2) (x : IsS h2 ao2 ys.length c2 1 (rvv ys)) (hb : xs.length + ys.length ≤ 17592186044415)
    (hk : ∀ ao' cap' h', Own h' ao' (xs ++ ys).length cap' si.elem 1 (rvv (xs ++ ys)) → WL P w0 ops Q rest' n ((d, .slice ao' (xs ++ ys).length cap') :: l') K (hs.set i h')) : WL P w0 ops Q rest n l K hs := by
  simp only [Prod.mk.injEq] at hsz
  obtain ⟨e1, e2, e3⟩ := hsz
  refine app hT k i h0 hi (by rw [e1]; exact o) hm (by rw [e1]; exact x) (by rw [e1, e3]) (by rw [e1]; decide) (rvv_one _) (by rw [e2]; omega) (by simp only [maxLen]; omega) fun ao' cap' h' o' => ?_
  rw [e1, ← rvv_append, ← List.length_append] at o'
  have := hk ao' cap' h' o'
  rwa [List.length_append] at this
theorem cloneC {w0 : World} {K hv : PH} {hs : List PH} (a : Addr) (c : Nat) (l : List Nat) (hm : In K hs hv) (x : IsS hv (some a) l.length c 1 (rvv l)) (hl : l.length ≤ 1073741824) : Ct Tryd.prog w0 18 [.slice (some a) l.length c] K hs
    (fun v K' hs' => K' = K ∧ ∃ g ao c', hs' = g :: hs ∧ v = .slice ao l.length c' ∧ Own g ao l.length c' 21 1 (rvv l)) := by
  refine enter Tryd.func18 (by kernel_rfl) rfl rfl rfl ?_
  refine sq (rg (?_))
  refine fin hT 1 rfl (th (sq (sq (rg (?_)))))
  refine cbS hT 1 False rfl (by simp) fun b4 h4 => ?_
  refine fin hT 0 rfl (th (ifP h4 rfl (fun e2 => ?_) (fun e2 => ?_)))
  · exact e2.elim
  · refine sk (th (sq (rg (?_))))
    refine lit hT 0 #[] rfl (by decide) (by kernel_rfl) fun b5 => ?_   -- slices.go:362 t5
    refine appRs hT 1 0 [] l rfl rfl rfl (own0R b5) (In.cons hm) x (by simp only [List.length_nil]; omega) fun ao7 c7 g7 o7 => ?_
    refine fin hT 1 rfl (th (rt (?_)))
    exact ret1 rfl rfl ⟨rfl, g7, ao7, c7, rfl, rfl, o7⟩
end Go.Proofs.YtlnhbilpkcfdlaaDoor
namespace Go.En
/-- so many cells are values of one cell -/
def OneC (off n : Nat) (cur : Array Value) : Prop := ∀ (q : Nat) (v : Value), q < n → cur[off + q]? = some v → v.oneCell' = true
theorem OneC.set {off n : Nat} {cur : Array Value} (h : OneC off n cur) {p : Nat} {x : Value} (hx : x.oneCell' = true) : OneC off n (cur.setIfInBounds p x) := by
  intro q v hq hv
  rw [Array.getElem?_setIfInBounds] at hv
  split at hv
  · split at hv
    · cases hv; exact hx
    · cases hv
  · exact h q v hq hv
end Go.En
namespace Go.Proofs.YtlnhbilpkcfdlaaDoor
open Go.En
set_option linter.unusedVariables false
attribute [local irreducible] Code.wp wpList Calls

theorem reverseC {w0 : World} {K : PH} {R : List PH} (g off n c : Nat) (cur : Array Value) (hn : 0 < n) (hn2 : n ≤ 1073741824) (hc : off + n ≤ cur.size) (h1 : OneC off n cur) : Ct Tryd.prog w0 22 [.slice (some ⟨g, off, none⟩) n c] K (pt g cur 9 :: R)
    (fun v K' hs' => K' = K ∧ ∃ cur', hs' = pt g cur' 9 :: R ∧ cur'.size = cur.size ∧ OneC off n cur') := by
  refine enter Tryd.func22 (by kernel_rfl) rfl rfl rfl ?_
  refine sq (rg (?_))
  refine ar hT 2 rfl (v' := .int .i64 ((n : Int) - 1 - ((0 : Nat) : Int))) (by rw [i64w (by omega)]; simp) ?_
  refine fin hT 2 rfl (th (bk (?_)))
  refine loop (σ := Nat × Array Value) (fun s => [(0, .slice (some ⟨g, off, none⟩) n c), (2, .int .i64 ((s.1 : Nat) : Int)), (3, .int .i64 ((n : Int) - 1 - ((s.1 : Nat) : Int)))]) (fun _ => K) (fun s => pt g s.2 9 :: R) (fun s => s.1 ≤ n ∧ s.2.size = cur.size ∧ OneC off n s.2) (fun s => n - s.1) (0, cur) ⟨Nat.zero_le _, rfl, h1⟩ ⟨rfl, rfl, rfl, trivial⟩ rfl rfl ?_
  rintro ⟨i, cu⟩ ⟨hi, hs, ho⟩
  dsimp only at hi hs ho ⊢
  refine sq (sq (rg (?_)))
  refine cmpS hT 2 rfl fun b9 h9 => ?_   -- slices.go:484 t9 t7 < t8
  refine fin hT 0 rfl (th (ifP h9 rfl (fun e2 => ?_) (fun e2 => ?_)))
  · obtain ⟨j, hj⟩ : ∃ j : Nat, (n : Int) - 1 - ((i : Nat) : Int) = (j : Nat) := ⟨n - 1 - i, by omega⟩
    have hin : i < n := by omega
    have hjn : j < n := by omega
    obtain ⟨vi, hvi⟩ : ∃ v, cu[off + i]? = some v := ⟨_, Array.getElem?_eq_getElem (by omega)⟩
    obtain ⟨vj, hvj⟩ : ∃ v, cu[off + j]? = some v := ⟨_, Array.getElem?_eq_getElem (by omega)⟩
    have oi := ho _ _ hin hvi
    have oj := ho _ _ hjn hvj
    obtain ⟨vj2, hvj2⟩ : ∃ v, (cu.setIfInBounds (off + i) vj)[off + j]? = some v := ⟨_, Array.getElem?_eq_getElem (by simp; omega)⟩
    rw [hj]
    refine sk (th (sq (bk (rga [pt g cu 9] 13 [0, 2, 4, 6, 8, 10, 12, 14, 16, 18, 20, 22, 24, 27, 28, 31] (by simp) (by kernel_rfl) (by kernel_rfl) ?_))))
    refine dixs hT (by kernel_rfl) 6 j rfl rfl hjn ?_
    simp only [add_mk, Nat.mul_one]
    refine dldpw hT (by kernel_rfl) 0 0 rfl (by kernel_rfl) rfl hvj ?_
    refine dixs hT (by kernel_rfl) 2 i rfl rfl hin ?_
    simp only [add_mk, Nat.mul_one]
    refine dldpw hT (by kernel_rfl) 0 0 rfl (by kernel_rfl) rfl hvi ?_
    refine dixs hT (by kernel_rfl) 0 i rfl rfl hin ?_
    simp only [add_mk, Nat.mul_one]
    refine dact hT (by kernel_rfl) 0 rfl ?_
    refine stp hT 0 0 rfl rfl hvi oj ?_
    refine dnext (.inl (by kernel_rfl)) ?_
    refine dixs hT (by kernel_rfl) 0 j rfl rfl hjn ?_
    simp only [add_mk, Nat.mul_one]
    refine dact hT (by kernel_rfl) 0 rfl ?_
    refine stp hT 0 0 rfl rfl hvj2 oi ?_
    refine dnext (.inl (by kernel_rfl)) ?_
    refine dend hT (by kernel_rfl) 0 rfl (bl (th (rg (?_))))
    refine ar hT 1 rfl (i64w (by omega)) ?_   -- slices.go:484 t11 t10 add 1
    refine ar hT 1 rfl (v' := .int .i64 ((n : Int) - 1 - ((i + 1 : Nat) : Int))) (by rw [i64w (by omega)]; congr 1; omega) ?_
    refine fin hT 2 rfl (?_)
    exact again (x := (i, cu)) (i + 1, (cu.setIfInBounds (off + i) vj).setIfInBounds (off + j) vi) ⟨rfl, rfl, rfl, trivial⟩ rfl rfl ⟨by omega, by simpa using hs, (ho.set oj).set oi⟩ (by (try dsimp only); omega)
  · refine ex (xt (xt (xb (?_))))
    exact end0 rfl ⟨rfl, cu, rfl, hs, ho⟩
end Go.Proofs.YtlnhbilpkcfdlaaDoor
namespace Go.En
theorem rvv_take (l : List Nat) (i : Nat) : rvv (l.take i) = (rvv l).take i := by simp [rvv, List.map_take]
theorem rvv_drop (l : List Nat) (i : Nat) : rvv (l.drop i) = (rvv l).drop i := by simp [rvv, List.map_drop]
end Go.En
namespace Go.Proofs.YtlnhbilpkcfdlaaDoor
open Go.En
set_option linter.unusedVariables false
attribute [local irreducible] Code.wp wpList Calls

theorem deleteC {w0 : World} {K h : PH} {R : List PH} (ao : Option Addr) (c : Nat) (xs : List Nat) (i : Nat) (o : Own h ao xs.length c 21 1 (rvv xs)) (hi : i < xs.length) (hl : xs.length ≤ 1000000) :
    Ct Tryd.prog w0 19 [.slice ao xs.length c, .int .i64 ((i : Nat) : Int), .int .i64 ((i + 1 : Nat) : Int)] K (h :: R)
      (fun v K' hs' => K' = K ∧ ∃ h', hs' = h' :: R ∧ v = .slice ao (i + (xs.length - (i + 1))) c ∧ Own h' ao (i + (xs.length - (i + 1))) c 21 1 (rvv (xs.take i ++ xs.drop (i + 1)))) := by
  have hnc : xs.length ≤ c := o.2.1
  refine enter Tryd.func19 (by kernel_rfl) rfl rfl rfl ?_
  refine sq (rg (?_))
  refine fin hT 1 rfl (th (sq (rg (?_))))
  refine sl3g hT 5 i 1 xs.length rfl rfl rfl rfl (by omega) hnc ?_
  refine fin hT 0 rfl (th (sq (sq (rg (?_)))))
  refine cmp hT 2 rfl (fun h1 => absurd h1 (by omega)) (fun h1 => ?_)
  refine fin hT 0 rfl (th (ifF rfl (sk (th (sq (rg (?_)))))))
  refine fin hT 3 rfl (th (sq (rga [] 8 [0, 2, 4, 6, 8, 10, 13, 14] (by simp) (by kernel_rfl) (by kernel_rfl) ?_)))
  refine dslx hT (by kernel_rfl) 2 0 i rfl rfl rfl (by simp) (by omega) ?_
  rw [cutA_0, Nat.sub_zero]
  refine dsl hT (by kernel_rfl) 2 (i + 1) (xs.length - (i + 1)) rfl rfl o.isS rfl (show ((xs.length : Nat) : Int) = _ by omega) (by omega) (ys := rvv (xs.drop (i + 1))) (by rw [rvv_drop]; simp only [Nat.mul_one]; exact List.take_of_length_le (by simp [rvv_len])) fun ao25 c25 x25 => ?_
  refine dact hT (by kernel_rfl) 0 rfl ?_
  refine appi hT 0 0 rfl rfl (by have := o.pre i (by omega); rw [Nat.mul_one, ← rvv_take] at this; exact this) (.inr ⟨0, rfl⟩) x25 (rvv_one _) (by omega) fun g26 o26 => ?_
  rw [← rvv_append] at o26
  refine dnex [] (by simp) (by simp) rfl ?_
  refine dend hT (by kernel_rfl) 1 rfl (th (sq (rg (?_))))
  obtain ⟨g, off, cur, rfl, rfl, e1, e2⟩ := o26.pts (by omega)
  refine slx hT 4 (i + (xs.length - (i + 1))) 1 rfl rfl (show ((xs.length : Nat) : Int) = _ by omega) (by omega) ?_
  rw [cutA_lt (by omega)]
  refine clr hT 0 0 rfl rfl (z := .int .i32 0) rfl rfl (by omega) (by rw [Nat.mul_one, e1]; omega) ?_
  refine fin hT 0 rfl (th (sq (rg (?_))))
  refine fin hT 2 rfl (th (rt (?_)))
  have hb := o26.behind (by simpa using e1) (by simpa using e2) (off + (i + (xs.length - (i + 1))) * 1) (List.replicate 1 (.int .i32 0)) (by omega) (by simp only [List.length_replicate]; omega)
  exact ret1 rfl rfl ⟨rfl, _, rfl, rfl, by simpa using hb⟩
theorem insertC {w0 : World} {K h : PH} {R : List PH} (ao : Option Addr) (c : Nat) (xs : List Nat) (i x b : Nat) (o : Own h ao xs.length c 21 1 (rvv xs)) (hi : i ≤ xs.length) (hl : xs.length ≤ 1000000) :
    Ct Tryd.prog w0 20 [.slice ao xs.length c, .int .i64 ((i : Nat) : Int), .slice (some ⟨b, 0, none⟩) 1 1] K (h :: pt b #[.int .i32 ((x : Nat) : Int)] 21 :: R)
      (fun v K' hs' => K' = K ∧ ∃ h' ao' c' ys, hs' = h' :: R ∧ v = .slice ao' ys.length c' ∧ ys.length = xs.length + 1 ∧ (∀ y ∈ ys, y = x ∨ y ∈ xs) ∧ Own h' ao' ys.length c' 21 1 (rvv ys)) := by
  have hnc : xs.length ≤ c := o.2.1
  have xv : IsS (pt b #[.int .i32 ((x : Nat) : Int)] 21) (some ⟨b, 0, none⟩) 1 1 1 (rvv [x]) := (Own.ofPt (b := b) (c := #[.int .i32 ((x : Nat) : Int)]) (e := 21) (n := 1) (size := 1) rfl (by simp [maxLen])).isS
  refine enter Tryd.func20 (by kernel_rfl) rfl rfl rfl ?_
  refine sq (rg (?_))
  refine fin hT 1 rfl (th (sq (rg (?_))))
  refine slx hT 2 i (xs.length - i) rfl rfl (show ((xs.length : Nat) : Int) = _ by omega) (by omega) ?_
  refine fin hT 0 rfl (th (sq (rg (?_))))
  refine fin hT 3 rfl (th (sq (sq (rg (?_)))))
  refine cmp hT 1 rfl (fun h1 => absurd h1 (by simp)) (fun h1 => ?_)
  refine fin hT 0 rfl (th (ifF rfl (sk (th (sq (rg (?_)))))))
  refine fin hT 3 rfl (th (sq (sq (rg (?_)))))
  refine cmpS hT 2 rfl fun b22 h22 => ?_
  refine fin hT 0 rfl (th (ifP h22 rfl (fun e3 => ?_) (fun e3 => ?_)))
  · refine sq (rg (?_))
    refine appRs hT 2 0 xs [x] rfl rfl rfl o (.inr ⟨1, rfl⟩) xv (by simp; omega) fun ao25 c25 g25 o25 => ?_
    refine fin hT 1 rfl (th (rt (rT (?_))))
    refine WQ.perm (List.Perm.swap _ _ _) (WQ.drop ?_)
    exact ret1 rfl rfl ⟨rfl, g25, ao25, c25, xs ++ [x], rfl, rfl, by simp, by simp; intro y hy; rcases hy with h | h <;> simp [h], o25⟩
  · have hin : i < xs.length := by omega
    refine sk (th (sq (sq (rg (?_)))))
    refine ar hT 2 rfl (v' := .int .i64 ((xs.length + 1 : Nat) : Int)) (by rw [i64w (by omega)]; simp) ?_
    refine opr hT 1 rfl (v := .int .i64 ((c : Nat) : Int)) (fun a w ha _ => by simp [execOp, resolve, invoke, builtin, Builtin.cap_, ha.ev (x := .tmp 29) (v := .slice ao xs.length c) rfl, run_underlying Tryd.underlying36, goInt]) ?_
    refine cmpS hT 0 rfl fun b31 h31 => ?_
    refine fin hT 0 rfl (th (ifP h31 rfl (fun e5 => ?_) (fun e5 => ?_)))
    · refine sq (rg (?_))
      refine slx hT 2 0 i rfl rfl (by simp) (by omega) ?_
      rw [cutA_0, Nat.sub_zero]
      refine ar hT 2 rfl (i64w (by omega)) ?_
      refine ar hT 1 rfl (v' := .int .i64 ((xs.length + 1 - i : Nat) : Int)) (by rw [i64w (by omega)]; congr 1; omega) ?_
      have op := o.pre i hi
      rw [Nat.mul_one, ← rvv_take] at op
      refine apz hT 0 0 (xs.length + 1 - i) (.int .i32 0) rfl rfl rfl Tryd.underlying3 rfl op rfl (by omega) (by show _ * 4 ≤ _; omega) (by simp only [maxLen]; omega) (by decide) fun b40 c40 cur q1 q2 q3 q4 => ?_
      refine fin hT 1 rfl (th (sq (rg (?_))))
      refine slx hT 2 i (xs.length + 1 - i) rfl rfl (show ((i + (xs.length + 1 - i) : Nat) : Int) = _ from rfl) (by omega) ?_
      rw [cutA_lt (by omega)]
      refine cpy hT 1 0 1 rfl rfl rfl (.inr ⟨2, rfl⟩) xv (by omega) (fun u hu => rvv_one _ u (List.mem_of_mem_take hu)) (by rw [q3]; simp; omega) ?_
      have z1 : cur.toList.length = c40 := by rw [Array.length_toList, q3]
      obtain ⟨c1, hc1⟩ : ∃ c1, c1 = cur.toList.take (0 + i * 1) ++ (rvv [x]).take (1 * 1) ++ cur.toList.drop (0 + i * 1 + 1 * 1) := ⟨_, rfl⟩
      have z2 : c1.length = c40 := by rw [hc1]; simp [rvv]; omega
      refine WL.hs (pt b40 c1.toArray 21 :: h :: pt b #[.int .i32 ((x : Nat) : Int)] 21 :: R) (by rw [hc1]; rfl) ?_
      refine fin hT 0 rfl (th (sq (rga [] 9 [0, 2, 4, 6, 8, 10, 12, 14, 17] (by simp) (by kernel_rfl) (by kernel_rfl) ?_)))
      refine dar hT (by kernel_rfl) 3 rfl (i64w (x := ((i + 1 : Nat) : Int)) (by omega)) ?_
      refine dslx hT (by kernel_rfl) 0 (i + 1) (xs.length - i) rfl rfl rfl (show ((i + (xs.length + 1 - i) : Nat) : Int) = _ by omega) (by omega) ?_
      rw [cutA_lt (by omega)]
      refine dsl hT (by kernel_rfl) 2 i (xs.length - i) rfl rfl o.isS rfl (show ((xs.length : Nat) : Int) = _ by omega) (by omega) (ys := rvv (xs.drop i)) (by rw [rvv_drop]; simp only [Nat.mul_one]; exact List.take_of_length_le (by simp [rvv_len])) fun ao53 c53 x53 => ?_
      refine dact hT (by kernel_rfl) 0 rfl ?_
      refine cpy hT 0 0 (xs.length - i) rfl rfl rfl (.inr ⟨1, rfl⟩) x53 (by omega) (fun u hu => rvv_one _ u (List.mem_of_mem_take hu)) (by simp [z2]; omega) ?_
      refine dnex [] (by simp) (by simp) rfl ?_
      refine dend hT (by kernel_rfl) 0 rfl (th (sq (rg (?_))))
      refine fin hT 2 rfl (th (rt (rT (?_))))
      refine WQ.perm (List.reverse_perm [_, _, _] |>.symm.append_right R) (WQ.drop (WQ.drop ?_))
      have hlen : (xs.take i ++ [x] ++ xs.drop i).length = xs.length + 1 := by simp; omega
      refine ret1 rfl rfl ⟨rfl, _, some ⟨b40, 0, none⟩, c40, xs.take i ++ [x] ++ xs.drop i, rfl, ?_, hlen, ?_, ?_⟩
      · rw [hlen, show i + (xs.length + 1 - i) = xs.length + 1 from by omega]
      · intro y hy
        simp only [List.mem_append, List.mem_singleton] at hy
        rcases hy with (h | h) | h
        · exact .inr (List.mem_of_mem_take h)
        · exact .inl h
        · exact .inr (List.mem_of_mem_drop h)
      · rw [hlen]
        have q5 : cur.toList.take i = rvv (xs.take i) := by
          have := congrArg (List.take i) q4
          rw [List.take_take, Nat.min_eq_left (by omega), List.take_append_of_le_length (by simp [rvv_len]; omega), List.take_of_length_le (l := rvv (xs.take i)) (by simp [rvv_len]; omega)] at this
          exact this
        have q6 : c1.take (i + 1) = rvv (xs.take i) ++ rvv [x] := by
          rw [hc1]
          simp only [Nat.zero_add, Nat.mul_one]
          rw [q5, List.take_append_of_le_length (by simp [rvv]; omega), List.take_of_length_le (by simp [rvv]; omega)]
          rfl
        refine Own.mkp ?_ (by omega) q2 ?_
        · simp [rvv_len, z2]; omega
        · simp only [Nat.zero_add, Nat.mul_one, List.drop_zero, q6]
          rw [List.take_of_length_le (l := rvv (List.drop i xs)) (by simp [rvv_len]), List.take_append_of_le_length (by simp [rvv_len]; omega), List.take_of_length_le (by simp [rvv_len]; omega)]
          simp [rvv]
    · refine sk (th (sq (rg (?_))))
      refine ar hT 3 rfl (v' := .int .i64 ((xs.length + 1 : Nat) : Int)) (by rw [i64w (by omega)]; simp) ?_
      refine slx hT 0 0 (xs.length + 1) rfl rfl (by simp) (by omega) ?_
      rw [cutA_0, Nat.sub_zero]
      refine fin hT 1 rfl (th (sq (sq (rg (?_)))))
      refine ar hT 4 rfl (v' := .int .i64 ((i + 1 : Nat) : Int)) (by rw [i64w (by omega)]; simp) ?_
      obtain ⟨g, off, cur, rfl, rfl, p1, p2⟩ := o.pts (by omega)
      refine slx hT 0 (i + 1) (xs.length - i) rfl rfl (show ((xs.length + 1 : Nat) : Int) = _ by omega) (by omega) ?_
      rw [cutA_lt (by omega)]
      refine clx hT 0 rfl Tryd.func38 rfl rfl (by kernel_rfl) (e := Extern.SlicesOverlaps.overlaps #[36, 36] #[4]) (by kernel_rfl) (fun w hw => ovl_run hw Tryd.underlying36 (info_of_underlying (P := Tryd.prog) Tryd.underlying21) (i := 1) (j := 0) rfl rfl (by omega) (show cur.size ≠ 0 by omega)) ?_
      refine ar hT 0 rfl rfl ?_
      refine fin hT 0 rfl (th (ifT rfl ?_))
      have z1 : cur.toList.length = off + c := by rw [Array.length_toList, p1]
      refine sq (rga [] 9 [0, 2, 4, 6, 8, 10, 12, 14, 17] (by simp) (by kernel_rfl) (by kernel_rfl) ?_)
      refine dar hT (by kernel_rfl) 3 rfl (i64w (x := ((i + 1 : Nat) : Int)) (by omega)) ?_
      refine dslx hT (by kernel_rfl) 0 (i + 1) (xs.length - i) rfl rfl rfl (show ((xs.length + 1 : Nat) : Int) = _ by omega) (by omega) ?_
      rw [cutA_lt (by omega)]
      have hsrc : ((((cur.toList.drop off).take (xs.length + 1)).drop (i * 1)).take ((xs.length + 1 - i) * 1)).take ((xs.length - i) * 1) = rvv (xs.drop i) := by
        simp only [Nat.mul_one]
        rw [List.take_take, Nat.min_eq_left (by omega), rvv_drop, ← p2, List.drop_take, List.drop_take, List.take_take, Nat.min_eq_left (by omega)]
      have hx2 : IsS (pt g cur 21) (some ⟨g, off, none⟩) (xs.length + 1) c 1 ((cur.toList.drop off).take (xs.length + 1)) := (Own.mkp p1 (by omega) o.2.2.1 rfl).isS
      refine dsl hT (by kernel_rfl) 2 i (xs.length + 1 - i) rfl rfl hx2 rfl (show ((xs.length + 1 : Nat) : Int) = _ by omega) (by omega) rfl fun ao76 c76 x76 => ?_
      refine dact hT (by kernel_rfl) 0 rfl ?_
      refine cpy hT 0 0 (xs.length - i) rfl rfl rfl (.inr ⟨0, rfl⟩) x76 (by omega) (by show ∀ u ∈ List.take ((xs.length - i) * 1) _, _; rw [hsrc]; exact rvv_one _) (by simp; omega) ?_
      refine dnex [] (by simp) (by simp) rfl ?_
      refine dend hT (by kernel_rfl) 0 rfl (th (sq (rg (?_))))
      refine slx hT 2 i (xs.length + 1 - i) rfl rfl (show ((xs.length + 1 : Nat) : Int) = _ by omega) (by omega) ?_
      rw [cutA_lt (by omega)]
      refine cpy hT 1 0 1 rfl rfl rfl (.inr ⟨1, rfl⟩) xv (by omega) (fun u hu => rvv_one _ u (List.mem_of_mem_take hu)) (by simp; omega) ?_
      refine fin hT 0 rfl (th (sq (rg (?_))))
      refine fin hT 2 rfl (th (rt (rT (?_))))
      refine WQ.perm (List.Perm.swap _ _ _) (WQ.drop ?_)
      have hlen : (xs.take i ++ [x] ++ xs.drop i).length = xs.length + 1 := by simp; omega
      refine ret1 rfl rfl ⟨rfl, _, some ⟨g, off, none⟩, c, xs.take i ++ [x] ++ xs.drop i, rfl, by rw [hlen], hlen, ?_, ?_⟩
      · intro y hy
        simp only [List.mem_append, List.mem_singleton] at hy
        rcases hy with (h | h) | h
        · exact .inr (List.mem_of_mem_take h)
        · exact .inl h
        · exact .inr (List.mem_of_mem_drop h)
      · rw [hlen]
        have hA : cur.toList.take (off + i) = cur.toList.take off ++ rvv (xs.take i) := by
          rw [List.take_add, rvv_take, ← p2, List.take_take, Nat.min_eq_left (by omega)]
        have hl0 : (cur.toList.take off).length = off := by simp; omega
        show Own (pt g (List.take (off + i * 1) (List.take (off + (i + 1) * 1) cur.toList ++ List.take ((xs.length - i) * 1) _ ++ List.drop (off + (i + 1) * 1 + (xs.length - i) * 1) cur.toList) ++ List.take (1 * 1) (rvv [x]) ++ List.drop (off + i * 1 + 1 * 1) (List.take (off + (i + 1) * 1) cur.toList ++ List.take ((xs.length - i) * 1) _ ++ List.drop (off + (i + 1) * 1 + (xs.length - i) * 1) cur.toList)).toArray 21) _ _ _ _ _ _
        rw [hsrc]
        simp only [Nat.mul_one]
        have e1 : List.take (off + i) (List.take (off + (i + 1)) cur.toList ++ rvv (xs.drop i) ++ List.drop (off + (i + 1) + (xs.length - i)) cur.toList) = cur.toList.take off ++ rvv (xs.take i) := by
          rw [List.append_assoc, List.take_append_of_le_length (by simp; omega), List.take_take, Nat.min_eq_left (by omega), hA]
        have e2 : List.drop (off + i + 1) (List.take (off + (i + 1)) cur.toList ++ rvv (xs.drop i) ++ List.drop (off + (i + 1) + (xs.length - i)) cur.toList) = rvv (xs.drop i) ++ List.drop (off + (i + 1) + (xs.length - i)) cur.toList := by
          rw [List.append_assoc, List.drop_append_of_le_length (by simp; omega), List.drop_of_length_le (by simp; omega), List.nil_append]
        rw [e1, e2]
        refine Own.mkp ?_ (by omega) o.2.2.1 ?_
        · simp [rvv_len]; omega
        · simp only [List.append_assoc]
          rw [List.drop_append_of_le_length (by omega), List.drop_of_length_le (by omega), List.nil_append]
          simp only [← List.append_assoc]
          rw [List.take_append_of_le_length (by simp [rvv_len]; omega), List.take_of_length_le (by simp [rvv_len]; omega)]
          simp [rvv]
end Go.Proofs.YtlnhbilpkcfdlaaDoor
namespace Go.En
theorem dd_del {a b : List Nat} {i j : Nat} (hj : 0 < j) (h : dd a b i (j - 1) + 1 = dd a b i j) : dd a b i (j - 1) + 1 = dd a b i j := h
/-- what is left, if nothing else makes the way shorter -/
theorem dd_ins {a b : List Nat} {i j : Nat} (h0 : 0 < i ∨ 0 < j) (h1 : ¬ (0 < i ∧ 0 < j ∧ a.getD (i - 1) 0 = b.getD (j - 1) 0)) (h2 : ¬ (0 < i ∧ 0 < j ∧ (dd a b (i - 1) (j - 1) : Int) = (dd a b i j : Int) - 1)) (h3 : ¬ (0 < j ∧ (dd a b i (j - 1) : Int) = (dd a b i j : Int) - 1)) :
    0 < i ∧ dd a b (i - 1) j + 1 = dd a b i j := by
  cases i with
  | zero =>
    exfalso
    have hj : 0 < j := by omega
    refine h3 ⟨hj, ?_⟩
    rw [dd_zero, dd_zero]; omega
  | succ i =>
    refine ⟨by omega, ?_⟩
    cases j with
    | zero => simp only [Nat.add_sub_cancel, dd_col]
    | succ j =>
      simp only [Nat.add_sub_cancel] at h1 h2 h3 ⊢
      have e := dd_succ a b i j
      rw [if_neg (fun h => h1 ⟨by omega, by omega, h⟩)] at e
      have h2' : ¬ (dd a b i j : Int) = (dd a b (i + 1) (j + 1) : Int) - 1 := fun h => h2 ⟨by omega, by omega, h⟩
      have h3' : ¬ (dd a b (i + 1) j : Int) = (dd a b (i + 1) (j + 1) : Int) - 1 := fun h => h3 ⟨by omega, h⟩
      omega
def svv (l : List (List UInt8)) : List Value := l.map str
theorem svv_len (l : List (List UInt8)) : (svv l).length = l.length := by simp [svv]
theorem svv_one (l : List (List UInt8)) : ∀ u ∈ svv l, u.oneCell' = true := by
  intro u hu
  obtain ⟨x, _, rfl⟩ := List.mem_map.1 hu
  rfl
end Go.En
namespace Go.Proofs.YtlnhbilpkcfdlaaDoor
open Go.En
set_option linter.unusedVariables false
attribute [local irreducible] Code.wp wpList Calls

theorem cellT {K : PH} {la lb : List Nat} {bb : Nat} {cur : Array Value} {W : Nat} {N : Nat} (hF : FL la lb W ((N + 1) * W) cur ((N + 1) * W)) (le : Le (pt bb cur 3) K) {i j : Nat} (hi : i ≤ N) (hj : j < W) : Cell K ((⟨bb, i * W, none⟩ : Addr).add (j * 1)) (.int .i64 ((dd la lb i j : Nat) : Int)) := by
  rw [add_mk, Nat.mul_one]
  have h1 : i * W + j < (N + 1) * W := by
    have : (i + 1) * W ≤ (N + 1) * W := Nat.mul_le_mul_right _ (by omega)
    rw [Nat.succ_mul] at this
    omega
  exact (Cell.pt (hF.get hj h1)).le le
theorem rowI {K : PH} {bb : Nat} {cur : Array Value} {W N i : Nat} (hs : cur.size = (N + 1) * W) (le : Le (pt bb cur 3) K) (hi : i ≤ N) : IsS K (some ⟨bb, i * W, none⟩) W W 1 ((cur.toList.drop (i * W)).take W) := by
  have : (i + 1) * W ≤ (N + 1) * W := Nat.mul_le_mul_right _ (by omega)
  rw [Nat.succ_mul] at this
  exact (rowIs (e := 3) hs this).le le
set_option maxHeartbeats 4000000 in
theorem pathC {w0 : World} {K : PH} {hs : List PH} (a b : List UInt8) (ha : wordP a) (hb : wordP b) (hG : LeastK K) : Ct Tryd.prog w0 7 [str a, str b] K hs
    (fun v K' hs' => K' = K ∧ hs' = hs ∧ ∃ ao c, v = .tuple #[.slice ao (far a b + 1) c, .bool true]) := by
  obtain ⟨_, _, _, a2, a3⟩ := id ha
  obtain ⟨_, _, _, b2, b3⟩ := id hb
  obtain ⟨la, hla⟩ : ∃ la, la = rl a := ⟨_, rfl⟩
  obtain ⟨lb, hlb⟩ : ∃ lb, lb = rl b := ⟨_, rfl⟩
  have hfar : far a b = dd la lb la.length lb.length := by rw [hla, hlb]; rfl
  rw [← hla] at a2 a3
  rw [← hlb] at b2 b3
  have sca : ∀ r ∈ la, scalarP r := by rw [hla]; exact (runesP_text (word_some ha)).2.1
  have scb : ∀ r ∈ lb, scalarP r := by rw [hlb]; exact (runesP_text (word_some hb)).2.1
  refine enter Tryd.func7 (by kernel_rfl) rfl rfl rfl ?_
  refine sq (rg (?_))
  refine fin hT 2 rfl (th (sq (rg (?_))))
  refine cl hT 2 rfl (bothC a b ha hb hG) ?_
  rintro v20 K20 hs20 ⟨rfl, h1, h2, ao1, c1, ao2, c2, rfl, rfl, o1, o2⟩
  rw [← hla] at o1 ⊢
  rw [← hlb] at o2 ⊢
  refine fin hT 7 rfl (th (WC.frz fun K1 le1 le2 => WC.frz fun K2 le3 le4 => sq (sq (rg (?_)))))
  refine cbS hT 1 _ rfl (bnot (show true = true ↔ True from ⟨fun _ => trivial, fun _ => rfl⟩)) fun b25 h25 => ?_
  refine fin hT 0 rfl (th (ifP h25 rfl (fun e1 => ?_) (fun e1 => ?_)))
  · exact absurd trivial e1
  · refine sk (th (sq (rg (?_))))
    refine cl hT 2 rfl (tableC la lb ao1 ao2 c1 c2 (o1.isS.le le4) ((o2.isS.le le2).le le3) a3 b3) ?_
    rintro v28 K28 hs28 ⟨rfl, g, bb, cur, ao, c, rfl, rfl, hF, o⟩
    refine fin hT 1 rfl (th (WC.frz fun K3 le5 le6 => WC.frz fun K4 le7 le8 => sq (rg (?_))))
    have leK : Le K20 K4 := le1.trans (le3.trans (le5.trans le7))
    have x1 : IsS K4 ao1 la.length c1 1 (rvv la) := (((o1.isS.le le4).le le5).le le7)
    have x2 : IsS K4 ao2 lb.length c2 1 (rvv lb) := ((((o2.isS.le le2).le le3).le le5).le le7)
    have xR : IsS K4 ao (la.length + 1) c 1 (rowsV bb (lb.length + 1) (la.length + 1)) := (o.isS.le le6).le le7
    have hG4 : LeastK K4 := fun j hj => (hG j hj).le leK
    obtain ⟨a1', rfl⟩ := x1.addr (j := 0) (by omega) (by decide)
    obtain ⟨a2', rfl⟩ := x2.addr (j := 0) (by omega) (by decide)
    refine fin hT 6 rfl (th (sq (rg (?_))))
    refine cl hT 1 rfl (cloneC a2' c2 lb (.inl rfl) x2 (by omega)) ?_
    rintro v34 K34 hs34 ⟨rfl, gN, aoN, cN, rfl, rfl, oN⟩
    refine fin hT 1 rfl (th (sq (rg (?_))))
    refine lit hT 1 #[str b] rfl (by decide) (by kernel_rfl) fun b36 => ?_
    refine fin hT 1 rfl (th (sq (bk (?_))))
    refine loop (σ := (Nat × Nat) × (List Nat × PH × Option Addr × Nat) × (List (List UInt8) × PH × Option Addr × Nat)) (fun s => [(6, .slice (some a1') la.length c1), (7, .slice (some a2') lb.length c2), (9, .slice ao (la.length + 1) c), (10, .int .i64 ((s.1.1 : Nat) : Int)), (11, .int .i64 ((s.1.2 : Nat) : Int)), (12, .slice s.2.1.2.2.1 s.2.1.1.length s.2.1.2.2.2), (13, .slice s.2.2.2.2.1 s.2.2.1.length s.2.2.2.2.2)]) (fun _ => K34) (fun s => s.2.2.2.1 :: s.2.1.2.1 :: hs)
      (fun s => s.1.1 ≤ la.length ∧ s.1.2 ≤ lb.length ∧ s.1.2 ≤ s.2.1.1.length ∧ s.2.1.1.length + s.1.2 ≤ lb.length + lb.length + la.length - s.1.1 ∧ (∀ r ∈ s.2.1.1, scalarP r) ∧ Own s.2.1.2.1 s.2.1.2.2.1 s.2.1.1.length s.2.1.2.2.2 21 1 (rvv s.2.1.1) ∧ Own s.2.2.2.1 s.2.2.2.2.1 s.2.2.1.length s.2.2.2.2.2 9 1 (svv s.2.2.1) ∧ s.2.2.1.length + dd la lb s.1.1 s.1.2 = dd la lb la.length lb.length + 1)
      (fun s => s.1.1 + s.1.2) ((la.length, lb.length), (lb, gN, aoN, cN), ([b], _, some ⟨b36, 0, none⟩, 1)) ⟨Nat.le_refl _, Nat.le_refl _, Nat.le_refl _, by dsimp only; omega, scb, oN, Own.ofPt (b := b36) (c := #[str b]) (e := 9) (n := 1) (size := 1) rfl (by simp [maxLen]), by simp; omega⟩ ⟨rfl, rfl, rfl, rfl, rfl, rfl, rfl, trivial⟩ rfl rfl ?_
    rintro ⟨⟨i, j⟩, ⟨xs, hN, an, cn⟩, ⟨ps, hP, ap, cp⟩⟩ ⟨hi, hj, hjx, hnx, hsc, oX, oP, hD⟩
    dsimp only at *
    have hdl := dd_le la lb la.length lb.length
    have hxl : xs.length ≤ 100 := by omega
    refine sq (sq (rg (?_)))
    refine cmpS hT 1 rfl fun b38 h38 => ?_
    refine' bjo hT 1 3 42 [38, 39] h38 rfl rfl rfl rfl rfl rfl rfl (fun _ => ?x3) (fun b42 h42 => ?_)
    case x3 =>
      refine cmpS hT 1 rfl fun b41 h41 => ?_
      exact fin hT 1 rfl (bjx h41 rfl rfl rfl)
    refine fin hT 0 rfl (th (ifP h42 rfl (fun e5 => ?_) (fun e5 => ?_)))
    · refine sk (th (bk (sq (rg (?_)))))
      refine ix1 hT 2 i rfl rfl rfl xR (rowsV_get (by omega)) fun a45 hc45 => ?_
      refine ld hT 0 rfl (.inl rfl) hc45 ?_
      refine ixs hT 1 j rfl rfl (rowI hF.1 le8 hi) (by omega) (by decide) fun a48 ha48 => ?_
      cases ha48
      refine ld hT 0 rfl (.inl rfl) (cellT hF le8 hi (by omega)) ?_
      refine fin hT 1 rfl (th (jn (σ := (Nat × Nat) × (List Nat × PH × Option Addr × Nat)) (fun s => [(6, .slice (some a1') la.length c1), (7, .slice (some a2') lb.length c2), (9, .slice ao (la.length + 1) c), (10, .int .i64 ((s.1.1 : Nat) : Int)), (11, .int .i64 ((s.1.2 : Nat) : Int)), (12, .slice s.2.2.2.1 s.2.1.length s.2.2.2.2), (13, .slice ap ps.length cp)]) (fun s => hP :: s.2.2.1 :: hs)
        (fun s => s.1.1 + s.1.2 < i + j ∧ s.1.1 ≤ la.length ∧ s.1.2 ≤ lb.length ∧ s.1.2 ≤ s.2.1.length ∧ s.2.1.length + s.1.2 ≤ lb.length + lb.length + la.length - s.1.1 ∧ (∀ r ∈ s.2.1, scalarP r) ∧ Own s.2.2.1 s.2.2.2.1 s.2.1.length s.2.2.2.2 21 1 (rvv s.2.1) ∧ dd la lb s.1.1 s.1.2 + 1 = dd la lb i j) ?_ ?_))
      · refine bk (jn (σ := Bool) (fun s => [(61, .bool s), (6, .slice (some a1') la.length c1), (7, .slice (some a2') lb.length c2), (9, .slice ao (la.length + 1) c), (10, .int .i64 ((i : Nat) : Int)), (11, .int .i64 ((j : Nat) : Int)), (12, .slice an xs.length cn), (13, .slice ap ps.length cp), (14, .int .i64 ((dd la lb i j : Nat) : Int))]) (fun _ => hP :: hN :: hs) (fun s => s = true ↔ (0 < i ∧ 0 < j ∧ la.getD (i - 1) 0 = lb.getD (j - 1) 0)) ?_ ?_)
        · refine rga [] 20 [0, 2, 4, 6, 8, 10, 12, 14, 16, 18, 20, 22, 24, 26, 28, 30, 32, 34, 36, 38] (by simp) (by kernel_rfl) (by kernel_rfl) ?_
          refine dcmp hT (by kernel_rfl) 1 (((0 : Int)) < ((i : Nat) : Int)) rfl (by simp) (fun h6 => ?_) (fun h6 => ?_)
          · refine dcmp hT (by kernel_rfl) 2 (((0 : Int)) < ((j : Nat) : Int)) rfl (by simp) (fun h7 => ?_) (fun h7 => ?_)
            · refine dar hT (by kernel_rfl) 4 rfl (v' := .int .i64 ((i - 1 : Nat) : Int)) (by rw [i64w (by omega)]; congr 1; omega) ?_
              refine dixs hT (by kernel_rfl) 0 (i - 1) rfl rfl (by omega) ?_
              refine dld hT (by kernel_rfl) 0 rfl (.inl rfl) (cellD x1 (by omega)) ?_
              refine dar hT (by kernel_rfl) 2 rfl (v' := .int .i64 ((j - 1 : Nat) : Int)) (by rw [i64w (by omega)]; congr 1; omega) ?_
              refine dixs hT (by kernel_rfl) 0 (j - 1) rfl rfl (by omega) ?_
              refine dld hT (by kernel_rfl) 0 rfl (.inl rfl) (cellD x2 (by omega)) ?_
              refine dcbS hT (by kernel_rfl) 0 (la.getD (i - 1) 0 = lb.getD (j - 1) 0) rfl (by simp; omega) fun b79 h79 => ?_
              exact dend hT (by kernel_rfl) 2 rfl (jx b79 (h79.trans ⟨fun h => ⟨by omega, by omega, h⟩, fun h => h.2.2⟩) ⟨rfl, rfl, rfl, rfl, rfl, rfl, rfl, rfl, rfl, trivial⟩ rfl rfl)
            · exact dend hT (by kernel_rfl) 15 rfl (jx false ⟨fun h => (by cases h), fun h => (by omega)⟩ ⟨rfl, rfl, rfl, rfl, rfl, rfl, rfl, rfl, rfl, trivial⟩ rfl rfl)
          · exact dend hT (by kernel_rfl) 18 rfl (jx false ⟨fun h => (by cases h), fun h => (by omega)⟩ ⟨rfl, rfl, rfl, rfl, rfl, rfl, rfl, rfl, rfl, trivial⟩ rfl rfl)
        · rintro t61 h61
          refine ifP h61 rfl (fun e8 => ?_) (fun e8 => ?_)
          · obtain ⟨e81, e82, e83⟩ := e8
            refine sq (rg (?_))
            refine ar hT 1 rfl (v' := .int .i64 ((i - 1 : Nat) : Int)) (by rw [i64w (by omega)]; congr 1; omega) ?_
            refine ar hT 1 rfl (v' := .int .i64 ((j - 1 : Nat) : Int)) (by rw [i64w (by omega)]; congr 1; omega) ?_
            refine fin hT 2 rfl (th (ex (xn rfl (je (xb ?_)))))
            refine again (x := ((i, j), (xs, hN, an, cn), (ps, hP, ap, cp))) ((i - 1, j - 1), (xs, hN, an, cn), (ps, hP, ap, cp)) ⟨rfl, rfl, rfl, rfl, rfl, rfl, rfl, trivial⟩ rfl rfl ⟨by dsimp only; omega, by dsimp only; omega, by dsimp only; omega, by dsimp only; omega, hsc, oX, oP, ?_⟩ (by dsimp only; omega)
            dsimp only
            obtain ⟨i', rfl⟩ : ∃ i', i = i' + 1 := ⟨i - 1, by omega⟩
            obtain ⟨j', rfl⟩ : ∃ j', j = j' + 1 := ⟨j - 1, by omega⟩
            rw [dd_succ, if_pos (by simpa using e83)] at hD
            simpa using hD
          · refine sq (rg (?_))
            refine cmpS hT 1 rfl fun b87 h87 => ?_
            refine' bja hT 1 3 91 [87, 88] h87 rfl rfl rfl rfl rfl rfl rfl (fun _ => ?x10) (fun b91 h91 => ?_)
            case x10 =>
              refine cmpS hT 1 rfl fun b90 h90 => ?_
              exact fin hT 1 rfl (bjx h90 rfl rfl rfl)
            refine' bja hT 1 13 105 [91, 92] h91 rfl rfl rfl rfl rfl rfl rfl (fun _ => ?x12) (fun b105 h105 => ?_)
            case x12 =>
              refine ar hT 2 rfl (v' := .int .i64 ((i - 1 : Nat) : Int)) (by rw [i64w (by omega)]; congr 1; omega) ?_
              refine ix1 hT 0 (i - 1) rfl rfl rfl xR (rowsV_get (by omega)) fun a96 hc96 => ?_
              refine ld hT 0 rfl (.inl rfl) hc96 ?_
              refine ar hT 1 rfl (v' := .int .i64 ((j - 1 : Nat) : Int)) (by rw [i64w (by omega)]; congr 1; omega) ?_
              refine ixs hT 0 (j - 1) rfl rfl (rowI hF.1 le8 (i := i - 1) (by omega)) (by omega) (by decide) fun a100 ha100 => ?_
              cases ha100
              refine ld hT 0 rfl (.inl rfl) (cellT hF le8 (by omega) (by omega)) ?_
              refine ar hT 1 rfl (i64w (x := ((dd la lb i j : Nat) : Int) - 1) (by have := dd_le la lb i j; omega)) ?_
              refine cmpS hT 0 rfl fun b104 h104 => ?_
              exact fin hT 1 rfl (bjx h104 rfl rfl rfl)
            refine fin hT 1 rfl (th (ifP h105 rfl (fun e14 => ?_) (fun e14 => ?_)))
            · obtain ⟨⟨e141, e142⟩, e143⟩ := e14
              refine sq (rg (?_))
              refine ar hT 2 rfl (v' := .int .i64 ((j - 1 : Nat) : Int)) (by rw [i64w (by omega)]; congr 1; omega) ?_
              refine ar hT 2 rfl (v' := .int .i64 ((i - 1 : Nat) : Int)) (by rw [i64w (by omega)]; congr 1; omega) ?_
              refine ixs hT 0 (i - 1) rfl rfl x1 (by omega) (by decide) fun a112 ha112 => ?_
              cases ha112
              refine ld hT 0 rfl (.inl rfl) (cellD x1 (by omega)) ?_
              obtain ⟨gx, offx, curx, rfl, rfl, q1, q2⟩ := oX.pts (by have := oX.2.1; omega)
              refine ixs hT 0 (j - 1) rfl rfl oX.isS (by omega) (by decide) fun a114 ha114 => ?_
              cases ha114
              simp only [add_mk, Nat.mul_one]
              have hcx := oX.2.1
              obtain ⟨ux, hux⟩ : ∃ u, curx[offx + (j - 1)]? = some u := ⟨_, Array.getElem?_eq_getElem (by omega)⟩
              refine stp hT 0 1 rfl rfl hux rfl ?_
              have oX' := oX.set1 (by simpa using q1) (by simpa using q2) (j - 1) (.int .i32 ((la.getD (i - 1) 0 : Nat) : Int))
              rw [show (rvv xs).set (j - 1) (.int .i32 ((la.getD (i - 1) 0 : Nat) : Int)) = rvv (xs.set (j - 1) (la.getD (i - 1) 0)) from by simp [rvv, List.map_set]] at oX'
              refine fin hT 0 rfl (th (rg (?_)))
              refine ar hT 1 rfl (v' := .int .i64 ((i - 1 : Nat) : Int)) (by rw [i64w (by omega)]; congr 1; omega) ?_
              refine ar hT 1 rfl (v' := .int .i64 ((j - 1 : Nat) : Int)) (by rw [i64w (by omega)]; congr 1; omega) ?_
              refine fin hT 2 rfl (bl ?_)
              have hxs : (xs.set (j - 1) (la.getD (i - 1) 0)).length = xs.length := List.length_set
              refine jx ((i - 1, j - 1), (xs.set (j - 1) (la.getD (i - 1) 0), _, _, cn)) ⟨by dsimp only; omega, by dsimp only; omega, by dsimp only; omega, by dsimp only; rw [hxs]; omega, by dsimp only; rw [hxs]; omega, ?_, by dsimp only; rw [hxs]; exact oX', by dsimp only; omega⟩ ⟨rfl, rfl, rfl, rfl, rfl, by dsimp only; rw [hxs]; rfl, rfl, trivial⟩ rfl rfl
              intro r hr
              rcases List.mem_or_eq_of_mem_set hr with h | h
              · exact hsc r h
              · rw [h]
                exact sca _ (by rw [List.getD_eq_getElem?_getD, List.getElem?_eq_getElem (show i - 1 < la.length by omega)]; simp)
            · refine sq (rg (?_))
              refine cmpS hT 1 rfl fun b121 h121 => ?_
              refine' bja hT 1 12 134 [121, 122] h121 rfl rfl rfl rfl rfl rfl rfl (fun _ => ?x16) (fun b134 h134 => ?_)
              case x16 =>
                refine ix1 hT 2 i rfl rfl rfl xR (rowsV_get (by omega)) fun a125 hc125 => ?_
                refine ld hT 0 rfl (.inl rfl) hc125 ?_
                refine ar hT 1 rfl (v' := .int .i64 ((j - 1 : Nat) : Int)) (by rw [i64w (by omega)]; congr 1; omega) ?_
                refine ixs hT 0 (j - 1) rfl rfl (rowI hF.1 le8 hi) (by omega) (by decide) fun a129 ha129 => ?_
                cases ha129
                refine ld hT 0 rfl (.inl rfl) (cellT hF le8 hi (by omega)) ?_
                refine ar hT 1 rfl (i64w (x := ((dd la lb i j : Nat) : Int) - 1) (by have := dd_le la lb i j; omega)) ?_
                refine cmpS hT 0 rfl fun b133 h133 => ?_
                exact fin hT 1 rfl (bjx h133 rfl rfl rfl)
              refine fin hT 1 rfl (th (ifP h134 rfl (fun e18 => ?_) (fun e18 => ?_)))
              · obtain ⟨e181, e182⟩ := e18
                refine sq (rg (?_))
                refine ar hT 2 rfl (v' := .int .i64 ((j - 1 : Nat) : Int)) (by rw [i64w (by omega)]; congr 1; omega) ?_
                refine WL.perm (List.Perm.swap hN hP hs) ?_
                refine cl hT 1 rfl (by have := deleteC (w0 := w0) (K := K34) (R := hP :: hs) an cn xs (j - 1) oX (by omega) (by omega); rw [show j - 1 + 1 = j from by omega] at this; exact this) ?_
                rintro v139 K139 hs139 ⟨rfl, hN', rfl, rfl, oX'⟩
                refine WL.perm (List.Perm.swap hP hN' hs) ?_
                refine fin hT 1 rfl (th (rg (?_)))
                refine ar hT 1 rfl (v' := .int .i64 ((j - 1 : Nat) : Int)) (by rw [i64w (by omega)]; congr 1; omega) ?_
                refine fin hT 1 rfl (bl ?_)
                have hlen : (xs.take (j - 1) ++ xs.drop j).length = j - 1 + (xs.length - j) := by simp; omega
                refine jx ((i, j - 1), (xs.take (j - 1) ++ xs.drop j, hN', an, cn)) ⟨by dsimp only; omega, by dsimp only; omega, by dsimp only; omega, by dsimp only; rw [hlen]; omega, by dsimp only; rw [hlen]; omega, ?_, by dsimp only; rw [hlen]; exact oX', by dsimp only; omega⟩ ⟨rfl, rfl, rfl, rfl, rfl, by dsimp only; rw [hlen]; rfl, rfl, trivial⟩ rfl rfl
                intro r hr
                rcases List.mem_append.1 hr with h | h
                · exact hsc r (List.mem_of_mem_take h)
                · exact hsc r (List.mem_of_mem_drop h)
              · obtain ⟨e19, e20⟩ := dd_ins (a := la) (b := lb) (i := i) (j := j) (by omega) e8 (fun h => e14 ⟨⟨by omega, by omega⟩, h.2.2⟩) (fun h => e18 ⟨by omega, h.2⟩)
                refine sq (rg (?_))
                refine ar hT 4 rfl (v' := .int .i64 ((i - 1 : Nat) : Int)) (by rw [i64w (by omega)]; congr 1; omega) ?_
                refine ixs hT 0 (i - 1) rfl rfl x1 (by omega) (by decide) fun a55 ha55 => ?_
                cases ha55
                refine ld hT 0 rfl (.inl rfl) (cellD x1 (by omega)) ?_
                refine lit hT 0 #[.int .i32 ((la.getD (i - 1) 0 : Nat) : Int)] rfl (by decide) (by kernel_rfl) fun b57 => ?_
                refine WL.perm (hs' := hN :: pt b57 #[.int .i32 ((la.getD (i - 1) 0 : Nat) : Int)] 21 :: hP :: hs) (((List.Perm.swap hN hP hs).cons _).trans (List.Perm.swap hN _ _)) ?_
                refine cl hT 0 rfl (insertC an cn xs j (la.getD (i - 1) 0) b57 oX (by omega) (by omega)) ?_
                rintro v58 K58 hs58 ⟨rfl, hN', an', cn', ys, rfl, rfl, hyl, hym, oX'⟩
                refine WL.perm (List.Perm.swap hP hN' hs) ?_
                refine fin hT 1 rfl (th (rg (?_)))
                refine ar hT 1 rfl (v' := .int .i64 ((i - 1 : Nat) : Int)) (by rw [i64w (by omega)]; congr 1; omega) ?_
                refine fin hT 1 rfl (bl ?_)
                refine jx ((i - 1, j), (ys, hN', an', cn')) ⟨by dsimp only; omega, by dsimp only; omega, by dsimp only; omega, by dsimp only; omega, by dsimp only; omega, ?_, oX', e20⟩ ⟨rfl, rfl, rfl, rfl, rfl, rfl, rfl, trivial⟩ rfl rfl
                intro r hr
                rcases hym r hr with h | h
                · rw [h]
                  exact sca _ (by rw [List.getD_eq_getElem?_getD, List.getElem?_eq_getElem (show i - 1 < la.length by omega)]; simp)
                · exact hsc r h
      · rintro ⟨⟨i', j'⟩, ⟨xs', hN', an', cn'⟩⟩ ⟨g0, g1, g2, g3, g4, g5, g6, g7⟩
        dsimp only at *
        refine sq (rg (?_))
        refine cl hT 1 rfl (textC an' cn' xs' (.inr ⟨1, rfl⟩) g6.isS g5 hG4 (by omega)) ?_
        rintro v144 K144 hs144 ⟨rfl, rfl, rfl⟩
        refine fin hT 5 rfl (th (rg (?_)))
        refine lit hT 2 #[str (textP xs')] rfl (by decide) (by kernel_rfl) fun b149 => ?_
        refine app hT 0 1 rfl rfl oP (.inr ⟨0, rfl⟩) (Own.ofPt (b := b149) (c := #[str (textP xs')]) (e := 9) (n := 1) (size := 1) rfl (by simp [maxLen])).isS rfl (by decide) (by intro u hu; exact svv_one [textP xs'] u hu) (by show (ps.length + 1) * 16 ≤ _; omega) (by simp only [maxLen]; omega) fun ao150 c150 g150 o150 => ?_
        refine fin hT 1 rfl (bl (WQ.drop ?_))
        refine again (x := ((i, j), (xs, hN, an, cn), (ps, hP, ap, cp))) ((i', j'), (xs', hN', an', cn'), (ps ++ [textP xs'], g150, ao150, c150)) ⟨rfl, rfl, rfl, rfl, rfl, rfl, by dsimp only; rw [List.length_append]; rfl, trivial⟩ rfl rfl ⟨g1, g2, g3, g4, g5, g6, ?_, ?_⟩ g0
        · have : svv ps ++ (#[str (textP xs')] : Array Value).toList = svv (ps ++ [textP xs']) := by simp [svv]
          rw [this] at o150
          simpa using o150
        · simp only [List.length_append, List.length_singleton]; omega
    · refine ex (xt (xt (xb (th (sq (rg (?_)))))))
      have hij : i = 0 ∧ j = 0 := by omega
      obtain ⟨rfl, rfl⟩ := hij
      rw [dd_zero] at hD
      obtain ⟨gp, offp, curp, rfl, rfl, p1, p2⟩ := oP.pts (by have := oP.2.1; omega)
      have hcp := oP.2.1
      refine cl hT 1 rfl (reverseC (R := hN :: hs) gp offp ps.length cp curp (by omega) (by omega) (by omega) (fun q v hq hv => by
        have h1 : (svv ps)[q]? = some v := by
          rw [← p2, List.getElem?_take_of_lt hq, List.getElem?_drop]
          simpa using hv
        exact svv_one ps v (List.mem_of_getElem? h1))) ?_
      rintro v152 K152 hs152 ⟨rfl, cur', rfl, _, _⟩
      refine fin hT 0 rfl (th (sq (rg (?_))))
      refine fin hT 3 rfl (th (rt (WQ.drop (WQ.drop (WQ.weak leK ?_)))))
      exact ret2 rfl rfl rfl ⟨rfl, rfl, _, _, by rw [hfar, show ps.length = dd la lb la.length lb.length + 1 from by omega]⟩
end Go.Proofs.YtlnhbilpkcfdlaaDoor
