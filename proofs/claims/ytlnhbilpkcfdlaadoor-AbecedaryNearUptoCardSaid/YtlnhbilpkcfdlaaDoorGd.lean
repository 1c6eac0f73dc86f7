/-
  Package pack: keys of a map, numbered.
  Package pack: Right, of a chain.
-/
import Derived.Test.YtlnhbilpkcfdlaaDoorGa
import Derived.Test.YtlnhbilpkcfdlaaDoorVa
import Derived.Test.YtlnhbilpkcfdlaaDoorEs
set_option linter.unusedSimpArgs false
set_option linter.unusedVariables false
namespace Go.En
set_option linter.unusedVariables false
/-- which states were seen -/
def seenA (n k : Nat) : Array Value := ((List.range n).map fun j => Value.bool (decide (j < k))).toArray
theorem seenA_size (n k : Nat) : (seenA n k).size = n := by simp [seenA]
theorem seenA_get {n k j : Nat} (h : j < n) : (seenA n k)[j]? = some (.bool (decide (j < k))) := by simp [seenA, h]
theorem seenA_0 (n : Nat) : Array.replicate n (Value.bool false) = seenA n 0 := by
  apply Array.ext_getElem?
  intro j
  by_cases h : j < n
  · rw [seenA_get h]; simp [h]
  · rw [Array.getElem?_eq_none (by simp; omega), Array.getElem?_eq_none (by rw [seenA_size]; omega)]
theorem seenA_set {n k : Nat} (h : k < n) : (seenA n k).setIfInBounds k (.bool true) = seenA n (k + 1) := by
  apply Array.ext_getElem?
  intro j
  rw [Array.getElem?_setIfInBounds]
  by_cases e : k = j
  · subst e
    rw [if_pos rfl, if_pos (by rw [seenA_size]; exact h), seenA_get h]; simp
  · rw [if_neg e]
    by_cases hj : j < n
    · rw [seenA_get hj, seenA_get hj]
      have : decide (j < k) = decide (j < k + 1) := by rw [decide_eq_decide]; omega
      rw [this]
    · rw [Array.getElem?_eq_none (by rw [seenA_size]; omega), Array.getElem?_eq_none (by rw [seenA_size]; omega)]
end Go.En
namespace Go.Proofs.YtlnhbilpkcfdlaaDoor
open Go.En
set_option linter.unusedVariables false
attribute [local irreducible] Code.wp wpList Calls

theorem eqKey (a b : Int × Int × Int × Int) (w : World) : (Op.equal 116 (keyG a) (keyG b)).run Tryd.prog w = .ok (decide (a = b)) w := by
  obtain ⟨i, hi⟩ := info_of_underlying (P := Tryd.prog) Tryd.underlying3
  obtain ⟨a1, a2, a3, a4⟩ := a
  obtain ⟨b1, b2, b3, b4⟩ := b
  have qu3 := Tryd.underlying3
  have qa3 := Tryd.isAgg3
  have qz3 := Tryd.sizeOf3
  unfold Op.equal Op.maxDepth keyG
  rw [show (10000 : Nat) = 9999 + 1 from rfl, run_equalIn_array w 9999 _ _ Tryd.underlying116 hi, show Tryd.prog.cellsOf 3 = 1 from by kernel_rfl]
  simp only [show List.range 4 = [0, 1, 2, 3] from rfl, Op.eqItems]
  go_simp
  by_cases h1 : a1 = b1 <;> by_cases h2 : a2 = b2 <;> by_cases h3 : a3 = b3 <;> by_cases h4 : a4 = b4 <;> simp [h1, h2, h3, h4]
theorem keyOK4 : KeyOK Tryd.prog 116 keyG :=
  KeyOK.ofAgg Tryd.underlying116 (fun a b => rfl) eqKey (fun e k w => by unfold keyG; kernel_rfl) (fun k => by simp [keyG, Instr.sameBits])

def nFn (b1 b4 b5 b3 : Nat) : Value := .func (.func 51) #[] #[.pointer (some ⟨b1, 0, none⟩), .pointer (some ⟨b4, 0, none⟩), .pointer (some ⟨b5, 0, none⟩), .pointer (some ⟨b3, 0, none⟩)]
def VisN (w0 : World) (K : PH) (hs : List PH) (w : List Nat) (b1 b3 b4 b5 bS : Nat) (r : List Nat) : Prop :=
  Ct Tryd.prog w0 51 [.int .i64 ((r.length : Nat) : Int), .pointer (some ⟨b1, 0, none⟩), .pointer (some ⟨b4, 0, none⟩), .pointer (some ⟨b5, 0, none⟩), .pointer (some ⟨b3, 0, none⟩)] K
      (pt b3 #[.int .i64 0] 3 :: pt bS (seenA (chn w).length 0) 4 :: hs)
      (fun v K' hs' => K' = K ∧ hs' = pt b3 #[.int .i64 ((r.length + 1 : Nat) : Int)] 3 :: pt bS (seenA (chn w).length (r.length + 1)) 4 :: hs ∧ v = .bool true)
theorem visitNS {w0 : World} {K : PH} {hs : List PH} (w : List Nat) (aoS : Option Addr) (cS b1 b3 b4 b5 bS : Nat) (hS : SlS 3 (stR K) K aoS (chn w).length cS (chn w)) (h1 : Cell K ⟨b1, 1, none⟩ (.slice aoS (chn w).length cS))
    (h4 : Cell K ⟨b4, 0, none⟩ (.slice (some ⟨bS, 0, none⟩) (chn w).length (chn w).length)) (h5 : Cell K ⟨b5, 0, none⟩ (nFn b1 b4 b5 b3)) (hn : w.length ≤ 100000)
    (r p : List Nat) (hw : w = p ++ r) (ih : ∀ c r', r = c :: r' → VisN w0 K hs w b1 b3 b4 b5 bS r') : VisN w0 K hs w b1 b3 b4 b5 bS r := by
  have hlen := chn_len w
  have hwl : w.length = p.length + r.length := by rw [hw]; simp
  have hget : (chn w)[r.length]? = some (topS r) := by rw [hw]; exact chn_get p r
  obtain ⟨ad, rfl⟩ := hS.addr (by omega) (by decide)
  obtain ⟨vs, xv⟩ := hS.isS
  obtain ⟨cs, ⟨aoA, nA, cA, rfl, xA⟩, hcl, hcell⟩ := hS.cells hget
  obtain rfl := xA.len
  have hA1 := topS_arcs r
  refine enter Tryd.func51 (by kernel_rfl) rfl rfl rfl ?_
  refine sq (rg (?_))
  refine fin hT 1 rfl (th (sq (sq (rg (?_)))))
  refine ld hT 1 rfl (.inl rfl) h1 ?_
  refine ixs hT 1 r.length rfl rfl xv (by omega) (by decide) fun a12 ha => ?_
  cases ha
  refine ld hT 1 rfl (.inl rfl) (hcell 2 _ rfl) ?_
  refine fin hT 2 rfl (th (bk (?_)))
  refine loop (σ := Nat) (fun j => [(0, .int .i64 ((r.length : Nat) : Int)), (1, .pointer (some ⟨b1, 0, none⟩)), (2, .pointer (some ⟨b4, 0, none⟩)), (3, .pointer (some ⟨b5, 0, none⟩)), (4, .pointer (some ⟨b3, 0, none⟩)), (14, .slice aoA (topS r).arcs.length cA), (15, .int .i64 (((topS r).arcs.length : Nat) : Int)), (16, .int .i64 ((j : Nat) : Int))]) (fun _ => K)
    (fun j => pt b3 #[.int .i64 (((if j = 0 then 0 else r.length) : Nat) : Int)] 3 :: pt bS (seenA (chn w).length (if j = 0 then 0 else r.length)) 4 :: hs) (fun j => j ≤ (topS r).arcs.length) (fun j => (topS r).arcs.length - j) 0 (Nat.zero_le _) ⟨rfl, rfl, rfl, rfl, rfl, rfl, rfl, rfl, trivial⟩ rfl rfl ?_
  intro j hj
  refine sq (rg (?_))
  refine cmpS hT 0 rfl fun b17 h17 => ?_
  refine fin hT 0 rfl (th (sq (ifP h17 rfl (fun e2 => ?_) (fun e2 => ?_))))
  · have hjl : j < (topS r).arcs.length := by omega
    obtain rfl : j = 0 := by omega
    cases r with
    | nil => simp [topS] at hjl
    | cons c r =>
      have hc := ih c r rfl
      obtain ⟨adA, rfl⟩ := xA.addr (by omega) (by decide)
      obtain ⟨vsA, xvA⟩ := xA.isS
      obtain ⟨csA, hcs, hclA, hcellA⟩ := xA.cells (i := 0) (x := ⟨(c : Int), 0, (r.length : Int)⟩) rfl
      obtain rfl := hcs
      have xs := (Own.ofPt (b := bS) (c := seenA (chn w).length 0) (e := 4) (n := (chn w).length) (size := 1) (by rw [seenA_size]; omega) (by unfold maxLen; omega)).isS
      simp only [List.length_cons] at hwl
      refine sk (th (sq (bk (sq (rg (?_))))))
      refine ixs hT 0 0 rfl rfl xvA hjl (by decide) fun a18 ha => ?_
      cases ha
      refine lds hT 0 (arcV ⟨(c : Int), 0, (r.length : Int)⟩) rfl (by kernel_rfl) (.inl rfl) hcellA ?_
      refine al hT 0 (.agg #[.int .i32 0, .int .i64 0, .int .i64 0]) rfl (by kernel_rfl) fun b8 => ?_
      refine stS hT 0 0 rfl rfl (by kernel_rfl) rfl rfl ?_
      refine fin hT 0 rfl (th (sq (rg (?_))))
      refine ld hT 0 rfl (.inl rfl) h4 ?_
      refine ldp hT 1 0 rfl rfl rfl ?_
      refine ix1 hT 0 r.length rfl rfl rfl xs (by rw [Array.getElem?_toList]; exact seenA_get (by omega)) fun a23 hc23 => ?_
      refine ld hT 0 rfl (.inr ⟨2, rfl⟩) hc23 ?_
      rw [show decide (r.length < 0) = false from by simp]
      refine ld hT 2 rfl (.inl rfl) h5 ?_
      refine ldp hT 1 0 rfl rfl rfl ?_
      refine WL.drop ?_
      refine cl hT 0 rfl hc ?_
      rintro v30 K30 hs30 ⟨rfl, rfl, rfl⟩
      refine fin hT 2 rfl (th (ifF rfl ?_))
      refine sk (bl (th (rg (?_))))
      refine ar hT 0 rfl (i64w (x := ((0 + 1 : Nat) : Int)) (by omega)) ?_
      refine fin hT 1 rfl (?_)
      exact again (x := 0) 1 ⟨rfl, rfl, rfl, rfl, rfl, rfl, rfl, rfl, trivial⟩ rfl rfl hjl (by omega)
  · have hjr : (if j = 0 then 0 else r.length) = r.length := by
      split
      · cases r with
        | nil => rfl
        | cons c r => simp [topS] at e2; omega
      · rfl
    rw [hjr]
    have xs := (Own.ofPt (b := bS) (c := seenA (chn w).length r.length) (e := 4) (n := (chn w).length) (size := 1) (by rw [seenA_size]; omega) (by unfold maxLen; omega)).isS
    refine ex (xt (xt (xb (th (sq (rg (?_)))))))
    refine ld hT 0 rfl (.inl rfl) h4 ?_
    refine ixs hT 1 r.length rfl rfl xs (by omega) (by decide) fun a36 ha => ?_
    cases ha
    simp only [add_mk, Nat.zero_add, Nat.mul_one]
    refine stp hT 0 1 rfl rfl (seenA_get (by omega)) rfl ?_
    refine fin hT 0 rfl (th (sq (rg (?_))))
    refine ldp hT 0 0 rfl rfl rfl ?_
    refine ar hT 0 rfl (i64w (by omega)) ?_
    refine stp hT 0 0 rfl rfl rfl rfl ?_
    refine fin hT 0 rfl (th (sq (rg (?_))))
    refine ldp hT 0 0 rfl rfl rfl ?_
    refine ar hT 1 rfl (i64w (by omega)) ?_
    refine cmp hT 0 rfl (fun h42 => ?_) (fun h42 => absurd rfl h42)
    refine fin hT 1 rfl (th (rt (?_)))
    exact ret1 rfl rfl ⟨rfl, by rw [seenA_set (by omega)]; rfl, rfl⟩

theorem visitNC {w0 : World} {K : PH} {hs : List PH} (w : List Nat) (aoS : Option Addr) (cS b1 b3 b4 b5 bS : Nat) (hS : SlS 3 (stR K) K aoS (chn w).length cS (chn w)) (h1 : Cell K ⟨b1, 1, none⟩ (.slice aoS (chn w).length cS))
    (h4 : Cell K ⟨b4, 0, none⟩ (.slice (some ⟨bS, 0, none⟩) (chn w).length (chn w).length)) (h5 : Cell K ⟨b5, 0, none⟩ (nFn b1 b4 b5 b3)) (hn : w.length ≤ 100000) :
    ∀ (r p : List Nat), w = p ++ r → VisN w0 K hs w b1 b3 b4 b5 bS r
  | [], p, hw => visitNS w aoS cS b1 b3 b4 b5 bS hS h1 h4 h5 hn [] p hw (fun c r' e => by cases e)
  | c :: r, p, hw => visitNS w aoS cS b1 b3 b4 b5 bS hS h1 h4 h5 hn (c :: r) p hw (fun c' r' e => by
      cases e
      exact visitNC w aoS cS b1 b3 b4 b5 bS hS h1 h4 h5 hn r (p ++ [c]) (by rw [hw]; simp))
theorem stS_le {K K' : PH} (l : Le K K') {ao : Option Addr} {n c : Nat} {xs : List StP} (h : SlS 3 (stR K) K ao n c xs) : SlS 3 (stR K') K' ao n c xs :=
  h.le l fun _ _ ⟨a, m, d, h1, h2⟩ => ⟨a, m, d, h1, h2.le l fun _ _ h => h⟩
theorem numberedC {w0 : World} {K : PH} {hs : List PH} (w : List Nat) (base : Int) (aoS : Option Addr) (cS : Nat) (hS : SlS 3 (stR K) K aoS (chn w).length cS (chn w)) (hn : w.length ≤ 100000) :
    Ct Tryd.prog w0 47 [.agg #[.int .i64 base, .slice aoS (chn w).length cS]] K hs (fun v K' hs' => K' = K ∧ hs' = hs ∧ v = .bool true) := by
  have hlen := chn_len w
  refine enter Tryd.func47 (by kernel_rfl) rfl rfl rfl ?_
  refine sq (rg (?_))
  refine bx hT 0 rfl fun b1 => ?_
  refine fin hT 1 rfl (th (sq (rg (?_))))
  refine al hT 0 (.int .i64 0) rfl (by kernel_rfl) fun b3 => ?_
  refine stp hT 0 0 rfl rfl rfl rfl ?_
  refine fin hT 0 rfl (th (sq (rg (?_))))
  refine ldp hT 1 1 rfl rfl rfl ?_
  refine mks hT 1 (chn w).length (.bool false) rfl rfl rfl rfl (by show (chn w).length * 1 ≤ 2 ^ 47; omega) (by omega) (by omega) (by decide) fun bS oS => ?_
  rw [seenA_0]
  refine al hT 0 (.slice none 0 0) rfl (by kernel_rfl) fun b4 => ?_
  refine stp hT 0 0 rfl rfl rfl rfl ?_
  refine fin hT 0 rfl (th (sq (rg (?_))))
  refine al hT 0 (.nilFunc) rfl (by kernel_rfl) fun b5 => ?_
  refine fin hT 0 rfl (th (sq (rg (?_))))
  refine stp hT 1 0 rfl rfl rfl rfl ?_
  refine fin hT 0 rfl (th (WC.frz fun K1 le1 l5 => WC.frz fun K2 le2 l4 => WC.perm (perm_front _ 2 _ rfl) (WC.frz fun K3 le3 l1 => WC.perm (List.Perm.swap _ _ _) (sq (rg (?_))))))
  have c1 : Cell K3 ⟨b1, 1, none⟩ (.slice aoS (chn w).length cS) := (Cell.pt rfl).le l1
  have c4 : Cell K3 ⟨b4, 0, none⟩ (.slice (some ⟨bS, 0, none⟩) (chn w).length (chn w).length) := ((Cell.pt rfl).le l4).le le3
  have c5 : Cell K3 ⟨b5, 0, none⟩ (nFn b1 b4 b5 b3) := (((Cell.pt rfl).le l5).le le2).le le3
  have hS3 : SlS 3 (stR K3) K3 aoS (chn w).length cS (chn w) := stS_le (le1.trans (le2.trans le3)) hS
  refine ld hT 0 rfl (.inl rfl) c5 ?_
  refine ld hT 1 rfl (.inl rfl) c1 ?_
  refine ar hT 1 rfl (v' := .int .i64 ((w.length : Nat) : Int)) (by rw [show (((chn w).length : Nat) : Int) - 1 = ((w.length : Nat) : Int) from by omega]; exact i64w (by omega)) ?_
  refine cl hT 0 rfl (visitNC w aoS cS b1 b3 b4 b5 bS hS3 c1 c4 c5 hn w [] rfl) ?_
  rintro v16 K16 hs16 ⟨rfl, rfl, rfl⟩
  refine ldp hT 1 0 rfl rfl rfl ?_
  refine ld hT 1 rfl (.inl rfl) c1 ?_
  refine cmp hT 1 rfl (fun h22 => ?_) (fun h22 => absurd (by rw [hlen]) h22)
  refine fin hT 2 rfl (th (rt (WQ.drop (WQ.drop (WQ.weak (le1.trans (le2.trans le3)) ?_)))))
  exact ret1 rfl rfl ⟨rfl, rfl, rfl⟩
end Go.Proofs.YtlnhbilpkcfdlaaDoor
namespace Go.En
open Go.Proofs.YtlnhbilpkcfdlaaDoor
set_option linter.unusedVariables false
/-- the sums known so far -/
def chnT (n j : Nat) : List SmP := (List.range n).map fun i : Nat => if i < j then ⟨1, (i : Int), 0⟩ else ⟨0, 0, 0⟩
theorem chnT_len (n j : Nat) : (chnT n j).length = n := by simp [chnT]
theorem chnT_get {n j i : Nat} (h : i < n) : (chnT n j)[i]? = some (if i < j then ⟨1, (i : Int), 0⟩ else ⟨0, 0, 0⟩) := by simp [chnT, h]
theorem chnT_set {n j : Nat} (h : j < n) : (chnT n j).set j ⟨1, (j : Int), 0⟩ = chnT n (j + 1) := by
  apply List.ext_getElem?
  intro i
  rw [List.getElem?_set]
  by_cases e : j = i
  · subst e
    rw [if_pos rfl, if_pos (by rw [chnT_len]; exact h), chnT_get h, if_pos (Nat.lt_succ_self j)]
  · rw [if_neg e]
    by_cases hi : i < n
    · rw [chnT_get hi, chnT_get hi]
      by_cases h2 : i < j
      · rw [if_pos h2, if_pos (by omega)]
      · rw [if_neg h2, if_neg (by omega)]
    · rw [List.getElem?_eq_none (by rw [chnT_len]; omega), List.getElem?_eq_none (by rw [chnT_len]; omega)]
theorem bd1 {i : Nat} (h : i ≤ 24) : smBd ⟨1, (i : Int), 0⟩ := by unfold smBd; dsimp only; omega
theorem bd0 : smBd ⟨0, 0, 0⟩ := by unfold smBd; decide
theorem bdt (r : List Nat) : smBd (sm0 (topS r)) := by cases r <;> simp [smBd, sm0, topS]
theorem chnT_bd {n j : Nat} (hn : n ≤ 25) : ∀ y ∈ chnT n j, smBd y := by
  intro y hy
  obtain ⟨i, hi, rfl⟩ := List.mem_map.1 hy
  rw [List.mem_range] at hi
  split
  · exact bd1 (by omega)
  · exact bd0
theorem smS_tops {n : Nat} (r : List Nat) (h : r.length < n) : smS (chnT n r.length) (topS r) = ⟨1, (r.length : Int), 0⟩ := by
  cases r with
  | nil => rfl
  | cons c r =>
    simp only [List.length_cons] at h
    have h2 : (chnT n (r.length + 1)).getD r.length ⟨0, 0, 0⟩ = ⟨1, (r.length : Int), 0⟩ := by
      rw [List.getD_eq_getElem?_getD, chnT_get (by omega), if_pos (by omega)]; rfl
    have h3 : (0 : Int) < (r.length : Int) + 1 := by omega
    simp only [List.length_cons, smS, topS, smA, sm0, List.foldl_cons, List.foldl_nil, Int.toNat_natCast, h2, maxG]
    simp [h3]
theorem smP_tops {n : Nat} (r : List Nat) (h : r.length < n) (hn : n ≤ 25) : ∀ j, j ≤ (topS r).arcs.length → smBd (((topS r).arcs.take j).foldl (smA (chnT n r.length)) (sm0 (topS r))) := by
  intro j hj
  have h1 := topS_arcs r
  have hz : smBd (sm0 (topS r)) := bdt r
  by_cases e : j = 0
  · subst e; exact hz
  · have e2 : (topS r).arcs.take j = (topS r).arcs := List.take_of_length_le (by omega)
    rw [e2]
    have := smS_tops r h
    unfold smS at this
    rw [this]
    exact bd1 (by omega)
/-- the cells of the sums -/
def smC (xs : List SmP) : Array Value := (xs.map smV).flatten.toArray
theorem smC_ok (xs : List SmP) : ∀ d ∈ xs.map smV, d.length = 3 := by
  intro d hd
  obtain ⟨x, _, rfl⟩ := List.mem_map.1 hd
  rfl
theorem smC_size (xs : List SmP) : (smC xs).size = xs.length * 3 := by
  unfold smC
  rw [List.size_toArray, flat_len (smC_ok xs), List.length_map]
theorem smC_al : ∀ xs : List SmP, Al2 smR (xs.map smV) xs
  | [] => trivial
  | x :: xs => ⟨rfl, smC_al xs⟩
theorem smC_slO {b e : Nat} (xs : List SmP) (h : xs.length ≤ 1000) : SlO 3 e smR (pt b (smC xs) e) (some ⟨b, 0, none⟩) xs.length xs.length xs :=
  ⟨xs.map smV, rfl, by simpa [smC] using Own.ofPt (b := b) (c := smC xs) (e := e) (n := xs.length) (size := 3) (smC_size xs) (by unfold maxLen; omega), smC_al xs, smC_ok xs⟩
theorem smC_set {xs : List SmP} {j : Nat} (hj : j < xs.length) (x : SmP) : ((smC xs).toList.take (j * 3) ++ (smV x).toArray.toList ++ (smC xs).toList.drop (j * 3 + (smV x).toArray.toList.length)).toArray = smC (xs.set j x) := by
  have := flat_set (smC_ok xs) (i := j) (by simpa using hj) (v := smV x) rfl
  unfold smC
  simp only [this, List.map_set]
theorem keyP_ne {c : Nat} {r r' : List Nat} (h : keyP (topS r) = keyP (topS r')) : r.length = r'.length := by
  cases r with
  | nil => cases r' with
    | nil => rfl
    | cons c' r' => simp [keyP, topS] at h
  | cons c r => cases r' with
    | nil => simp [keyP, topS] at h
    | cons c' r' =>
      simp [keyP, topS, k3P] at h
      simp only [List.length_cons]; omega
end Go.En
namespace Go.Proofs.YtlnhbilpkcfdlaaDoor
open Go.En
set_option linter.unusedVariables false
attribute [local irreducible] Code.wp wpList Calls
theorem rightC {w0 : World} {K : PH} {hs : List PH} (w : List Nat) (base : Int) (aoS : Option Addr) (cS : Nat) (hS : SlS 3 (stR K) K aoS (chn w).length cS (chn w)) (hb : 1 ≤ base ∧ base ≤ 1048576) (hw : LtW w) (h1 : 1 ≤ w.length) (h24 : w.length ≤ 24) (hG : LeastK K) :
    Ct Tryd.prog w0 28 [.agg #[.int .i64 base, .slice aoS (chn w).length cS]] K hs (fun v K' hs' => K' = K ∧ hs' = hs ∧ v = .bool true) := by
  have hlen := chn_len w
  obtain ⟨ad, rfl⟩ := hS.addr (by omega) (by decide)
  obtain ⟨vs, xv⟩ := hS.isS
  refine enter Tryd.func28 (by kernel_rfl) rfl rfl rfl ?_
  refine sq (rg (?_))
  refine bx hT 0 rfl fun b1 => ?_
  refine fin hT 1 rfl (th (scp (sq (sq (rg (?_))))))
  refine ldp hT 1 0 rfl rfl rfl ?_
  refine cmp hT 1 rfl (fun h2 => absurd h2 (by omega)) (fun h2 => ?_)
  refine fin hT 0 rfl (th (ifF rfl (sk (th (sq (rg (?_)))))))
  refine ldp hT 1 0 rfl rfl rfl ?_
  refine ar hT 1 rfl (v' := .int .i64 ((w.length : Nat) : Int)) (by rw [show (((chn w).length : Nat) : Int) - 1 = ((w.length : Nat) : Int) from by omega]; exact i64w (by omega)) ?_
  refine fin hT 1 rfl (th (sq (sq (rg (?_)))))
  refine ldp hT 1 0 rfl rfl rfl ?_
  refine cmp hT 0 rfl (fun h2 => absurd h2 (by omega)) (fun h2 => ?_)
  refine ldp hT 2 0 rfl rfl rfl ?_
  refine cmp hT 0 rfl (fun h3 => absurd h3 (by omega)) (fun h3 => ?_)
  refine cmp hT 3 rfl (fun h4 => absurd h4 (by omega)) (fun h4 => ?_)
  refine ldp hT 3 0 rfl rfl rfl ?_
  refine ixs hT 1 w.length rfl rfl xv (by omega) (by decide) fun a39 ha => ?_
  cases ha
  obtain ⟨csT, ⟨aoA, nA, cA, rfl, xA⟩, hcl, hcell⟩ := hS.cells (i := w.length) (x := topS w) (by have := chn_get [] w; simpa using this)
  refine ld hT 1 rfl (.inl rfl) (hcell 0 _ rfl) ?_
  rw [show (topS w).fin = false from by cases w with
    | nil => simp at h1
    | cons c r => rfl]
  refine fin hT 1 rfl (th (ifF rfl (sk (th (sq (rg (?_)))))))
  refine ldp hT 1 0 rfl rfl rfl ?_
  refine mksG hT 1 (chn w).length #[.int .i64 0, .int .i64 0, .int .i64 0] rfl rfl rfl (by kernel_rfl) rfl (by decide) (by show (chn w).length * 24 ≤ 2 ^ 47; omega) (by omega) (by omega) (by decide) fun bO => ?_
  rw [show (List.replicate (chn w).length (#[Value.int .i64 0, .int .i64 0, .int .i64 0] : Array Value).toList).flatten.toArray = smC (chnT (chn w).length 0) from by
    unfold smC chnT
    congr 2
    apply List.ext_getElem?
    intro i
    by_cases h : i < (chn w).length
    · simp [h, smV]
    · simp [h]]
  refine fin hT 1 rfl (th (sq (rg (?_))))
  refine mkm hT 0 rfl fun bm => ?_
  refine fin hT 1 rfl (th (sq (lab (th (sq (sq (rg (?_))))))))
  refine ldp hT 1 2 rfl rfl rfl ?_
  refine fin hT 2 rfl (th (bk (?_)))
  refine loop (σ := Nat × PH × List ((Int × Int × Int × Int) × Value)) (fun x => [(1, .pointer (some ⟨b1, 0, none⟩)), (2, .bool false), (3, .int .i64 ((w.length : Nat) : Int)), (4, .slice (some ⟨bO, 0, none⟩) (chn w).length (chn w).length), (5, .map (some bm)), (49, .slice (some ad) (chn w).length cS), (50, .int .i64 (((chn w).length : Nat) : Int)), (51, .int .i64 ((x.1 : Nat) : Int))]) (fun _ => K)
    (fun x => x.2.1 :: pt bO (smC (chnT (chn w).length x.1)) 113 :: pt b1 #[.int .i64 base, .slice (some ad) (chn w).length cS] 43 :: hs)
    (fun x => x.1 ≤ (chn w).length ∧ MpO keyG id x.2.1 bm x.2.2 ∧ ∀ k ∈ x.2.2.map (·.1), ∃ r' : List Nat, r'.length < x.1 ∧ k = keyP (topS r')) (fun x => (chn w).length - x.1) (0, _, []) ⟨Nat.zero_le _, MpO.empty bm 0, by simp⟩ ⟨rfl, rfl, rfl, rfl, rfl, rfl, rfl, rfl, trivial⟩ rfl rfl ?_
  rintro ⟨j, hm, m⟩ ⟨hj, hM, hkeys⟩
  dsimp only at *
  refine sq (rg (?_))
  refine cmpS hT 0 rfl fun b52 h52 => ?_
  refine fin hT 0 rfl (th (sq (ifP h52 rfl (fun e7 => ?_) (fun e7 => ?_))))
  · have hjl : j < (chn w).length := by omega
    obtain ⟨p, r, hwr, rfl, hget⟩ := chn_at hjl
    have hfm : SFm r.length (topS r) := topS_fm (fun c hc => hw c (by rw [hwr]; simp [hc]))
    have hA1 := topS_arcs r
    obtain ⟨cs, ⟨ao7, n7, c7, rfl, x7⟩, hcl7, hcell7⟩ := hS.cells hget
    obtain rfl := x7.len
    have xO := smC_slO (b := bO) (e := 113) (chnT (chn w).length r.length) (by rw [chnT_len]; omega)
    have xOS := xO.slS
    rw [chnT_len] at xOS
    obtain ⟨vO, xvO⟩ := xOS.isS
    have hno : mget (keyP (topS r)) m = none := by
      rw [mget_none]
      intro hc
      obtain ⟨r', h5, h6⟩ := hkeys _ hc
      have := keyP_ne (c := 0) h6
      omega
    refine sk (th (sq (bk (sq (rg (?_))))))
    refine ixs hT 1 r.length rfl rfl xv hjl (by decide) fun a54 ha => ?_
    cases ha
    refine lds hT 0 (stV (topS r) ao7 (topS r).arcs.length c7) rfl (by kernel_rfl) (.inl rfl) hcell7 ?_
    refine al hT 0 (.agg #[.bool false, .int .i64 0, .slice none 0 0]) rfl (by kernel_rfl) fun b7 => ?_
    refine stS hT 1 0 rfl rfl (by kernel_rfl) rfl rfl ?_
    refine fin hT 0 rfl (th (sq (rg (?_))))
    refine ldS hT 0 0 rfl rfl (by kernel_rfl) ?_
    refine cl hT 1 rfl (formedC r.length (topS r) ao7 (topS r).arcs.length c7 hfm x7 hG (by omega)) ?_
    rintro v58 K58 hs58 ⟨rfl, rfl, rfl⟩
    refine fin hT 1 rfl (th (sq (sq (rg (?_)))))
    refine fin hT 1 rfl (th (ifT rfl ?_))
    refine rg (?_)
    refine ldS hT 2 0 rfl rfl (by kernel_rfl) ?_
    refine cl hT 1 rfl (sumC (topS r) ao7 (topS r).arcs.length c7 (some ⟨bO, 0, none⟩) (chn w).length (chn w).length (chnT (chn w).length r.length) x7 (.inr ⟨2, rfl⟩) xOS (fun a ha => by have := (hfm.arc a ha).to; have := (hfm.arc a ha).out; rw [chnT_len]; omega) (chnT_bd (by omega)) (smP_tops r hjl (by omega)) (by omega)) ?_
    rintro v65 K65 hs65 ⟨rfl, rfl, rfl⟩
    refine ixs hT 3 r.length rfl rfl xvO hjl (by decide) fun a68 ha => ?_
    cases ha
    simp only [add_mk, Nat.zero_add]
    refine sts hT 0 2 rfl rfl (by kernel_rfl) (by rw [smC_size, chnT_len]; show r.length * 3 + 3 ≤ _; omega) (fun v hv => by simp [smV] at hv; rcases hv with rfl | rfl | rfl <;> rfl) ?_
    rw [smC_set (j := r.length) (by rw [chnT_len]; exact hjl), smS_tops r hjl, chnT_set hjl]
    refine fin hT 1 rfl (th (sq (sq (rg (?_)))))
    refine fin hT 2 rfl (th (ifF rfl ?_))
    refine sk (th (sq (rg (?_))))
    refine ldS hT 0 0 rfl rfl (by kernel_rfl) ?_
    refine cl hT 0 rfl (keyC (topS r) ao7 (topS r).arcs.length c7 x7 hA1 (fun a ha => by have h8 := (hfm.arc a ha).to; have h9 := (hfm.arc a ha).out; have h10 := (hfm.arc a ha).lb; have h11 := h10.2.2.1; omega)) ?_
    rintro v72 K72 hs72 ⟨rfl, rfl, rfl⟩
    refine al hT 0 (.agg #[.int .i64 0, .int .i64 0, .int .i64 0, .int .i64 0]) rfl (by kernel_rfl) fun b9 => ?_
    refine stS hT 0 0 rfl rfl (by kernel_rfl) rfl rfl ?_
    refine fin hT 0 rfl (th (sq (sq (rg (?_)))))
    refine ldS hT 1 0 rfl rfl (by kernel_rfl) ?_
    refine lku hT 0 (z := .slice none 0 0) (keyP (topS r)) rfl Tryd.underlying110 (by kernel_rfl) keyOK4 rfl (.inr ⟨2, rfl⟩) hM ?_
    rw [hno]
    refine fin hT 2 rfl (th (bk (?_)))
    refine loop (σ := Unit) (fun _ => [(1, .pointer (some ⟨b1, 0, none⟩)), (2, .bool false), (3, .int .i64 ((w.length : Nat) : Int)), (4, .slice (some ⟨bO, 0, none⟩) (chn w).length (chn w).length), (5, .map (some bm)), (6, .int .i64 ((r.length : Nat) : Int)), (9, .pointer (some ⟨b9, 0, none⟩)), (49, .slice (some ad) (chn w).length cS), (50, .int .i64 (((chn w).length : Nat) : Int)), (51, .int .i64 ((r.length : Nat) : Int)), (76, .int .i64 0), (77, .int .i64 0)]) (fun _ => K72)
      (fun _ => pt b9 #[.int .i64 (keyP (topS r)).1, .int .i64 (keyP (topS r)).2.1, .int .i64 (keyP (topS r)).2.2.1, .int .i64 (keyP (topS r)).2.2.2] 116 :: pt b7 (stV (topS r) ao7 (topS r).arcs.length c7).toArray 88 :: hm :: pt bO (smC (chnT (chn w).length (r.length + 1))) 113 :: pt b1 #[.int .i64 base, .slice (some ad) (chn w).length cS] 43 :: hs) (fun _ => True) (fun _ => 0) () trivial ⟨rfl, rfl, rfl, rfl, rfl, rfl, rfl, rfl, rfl, rfl, rfl, rfl, trivial⟩ rfl rfl ?_
    rintro - -
    refine sq (rg (?_))
    refine cmp hT 0 rfl (fun h => absurd h (by decide)) (fun _ => ?_)
    refine fin hT 0 rfl (th (sq (ifF rfl (?_))))
    refine ex (xt (xt (xb (th (rg (?_))))))
    refine ldS hT 1 0 rfl rfl (by kernel_rfl) ?_
    refine lit hT 1 #[.int .i64 ((r.length : Nat) : Int)] rfl (by decide) (by kernel_rfl) fun b93 => ?_
    refine mpe hT 0 3 (z := .slice none 0 0) (keyP (topS r)) rfl rfl Tryd.underlying110 (by kernel_rfl) keyOK4 rfl hM hno fun hm2 cc hE => ?_
    refine WL.em ?_
    refine app hT 1 0 rfl rfl (Own.nil _ _) (.inr ⟨1, rfl⟩) (Own.ofPt (b := b93) (c := #[.int .i64 ((r.length : Nat) : Int)]) (e := 3) (n := 1) (size := 1) rfl (by simp [maxLen])).isS rfl (by decide) (fun u hu => by simp at hu; subst hu; rfl) (by decide) (by simp [maxLen]) fun ao95 c95 g95 o95 => ?_
    refine ets hT 1 4 rfl rfl rfl hE fun hm3 hM3 => ?_
    refine fin hT 0 rfl (bl (th (rg (WL.drop (WL.drop (WL.drop (WL.drop ?_)))))))
    refine ar hT 0 rfl (i64w (x := ((r.length + 1 : Nat) : Int)) (by omega)) ?_
    refine fin hT 1 rfl (?_)
    refine again (x := (r.length, hm, m)) (r.length + 1, hm3, m ++ [(keyP (topS r), .slice ao95 (0 + 1) c95)]) ⟨rfl, rfl, rfl, rfl, rfl, rfl, rfl, rfl, trivial⟩ rfl rfl ⟨by dsimp only; omega, hM3, ?_⟩ (by (try dsimp only); omega)
    dsimp only
    intro k hk
    rw [List.map_append, List.mem_append] at hk
    rcases hk with hk | hk
    · obtain ⟨r', h5, h6⟩ := hkeys k hk
      exact ⟨r', by omega, h6⟩
    · simp at hk
      exact ⟨r, by omega, hk⟩
  · obtain rfl : j = (chn w).length := by omega
    have hws : chnT (chn w).length (chn w).length = chnT (chn w).length (w.length + 1) := by rw [hlen]
    have hcell2 : (smC (chnT (chn w).length (chn w).length))[w.length * 3 + 2]? = some (.int .i64 0) := by
      have h20 : (chnT (chn w).length (chn w).length)[w.length]? = some ⟨1, (w.length : Int), 0⟩ := by rw [chnT_get (by omega), if_pos (by omega)]
      have := flat_get (smC_ok (chnT (chn w).length (chn w).length)) (i := w.length) (c := smV ⟨1, (w.length : Int), 0⟩) (by rw [List.getElem?_map, h20]; rfl) 2 (.int .i64 0) rfl
      simpa [smC] using this
    refine ex (xt (xt (xb (th (sq (rga [pt bO (smC (chnT (chn w).length (chn w).length)) 113, pt b1 #[.int .i64 base, .slice (some ad) (chn w).length cS] 43] 18 [0, 2, 4, 6, 8, 10, 12, 14, 16, 18, 20, 22, 24, 26, 28, 31, 32, 34] (by simp) (by kernel_rfl) (by kernel_rfl) ?_))))))
    refine dcb hT (by kernel_rfl) 1 rfl (fun h13 => ?_) (fun h13 => absurd h13 (by simp))
    refine dldp hT (by kernel_rfl) 2 1 rfl rfl rfl ?_
    refine dixs hT (by kernel_rfl) 2 w.length rfl rfl (by omega) ?_
    simp only [add_mk, Nat.zero_add]
    refine dldp hT (by kernel_rfl) 1 0 rfl rfl (v := .int .i64 0) hcell2 ?_
    refine dar hT (by kernel_rfl) 0 rfl (i64w (x := base + 0) (by omega)) ?_
    refine dcmp hT (by kernel_rfl) 0 (base + 0 ≤ 1048576) rfl (by simp) (fun h14 => ?_) (fun h14 => absurd (by omega) h14)
    refine dldS hT (by kernel_rfl) 2 1 rfl (by kernel_rfl) rfl (by kernel_rfl) ?_
    refine dact hT (by kernel_rfl) 0 rfl ?_
    refine cl hT 0 rfl (numberedC w base (some ad) cS hS (by omega)) ?_
    rintro v113 K113 hs113 ⟨rfl, rfl, rfl⟩
    refine dnex [pt bO (smC (chnT (chn w).length (chn w).length)) 113, pt b1 #[.int .i64 base, .slice (some ad) (chn w).length cS] 43] (by simp) (by simp) rfl ?_
    refine dend hT (by kernel_rfl) 2 rfl (th (rt (ngR (WQ.drop (WQ.drop (WQ.drop ?_))))))
    exact ret1 rfl rfl ⟨rfl, rfl, rfl⟩
end Go.Proofs.YtlnhbilpkcfdlaaDoor
