/-
  Package fst: Build of a dictionary's pairs.
  Plain words: states are told apart by their links.
  Plain words: what a machine's states say; the machine that is built says the dictionary, and is as it must be.
-/
import Derived.Test.YtlnhbilpkcfdlaaDoorFa
import Derived.Test.YtlnhbilpkcfdlaaDoorLp
import Derived.Test.YtlnhbilpkcfdlaaDoorPa
set_option linter.unusedSimpArgs false
set_option linter.unusedVariables false
namespace Go.En
set_option linter.unusedVariables false
structure PairP where
  word : List UInt8
  w : Int
deriving DecidableEq
def pairV (p : PairP) : List Value := [str p.word, .int .i64 p.w]
def pairR (c : List Value) (p : PairP) : Prop := c = pairV p
def restP (p : PairP) : RstP := ⟨rl p.word, p.w⟩
structure RightD (l : List PairP) : Prop where
  few : l.length ≤ 4096
  one : ∀ p ∈ l, wordP p.word ∧ 1 ≤ p.w ∧ p.w ≤ 1048576
  ord : l.Pairwise fun a b => Op.bytesLess a.word b.word = true
def bld0 : Bld := ⟨[], [], []⟩
def buildP (l : List PairP) : Int × List StP := if l = [] then (0, []) else (leastP (l.map restP), (stateP 25 bld0 (l.map restP)).1.sts)
/-! texts' order is the runes' -/
theorem bl_cons (a b : UInt8) (x y : List UInt8) : Op.bytesLess (a :: x) (b :: y) = (decide (a < b) || (a == b && Op.bytesLess x y)) := rfl
theorem bl_same : ∀ (p x y : List UInt8), Op.bytesLess (p ++ x) (p ++ y) = Op.bytesLess x y
  | [], x, y => rfl
  | a :: p, x, y => by simp [bl_cons, bl_same p x y, UInt8.lt_irrefl]
theorem by8_lt {a b : Nat} (ha : a < 256) (hb : b < 256) : (by8 a < by8 b) ↔ a < b := by
  rw [UInt8.lt_iff_toNat_lt]
  simp only [by8, UInt8.toNat_ofNat']
  omega
theorem by8_eqi {a b : Nat} (ha : a < 256) (hb : b < 256) : (by8 a = by8 b) ↔ a = b := by
  constructor
  · intro h
    have := congrArg UInt8.toNat h
    simp only [by8, UInt8.toNat_ofNat'] at this
    omega
  · rintro rfl; rfl
theorem wr_lt {r s : Nat} (h : r < s) (hs : s ≤ 1114111) (x y : List UInt8) : Op.bytesLess (wr r ++ x) (wr s ++ y) = true ∧ ¬ Op.bytesLess (wr s ++ y) (wr r ++ x) = true := by
  unfold wr
  repeat' split
  all_goals first
    | (exfalso; omega)
    | (simp only [List.cons_append, List.nil_append, bl_cons, Bool.or_eq_true, Bool.and_eq_true, decide_eq_true_eq, beq_iff_eq]
       repeat (rw [by8_lt (by omega) (by omega)])
       repeat (rw [by8_eqi (by omega) (by omega)])
       constructor <;> omega)
theorem wr_ne (r : Nat) : wr r ≠ [] := by
  unfold wr
  repeat' split
  all_goals simp
theorem text_lt : ∀ (l m : List Nat), (∀ r ∈ l, scalarP r) → (∀ r ∈ m, scalarP r) → Op.bytesLess (textP l) (textP m) = true → ltR l m
  | [], [], _, _, h => by simp [textP, Op.bytesLess] at h
  | [], _ :: _, _, _, _ => trivial
  | r :: l, [], _, _, h => by
    simp only [textP] at h
    cases e : wr r ++ textP l with
    | nil => simp [wr_ne] at e
    | cons a t => rw [e] at h; simp [Op.bytesLess] at h
  | r :: l, s :: m, hl, hm, h => by
    simp only [textP] at h
    have h1 := hl r (by simp)
    have h2 := hm s (by simp)
    rcases Nat.lt_trichotomy r s with g | g | g
    · exact .inl g
    · subst g
      rw [bl_same] at h
      exact .inr ⟨rfl, text_lt l m (fun x hx => hl x (by simp [hx])) (fun x hx => hm x (by simp [hx])) h⟩
    · exact absurd h (wr_lt g h1.1 _ _).2
theorem wsome {s : List UInt8} (h : wordP s) : runesP s = some (rl s) := by
  obtain ⟨_, h1, _⟩ := h
  unfold rl
  cases hh : runesP s with
  | none => rw [hh] at h1; cases h1
  | some l => rfl
theorem word_lt {a b : List UInt8} (ha : wordP a) (hb : wordP b) (h : Op.bytesLess a b = true) : ltR (rl a) (rl b) := by
  have ea := runesP_text (wsome ha)
  have eb := runesP_text (wsome hb)
  exact text_lt _ _ ea.2.1 eb.2.1 (by rw [ea.1, eb.1]; exact h)
theorem RightD.ok {l : List PairP} (h : RightD l) : OkR 24 (l.map restP) := by
  refine ⟨?_, ?_, ?_⟩
  · refine List.pairwise_map.2 (List.Pairwise.imp_of_mem ?_ h.ord)
    intro a b ha hb hab
    exact word_lt (h.one a ha).1 (h.one b hb).1 hab
  · intro r hr
    obtain ⟨p, hp, rfl⟩ := List.mem_map.1 hr
    exact (h.one p hp).1.2.2.2.2
  · intro r hr
    obtain ⟨p, hp, rfl⟩ := List.mem_map.1 hr
    have := (h.one p hp).2
    show 0 ≤ p.w ∧ p.w ≤ 1073741824
    omega
theorem RightD.tot {l : List PairP} (h : RightD l) : totR (l.map restP) ≤ 24 * l.length := by
  have key : ∀ l : List PairP, (∀ p ∈ l, wordP p.word) → totR (l.map restP) ≤ 24 * l.length := by
    intro l
    induction l with
    | nil => intro _; simp [totR]
    | cons p l ih =>
      intro h
      have h1 := ih (fun x hx => h x (by simp [hx]))
      have h2 := (h p (by simp)).2.2.2.2
      simp only [totR, List.map_cons, List.sum_cons, List.length_cons, restP] at h1 ⊢
      omega
  exact key l fun p hp => (h.one p hp).1
end Go.En
namespace Go.Proofs.YtlnhbilpkcfdlaaDoor
open Go.En
set_option linter.unusedVariables false
attribute [local irreducible] Code.wp wpList Calls

theorem lessC {w0 : World} {K : PH} {hs : List PH} (a b : List UInt8) : Ct Tryd.prog w0 25 [str a, str b] K hs (fun v K' hs' => K' = K ∧ hs' = hs ∧ v = .bool (Op.bytesLess a b)) := by
  refine enter Tryd.func25 (by kernel_rfl) rfl rfl rfl ?_
  refine sq (rg (?_))
  refine fin hT 1 rfl (th (sq (rg (?_))))
  refine opv hT 2 rfl (v := .bool (Op.bytesLess a b)) (fun A w ha => ?_) ?_
  · have e1 := ha.ev (x := .tmp 5) (v := str a) rfl
    have e2 := ha.ev (x := .tmp 6) (v := str b) rfl
    simp [execOp, e1, e2, str, eqGuard, binOp, Op.stringOp, ByteArray.toList_eq]
  refine fin hT 1 rfl (th (rt (?_)))
  exact ret1 rfl rfl ⟨rfl, rfl, rfl⟩
theorem RightD.run {l : List PairP} (h : RightD l) {i : Nat} (hi : i < l.length) (hi0 : 0 < i) : Op.bytesLess (l[i - 1]'(by omega)).word (l[i]).word = true :=
  (List.pairwise_iff_getElem.1 h.ord) (i - 1) i (by omega) hi (by omega)
set_option maxHeartbeats 1000000 in
theorem buildC {w0 : World} {K : PH} {hs : List PH} (ao : Option Addr) (n c : Nat) (l : List PairP) (x : SlS 2 pairR K ao n c l) (hr : RightD l) (hG : LeastK K) :
    Ct Tryd.prog w0 13 [.slice ao n c] K hs (fun v K' hs' => hs' = hs ∧ Le K K' ∧ ∃ aoS cS, v = .tuple #[.agg #[.int .i64 (buildP l).1, .slice aoS (buildP l).2.length cS], .int .i64 0] ∧ SlS 3 (stR K') K' aoS (buildP l).2.length cS (buildP l).2) := by
  obtain rfl := x.len
  have hfew := hr.few
  refine enter Tryd.func13 (by kernel_rfl) rfl rfl rfl ?_
  refine sq (rg (?_))
  refine al hT 0 (.agg #[.int .i64 0, .slice none 0 0]) rfl (by kernel_rfl) fun b2 => ?_
  refine fin hT 1 rfl (th (sq (sq (rg (?_)))))
  refine cmpS hT 2 rfl fun b12 h12 => ?_
  refine fin hT 0 rfl (th (ifP h12 rfl (fun e2 => absurd e2 (by omega)) (fun e2 => ?_)))
  refine sk (th (sq (rg (?_))))
  refine fin hT 1 rfl (th (sq (sq (rg (?_)))))
  refine fin hT 3 rfl (th (bk (WC.em ?_)))
  refine loop (σ := Nat × PH × PH × Option Addr × Nat) (fun s => [(0, .slice ao l.length c), (2, .pointer (some ⟨b2, 0, none⟩)), (3, .int .i64 0), (4, .slice s.2.2.2.1 s.1 s.2.2.2.2), (14, .slice ao l.length c), (15, .int .i64 ((l.length : Nat) : Int)), (16, .int .i64 ((s.1 : Nat) : Int))]) (fun s => s.2.1)
    (fun s => s.2.2.1 :: pt b2 #[.int .i64 0, .slice none 0 0] 43 :: hs) (fun s => s.1 ≤ l.length ∧ Le K s.2.1 ∧ SlO 2 76 (rstR s.2.1) s.2.2.1 s.2.2.2.1 s.1 s.2.2.2.2 ((l.take s.1).map restP)) (fun s => l.length - s.1) (0, K, em, none, 0) ⟨Nat.zero_le _, Le.refl _, SlO.nil _ _⟩ ⟨rfl, rfl, rfl, rfl, rfl, rfl, rfl, trivial⟩ rfl rfl ?_
  rintro ⟨i, K1, gA, aoA, cA⟩ ⟨hi, le1, oA⟩
  dsimp only at *
  have x1 : SlS 2 pairR K1 ao l.length c l := x.le le1 fun _ _ h => h
  refine sq (rg (?_))
  refine cmpS hT 0 rfl fun b17 h17 => ?_
  refine fin hT 0 rfl (th (sq (ifP h17 rfl (fun e4 => ?_) (fun e4 => ?_))))
  · have hil : i < l.length := by omega
    obtain ⟨p, hp⟩ : ∃ p, p = l[i] := ⟨_, rfl⟩
    have hpm : p ∈ l := by rw [hp]; exact List.getElem_mem hil
    obtain ⟨hw, hw1, hw2⟩ := hr.one p hpm
    obtain ⟨a, rfl⟩ := x1.addr (by omega) (by decide)
    obtain ⟨vs, xv⟩ := x1.isS
    obtain ⟨ci, hci, hli, hcell⟩ := x1.cells (i := i) (x := p) (by rw [List.getElem?_eq_getElem hil, hp])
    obtain rfl := hci
    refine sk (th (sq (bk (sq (rg (?_))))))
    refine ixs hT 1 i rfl rfl xv hil (by decide) fun a19 ha => ?_
    cases ha
    refine lds hT 0 (pairV p) rfl (by kernel_rfl) (.inl rfl) hcell ?_
    refine al hT 0 (.agg #[.string ⟨#[]⟩, .int .i64 0]) rfl (by kernel_rfl) fun b6 => ?_
    refine stS hT 1 0 rfl rfl (by kernel_rfl) rfl rfl ?_
    refine fin hT 0 rfl (th (sq (rg (?_))))
    refine ldp hT 1 0 rfl rfl rfl ?_
    refine cl hT 0 rfl (runesC p.word (fun j hj => (hG j hj).le le1) (by have := hw.1; omega)) ?_
    rintro v24 K24 hs24 ⟨rfl, hR, aoR, cR, rfl, rfl, oR⟩
    rw [wsome hw] at oR ⊢
    simp only [Option.getD_some, Option.isSome_some] at oR ⊢
    refine fin hT 5 rfl (th (WC.frz fun K2 le2 le3 => jn (σ := Unit) (fun s => [(0, .slice (some a) l.length c), (2, .pointer (some ⟨b2, 0, none⟩)), (3, .int .i64 0), (4, .slice aoA i cA), (6, .pointer (some ⟨b6, 0, none⟩)), (7, .slice aoR (rl p.word).length cR), (14, .slice (some a) l.length c), (15, .int .i64 ((l.length : Nat) : Int)), (16, .int .i64 ((i : Nat) : Int))]) (fun _ => pt b6 (pairV p).toArray 47 :: gA :: pt b2 #[.int .i64 0, .slice none 0 0] 43 :: hs) (fun _ => True) ?_ ?_))
    · refine bk (sq (rg (?_)))
      refine ldp hT 1 0 rfl rfl rfl ?_
      refine cl hT 0 rfl (wordC p.word (fun j hj => (hG j hj).le (le1.trans le2))) ?_
      rintro v30 K30 hs30 ⟨rfl, rfl, t30, rfl, h30⟩
      refine cbS hT 0 _ rfl (bnot h30) fun b31 h31 => ?_
      refine fin hT 1 rfl (th (ifP h31 rfl (fun e5 => absurd hw e5) (fun e5 => ?_)))
      refine sq (rg (?_))
      refine ldp hT 1 0 rfl rfl rfl ?_
      refine cmpS hT 0 rfl fun b36 h36 => ?_
      refine' bjo hT 1 4 41 [36, 37] h36 rfl rfl rfl rfl rfl rfl rfl (fun _ => ?x7) (fun b41 h41 => ?_)
      case x7 =>
        refine ldp hT 1 0 rfl rfl rfl ?_
        refine cmpS hT 0 rfl fun b40 h40 => ?_
        exact fin hT 1 rfl (bjx h40 rfl rfl rfl)
      refine fin hT 1 rfl (th (ifP h41 rfl (fun e9 => absurd e9 (by omega)) (fun e9 => ?_)))
      refine sq (rga [pt b6 (pairV p).toArray 47] 15 [0, 2, 4, 6, 8, 10, 12, 14, 16, 18, 20, 23, 24, 26, 28] (by simp) (by kernel_rfl) (by kernel_rfl) ?_)
      refine dcmp hT (by kernel_rfl) 1 ((0 : Int) < ((i : Nat) : Int)) rfl (by simp) (fun h10 => ?_) (fun h10 => ?_)
      · obtain ⟨cj, hcj, hlj, hcellj⟩ := x1.cells (i := i - 1) (x := l[i - 1]'(by omega)) (List.getElem?_eq_getElem _)
        obtain rfl := hcj
        refine dar hT (by kernel_rfl) 3 rfl (v' := .int .i64 ((i - 1 : Nat) : Int)) (by rw [i64w (by omega)]; congr 1; omega) ?_
        refine dixs hT (by kernel_rfl) 0 (i - 1) rfl rfl (by omega) ?_
        refine dld hT (by kernel_rfl) 1 rfl (.inl rfl) ((hcellj 0 _ rfl).le le2) ?_
        refine dldp hT (by kernel_rfl) 1 0 rfl rfl rfl ?_
        refine dact hT (by kernel_rfl) 0 rfl ?_
        refine cl hT 0 rfl (lessC (l[i - 1]'(by omega)).word p.word) ?_
        rintro v55 K55 hs55 ⟨rfl, rfl, rfl⟩
        rw [hp, RightD.run hr hil (by omega)]
        refine dnex [pt b6 (pairV l[i]).toArray 47] (by simp) (by simp) rfl ?_
        refine dend hT (by kernel_rfl) 3 rfl (th (ifF rfl (sk (bl (?_)))))
        exact jx () trivial ⟨rfl, rfl, rfl, rfl, rfl, rfl, rfl, rfl, rfl, trivial⟩ rfl rfl
      · refine dact hT (by kernel_rfl) 9 rfl ?_
        refine WL.pures hT 1 rfl ?_
        refine dnex [pt b6 (pairV p).toArray 47] (by simp) (by simp) rfl ?_
        refine dend hT (by kernel_rfl) 3 rfl (th (ifF rfl (sk (bl (?_)))))
        exact jx () trivial ⟨rfl, rfl, rfl, rfl, rfl, rfl, rfl, rfl, rfl, trivial⟩ rfl rfl
    · rintro - -
      refine rg (?_)
      refine ldp hT 3 0 rfl rfl rfl ?_
      refine bd hT 0 (.agg (rstV (restP p) aoR (rl p.word).length cR).toArray) rfl (fun w => by kernel_rfl) ?_
      refine lit hT 0 (rstV (restP p) aoR (rl p.word).length cR).toArray rfl (by decide) (by kernel_rfl) fun b64 => ?_
      refine appS hT 0 2 (rstV (restP p) aoR (rl p.word).length cR) (restP p) rfl rfl rfl (oA.imp fun _ _ h => h.le le2) ⟨aoR, cR, rfl, oR.isS.le le3⟩ rfl (by simp [rstV, Value.oneCell']) rfl (by decide) (by show _ * 32 ≤ _; omega) (by simp only [maxLen]; omega) fun ao65 c65 g65 o65 => ?_
      refine fin hT 1 rfl (bl (th (rg (?_))))
      refine ar hT 0 rfl (i64w (x := ((i + 1 : Nat) : Int)) (by omega)) ?_
      refine fin hT 1 rfl (WQ.drop (WQ.drop ?_))
      refine again (x := (i, K24, gA, aoA, cA)) (i + 1, K2, g65, ao65, c65) ⟨rfl, rfl, rfl, rfl, rfl, rfl, rfl, trivial⟩ rfl rfl ⟨hil, le1.trans le2, ?_⟩ (by dsimp only; omega)
      dsimp only
      rw [List.take_add_one, List.getElem?_eq_getElem hil, ← hp, List.map_append]
      exact o65
  · obtain rfl : i = l.length := by omega
    rw [List.take_of_length_le (Nat.le_refl _)] at oA
    refine ex (xt (xt (xb (th (sq (sq (rg (?_))))))))
    refine cmpS hT 2 rfl fun b69 h69 => ?_
    refine fin hT 0 rfl (th (ifP h69 rfl (fun e13 => ?_) (fun e13 => ?_)))
    · obtain rfl : l = [] := List.eq_nil_of_length_eq_zero (by omega)
      refine sq (rg (?_))
      refine bd hT 0 (.agg #[.int .i64 0, .slice none 0 0]) rfl (fun w => by kernel_rfl) ?_
      refine stS hT 0 1 rfl rfl (by kernel_rfl) rfl rfl ?_
      refine fin hT 1 rfl (th (rt (rT (?_))))
      exact retcP 1 2 rfl rfl rfl rfl (by kernel_rfl) ⟨rfl, le1, none, 0, rfl, SlS.nil 3 _ none 0⟩
    · have hne : l ≠ [] := fun e => e13 (by simp [e])
      have hok := hr.ok
      have htot := hr.tot
      refine sk (th (WC.frz fun K2 le2 le3 => sq (rg (?_))))
      refine mkm hT 0 rfl fun b71 => ?_
      refine mkm hT 0 rfl fun b72 => ?_
      refine bd hT 0 (.agg #[.slice none 0 0, .map (some b71), .map (some b72)]) rfl (fun w => by kernel_rfl) ?_
      refine bx hT 0 rfl fun b74 => ?_
      refine fin hT 1 rfl (th (sq (rg (?_))))
      have xA : SlS 2 (rstR K2) K2 aoA l.length cA (l.map restP) := oA.slS.le le3 fun _ _ h => h.le le2
      refine WL.em ?_
      refine WL.perm (hs' := bldL b74 b71 b72 none 0 0 (sg b71 (.map #[] 0)) (sg b72 (.map #[] 0)) em ++ pt b2 #[.int .i64 0, .slice none 0 0] 43 :: hs) ((List.Perm.swap _ _ _).trans (List.Perm.cons _ ((List.reverse_perm [_, _, _]).symm.append_right (_ :: hs)))) ?_
      refine WL.join (bldL b74 b71 b72 none 0 0 (sg b71 (.map #[] 0)) (sg b72 (.map #[] 0)) em) fun d => ?_
      refine cl hT 2 rfl (stateC 24 b74 bld0 aoA l.length cA (l.map restP) ⟨b71, b72, _, _, em, none, 0, 0, rfl, d, MpO.empty _ _, MpO.empty _ _, SlO.nil _ _⟩ xA hok (by simpa using hne) (by simp; omega) (by simp only [bld0, List.length_nil]; omega)) ?_
      rintro v77 K77 hs77 ⟨h2, rfl, le4, y2, rfl⟩
      obtain ⟨lm, bm, hL, hB, gS, aoS, nS, cS, rfl, d2, q3, q4, q5⟩ := y2
      obtain rfl := q5.len
      refine fin hT 0 rfl (th (WC.split d2 (sq (rga [pt b74 #[.slice aoS (stateP 25 bld0 (l.map restP)).1.sts.length cS, .map (some lm), .map (some bm)] 81] 7 [0, 4, 6, 8, 10, 3, 12, 15, 16] (by simp [bldL]) (by kernel_rfl) (by kernel_rfl) ?_))))
      refine dldpw hT (by kernel_rfl) 4 0 rfl (by kernel_rfl) rfl rfl ?_
      refine dact hT (by kernel_rfl) 0 rfl ?_
      refine cl hT 0 rfl (leastC aoA l.length cA (l.map restP) (.inl rfl) (xA.le le4 fun _ _ h => h.le le4) (by simpa using hne) (by simp; omega)) ?_
      rintro v79 K79 hs79 ⟨rfl, rfl, rfl⟩
      refine dnex [pt b74 #[.slice aoS (stateP 25 bld0 (l.map restP)).1.sts.length cS, .map (some lm), .map (some bm)] 81] (by simp [bldL]) (by simp) rfl ?_
      refine dbd hT (by kernel_rfl) 0 (.agg #[.int .i64 (leastP (l.map restP)), .slice aoS (stateP 25 bld0 (l.map restP)).1.sts.length cS]) rfl (fun w => by kernel_rfl) ?_
      refine dact hT (by kernel_rfl) 0 rfl ?_
      refine stS hT 0 4 rfl rfl (by kernel_rfl) rfl rfl ?_
      refine dnext (.inl (by kernel_rfl)) ?_
      refine dend hT (by kernel_rfl) 1 rfl (th (rt (?_)))
      refine WQ.perm (perm_front _ 3 _ rfl) (WQ.frz fun K4 le5 le6 => ?_)
      refine retcP 3 4 rfl rfl rfl rfl (by kernel_rfl) ⟨rfl, le1.trans (le2.trans (le4.trans le5)), aoS, cS, ?_, ?_⟩
      · rw [buildP, if_neg hne]
      · rw [buildP, if_neg hne]
        exact q5.slS.le le6 fun _ _ h => h.le le5
end Go.Proofs.YtlnhbilpkcfdlaaDoor
namespace Go.En
set_option linter.unusedVariables false
theorem w64_in {n : Int} (h : -9223372036854775808 ≤ n ∧ n ≤ 9223372036854775807) : w64 n = n := IntWalk.i64_in _ h
/-- the links' list: each has its place for a number, none comes twice, each names an earlier one -/
structure LI (L : List (LkP × Int)) : Prop where
  num : ∀ (i : Nat) k n, L[i]? = some (k, n) → n = (i : Int)
  nodup : (L.map (·.1)).Nodup
  nx : ∀ (i : Nat) k n, L[i]? = some (k, n) → 0 ≤ k.nx ∧ k.nx ≤ (i : Int)
theorem LI.nil : LI [] := ⟨by simp, by simp, by simp⟩
theorem mget_idx {κ ν : Type} [DecidableEq κ] {k : κ} {v : ν} : ∀ {m : List (κ × ν)}, mget k m = some v → ∃ i : Nat, m[i]? = some (k, v)
  | [], h => by simp [mget] at h
  | (k', v') :: m, h => by
    simp only [mget] at h
    split at h
    · rename_i e; subst e; simp only [Option.some.injEq] at h; subst h; exact ⟨0, rfl⟩
    · obtain ⟨i, hi⟩ := mget_idx h; exact ⟨i + 1, by simpa using hi⟩
theorem mset_new {κ ν : Type} [DecidableEq κ] {k : κ} {v : ν} : ∀ {m : List (κ × ν)}, mget k m = none → mset k v m = m ++ [(k, v)]
  | [], _ => rfl
  | (k', v') :: m, h => by
    simp only [mget] at h
    split at h
    · cases h
    · rename_i e; simp [mset, e, mset_new h]
theorem knownP_spec {L : List (LkP × Int)} (h : LI L) {k : LkP} (hk : 0 ≤ k.nx ∧ k.nx ≤ (L.length : Int)) :
    LI (knownP L k).1 ∧ (∃ t, (knownP L k).1 = L ++ t ∧ t.length ≤ 1) ∧ ∃ i : Nat, (knownP L k).2 = (i : Int) ∧ (knownP L k).1[i]? = some (k, (i : Int)) := by
  unfold knownP
  cases hg : mget k L with
  | some n =>
    obtain ⟨i, hi⟩ := mget_idx hg
    have := h.num i k n hi
    subst this
    exact ⟨h, ⟨[], by simp, by simp⟩, i, rfl, hi⟩
  | none =>
    simp only
    rw [mset_new hg]
    refine ⟨⟨?_, ?_, ?_⟩, ⟨[(k, (L.length : Int))], rfl, by simp⟩, L.length, rfl, by simp⟩
    · intro i k' n hi
      rcases Nat.lt_trichotomy i L.length with g | g | g
      · rw [List.getElem?_append_left g] at hi; exact h.num i k' n hi
      · subst g; simp at hi; exact hi.2.symm
      · rw [List.getElem?_eq_none (by simp; omega)] at hi; cases hi
    · rw [List.map_append, List.nodup_append]
      refine ⟨h.nodup, by simp, ?_⟩
      intro a ha b hb e
      simp only [List.map_cons, List.map_nil, List.mem_singleton] at hb
      subst hb e
      exact mget_none.1 hg ha
    · intro i k' n hi
      rcases Nat.lt_trichotomy i L.length with g | g | g
      · rw [List.getElem?_append_left g] at hi; exact h.nx i k' n hi
      · subst g; simp at hi; obtain ⟨rfl, _⟩ := hi; exact hk
      · rw [List.getElem?_eq_none (by simp; omega)] at hi; cases hi
/-- what a link's number stands for -/
inductive Dec (L : List (LkP × Int)) : Nat → StP → Prop
  | base {v : Nat} {f : Bool} {o : Int} (h : L[v]? = some (⟨f, o, 0, 0, -1, 0⟩, (v : Int))) : Dec L v ⟨f, o, []⟩
  | step {v u : Nat} {f : Bool} {o : Int} {a : ArcP} {l : List ArcP} (h : L[v]? = some (⟨false, 0, a.lb, a.out, a.to, (u : Int) + 1⟩, (v : Int))) (ht : 0 ≤ a.to) (hd : Dec L u ⟨f, o, l⟩) : Dec L v ⟨f, o, a :: l⟩
theorem Dec.mono {L t : List (LkP × Int)} {v : Nat} {s : StP} (h : Dec L v s) : Dec (L ++ t) v s := by
  induction h with
  | base h => exact .base (by rw [List.getElem?_append_left (List.getElem?_eq_some_iff.1 h).1]; exact h)
  | step h ht _ ih => exact .step (by rw [List.getElem?_append_left (List.getElem?_eq_some_iff.1 h).1]; exact h) ht ih
theorem Dec.inj {L : List (LkP × Int)} (hL : LI L) {v u : Nat} {s : StP} (h : Dec L v s) (g : Dec L u s) : v = u := by
  have key : ∀ (i j : Nat) k m n, L[i]? = some (k, m) → L[j]? = some (k, n) → i = j := by
    intro i j k m n hi hj
    have h1 : (L.map (·.1))[i]? = some k := by simp [hi]
    have h2 : (L.map (·.1))[j]? = some k := by simp [hj]
    exact (List.getElem?_inj (List.getElem?_eq_some_iff.1 h1).1 hL.nodup).1 (h1.trans h2.symm)
  induction h generalizing u with
  | base h => cases g with | base g => exact key _ _ _ _ _ h g
  | step h ht hd ih =>
    cases g with
    | step g gt gd =>
      have := ih gd
      subst this
      exact key _ _ _ _ _ h g
theorem Dec.fn {L : List (LkP × Int)} {v : Nat} {s t : StP} (h : Dec L v s) (g : Dec L v t) : s = t := by
  induction h generalizing t with
  | base h =>
    cases g with
    | base g => rw [h] at g; cases g; rfl
    | step g gt gd => rw [h] at g; simp only [Option.some.injEq, Prod.mk.injEq, LkP.mk.injEq] at g; omega
  | step h ht hd ih =>
    cases g with
    | base g => rw [h] at g; simp only [Option.some.injEq, Prod.mk.injEq, LkP.mk.injEq] at g; omega
    | step g gt gd =>
      rename_i v u f o a l u' f' o' a' l'
      rw [h] at g
      simp only [Option.some.injEq, Prod.mk.injEq, LkP.mk.injEq, true_and] at g
      obtain ⟨⟨e1, e2, e3, e4⟩, _⟩ := g
      have : u = u' := by omega
      subst this
      have := ih gd
      simp only [StP.mk.injEq] at this
      obtain ⟨rfl, rfl, rfl⟩ := this
      cases a; cases a'; simp_all
def ArcOK (a : ArcP) : Prop := 0 ≤ a.to ∧ 0 ≤ a.lb ∧ a.lb ≤ 2147483647
theorem chS_fold {L : List (LkP × Int)} {f : Bool} {o : Int} : ∀ (r l : List ArcP) (v : Nat), LI L → L.length + r.length ≤ 1152921504606846976 → (∀ a ∈ r, ArcOK a) → Dec L v ⟨f, o, l⟩ →
    LI (r.foldl chS (L, (v : Int))).1 ∧ (∃ t, (r.foldl chS (L, (v : Int))).1 = L ++ t ∧ t.length ≤ r.length) ∧ ∃ i : Nat, (r.foldl chS (L, (v : Int))).2 = (i : Int) ∧ Dec (r.foldl chS (L, (v : Int))).1 i ⟨f, o, r.reverse ++ l⟩
  | [], l, v, hL, _, _, hd => ⟨hL, ⟨[], by simp, by simp⟩, v, rfl, by simpa using hd⟩
  | a :: r, l, v, hL, hb, ha, hd => by
    have hv : v < L.length := by cases hd with | base h => exact (List.getElem?_eq_some_iff.1 h).1 | step h _ _ => exact (List.getElem?_eq_some_iff.1 h).1
    have h1 := ha a (by simp)
    have e1 : w64 a.lb = a.lb := w64_in (by have := h1.2; omega)
    have e2 : w64 ((v : Int) + 1) = (v : Int) + 1 := w64_in (by simp only [List.length_cons] at hb; omega)
    obtain ⟨g1, ⟨t, g2, g3⟩, i, g4, g5⟩ := knownP_spec hL (k := ⟨false, 0, w64 a.lb, a.out, a.to, w64 ((v : Int) + 1)⟩) (by rw [e2]; dsimp only; omega)
    have hd' : Dec (knownP L ⟨false, 0, w64 a.lb, a.out, a.to, w64 ((v : Int) + 1)⟩).1 i ⟨f, o, a :: l⟩ := by
      refine .step (u := v) ?_ h1.1 (by rw [g2]; exact hd.mono)
      rw [g5, e1, e2]
    simp only [List.foldl_cons]
    have e3 : chS (L, (v : Int)) a = ((knownP L ⟨false, 0, w64 a.lb, a.out, a.to, w64 ((v : Int) + 1)⟩).1, (i : Int)) := by unfold chS; rw [← g4]
    rw [e3]
    obtain ⟨k1, ⟨t', k2, k3⟩, j, k4, k5⟩ := chS_fold r (a :: l) i g1 (by rw [g2]; simp only [List.length_append, List.length_cons] at hb ⊢; omega) (fun x hx => ha x (by simp [hx])) hd'
    refine ⟨k1, ⟨t ++ t', by rw [k2, g2, List.append_assoc], by simp only [List.length_append, List.length_cons]; omega⟩, j, k4, by simpa using k5⟩
theorem chP_spec {L : List (LkP × Int)} {s : StP} (hL : LI L) (hb : L.length + s.arcs.length + 1 ≤ 1152921504606846976) (ha : ∀ a ∈ s.arcs, ArcOK a) :
    LI (chP L s).1 ∧ (∃ t, (chP L s).1 = L ++ t ∧ t.length ≤ s.arcs.length + 1) ∧ ∃ i : Nat, (chP L s).2 = (i : Int) ∧ Dec (chP L s).1 i s := by
  obtain ⟨g1, ⟨t, g2, g3⟩, i, g4, g5⟩ := knownP_spec hL (k := ⟨s.fin, s.out, 0, 0, -1, 0⟩) (by dsimp only; omega)
  have e3 : ch0 L s = ((knownP L ⟨s.fin, s.out, 0, 0, -1, 0⟩).1, (i : Int)) := by unfold ch0; rw [← g4]
  unfold chP
  rw [e3]
  obtain ⟨k1, ⟨t', k2, k3⟩, j, k4, k5⟩ := chS_fold s.arcs.reverse [] i g1 (by rw [g2]; simp only [List.length_append, List.length_reverse]; omega) (fun x hx => ha x (by simpa using hx)) (.base g5)
  refine ⟨k1, ⟨t ++ t', by rw [k2, g2, List.append_assoc], by simp only [List.length_append, List.length_reverse] at k3 ⊢; omega⟩, j, k4, by simpa using k5⟩
/-- the builder's books are right -/
structure BI (x : Bld) : Prop where
  li : LI x.L
  snd : ∀ v n, mget v x.B = some n → ∃ (i u : Nat) (s : StP), n = (i : Int) ∧ v = (u : Int) ∧ x.sts[i]? = some s ∧ Dec x.L u s
  all : ∀ (i : Nat) s, x.sts[i]? = some s → ∃ u : Nat, mget (u : Int) x.B = some (i : Int) ∧ Dec x.L u s
  nodup : x.sts.Nodup

theorem addP_spec {x : Bld} {s : StP} (h : BI x) (hb : x.L.length + s.arcs.length + 1 ≤ 1152921504606846976) (ha : ∀ a ∈ s.arcs, ArcOK a) :
    BI (addP x s).1 ∧ (addP x s).1.L.length ≤ x.L.length + s.arcs.length + 1 ∧
      ((∃ i : Nat, x.sts[i]? = some s ∧ (addP x s).1.sts = x.sts ∧ (addP x s).2 = (i : Int)) ∨ (s ∉ x.sts ∧ (addP x s).1.sts = x.sts ++ [s] ∧ (addP x s).2 = (x.sts.length : Int))) := by
  obtain ⟨g1, ⟨t, g2, g3⟩, u, g4, g5⟩ := chP_spec h.li hb ha
  have hlen : (chP x.L s).1.length ≤ x.L.length + s.arcs.length + 1 := by rw [g2]; simp; omega
  unfold addP
  rw [g4]
  cases hg : mget (u : Int) x.B with
  | some n =>
    obtain ⟨i, v, s', h1, h2, h3, h4⟩ := h.snd _ _ hg
    have : v = u := by omega
    subst this
    have hs : s' = s := (by rw [g2]; exact h4.mono : Dec (chP x.L s).1 v s').fn g5
    subst hs
    refine ⟨⟨g1, fun v n hv => ?_, fun i s hi => ?_, h.nodup⟩, hlen, .inl ⟨i, h3, rfl, h1⟩⟩
    · obtain ⟨i, u, s, a1, a2, a3, a4⟩ := h.snd v n hv
      exact ⟨i, u, s, a1, a2, a3, by show Dec (chP x.L s').1 u s; rw [g2]; exact a4.mono⟩
    · obtain ⟨u, a1, a2⟩ := h.all i s hi
      exact ⟨u, a1, by show Dec (chP x.L s').1 u s; rw [g2]; exact a2.mono⟩
  | none =>
    have hnew : s ∉ x.sts := by
      intro hm
      obtain ⟨i, hi⟩ := List.getElem?_of_mem hm
      obtain ⟨v, a1, a2⟩ := h.all i s hi
      have : v = u := (by rw [g2]; exact a2.mono : Dec (chP x.L s).1 v s).inj g1 g5
      subst this
      rw [hg] at a1; cases a1
    refine ⟨⟨g1, fun v n hv => ?_, fun i s' hi => ?_, ?_⟩, hlen, .inr ⟨hnew, rfl, rfl⟩⟩
    · simp only at hv
      rw [mget_mset] at hv
      split at hv
      · rename_i e
        simp only [Option.some.injEq] at hv
        exact ⟨x.sts.length, u, s, hv.symm, e, by simp, g5⟩
      · obtain ⟨i, u', s', a1, a2, a3, a4⟩ := h.snd v n hv
        exact ⟨i, u', s', a1, a2, by simp only; rw [List.getElem?_append_left (List.getElem?_eq_some_iff.1 a3).1]; exact a3, by show Dec (chP x.L s).1 u' s'; rw [g2]; exact a4.mono⟩
    · simp only at hi
      rcases Nat.lt_trichotomy i x.sts.length with g | g | g
      · rw [List.getElem?_append_left g] at hi
        obtain ⟨v, a1, a2⟩ := h.all i s' hi
        refine ⟨v, ?_, by show Dec (chP x.L s).1 v s'; rw [g2]; exact a2.mono⟩
        simp only
        rw [mget_mset, if_neg (fun e => by rw [e, hg] at a1; cases a1)]
        exact a1
      · subst g
        simp at hi
        subst hi
        exact ⟨u, by simp only; rw [mget_mset, if_pos rfl], g5⟩
      · rw [List.getElem?_eq_none (by simp; omega)] at hi; cases hi
    · simp only
      rw [List.nodup_append]
      refine ⟨h.nodup, by simp, ?_⟩
      intro a hm b hb e
      simp only [List.mem_singleton] at hb
      subst hb e
      exact hnew hm
end Go.En
namespace Go.En
set_option linter.unusedVariables false
abbrev Wd := List Nat × Int
def pre1 (a : ArcP) (x : Wd) : Wd := (a.lb.toNat :: x.1, a.out + x.2)
def wa (tb : List (List Wd)) (l : List ArcP) : List Wd := l.flatMap fun a => (tb.getD a.to.toNat []).map (pre1 a)
def ws (tb : List (List Wd)) (s : StP) : List Wd := (if s.fin = true then [([], s.out)] else []) ++ wa tb s.arcs
def wt (sts : List StP) : List (List Wd) := sts.foldl (fun tb s => tb ++ [ws tb s]) []
theorem wt_snoc (l : List StP) (s : StP) : wt (l ++ [s]) = wt l ++ [ws (wt l) s] := by simp [wt, List.foldl_append]
theorem wt_fold : ∀ (t : List StP) (tb : List (List Wd)), ∃ r, t.foldl (fun tb s => tb ++ [ws tb s]) tb = tb ++ r ∧ r.length = t.length
  | [], tb => ⟨[], by simp, rfl⟩
  | s :: t, tb => by
    obtain ⟨r, h, hl⟩ := wt_fold t (tb ++ [ws tb s])
    exact ⟨ws tb s :: r, by simp [h], by simp [hl]⟩
theorem wt_len (l : List StP) : (wt l).length = l.length := by
  obtain ⟨r, h, hl⟩ := wt_fold l []
  unfold wt
  rw [h]; simpa using hl
theorem wt_pre (l t : List StP) : ∃ r, wt (l ++ t) = wt l ++ r := by
  obtain ⟨r, h, _⟩ := wt_fold t (wt l)
  exact ⟨r, by rw [wt, List.foldl_append]; exact h⟩
theorem wt_get (l t : List StP) {i : Nat} (h : i < l.length) : (wt (l ++ t))[i]? = (wt l)[i]? := by
  obtain ⟨r, e⟩ := wt_pre l t
  rw [e, List.getElem?_append_left (by rw [wt_len]; exact h)]
theorem wt_getD (l t : List StP) {i : Nat} (h : i < l.length) : (wt (l ++ t)).getD i [] = (wt l).getD i [] := by
  rw [List.getD_eq_getElem?_getD, List.getD_eq_getElem?_getD, wt_get l t h]
theorem wa_cong {tb tb' : List (List Wd)} {l : List ArcP} (h : ∀ a ∈ l, tb.getD a.to.toNat [] = tb'.getD a.to.toNat []) : wa tb l = wa tb' l := by
  induction l with
  | nil => rfl
  | cons a l ih =>
    simp only [wa, List.flatMap_cons] at ih ⊢
    rw [h a (by simp), ih (fun x hx => h x (by simp [hx]))]
/-! How the states are numbered: a visit of state i, where those below k have been seen. -/
mutual
inductive Vis (sts : List StP) : Nat → Nat → Prop
  | mk {i k : Nat} {s : StP} (h : sts[i]? = some s) (g : Vas sts s.arcs k i) : Vis sts i k
inductive Vas (sts : List StP) : List ArcP → Nat → Nat → Prop
  | nil (k : Nat) : Vas sts [] k k
  | old {a : ArcP} {l : List ArcP} {k m : Nat} (h : a.to.toNat < k) (g : Vas sts l k m) : Vas sts (a :: l) k m
  | new {a : ArcP} {l : List ArcP} {k m : Nat} (h : k ≤ a.to.toNat) (v : Vis sts a.to.toNat k) (g : Vas sts l (a.to.toNat + 1) m) : Vas sts (a :: l) k m
end
theorem vis_mono {sts t : List StP} {i k : Nat} (h : Vis sts i k) : Vis (sts ++ t) i k := by
  refine Vis.rec (motive_1 := fun i k _ => Vis (sts ++ t) i k) (motive_2 := fun l k m _ => Vas (sts ++ t) l k m) ?_ ?_ ?_ ?_ h
  · intro i k s h g ih
    exact .mk (by rw [List.getElem?_append_left (List.getElem?_eq_some_iff.1 h).1]; exact h) ih
  · intro k; exact .nil k
  · intro a l k m h g ih; exact .old h ih
  · intro a l k m h v g ih1 ih2; exact .new h ih1 ih2
theorem vas_mono {sts t : List StP} {l : List ArcP} {k m : Nat} (h : Vas sts l k m) : Vas (sts ++ t) l k m := by
  induction l generalizing k with
  | nil => cases h; exact .nil _
  | cons a l ih =>
    cases h with
    | old h g => exact .old h (ih g)
    | new h v g => exact .new h (vis_mono v) (ih g)
theorem vas_snoc {sts : List StP} {l : List ArcP} {a : ArcP} {k m : Nat} (h : Vas sts l k m) : (a.to.toNat < m → Vas sts (l ++ [a]) k m) ∧ (m ≤ a.to.toNat → Vis sts a.to.toNat m → Vas sts (l ++ [a]) k (a.to.toNat + 1)) := by
  induction l generalizing k with
  | nil => cases h; exact ⟨fun h => .old h (.nil _), fun h v => .new h v (.nil _)⟩
  | cons b l ih =>
    cases h with
    | old h g => exact ⟨fun h' => .old h ((ih g).1 h'), fun h' v => .old h ((ih g).2 h' v)⟩
    | new h w g => exact ⟨fun h' => .new h w ((ih g).1 h'), fun h' v => .new h w ((ih g).2 h' v)⟩
theorem vas_le {sts : List StP} {l : List ArcP} {k m : Nat} (h : Vas sts l k m) : k ≤ m ∧ (k < m → ∃ a ∈ l, a.to.toNat + 1 = m) := by
  induction l generalizing k with
  | nil => cases h; exact ⟨Nat.le_refl _, fun h => absurd h (Nat.lt_irrefl _)⟩
  | cons b l ih =>
    cases h with
    | old h g =>
      obtain ⟨h1, h2⟩ := ih g
      exact ⟨h1, fun h' => by obtain ⟨a, ha, e⟩ := h2 h'; exact ⟨a, by simp [ha], e⟩⟩
    | new h w g =>
      obtain ⟨h1, h2⟩ := ih g
      refine ⟨by omega, fun h' => ?_⟩
      by_cases e : b.to.toNat + 1 = m
      · exact ⟨b, by simp, e⟩
      · obtain ⟨a, ha, e⟩ := h2 (by omega)
        exact ⟨a, by simp [ha], e⟩
/-! What a state must be. -/
structure AFm (i : Nat) (a : ArcP) : Prop where
  to : 0 ≤ a.to ∧ a.to < (i : Int)
  out : 0 ≤ a.out ∧ a.out ≤ 1048576
  lb : 32 < a.lb ∧ a.lb ≠ 127 ∧ scalarP a.lb.toNat
structure SFm (i : Nat) (s : StP) : Prop where
  arc : ∀ a ∈ s.arcs, AFm i a
  ord : s.arcs.Pairwise fun a b => a.lb < b.lb
  out : 0 ≤ s.out ∧ s.out ≤ 1048576
  fin : s.fin = true ∨ s.out = 0
  low : (s.fin = true ∧ s.out = 0) ∨ ∃ a ∈ s.arcs, a.out = 0
def LFm (sts : List StP) : Prop := ∀ (i : Nat) s, sts[i]? = some s → SFm i s
theorem AFm.up {i j : Nat} {a : ArcP} (h : AFm i a) (hij : i ≤ j) : AFm j a := ⟨by have := h.to; omega, h.out, h.lb⟩
theorem AFm.ok {i : Nat} {a : ArcP} (h : AFm i a) : ArcOK a := by
  have h1 := h.to
  have h2 := h.lb
  have h3 := h2.2.2.1
  exact ⟨h1.1, by omega, by omega⟩
/-! The least weight. -/
theorem fold_min_le : ∀ (l : List RstP) (n : Int), l.foldl (fun n x => minG n x.w) n ≤ n ∧ ∀ r ∈ l, l.foldl (fun n x => minG n x.w) n ≤ r.w
  | [], n => ⟨Int.le_refl _, by simp⟩
  | x :: l, n => by
    obtain ⟨h1, h2⟩ := fold_min_le l (minG n x.w)
    have h3 : minG n x.w ≤ n ∧ minG n x.w ≤ x.w := by unfold minG; split <;> omega
    simp only [List.foldl_cons]
    refine ⟨by omega, fun r hr => ?_⟩
    rcases List.mem_cons.1 hr with rfl | hr
    · omega
    · exact h2 r hr
theorem fold_min_mem : ∀ (l : List RstP) (n : Int), l.foldl (fun n x => minG n x.w) n = n ∨ ∃ r ∈ l, l.foldl (fun n x => minG n x.w) n = r.w
  | [], n => .inl rfl
  | x :: l, n => by
    simp only [List.foldl_cons]
    rcases fold_min_mem l (minG n x.w) with h | ⟨r, hr, h⟩
    · rcases minG_mem n x.w with e | e
      · exact .inl (h.trans e)
      · exact .inr ⟨x, by simp, h.trans e⟩
    · exact .inr ⟨r, by simp [hr], h⟩
theorem leastP_le {l : List RstP} {r : RstP} (h : r ∈ l) : leastP l ≤ r.w := by
  cases l with
  | nil => cases h
  | cons x l => exact (fold_min_le (x :: l) x.w).2 r h
theorem leastP_mem {l : List RstP} (h : l ≠ []) : ∃ r ∈ l, r.w = leastP l := by
  cases l with
  | nil => exact absurd rfl h
  | cons x l =>
    rcases fold_min_mem (x :: l) x.w with e | ⟨r, hr, e⟩
    · exact ⟨x, by simp, e.symm⟩
    · exact ⟨r, hr, e.symm⟩
/-! The rests of right words. -/
structure OkX (k : Nat) (l : List RstP) : Prop where
  ok : OkR k l
  rune : ∀ r ∈ l, ∀ c ∈ r.rs, 32 < c ∧ c ≠ 127 ∧ scalarP c
  wt : ∀ r ∈ l, r.w ≤ 1048576
theorem OkX.sub {k : Nat} {l l' : List RstP} (h : OkX k l) (hs : SLr l') (hm : ∀ r ∈ l', r ∈ l) : OkX k l' :=
  ⟨⟨hs, fun r hr => h.ok.dep r (hm r hr), fun r hr => h.ok.wt r (hm r hr)⟩, fun r hr => h.rune r (hm r hr), fun r hr => h.wt r (hm r hr)⟩
theorem OkX.span {k lb : Nat} {l : List RstP} (h : OkX (k + 1) l) : OkX k (spanP lb l).1 ∧ OkX (k + 1) (spanP lb l).2 := by
  obtain ⟨m, h1, h2, h3⟩ := spanP_sub lb l
  have g := h.ok.span (lb := lb)
  refine ⟨⟨g.1, ?_, ?_⟩, h.sub g.2.sl fun r hr => by rw [h1]; exact List.mem_append_right _ hr⟩
  · rw [h2]
    intro r hr c hc
    obtain ⟨x, hx, rfl⟩ := List.mem_map.1 hr
    exact h.rune x (by rw [h1]; simp [hx]) c (List.mem_of_mem_tail hc)
  · rw [h2]
    intro r hr
    obtain ⟨x, hx, rfl⟩ := List.mem_map.1 hr
    exact h.wt x (by rw [h1]; simp [hx])
/-- the words that are left, their weights above the least -/
def wdsR (low : Int) (l : List RstP) : List Wd := l.map fun r => (r.rs, r.w - low)
theorem wdsR_span {lb : Nat} {low g : Int} : ∀ {m : List RstP}, (∀ r ∈ m, r.rs.head? = some lb) → (wdsR g (m.map tlR)).map (fun x : Wd => (lb :: x.1, g - low + x.2)) = wdsR low m
  | [], _ => rfl
  | r :: m, h => by
    have ih := wdsR_span (low := low) (g := g) (m := m) (fun x hx => h x (by simp [hx]))
    have hr := head_tail (h r (by simp))
    simp only [wdsR, List.map_cons, tlR] at ih ⊢
    rw [ih]
    congr 1
    rw [← hr]
    congr 1
    omega
structure Built (x : Bld) (l : List RstP) (y : Bld × Int) : Prop where
  bi : BI y.1
  Ll : y.1.L.length ≤ x.L.length + 3 * totR l + 1
  pre : ∃ t, y.1.sts = x.sts ++ t
  fm : LFm y.1.sts
  idx : ∃ n : Nat, y.2 = (n : Int) ∧ (wt y.1.sts)[n]? = some (wdsR (leastP l) l) ∧ ((y.1.sts = x.sts ∧ n < x.sts.length) ∨ (n + 1 = y.1.sts.length ∧ x.sts.length ≤ n ∧ Vis y.1.sts n x.sts.length))
structure ArcsB (x0 x : Bld) (low : Int) (done : List RstP) (acc : List ArcP) : Prop where
  bi : BI x
  Ll : x.L.length + 2 * acc.length ≤ x0.L.length + 3 * totR done
  pre : ∃ t, x.sts = x0.sts ++ t
  fm : LFm x.sts
  vas : Vas x.sts acc x0.sts.length x.sts.length
  wds : wa (wt x.sts) acc = wdsR low done
  arc : ∀ a ∈ acc, AFm x.sts.length a
  ord : acc.Pairwise fun a b => a.lb < b.lb
  low : (∃ r ∈ done, r.w = low) → ∃ a ∈ acc, a.out = 0
  len : acc.length ≤ done.length
theorem span_gt {lb : Nat} {r : RstP} {l : List RstP} (h : SLr (r :: l)) (hne : ∀ x ∈ r :: l, x.rs ≠ []) (hr : r.rs.head? = some lb) : ∀ x ∈ (spanP lb (r :: l)).2, lb < x.rs.headD 0 := by
  -- all heads are at least lb; behind the first other one they are above it
  have key : ∀ (l : List RstP), SLr l → (∀ x ∈ l, x.rs ≠ []) → (∀ x ∈ l, lb ≤ x.rs.headD 0) → ∀ x ∈ (spanP lb l).2, lb < x.rs.headD 0 := by
    intro l
    induction l with
    | nil => intro _ _ _ x hx; simp [spanP] at hx
    | cons y l ih =>
      intro hs hn hge x hx
      by_cases hy : y.rs.head? = some lb
      · simp only [spanP, hy, if_true] at hx
        exact ih (List.pairwise_cons.1 hs).2 (fun z hz => hn z (by simp [hz])) (fun z hz => hge z (by simp [hz])) x hx
      · simp only [spanP, hy, if_false] at hx
        have hy1 : lb < y.rs.headD 0 := by
          have h1 := hge y (by simp)
          have h2 := hn y (by simp)
          cases e : y.rs with
          | nil => exact absurd e h2
          | cons c m =>
            rw [e] at hy h1
            simp only [List.head?_cons, Option.some.injEq, List.headD_cons] at hy h1 ⊢
            omega
        rcases List.mem_cons.1 hx with rfl | hx
        · exact hy1
        · have h3 := (List.pairwise_cons.1 hs).1 x hx
          have h4 := hn x (by simp [hx])
          cases e1 : y.rs with
          | nil => exact absurd e1 (hn y (by simp))
          | cons c m =>
            cases e2 : x.rs with
            | nil => exact absurd e2 h4
            | cons d n =>
              rw [e1, e2] at h3
              rw [e1] at hy1
              simp only [ltR, List.headD_cons] at h3 hy1 ⊢
              omega
  refine key (r :: l) h hne ?_
  intro x hx
  rcases List.mem_cons.1 hx with rfl | hx
  · rw [List.headD_eq_head?_getD, hr]; exact Nat.le_refl _
  · have h3 := (List.pairwise_cons.1 h).1 x hx
    cases e1 : r.rs with
    | nil => rw [e1] at hr; cases hr
    | cons c m =>
      cases e2 : x.rs with
      | nil => exact absurd e2 (hne x (by simp [hx]))
      | cons d n =>
        rw [e1] at hr h3
        rw [e2] at h3
        simp only [List.head?_cons, Option.some.injEq] at hr
        simp only [ltR, List.headD_cons] at h3 ⊢
        omega
theorem arcsP_spec {k : Nat} {x0 : Bld} {low : Int} {rec : Bld → List RstP → Bld × Int} (hrec : ∀ x l, BI x → LFm x.sts → OkX k l → l ≠ [] → x.L.length + 3 * totR l + 1 ≤ 1000000000 → Built x l (rec x l)) (hlow : 0 ≤ low) :
    ∀ (m : Nat) (x : Bld) (l done : List RstP) (acc : List ArcP), l.length ≤ m → OkX (k + 1) l → (∀ r ∈ l, r.rs ≠ []) → (∀ r ∈ l, low ≤ r.w) → x0.L.length + 3 * (totR done + totR l) ≤ 1000000000 → (∀ a ∈ acc, ∀ r ∈ l, a.lb < (r.rs.headD 0 : Nat)) → ArcsB x0 x low done acc →
      ArcsB x0 (arcsP rec low m x l acc).1 low (done ++ l) (arcsP rec low m x l acc).2
  | 0, x, [], done, acc, _, _, _, _, _, _, h => by simpa [arcsP] using h
  | 0, x, _ :: _, done, acc, hm, _, _, _, _, _, h => by simp at hm
  | _ + 1, x, [], done, acc, _, _, _, _, _, _, h => by simpa [arcsP] using h
  | m + 1, x, r :: l, done, acc, hm, ok, hne, hge, hb, hlt, h => by
    obtain ⟨lb, hlb⟩ : ∃ lb, lb = r.rs.headD 0 := ⟨_, rfl⟩
    have hr0 := hne r (by simp)
    have hhead : r.rs.head? = some lb := by rw [hlb]; cases e : r.rs with | nil => exact absurd e hr0 | cons c m => rfl
    have hsh := span_head (l := l) hr0
    rw [← hlb] at hsh
    obtain ⟨mm, g1, g2, g3⟩ := spanP_sub lb (r :: l)
    have htot := span_tot hsh.1
    have hmt : totR mm + totR (spanP lb (r :: l)).2 = totR (r :: l) := by rw [← totR_append, ← g1]
    obtain ⟨okU, okR⟩ := ok.span (lb := lb)
    obtain ⟨U, hU⟩ : ∃ U, U = (spanP lb (r :: l)).1 := ⟨_, rfl⟩
    obtain ⟨l2, hl2⟩ : ∃ l2, l2 = (spanP lb (r :: l)).2 := ⟨_, rfl⟩
    rw [← hU] at g2 htot hsh okU
    rw [← hl2] at g1 htot hmt hsh okR
    have hUne := hsh.1
    have B := hrec x U h.bi h.fm okU hUne (by have := h.Ll; omega)
    obtain ⟨t, ht⟩ := B.pre
    obtain ⟨n, hn, hw, hnum⟩ := B.idx
    have hmem2 : ∀ y ∈ l2, y ∈ r :: l := fun y hy => by rw [g1]; exact List.mem_append_right _ hy
    have hmemm : ∀ y ∈ mm, y ∈ r :: l := fun y hy => by rw [g1]; exact List.mem_append_left _ hy
    have hn2 : n < (rec x U).1.sts.length := by
      have := (List.getElem?_eq_some_iff.1 hw).1
      rwa [wt_len] at this
    -- the new arc
    have hwU : ∀ z ∈ U, low ≤ z.w ∧ z.w ≤ 1048576 := by
      intro z hz
      rw [g2] at hz
      obtain ⟨y, hy, rfl⟩ := List.mem_map.1 hz
      exact ⟨hge y (hmemm y hy), ok.wt y (hmemm y hy)⟩
    obtain ⟨z0, hz0, ez0⟩ := leastP_mem hUne
    have hz0' := hwU z0 hz0
    have hAF : AFm (rec x U).1.sts.length ⟨((lb : Nat) : Int), leastP U - low, (rec x U).2⟩ := by
      refine ⟨by rw [hn]; dsimp only; omega, by dsimp only; omega, ?_⟩
      have hc : lb ∈ r.rs := List.mem_of_mem_head? hhead
      have := ok.rune r (by simp) lb hc
      refine ⟨by dsimp only; omega, by dsimp only; omega, by simpa using this.2.2⟩
    have hA : ArcsB x0 (rec x U).1 low (done ++ mm) (acc ++ [⟨((lb : Nat) : Int), leastP U - low, (rec x U).2⟩]) := by
      obtain ⟨t0, ht0⟩ := h.pre
      refine ⟨B.bi, ?_, ⟨t0 ++ t, by rw [ht, ht0, List.append_assoc]⟩, B.fm, ?_, ?_, ?_, ?_, ?_, ?_⟩
      · have h1 := B.Ll
        have h2 := h.Ll
        rw [totR_append]
        have : totR U + 1 ≤ totR mm := by omega
        simp only [List.length_append, List.length_singleton]
        omega
      · have hv : Vas (rec x U).1.sts acc x0.sts.length x.sts.length := by rw [ht]; exact vas_mono h.vas
        have hto : ((⟨((lb : Nat) : Int), leastP U - low, (rec x U).2⟩ : ArcP).to).toNat = n := by rw [hn]; simp
        rcases hnum with ⟨e1, e2⟩ | ⟨e1, e2, e3⟩
        · rw [e1] at hv ⊢
          exact (vas_snoc hv).1 (by rw [hto]; exact e2)
        · have := (vas_snoc (a := ⟨((lb : Nat) : Int), leastP U - low, (rec x U).2⟩) hv).2 (by rw [hto]; exact e2) (by rw [hto]; exact e3)
          rw [hto, e1] at this
          exact this
      · have e1 : wa (wt (rec x U).1.sts) acc = wdsR low done := by
          rw [← h.wds]
          refine wa_cong fun a ha => ?_
          have := (h.arc a ha).to
          rw [ht, wt_getD _ _ (by omega)]
        have e2 : wa (wt (rec x U).1.sts) [⟨((lb : Nat) : Int), leastP U - low, (rec x U).2⟩] = wdsR low mm := by
          simp only [wa, List.flatMap_cons, List.flatMap_nil, List.append_nil]
          rw [hn, List.getD_eq_getElem?_getD]
          simp only [Int.toNat_natCast]
          rw [hw, Option.getD_some]
          have := wdsR_span (lb := lb) (low := low) (g := leastP U) (m := mm) g3
          rw [← g2] at this
          rw [← this]
          rfl
        have e3 : wa (wt (rec x U).1.sts) (acc ++ [⟨((lb : Nat) : Int), leastP U - low, (rec x U).2⟩]) = wa (wt (rec x U).1.sts) acc ++ wa (wt (rec x U).1.sts) [⟨((lb : Nat) : Int), leastP U - low, (rec x U).2⟩] := by simp [wa]
        rw [e3, e1, e2]
        simp [wdsR]
      · intro a ha
        rcases List.mem_append.1 ha with ha | ha
        · exact (h.arc a ha).up (by rw [ht]; simp)
        · simp only [List.mem_singleton] at ha; subst ha; exact hAF
      · rw [List.pairwise_append]
        refine ⟨h.ord, by simp, ?_⟩
        intro a ha b hb'
        simp only [List.mem_singleton] at hb'
        subst hb'
        have := hlt a ha r (by simp)
        rw [← hlb] at this
        exact this
      · rintro ⟨y, hy, ey⟩
        rcases List.mem_append.1 hy with hy | hy
        · obtain ⟨a, ha, ea⟩ := h.low ⟨y, hy, ey⟩
          exact ⟨a, by simp [ha], ea⟩
        · refine ⟨⟨((lb : Nat) : Int), leastP U - low, (rec x U).2⟩, by simp, ?_⟩
          have h1 : leastP U ≤ low := by
            have := leastP_le (l := U) (r := tlR y) (by rw [g2]; exact List.mem_map.2 ⟨y, hy, rfl⟩)
            have e : (tlR y).w = y.w := rfl
            omega
          dsimp only
          omega
      · have : 0 < mm.length := by
          refine List.length_pos_iff.2 fun e => hUne ?_
          rw [g2, e]; rfl
        have := h.len
        simp only [List.length_append, List.length_singleton]
        omega
    have IH := arcsP_spec hrec hlow m (rec x U).1 l2 (done ++ mm) _ (by simp only [List.length_cons] at hm; omega) okR (fun y hy => hne y (hmem2 y hy)) (fun y hy => hge y (hmem2 y hy)) (by rw [totR_append]; omega) (by
      intro a ha y hy
      rcases List.mem_append.1 ha with ha | ha
      · exact hlt a ha y (hmem2 y hy)
      · simp only [List.mem_singleton] at ha
        subst ha
        have := span_gt ok.ok.sl hne hhead y (by rw [← hl2]; exact hy)
        dsimp only
        omega) hA
    have eq : arcsP rec low (m + 1) x (r :: l) acc = arcsP rec low m (rec x U).1 l2 (acc ++ [⟨((lb : Nat) : Int), leastP U - low, (rec x U).2⟩]) := by
      conv => lhs; unfold arcsP
      rw [← hlb, ← hU, ← hl2]
    rw [eq]
    rw [List.append_assoc, ← g1] at IH
    exact IH
theorem wt_at {sts : List StP} {i : Nat} {s : StP} (h : sts[i]? = some s) (ht : ∀ a ∈ s.arcs, 0 ≤ a.to ∧ a.to < (i : Int)) : (wt sts)[i]? = some (ws (wt sts) s) := by
  have hi := (List.getElem?_eq_some_iff.1 h).1
  have hs : sts[i] = s := (List.getElem?_eq_some_iff.1 h).2
  have e : sts = sts.take i ++ [s] ++ sts.drop (i + 1) := by
    rw [← hs, List.append_assoc, List.singleton_append, List.getElem_cons_drop, List.take_append_drop]
  have hl : (sts.take i).length = i := by simp; omega
  have e2 : ws (wt (sts.take i)) s = ws (wt sts) s := by
    unfold ws
    congr 1
    refine wa_cong fun a ha => ?_
    have := ht a ha
    conv => rhs; rw [e, List.append_assoc]
    rw [wt_getD _ _ (by omega)]
  rw [← e2]
  conv => lhs; rw [e]
  rw [wt_get _ _ (by simp; omega), wt_snoc, List.getElem?_append_right (by rw [wt_len]; omega), wt_len, hl]
  simp
theorem stateP_built : ∀ (k : Nat) (x : Bld) (l : List RstP), BI x → LFm x.sts → OkX k l → l ≠ [] → x.L.length + 3 * totR l + 1 ≤ 1000000000 → Built x l (stateP (k + 1) x l)
  | k, x, l, hb, hf, ok, hl, hsz => by
    obtain ⟨ok1, ne1, tot1, len1⟩ := bodyR_ok ok.ok hl
    have hmem : ∀ r ∈ bodyR l, r ∈ l := by
      intro r hr
      unfold bodyR at hr
      split at hr
      · exact List.mem_of_mem_tail hr
      · exact hr
    have okb : OkX k (bodyR l) := ok.sub ok1.sl hmem
    have hlow := leastP_bd ok.ok.wt
    have A : ArcsB x (arcsP (stateP k) (leastP l) (bodyR l).length x (bodyR l) []).1 (leastP l) (bodyR l) (arcsP (stateP k) (leastP l) (bodyR l).length x (bodyR l) []).2 := by
      have A0 : ArcsB x x (leastP l) [] [] := ⟨hb, by simp, ⟨[], by simp⟩, hf, .nil _, rfl, by simp, by simp, by simp, by simp⟩
      cases k with
      | zero =>
        have hbe : bodyR l = [] := by
          cases hbe : bodyR l with
          | nil => rfl
          | cons r m =>
            have := ok1.dep r (by rw [hbe]; simp)
            exact absurd (List.eq_nil_of_length_eq_zero (by omega)) (ne1 r (by rw [hbe]; simp))
        rw [hbe]
        exact A0
      | succ k =>
        have := arcsP_spec (k := k) (x0 := x) (low := leastP l) (rec := stateP (k + 1)) (fun x l h1 h2 h3 h4 h5 => stateP_built k x l h1 h2 h3 h4 h5) hlow.1 (bodyR l).length x (bodyR l) [] [] (Nat.le_refl _) okb ne1 (fun r hr => leastP_le (hmem r hr)) (by simp only [totR, List.map_nil, List.sum_nil] at *; omega) (by simp) A0
        simpa using this
    obtain ⟨x1, hx1⟩ : ∃ x1, x1 = (arcsP (stateP k) (leastP l) (bodyR l).length x (bodyR l) []).1 := ⟨_, rfl⟩
    obtain ⟨acc, hacc⟩ : ∃ acc, acc = (arcsP (stateP k) (leastP l) (bodyR l).length x (bodyR l) []).2 := ⟨_, rfl⟩
    have hst : stateP (k + 1) x l = addP x1 ⟨finR l, outR l, acc⟩ := by rw [hx1, hacc]; rfl
    rw [← hx1, ← hacc] at A
    rw [hst]
    have hA1 := A.Ll
    obtain ⟨t, ht⟩ := A.pre
    -- the state
    obtain ⟨r0, hr0, er0⟩ := leastP_mem hl
    have hout : 0 ≤ outR l ∧ outR l ≤ 1048576 ∧ (finR l = true ∨ outR l = 0) := by
      unfold outR
      split
      · rename_i hfin
        cases l with
        | nil => exact absurd rfl hl
        | cons r m =>
          have h1 := leastP_le (l := r :: m) (r := r) (by simp)
          have h2 := ok.wt r (by simp)
          simp only [List.headD_cons]
          exact ⟨by omega, by omega, .inl hfin⟩
      · exact ⟨by omega, by omega, .inr rfl⟩
    have hS : SFm x1.sts.length ⟨finR l, outR l, acc⟩ := by
      refine ⟨A.arc, A.ord, ⟨hout.1, hout.2.1⟩, hout.2.2, ?_⟩
      by_cases hfin : finR l = true
      · cases l with
        | nil => exact absurd rfl hl
        | cons r m =>
          by_cases hr : r0 = r
          · left
            refine ⟨hfin, ?_⟩
            subst hr
            simp only [outR, hfin, if_true, List.headD_cons]
            omega
          · right
            refine A.low ⟨r0, ?_, er0⟩
            simp only [bodyR, hfin, if_true, List.tail_cons]
            rcases List.mem_cons.1 hr0 with h | h
            · exact absurd h hr
            · exact h
      · right
        refine A.low ⟨r0, ?_, er0⟩
        simp only [bodyR, hfin]
        exact hr0
    have hW : ws (wt x1.sts) ⟨finR l, outR l, acc⟩ = wdsR (leastP l) l := by
      unfold ws
      simp only
      rw [A.wds]
      cases l with
      | nil => exact absurd rfl hl
      | cons r m =>
        by_cases hfin : finR (r :: m) = true
        · have he : r.rs = [] := by simpa [finR] using hfin
          simp [bodyR, outR, hfin, wdsR, he]
        · simp [bodyR, hfin]
    obtain ⟨g1, g2, g3⟩ := addP_spec (x := x1) (s := ⟨finR l, outR l, acc⟩) A.bi (by dsimp only; omega) (fun a ha => (A.arc a ha).ok)
    dsimp only at g2
    rcases g3 with ⟨i, h1, h2, h3⟩ | ⟨h1, h2, h3⟩
    · have hi := (List.getElem?_eq_some_iff.1 h1).1
      have hv := vas_le A.vas
      have hlen : x1.sts.length = x.sts.length := by
        rcases Nat.lt_or_ge x.sts.length x1.sts.length with hlt | hge
        · obtain ⟨a, ha, ea⟩ := hv.2 hlt
          have := ((A.fm i _ h1).arc a ha).to
          omega
        · omega
      have hsame : x1.sts = x.sts := by
        rw [ht] at hlen
        have : t = [] := List.eq_nil_of_length_eq_zero (by simp at hlen; simpa using hlen)
        rw [ht, this, List.append_nil]
      refine ⟨g1, by omega, ⟨[], by rw [h2, hsame, List.append_nil]⟩, by rw [h2]; exact A.fm, i, h3, ?_, .inl ⟨by rw [h2, hsame], by omega⟩⟩
      rw [h2, wt_at h1 (fun a ha => ((A.fm i _ h1).arc a ha).to), hW]
    · refine ⟨g1, by omega, ⟨t ++ [⟨finR l, outR l, acc⟩], by rw [h2, ht, List.append_assoc]⟩, ?_, x1.sts.length, h3, ?_, .inr ⟨by rw [h2]; simp, by rw [ht]; simp, ?_⟩⟩
      · rw [h2]
        intro i s hi
        rcases Nat.lt_trichotomy i x1.sts.length with g | g | g
        · rw [List.getElem?_append_left g] at hi; exact A.fm i s hi
        · subst g; simp at hi; subst hi; exact hS
        · rw [List.getElem?_eq_none (by simp; omega)] at hi; cases hi
      · rw [h2, wt_snoc, List.getElem?_append_right (by rw [wt_len]; exact Nat.le_refl _), wt_len, Nat.sub_self, hW]
        rfl
      · rw [h2]
        exact .mk (s := ⟨finR l, outR l, acc⟩) (by simp) (vas_mono A.vas)
end Go.En
