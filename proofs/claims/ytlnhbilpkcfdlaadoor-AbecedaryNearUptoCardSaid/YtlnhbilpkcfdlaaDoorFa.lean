/-
  Package fst: machines in plain words; links; how they are told apart.
  Of Go's package slices: Backward over arcs.
  Package fst: the builder: known, add.
  Plain words: a dictionary's machine is built.
  Package fst: least, state.
-/
import Derived.Test.YtlnhbilpkcfdlaaDoorEc
import Derived.Test.YtlnhbilpkcfdlaaDoorTab
import Derived.Test.YtlnhbilpkcfdlaaDoorEg
import Derived.Test.YtlnhbilpkcfdlaaDoorSa
set_option linter.unusedSimpArgs false
set_option linter.unusedVariables false
namespace Go.En
structure ArcP where
  lb : Int
  out : Int
  to : Int
deriving DecidableEq
structure StP where
  fin : Bool
  out : Int
  arcs : List ArcP
deriving DecidableEq
structure LkP where
  e : Bool
  out : Int
  lb : Int
  arc : Int
  to : Int
  nx : Int
deriving DecidableEq
def encL (k : LkP) : Value := .agg #[.bool k.e, .int .i64 k.out, .int .i64 k.lb, .int .i64 k.arc, .int .i64 k.to, .int .i64 k.nx]
def i64V (n : Int) : Value := .int .i64 n
def knownP (L : List (LkP × Int)) (k : LkP) : List (LkP × Int) × Int :=
  match mget k L with
  | some n => (L, n)
  | none => (mset k (L.length : Int) L, (L.length : Int))
end Go.En
namespace Go.Proofs.YtlnhbilpkcfdlaaDoor
open Go.En
set_option linter.unusedVariables false
attribute [local irreducible] Code.wp wpList Calls

theorem eqLk (c d : LkP) (w : World) : (Op.equal 122 (encL c) (encL d)).run Tryd.prog w = .ok (decide (c = d)) w := by
  have u3 := Tryd.underlying3
  have a3 := Tryd.isAgg3
  have z3 := Tryd.sizeOf3
  have u4 := Tryd.underlying4
  have a4 := Tryd.isAgg4
  have z4 := Tryd.sizeOf4
  have hS : Tryd.prog.underlying 122 = some (.struct (Tryd.prog.fieldsOf 122)) := by kernel_rfl
  unfold Op.equal Op.maxDepth encL
  rw [show (10000 : Nat) = 9999 + 1 from rfl, run_equalIn_agg w 9999 122 _ _ hS (by kernel_rfl)]
  simp only [Program.fieldsOf, Tryd.underlying122]
  go_simp
  obtain ⟨k, s, q, l, t, x⟩ := c
  obtain ⟨k', s', q', l', t', x'⟩ := d
  by_cases h1 : k = k' <;> by_cases h2 : s = s' <;> by_cases h3 : q = q' <;> by_cases h4 : l = l' <;> by_cases h5 : t = t' <;> by_cases h6 : x = x' <;> simp [h1, h2, h3, h4, h5, h6]
theorem keyLk : KeyOK Tryd.prog 122 encL :=
  KeyOK.ofAgg Tryd.underlying122 (fun a b => rfl) eqLk (fun e k w => by unfold encL; kernel_rfl) (fun k => by simp [encL, Instr.sameBits])
theorem knownC {w0 : World} {K hL : PH} {hs : List PH} (b lm : Nat) (sv mv : Value) (L : List (LkP × Int)) (k : LkP) (hm : MpO encL i64V hL lm L) :
    Ct Tryd.prog w0 50 [.pointer (some ⟨b, 0, none⟩), encL k] K (pt b #[sv, .map (some lm), mv] 81 :: hL :: hs)
      (fun v K' hs' => K' = K ∧ ∃ hL', hs' = pt b #[sv, .map (some lm), mv] 81 :: hL' :: hs ∧ MpO encL i64V hL' lm (knownP L k).1 ∧ v = .int .i64 (knownP L k).2) := by
  refine enter Tryd.func50 (by kernel_rfl) rfl rfl rfl ?_
  refine sq (rg (?_))
  refine bx hT 0 rfl fun b3 => ?_
  refine fin hT 1 rfl (th (sq (rga [pt b3 (encL k).cells 122, pt b #[sv, .map (some lm), mv] 81, hL] 11 [0, 2, 4, 6, 8, 10, 12, 14, 16, 18, 20] (by simp) (by kernel_rfl) (by kernel_rfl) ?_)))
  refine dldp hT (by kernel_rfl) 3 1 rfl rfl rfl ?_
  refine dldS hT (by kernel_rfl) 0 0 rfl (by kernel_rfl) rfl (by kernel_rfl) ?_
  refine dlku hT (by kernel_rfl) 0 k rfl Tryd.underlying78 (zv := .int .i64 0) (by kernel_rfl) keyLk rfl (.inr ⟨2, rfl⟩) hm ?_
  cases hg : mget k L with
  | none =>
    refine dend hT (by kernel_rfl) 5 rfl (th (sq (sq (rg (?_)))))
    refine fin hT 2 rfl (th (ifT rfl ?_))
    refine sq (rg (?_))
    refine ldp hT 3 1 rfl rfl rfl ?_
    refine mln hT 0 rfl Tryd.underlying78 (.inr ⟨2, rfl⟩) hm ?_
    refine fin hT 1 rfl (th (rga [pt b3 (encL k).cells 122, pt b #[sv, .map (some lm), mv] 81] 7 [0, 2, 4, 6, 8, 10, 13] (by simp) (by kernel_rfl) (by kernel_rfl) ?_))
    refine dldp hT (by kernel_rfl) 3 1 rfl rfl rfl ?_
    refine dldS hT (by kernel_rfl) 0 0 rfl (by kernel_rfl) rfl (by kernel_rfl) ?_
    refine dact hT (by kernel_rfl) 1 rfl ?_
    refine mpu hT 0 2 k (L.length : Int) rfl rfl Tryd.underlying78 keyLk rfl rfl hm fun hL' hm' => ?_
    refine dnex [pt b3 (encL k).cells 122, pt b #[sv, .map (some lm), mv] 81] (by simp) (by simp) rfl ?_
    refine dend hT (by kernel_rfl) 0 rfl (th (sq (rg (?_))))
    refine fin hT 2 rfl (th (rt (WQ.drop ?_)))
    exact ret1 rfl rfl ⟨rfl, hL', rfl, by simp only [knownP, hg]; exact hm', by simp [knownP, hg]⟩
  | some n =>
    refine dend hT (by kernel_rfl) 5 rfl (th (sq (sq (rg (?_)))))
    refine fin hT 2 rfl (th (ifF rfl ?_))
    refine sk (th (sq (rg (?_))))
    refine fin hT 2 rfl (th (rt (WQ.drop ?_)))
    exact ret1 rfl rfl ⟨rfl, hL, rfl, by simp only [knownP, hg]; exact hm, by simp [knownP, hg, i64V]⟩
end Go.Proofs.YtlnhbilpkcfdlaaDoor
namespace Go.En
def arcV (x : ArcP) : List Value := [.int .i32 x.lb, .int .i64 x.out, .int .i64 x.to]
def arcR (c : List Value) (x : ArcP) : Prop := c = arcV x
/-- the elements of a list from behind, with their places -/
def backV {α : Type} (f : α → List Value) (l : List α) : List (List Value) := (l.zipIdx.map fun x => [.int .i64 ((x.2 : Nat) : Int), .agg (f x.1).toArray]).reverse
theorem backV_len {α : Type} (f : α → List Value) (l : List α) : (backV f l).length = l.length := by simp [backV]
theorem backV_get {α : Type} (f : α → List Value) {l : List α} {i : Nat} (h : i < l.length) : (backV f l)[i]? = some [.int .i64 ((l.length - 1 - i : Nat) : Int), .agg (f (l[l.length - 1 - i]'(by omega))).toArray] := by
  unfold backV
  rw [List.getElem?_reverse (by simpa using h)]
  simp only [List.length_map, List.length_zipIdx]
  rw [List.getElem?_map, List.getElem?_zipIdx, List.getElem?_eq_getElem (show l.length - 1 - i < l.length by omega)]
  simp
def BackRd {α : Type} (size : Nat) (R : List Value → α → Prop) (b : Nat) (ao : Option Addr) (c : Nat) (l : List α) (K : PH) (hs : List PH) : Prop :=
  (∃ h, In K hs h ∧ Cell h ⟨b, 0, none⟩ (.slice ao l.length c)) ∧ ∃ h, In K hs h ∧ SlS size R h ao l.length c l
end Go.En
namespace Go.Proofs.YtlnhbilpkcfdlaaDoor
open Go.En
set_option linter.unusedVariables false
attribute [local irreducible] Code.wp wpList Calls

theorem backAC {w0 : World} {K : PH} {hs : List PH} (ao : Option Addr) (n c : Nat) : Ct Tryd.prog w0 33 [.slice ao n c] K hs
    (fun v K' hs' => K' = K ∧ ∃ b, hs' = pt b #[.slice ao n c] 86 :: hs ∧ v = .func (.func 48) #[] #[.pointer (some ⟨b, 0, none⟩)]) := by
  refine enter Tryd.func33 (by kernel_rfl) rfl rfl rfl ?_
  refine sq (rg (?_))
  refine bx hT 0 rfl fun b1 => ?_
  refine fin hT 1 rfl (th (sq (rg (?_))))
  refine fin hT 2 rfl (th (rt (?_)))
  exact ret1 rfl rfl ⟨rfl, b1, rfl, rfl⟩
theorem backAI {w0 : World} (b : Nat) (ao : Option Addr) (c : Nat) (l : List ArcP) (hl : l.length ≤ 1099511627776) : ItCt Tryd.prog w0 48 [.pointer (some ⟨b, 0, none⟩)] (backV arcV l) (BackRd 3 arcR b ao c l) := by
  intro L St Sp hRd hY K hs h0
  refine enterX Tryd.func48 (by kernel_rfl) rfl rfl rfl ?_
  obtain ⟨⟨h1, m1, c1⟩, _⟩ := hRd 0 K hs h0
  refine sqX (rgX (?_))
  refine ld hT 0 rfl m1 c1 ?_
  refine ar hT 1 rfl (v' := .int .i64 ((l.length : Int) - 1 - ((0 : Nat) : Int))) (by rw [i64w (by omega)]; simp) ?_
  refine fin hT 1 rfl (nxX (thX (bkX (?_))))
  refine loopX (σ := Nat × PH × List PH) (fun s => [(0, .func (.yield L) #[] #[]), (1, .pointer (some ⟨b, 0, none⟩)), (3, .int .i64 ((l.length : Int) - 1 - ((s.1 : Nat) : Int)))]) (fun s => s.2.1) (fun s => s.2.2) (fun s => s.1 ≤ l.length ∧ St s.1 s.2.1 s.2.2) (fun s => l.length - s.1) (0, K, hs) ⟨Nat.zero_le _, h0⟩ ⟨rfl, rfl, rfl, trivial⟩ rfl rfl ?_
  rintro ⟨i, K, hs⟩ ⟨hi, hst⟩
  dsimp only at *
  obtain ⟨⟨h1, m1, c1⟩, h2, m2, c2⟩ := hRd i K hs hst
  refine sqX (sqX (rgX (?_)))
  refine cmpS hT 1 rfl fun b8 h8 => ?_
  refine fin hT 0 rfl (nxX (thX (ifPX h8 rfl (fun e2 => ?_) (fun e2 => ?_))))
  · have hil : i < l.length := by omega
    obtain ⟨a, rfl⟩ := c2.addr (by omega) (by decide)
    obtain ⟨vs, xs⟩ := c2.isS
    obtain ⟨cs, hc, hcl, hcell⟩ := c2.cells (i := l.length - 1 - i) (x := l[l.length - 1 - i]'(by omega)) (List.getElem?_eq_getElem _)
    refine skX (thX (sqX (bkX (sqX (rgI (WLI.cut 6 ?_))))))
    refine ld hT 2 rfl m1 c1 ?_
    refine ixs hT 1 (l.length - 1 - i) rfl (show _ = ((l.length - 1 - i : Nat) : Int) by omega) xs (by omega) (by decide) fun a15 ha => ?_
    cases ha
    refine lds hT 0 cs rfl (by rw [hcl]; kernel_rfl) m2 hcell ?_
    refine fin hT 0 rfl (cutX ?_)
    have hv : (backV arcV l)[i]? = some [.int .i64 ((l.length : Int) - 1 - ((i : Nat) : Int)), .agg cs.toArray] := by
      rw [backV_get arcV hil, hc, show ((l.length - 1 - i : Nat) : Int) = (l.length : Int) - 1 - ((i : Nat) : Int) from by omega]
    refine yld rfl (hY i _ K hs hv hst) ?_
    rintro v17 K17 hs17 (⟨rfl, hn⟩ | ⟨rfl, hp⟩)
    · refine WLI.fin ?_
      refine fin hT 1 rfl (nxX (thX (ifFX rfl ?_)))
      refine skX (blX (thX (rgX (?_))))
      refine ar hT 1 rfl (v' := .int .i64 ((l.length : Int) - 1 - ((i + 1 : Nat) : Int))) (by rw [i64w (by omega)]; congr 1; omega) ?_
      refine fin hT 1 rfl (nxX (?_))
      exact againX (x := (i, K, hs)) (i + 1, K17, hs17) ⟨rfl, rfl, rfl, trivial⟩ rfl rfl ⟨by dsimp only; omega, hn⟩ (by dsimp only; omega)
    · refine WLI.fin ?_
      refine fin hT 1 rfl (nxX (thX (ifTX rfl ?_)))
      refine rtX (rBX (rTX (rTX (rBX (?_)))))
      exact ret0X rfl (.inr hp)
  · refine exX (xtX (xtX (xbX (?_))))
    obtain rfl : i = l.length := by omega
    exact end0X rfl (.inl (by rw [backV_len]; exact hst))
end Go.Proofs.YtlnhbilpkcfdlaaDoor
namespace Go.En
set_option linter.unusedVariables false
abbrev w64 (n : Int) : Int := IntKind.i64.wrap n
structure Bld where
  L : List (LkP × Int)
  sts : List StP
  B : List (Int × Int)
def stV (s : StP) (ao : Option Addr) (n c : Nat) : List Value := [.bool s.fin, .int .i64 s.out, .slice ao n c]
def stR (H : PH) (c : List Value) (s : StP) : Prop := ∃ ao n cap, c = stV s ao n cap ∧ SlS 3 arcR H ao n cap s.arcs
theorem stR.le {H H' : PH} (l : Le H H') {c : List Value} {s : StP} (h : stR H c s) : stR H' c s := by
  obtain ⟨ao, n, cap, h1, h2⟩ := h
  exact ⟨ao, n, cap, h1, h2.le l fun _ _ h => h⟩
def chS (x : List (LkP × Int) × Int) (a : ArcP) : List (LkP × Int) × Int := knownP x.1 ⟨false, 0, w64 a.lb, a.out, a.to, w64 (x.2 + 1)⟩
def ch0 (L : List (LkP × Int)) (s : StP) : List (LkP × Int) × Int := knownP L ⟨s.fin, s.out, 0, 0, -1, 0⟩
def chP (L : List (LkP × Int)) (s : StP) : List (LkP × Int) × Int := s.arcs.reverse.foldl chS (ch0 L s)
def addP (x : Bld) (s : StP) : Bld × Int :=
  match mget (chP x.L s).2 x.B with
  | some n => (⟨(chP x.L s).1, x.sts, x.B⟩, n)
  | none => (⟨(chP x.L s).1, x.sts ++ [s], mset (chP x.L s).2 (x.sts.length : Int) x.B⟩, (x.sts.length : Int))
/-! contracts over several heaps as one -/
theorem Ct.split {P : Program} {w0 : World} {f : FuncId} {args : List Value} {K : PH} {m hs : List PH} {R : Value → PH → List PH → Prop} (d : Djs m) (c : Ct P w0 f args K (m ++ hs) R) : Ct P w0 f args K (uns m :: hs) R :=
  ⟨c.1, fun w hw => c.2 w (hw.split d)⟩
theorem Ct.fixs {P : Program} {w0 : World} {f : FuncId} {args : List Value} {K : PH} {hs : List PH} {R R' : Value → PH → List PH → Prop} (c : Ct P w0 f args K hs R)
    (h : ∀ w v K' hs', Sat w0 w K' hs' → R v K' hs' → ∃ K2 hs2, R' v K2 hs2 ∧ Sat w0 w K2 hs2) : Ct P w0 f args K hs R' :=
  ⟨c.1, fun w hw => (c.2 w hw).mono fun e w' he => by
    obtain ⟨v, K', hs', rfl, hR, hS⟩ := he
    obtain ⟨K2, hs2, h1, h2⟩ := h w' v K' hs' hS hR
    exact ⟨v, K2, hs2, rfl, h1, h2⟩⟩
end Go.En
namespace Go.Proofs.YtlnhbilpkcfdlaaDoor
open Go.En
set_option linter.unusedVariables false
attribute [local irreducible] Code.wp wpList Calls

def bldL (b lm bm : Nat) (ao : Option Addr) (n c : Nat) (hL hB gS : PH) : List PH := [pt b #[.slice ao n c, .map (some lm), .map (some bm)] 81, hL, hB, gS]
def BldH (K : PH) (b : Nat) (x : Bld) (h : PH) : Prop :=
  ∃ lm bm hL hB gS ao n c, h = uns (bldL b lm bm ao n c hL hB gS) ∧ Djs (bldL b lm bm ao n c hL hB gS) ∧ MpO encL i64V hL lm x.L ∧ MpO i64V i64V hB bm x.B ∧ SlO 3 88 (stR K) gS ao n c x.sts
theorem BldH.le {K K' : PH} (l : Le K K') {b : Nat} {x : Bld} {h : PH} (y : BldH K b x h) : BldH K' b x h := by
  obtain ⟨lm, bm, hL, hB, gS, ao, n, c, h1, h2, h3, h4, h5⟩ := y
  exact ⟨lm, bm, hL, hB, gS, ao, n, c, h1, h2, h3, h4, h5.imp fun _ _ h => h.le l⟩
theorem knownB {w0 : World} {K h : PH} {hs : List PH} (b : Nat) (x : Bld) (k : LkP) (y : BldH K b x h) :
    Ct Tryd.prog w0 50 [.pointer (some ⟨b, 0, none⟩), encL k] K (h :: hs)
      (fun v K' hs' => ∃ h', hs' = h' :: hs ∧ K' = K ∧ BldH K b ⟨(knownP x.L k).1, x.sts, x.B⟩ h' ∧ v = .int .i64 (knownP x.L k).2) := by
  obtain ⟨lm, bm, hL, hB, gS, ao, n, c, rfl, d, h3, h4, h5⟩ := y
  refine Ct.split d ((knownC b lm (.slice ao n c) (.map (some bm)) x.L k h3).fixs ?_)
  rintro w v K' hs' hS ⟨rfl, hL', rfl, hm', rfl⟩
  obtain ⟨d', hS'⟩ := Sat.join (bldL b lm bm ao n c hL' hB gS) (hs := hs) hS
  exact ⟨K', _, ⟨_, rfl, rfl, ⟨lm, bm, hL', hB, gS, ao, n, c, rfl, d', hm', h4, h5⟩, rfl⟩, hS'⟩
theorem keyI : KeyOK Tryd.prog 3 (κ := Int) i64V := keyInt Tryd.underlying3
theorem addC {w0 : World} {K h : PH} {hs : List PH} (b : Nat) (x : Bld) (s : StP) (ao : Option Addr) (n c : Nat) (y : BldH K b x h) (hs1 : SlS 3 arcR K ao n c s.arcs) (hb : x.sts.length ≤ 1000000) (ha : s.arcs.length ≤ 1000000) :
    Ct Tryd.prog w0 42 [.pointer (some ⟨b, 0, none⟩), .agg (stV s ao n c).toArray] K (h :: hs)
      (fun v K' hs' => ∃ h', hs' = h' :: hs ∧ Le K K' ∧ BldH K' b (addP x s).1 h' ∧ v = .int .i64 (addP x s).2) := by
  obtain rfl := hs1.len
  refine enterX Tryd.func42 (by kernel_rfl) rfl rfl rfl ?_
  refine sqX (rgX (?_))
  refine bx hT 0 rfl fun b2 => ?_
  refine bx hT 0 rfl fun b3 => ?_
  refine fin hT 1 rfl (nxX (thX (sqX (rgX (?_)))))
  refine ldp hT 0 1 rfl rfl rfl ?_
  refine ldp hT 1 0 rfl rfl rfl ?_
  refine ldp hT 1 0 rfl rfl rfl ?_
  refine bd hT 0 (encL ⟨s.fin, s.out, 0, 0, -1, 0⟩) rfl (fun w => by kernel_rfl) ?_
  refine cl hT 0 rfl (Ct.at 2 rfl (knownB b x ⟨s.fin, s.out, 0, 0, -1, 0⟩ y)) ?_
  rintro v16 K16 hs16 ⟨h1, rfl, rfl, y1, rfl⟩
  refine al hT 0 (.int .i64 0) rfl (by kernel_rfl) fun b5 => ?_
  refine stp hT 0 0 rfl rfl rfl rfl ?_
  refine fin hT 0 rfl (nxX (thX (sqX (sqX (rgX (?_))))))
  refine ldp hT 1 1 rfl rfl rfl ?_
  refine cl hT 0 rfl (backAC ao s.arcs.length c) ?_
  rintro v19 K19 hs19 ⟨rfl, b1, rfl, rfl⟩
  refine fin hT 0 rfl (nxX (thX (bkX (WX.frz fun K1 le1 le2 => ?_))))
  have hs2 : SlS 3 arcR K1 ao s.arcs.length c s.arcs := hs1.le le1 fun _ _ h => h
  refine rgf [.pointer (some ⟨b1, 0, none⟩)] (backV arcV s.arcs) (BackRd 3 arcR b1 ao c s.arcs) rfl (backAI b1 ao c s.arcs (by omega)) (by kernel_rfl) (fun vs hv => ?_) rfl
    (fun i K' hs' => K' = K1 ∧ ∃ h' Lk, hs' = pt b5 #[.int .i64 Lk.2] 3 :: pt b3 (stV s ao s.arcs.length c).toArray 88 :: pt b2 #[.pointer (some ⟨b, 0, none⟩)] 77 :: h' :: hs ∧ Lk = (s.arcs.reverse.take i).foldl chS (ch0 x.L s) ∧ BldH K1 b ⟨Lk.1, x.sts, x.B⟩ h')
    (fun _ _ _ => False) ⟨rfl, h1, ch0 x.L s, rfl, rfl, y1.le le1⟩ (fun i K' hs' t u h => by obtain ⟨rfl, _⟩ := h; exact ⟨⟨K', .inl rfl, (Cell.pt rfl).le le2⟩, K', .inl rfl, hs2⟩) ?_ ?_ ?_
  · obtain ⟨y, _, rfl⟩ := List.mem_map.1 (List.mem_reverse.1 hv)
    rfl
  · rintro L i vs K hs' t u hvs ⟨rfl, h', Lk, rfl, hLk, y2⟩
    have hi : i < s.arcs.length := by have := (List.getElem?_eq_some_iff.1 hvs).1; rw [backV_len] at this; exact this
    rw [backV_get arcV hi] at hvs
    cases hvs
    obtain ⟨a, haa⟩ : ∃ a, a = s.arcs[s.arcs.length - 1 - i]'(by omega) := ⟨_, rfl⟩
    rw [← haa]
    refine rgX (?_)
    refine al hT 0 (.agg #[.int .i32 0, .int .i64 0, .int .i64 0]) rfl (by kernel_rfl) fun b7 => ?_
    refine stS hT 0 0 rfl rfl (by kernel_rfl) rfl rfl ?_
    refine fin hT 0 rfl (nxX (asgX (hs' := pt b7 (arcV a).toArray 91 :: pt b5 #[.int .i64 Lk.2] 3 :: pt b3 (stV s ao s.arcs.length c).toArray 88 :: pt b2 #[.pointer (some ⟨b, 0, none⟩)] 77 :: h' :: hs) rfl fun u => ?_))
    refine bkX (rgX (?_))
    refine ldp hT 0 3 rfl rfl rfl ?_
    refine ldp hT 1 0 rfl rfl rfl ?_
    refine ar hT 0 rfl rfl ?_
    refine ldp hT 1 0 rfl rfl rfl ?_
    refine ldp hT 1 0 rfl rfl rfl ?_
    refine ldp hT 0 1 rfl rfl rfl ?_
    refine ar hT 0 rfl rfl ?_
    refine bd hT 0 (encL ⟨false, 0, w64 a.lb, a.out, a.to, w64 (Lk.2 + 1)⟩) rfl (fun w => by kernel_rfl) ?_
    refine cl hT 0 rfl (Ct.at 4 rfl (knownB b ⟨Lk.1, x.sts, x.B⟩ ⟨false, 0, w64 a.lb, a.out, a.to, w64 (Lk.2 + 1)⟩ y2)) ?_
    rintro v33 K33 hs33 ⟨h2, rfl, rfl, y3, rfl⟩
    refine stp hT 0 1 rfl rfl rfl rfl ?_
    refine fin hT 0 rfl (nxX (blX (WQX.drop (rndX (hs' := pt b5 #[.int .i64 (chS Lk a).2] 3 :: pt b3 (stV s ao s.arcs.length c).toArray 88 :: pt b2 #[.pointer (some ⟨b, 0, none⟩)] 77 :: h2 :: hs) rfl ?_))))
    refine ⟨rfl, h2, chS Lk a, rfl, ?_, y3⟩
    have : s.arcs.reverse.take (i + 1) = s.arcs.reverse.take i ++ [a] := by
      rw [List.take_add_one, List.getElem?_reverse hi, List.getElem?_eq_getElem (show s.arcs.length - 1 - i < s.arcs.length by omega), haa]
      rfl
    rw [this, List.foldl_append, ← hLk]
    rfl
  · rintro D K hs' ⟨rfl, h', Lk, rfl, hLk, y2⟩
    rw [backV_len, List.take_of_length_le (by simp)] at hLk
    have hLk' : Lk = chP x.L s := hLk
    subst hLk'
    obtain ⟨lm, bm, hL, hB, gS, aoS, nS, cS, rfl, d, q3, q4, q5⟩ := y2
    obtain rfl := q5.len
    refine blX (thX (sqX (WX.perm (perm_front _ 3 _ rfl) (WX.split d ?_))))
    refine rgaX [pt b #[.slice aoS x.sts.length cS, .map (some lm), .map (some bm)] 81, hB, pt b5 #[.int .i64 (chP x.L s).2] 3, pt b2 #[.pointer (some ⟨b, 0, none⟩)] 77] 11 [0, 2, 4, 6, 8, 10, 12, 14, 16, 18, 20] (by simp [bldL]) (by kernel_rfl) (by kernel_rfl) ?_
    refine dldp hT (by kernel_rfl) 0 3 rfl rfl rfl ?_
    refine dldp hT (by kernel_rfl) 2 0 rfl rfl rfl ?_
    refine dldp hT (by kernel_rfl) 0 2 rfl rfl rfl ?_
    refine dlku hT (by kernel_rfl) 0 (chP x.L s).2 rfl Tryd.underlying79 (zv := .int .i64 0) (by kernel_rfl) keyI rfl (.inr ⟨1, rfl⟩) q4 ?_
    cases hg : mget (chP x.L s).2 x.B with
    | none =>
      refine dend hT (by kernel_rfl) 5 rfl (nxX (thX (sqX (sqX (rgX (?_))))))
      refine fin hT 2 rfl (nxX (thX (ifTX rfl ?_)))
      refine sqX (rgX (?_))
      refine ldp hT 0 6 rfl rfl rfl ?_
      refine ldp hT 2 0 rfl rfl rfl ?_
      refine fin hT 2 rfl (nxX (thX (sqX (rgaX [pt b #[.slice aoS x.sts.length cS, .map (some lm), .map (some bm)] 81, pt b2 #[.pointer (some ⟨b, 0, none⟩)] 77, pt b3 (stV s ao s.arcs.length c).toArray 88] 10 [0, 2, 4, 6, 8, 10, 13, 15, 16, 18, 21] (by simp [bldL]) (by kernel_rfl) (by kernel_rfl) ?_))))
      refine dldpw hT (by kernel_rfl) 0 1 rfl (by kernel_rfl) rfl rfl ?_
      refine dldpw hT (by kernel_rfl) 0 1 rfl (by kernel_rfl) rfl rfl ?_
      refine dldpw hT (by kernel_rfl) 2 0 rfl (by kernel_rfl) rfl rfl ?_
      refine dldS hT (by kernel_rfl) 0 2 rfl (by kernel_rfl) rfl (by kernel_rfl) ?_
      refine dact hT (by kernel_rfl) 0 rfl ?_
      refine lit hT 0 (stV s ao s.arcs.length c).toArray rfl (by decide) (by kernel_rfl) fun b56 => ?_
      refine dnex [pt b #[.slice aoS x.sts.length cS, .map (some lm), .map (some bm)] 81, pt b2 #[.pointer (some ⟨b, 0, none⟩)] 77, pt b3 (stV s ao s.arcs.length c).toArray 88] (by simp [bldL]) (by simp) rfl ?_
      refine dact hT (by kernel_rfl) 0 rfl ?_
      refine appS hT 0 4 (stV s ao s.arcs.length c) s rfl rfl rfl q5 ⟨ao, _, c, rfl, hs2⟩ rfl (by simp [stV, Value.oneCell']) rfl (by decide) (by show _ * 40 ≤ _; omega) (by simp only [maxLen]; omega) fun ao57 c57 g57 o57 => ?_
      refine dnex [pt b #[.slice aoS x.sts.length cS, .map (some lm), .map (some bm)] 81, pt b2 #[.pointer (some ⟨b, 0, none⟩)] 77, pt b3 (stV s ao s.arcs.length c).toArray 88] (by simp [bldL]) (by simp) rfl ?_
      refine dact hT (by kernel_rfl) 2 rfl ?_
      refine stp hT 0 1 rfl rfl rfl rfl ?_
      refine dnext (.inl (by kernel_rfl)) ?_
      refine dend hT (by kernel_rfl) 0 rfl (nxX (thX (WX.drop (rgaX [pt b #[.slice ao57 (x.sts.length + 1) c57, .map (some lm), .map (some bm)] 81, pt b5 #[.int .i64 (chP x.L s).2] 3, pt b2 #[.pointer (some ⟨b, 0, none⟩)] 77] 7 [0, 2, 4, 6, 8, 10, 13] (by simp [bldL]) (by kernel_rfl) (by kernel_rfl) ?_))))
      refine dldp hT (by kernel_rfl) 0 2 rfl rfl rfl ?_
      refine dldp hT (by kernel_rfl) 2 0 rfl rfl rfl ?_
      refine dldp hT (by kernel_rfl) 0 1 rfl rfl rfl ?_
      refine dact hT (by kernel_rfl) 1 rfl ?_
      refine mpu hT 0 2 (chP x.L s).2 (x.sts.length : Int) rfl rfl Tryd.underlying79 keyI rfl rfl q4 fun hB' q4' => ?_
      refine dnex [pt b #[.slice ao57 (x.sts.length + 1) c57, .map (some lm), .map (some bm)] 81, pt b5 #[.int .i64 (chP x.L s).2] 3, pt b2 #[.pointer (some ⟨b, 0, none⟩)] 77] (by simp [bldL]) (by simp) rfl ?_
      refine dend hT (by kernel_rfl) 0 rfl (nxX (thX (sqX (rgX (?_)))))
      refine fin hT 2 rfl (nxX (thX (rtX (?_))))
      refine WQX.join (bldL b lm bm ao57 (x.sts.length + 1) c57 hL hB' g57) fun d' => WQX.drop1 (WQX.drop1 (WQX.drop1 (?_)))
      refine ret1M D (hs' := _ :: hs) rfl rfl rfl ⟨_, rfl, le1, ⟨lm, bm, hL, hB', g57, ao57, _, c57, rfl, d', by simp only [addP, hg]; exact q3, by simp only [addP, hg]; exact q4', by simp only [addP, hg]; exact o57⟩, by simp [addP, hg]⟩
    | some m =>
      refine dend hT (by kernel_rfl) 5 rfl (nxX (thX (sqX (sqX (rgX (?_))))))
      refine fin hT 2 rfl (nxX (thX (ifFX rfl ?_)))
      refine skX (thX (sqX (rgX (?_))))
      refine fin hT 2 rfl (nxX (thX (rtX (?_))))
      refine WQX.join (bldL b lm bm aoS x.sts.length cS hL hB gS) fun d' => WQX.drop1 (WQX.drop1 (WQX.drop1 (?_)))
      refine ret1M D (hs' := _ :: hs) rfl rfl rfl ⟨_, rfl, le1, ⟨lm, bm, hL, hB, gS, aoS, _, cS, rfl, d', by simp only [addP, hg]; exact q3, by simp only [addP, hg]; exact q4, by simp only [addP, hg]; exact q5⟩, by simp [addP, hg, i64V]⟩
  · rintro D c' K hs' hj
    exact hj.elim
end Go.Proofs.YtlnhbilpkcfdlaaDoor
namespace Go.En
set_option linter.unusedVariables false
structure RstP where
  rs : List Nat
  w : Int
def tlR (r : RstP) : RstP := ⟨r.rs.tail, r.w⟩
def minG (a b : Int) : Int := if b < a then b else a
def leastP : List RstP → Int
  | [] => 0
  | r :: l => (r :: l).foldl (fun n x => minG n x.w) r.w
def spanP (lb : Nat) : List RstP → List RstP × List RstP
  | [] => ([], [])
  | r :: l => if r.rs.head? = some lb then (tlR r :: (spanP lb l).1, (spanP lb l).2) else ([], r :: l)
def arcsP (rec : Bld → List RstP → Bld × Int) (low : Int) : Nat → Bld → List RstP → List ArcP → Bld × List ArcP
  | 0, x, _, acc => (x, acc)
  | _ + 1, x, [], acc => (x, acc)
  | m + 1, x, r :: l, acc => arcsP rec low m (rec x (spanP (r.rs.headD 0) (r :: l)).1).1 (spanP (r.rs.headD 0) (r :: l)).2
      (acc ++ [⟨((r.rs.headD 0 : Nat) : Int), leastP (spanP (r.rs.headD 0) (r :: l)).1 - low, (rec x (spanP (r.rs.headD 0) (r :: l)).1).2⟩])
def finR : List RstP → Bool
  | [] => false
  | r :: _ => r.rs.isEmpty
def outR (l : List RstP) : Int := if finR l = true then (l.headD ⟨[], 0⟩).w - leastP l else 0
def bodyR (l : List RstP) : List RstP := if finR l = true then l.tail else l
def stateP : Nat → Bld → List RstP → Bld × Int
  | 0, x, _ => (x, 0)
  | k + 1, x, l => addP (arcsP (stateP k) (leastP l) (bodyR l).length x (bodyR l) []).1 ⟨finR l, outR l, (arcsP (stateP k) (leastP l) (bodyR l).length x (bodyR l) []).2⟩
/-! what lists of rests are such as come -/
def ltR : List Nat → List Nat → Prop
  | [], [] => False
  | [], _ :: _ => True
  | _ :: _, [] => False
  | a :: l, b :: m => a < b ∨ (a = b ∧ ltR l m)
def SLr (l : List RstP) : Prop := l.Pairwise fun a b => ltR a.rs b.rs
def totR (l : List RstP) : Nat := (l.map fun r => r.rs.length).sum
structure OkR (k : Nat) (l : List RstP) : Prop where
  sl : SLr l
  dep : ∀ r ∈ l, r.rs.length ≤ k
  wt : ∀ r ∈ l, 0 ≤ r.w ∧ r.w ≤ 1073741824
theorem minG_mem (a b : Int) : minG a b = a ∨ minG a b = b := by unfold minG; split <;> simp
theorem fold_min_bd : ∀ (l : List RstP) (n : Int) {lo hi : Int}, lo ≤ n ∧ n ≤ hi → (∀ r ∈ l, lo ≤ r.w ∧ r.w ≤ hi) → lo ≤ l.foldl (fun n x => minG n x.w) n ∧ l.foldl (fun n x => minG n x.w) n ≤ hi
  | [], n, lo, hi, h, _ => h
  | r :: l, n, lo, hi, h, hl => by
    have hr := hl r (by simp)
    refine fold_min_bd l (minG n r.w) ?_ (fun x hx => hl x (by simp [hx]))
    rcases minG_mem n r.w with e | e <;> rw [e] <;> assumption
theorem leastP_bd {l : List RstP} (h : ∀ r ∈ l, 0 ≤ r.w ∧ r.w ≤ 1073741824) : 0 ≤ leastP l ∧ leastP l ≤ 1073741824 := by
  cases l with
  | nil => simp [leastP]
  | cons r l => exact fold_min_bd _ _ (h r (by simp)) h
theorem SLr.ne {r : RstP} {l : List RstP} (h : SLr (r :: l)) : ∀ x ∈ l, x.rs ≠ [] := by
  intro x hx e
  have := (List.pairwise_cons.1 h).1 x hx
  rw [e] at this
  cases hr : r.rs with
  | nil => rw [hr] at this; exact this
  | cons a m => rw [hr] at this; exact this
theorem spanP_sub (lb : Nat) : ∀ l : List RstP, ∃ m : List RstP, l = m ++ (spanP lb l).2 ∧ (spanP lb l).1 = m.map tlR ∧ ∀ r ∈ m, r.rs.head? = some lb
  | [] => ⟨[], rfl, rfl, by simp⟩
  | r :: l => by
    obtain ⟨m, h1, h2, h3⟩ := spanP_sub lb l
    by_cases h : r.rs.head? = some lb
    · refine ⟨r :: m, ?_, ?_, ?_⟩
      · simp only [spanP, h, if_true, List.cons_append]; rw [← h1]
      · simp only [spanP, h, if_true, List.map_cons, h2]
      · intro x hx
        rcases List.mem_cons.1 hx with rfl | hx
        · exact h
        · exact h3 x hx
    · exact ⟨[], by simp [spanP, h], by simp [spanP, h], by simp⟩
theorem head_tail {lb : Nat} {l : List Nat} (h : l.head? = some lb) : l = lb :: l.tail := by
  cases l with
  | nil => simp at h
  | cons a l => simp at h; subst h; rfl
theorem SLr.span {lb : Nat} {l : List RstP} (h : SLr l) : SLr (spanP lb l).1 ∧ SLr (spanP lb l).2 := by
  obtain ⟨m, h1, h2, h3⟩ := spanP_sub lb l
  rw [SLr, h1, List.pairwise_append] at h
  refine ⟨?_, h.2.1⟩
  rw [h2]
  refine List.pairwise_map.2 (List.Pairwise.imp_of_mem ?_ h.1)
  intro a b ha hb hab
  rw [head_tail (h3 a ha), head_tail (h3 b hb)] at hab
  simp only [ltR, Nat.lt_irrefl, false_or, true_and] at hab
  exact hab
theorem OkR.span {k lb : Nat} {l : List RstP} (h : OkR (k + 1) l) : OkR k (spanP lb l).1 ∧ OkR (k + 1) (spanP lb l).2 := by
  obtain ⟨m, h1, h2, h3⟩ := spanP_sub lb l
  have hm : ∀ r ∈ m, r ∈ l := fun r hr => by rw [h1]; simp [hr]
  have hm2 : ∀ r ∈ (spanP lb l).2, r ∈ l := fun r hr => by rw [h1]; simp [hr]
  refine ⟨⟨h.sl.span.1, ?_, ?_⟩, ⟨h.sl.span.2, fun r hr => h.dep r (hm2 r hr), fun r hr => h.wt r (hm2 r hr)⟩⟩
  · rw [h2]
    intro r hr
    obtain ⟨x, hx, rfl⟩ := List.mem_map.1 hr
    have := h.dep x (hm x hx)
    rw [head_tail (h3 x hx)] at this
    simp only [tlR, List.length_cons] at this ⊢
    omega
  · rw [h2]
    intro r hr
    obtain ⟨x, hx, rfl⟩ := List.mem_map.1 hr
    exact h.wt x (hm x hx)
theorem totR_append (l m : List RstP) : totR (l ++ m) = totR l + totR m := by simp [totR]
theorem span_tot {lb : Nat} {l : List RstP} (h : (spanP lb l).1 ≠ []) : totR (spanP lb l).1 + 1 + totR (spanP lb l).2 ≤ totR l := by
  obtain ⟨m, h1, h2, h3⟩ := spanP_sub lb l
  have h4 : totR l = totR m + totR (spanP lb l).2 := by rw [← totR_append, ← h1]
  have key : ∀ m : List RstP, (∀ r ∈ m, r.rs.head? = some lb) → totR (m.map tlR) + m.length ≤ totR m := by
    intro m
    induction m with
    | nil => intro _; simp [totR]
    | cons r m ih =>
      intro h3
      have := ih (fun x hx => h3 x (by simp [hx]))
      have hr : r.rs.length = r.rs.tail.length + 1 := by rw [head_tail (h3 r (by simp))]; simp
      simp only [totR, List.map_cons, List.sum_cons, List.length_cons, tlR] at this ⊢
      omega
  have k1 := key m h3
  have k2 : m ≠ [] := fun e => h (by rw [h2, e]; rfl)
  have k3 := List.length_pos_iff.2 k2
  rw [h2, h4]
  omega
theorem span_head {r : RstP} {l : List RstP} (h : r.rs ≠ []) : (spanP (r.rs.headD 0) (r :: l)).1 ≠ [] ∧ (spanP (r.rs.headD 0) (r :: l)).2.length ≤ l.length := by
  have hr : r.rs.head? = some (r.rs.headD 0) := by cases e : r.rs with | nil => exact absurd e h | cons a m => rfl
  obtain ⟨m, h1, _, _⟩ := spanP_sub (r.rs.headD 0) l
  simp only [spanP, hr, if_true]
  refine ⟨by simp, ?_⟩
  have := congrArg List.length h1
  rw [List.length_append] at this
  omega
theorem addP_sts (x : Bld) (s : StP) : (addP x s).1.sts.length ≤ x.sts.length + 1 := by unfold addP; split <;> simp
theorem arcsP_sts {k : Nat} {low : Int} {rec : Bld → List RstP → Bld × Int} (ih : ∀ x l, OkR k l → l ≠ [] → (rec x l).1.sts.length ≤ x.sts.length + totR l + 1) : ∀ (m : Nat) (x : Bld) (l : List RstP) (acc : List ArcP), OkR (k + 1) l → (∀ r ∈ l, r.rs ≠ []) →
    (arcsP (rec) low m x l acc).1.sts.length ≤ x.sts.length + totR l ∧ (arcsP (rec) low m x l acc).2.length ≤ acc.length + l.length
  | 0, x, l, acc, _, _ => by simp [arcsP]
  | _ + 1, x, [], acc, _, _ => by simp [arcsP]
  | m + 1, x, r :: l, acc, h, hne => by
    have h1 := span_head (l := l) (hne r (by simp))
    have h2 := h.span (lb := r.rs.headD 0)
    have h3 := span_tot h1.1
    have h4 := ih x _ h2.1 h1.1
    obtain ⟨mm, e1, _, _⟩ := spanP_sub (r.rs.headD 0) (r :: l)
    have h5 := arcsP_sts ih (low := low) m (rec x (spanP (r.rs.headD 0) (r :: l)).1).1 (spanP (r.rs.headD 0) (r :: l)).2 (acc ++ [⟨((r.rs.headD 0 : Nat) : Int), leastP (spanP (r.rs.headD 0) (r :: l)).1 - low, (rec x (spanP (r.rs.headD 0) (r :: l)).1).2⟩]) h2.2
      (fun y hy => hne y (by rw [e1]; exact List.mem_append_right _ hy))
    have h6 := h1.2
    refine ⟨Nat.le_trans h5.1 ?_, Nat.le_trans h5.2 ?_⟩
    · omega
    · rw [List.length_append, List.length_singleton, List.length_cons]
      omega
theorem bodyR_ok {k : Nat} {l : List RstP} (h : OkR k l) (hl : l ≠ []) : OkR k (bodyR l) ∧ (∀ r ∈ bodyR l, r.rs ≠ []) ∧ totR (bodyR l) = totR l ∧ (bodyR l).length ≤ l.length := by
  cases l with
  | nil => exact absurd rfl hl
  | cons r l =>
    unfold bodyR
    by_cases hf : finR (r :: l) = true
    · rw [if_pos hf]
      have he : r.rs = [] := by simpa [finR] using hf
      refine ⟨⟨(List.pairwise_cons.1 h.sl).2, fun x hx => h.dep x (by simp [List.tail] at hx; simp [hx]), fun x hx => h.wt x (by simp [List.tail] at hx; simp [hx])⟩, h.sl.ne, by simp [totR, he], by simp⟩
    · rw [if_neg hf]
      have he : r.rs ≠ [] := by simpa [finR] using hf
      refine ⟨h, ?_, rfl, Nat.le_refl _⟩
      intro x hx
      rcases List.mem_cons.1 hx with rfl | hx
      · exact he
      · exact h.sl.ne x hx
theorem stateP_sts : ∀ (k : Nat) (x : Bld) (l : List RstP), OkR k l → l ≠ [] → (stateP (k + 1) x l).1.sts.length ≤ x.sts.length + totR l + 1
  | k, x, l, h, hl => by
    obtain ⟨h1, h2, h3, _⟩ := bodyR_ok h hl
    unfold stateP
    have ha := addP_sts (arcsP (stateP k) (leastP l) (bodyR l).length x (bodyR l) []).1 ⟨finR l, outR l, (arcsP (stateP k) (leastP l) (bodyR l).length x (bodyR l) []).2⟩
    cases k with
    | zero =>
      have hb : bodyR l = [] := by
        cases hb : bodyR l with
        | nil => rfl
        | cons r m =>
          have := h1.dep r (by rw [hb]; simp)
          exact absurd (List.eq_nil_of_length_eq_zero (by omega)) (h2 r (by rw [hb]; simp))
      rw [hb] at ha ⊢
      simp only [arcsP, List.length_nil] at ha ⊢
      omega
    | succ k =>
      have h5 := arcsP_sts (k := k) (low := leastP l) (rec := stateP (k + 1)) (fun x l h hl => stateP_sts k x l h hl) (bodyR l).length x (bodyR l) [] h1 h2
      omega
end Go.En
namespace Go.En
def rstV (r : RstP) (ao : Option Addr) (n c : Nat) : List Value := [.slice ao n c, .int .i64 r.w]
def rstR (H : PH) (c : List Value) (r : RstP) : Prop := ∃ ao cap, c = rstV r ao r.rs.length cap ∧ IsS H ao r.rs.length cap 1 (rvv r.rs)
theorem rstR.le {H H' : PH} (l : Le H H') {c : List Value} {r : RstP} (h : rstR H c r) : rstR H' c r := by
  obtain ⟨ao, cap, h1, h2⟩ := h
  exact ⟨ao, cap, h1, h2.le l⟩
theorem rvv_tail (l : List Nat) : rvv l.tail = (rvv l).drop 1 := by cases l <;> simp [rvv]
end Go.En
namespace Go.Proofs.YtlnhbilpkcfdlaaDoor
open Go.En
set_option linter.unusedVariables false
attribute [local irreducible] Code.wp wpList Calls

theorem leastC {w0 : World} {K h : PH} {hs : List PH} (ao : Option Addr) (n c : Nat) (l : List RstP) (hm : In K hs h) (x : SlS 2 (rstR K) h ao n c l) (hl : l ≠ []) (hb : l.length ≤ 1000000) :
    Ct Tryd.prog w0 27 [.slice ao n c] K hs (fun v K' hs' => K' = K ∧ hs' = hs ∧ v = .int .i64 (leastP l)) := by
  obtain rfl := x.len
  have hlp := List.length_pos_iff.2 hl
  obtain ⟨a, rfl⟩ := x.addr hlp (by decide)
  obtain ⟨vs, xv⟩ := x.isS
  obtain ⟨r0, m, rfl⟩ : ∃ r0 m, l = r0 :: m := by cases l with | nil => exact absurd rfl hl | cons r m => exact ⟨r, m, rfl⟩
  obtain ⟨c0, hc0, hl0, hcell0⟩ := x.cells (i := 0) (x := r0) rfl
  obtain ⟨ao0, cap0, rfl, _⟩ := hc0
  refine enter Tryd.func27 (by kernel_rfl) rfl rfl rfl ?_
  refine sq (rg (?_))
  refine fin hT 1 rfl (th (sq (rg (?_))))
  refine ixs hT 1 0 rfl rfl xv hlp (by decide) fun a7 ha => ?_
  cases ha
  refine ld hT 1 rfl hm (hcell0 1 _ rfl) ?_
  refine fin hT 1 rfl (th (sq (sq (rg (?_)))))
  refine fin hT 3 rfl (th (bk (?_)))
  refine loop (σ := Nat) (fun i => [(3, .int .i64 (((r0 :: m).take i).foldl (fun n x => minG n x.w) r0.w)), (10, .slice (some a) (r0 :: m).length c), (11, .int .i64 (((r0 :: m).length : Nat) : Int)), (12, .int .i64 ((i : Nat) : Int))]) (fun _ => K) (fun _ => hs) (fun i => i ≤ (r0 :: m).length) (fun i => (r0 :: m).length - i) 0 (Nat.zero_le _) ⟨rfl, rfl, rfl, rfl, trivial⟩ rfl rfl ?_
  intro i hi
  refine sq (rg (?_))
  refine cmpS hT 0 rfl fun b13 h13 => ?_
  refine fin hT 0 rfl (th (sq (ifP h13 rfl (fun e2 => ?_) (fun e2 => ?_))))
  · have hil : i < (r0 :: m).length := by omega
    obtain ⟨ri, hri⟩ : ∃ ri, ri = (r0 :: m)[i] := ⟨_, rfl⟩
    obtain ⟨ci, hci, hli, hcelli⟩ := x.cells (i := i) (x := ri) (by rw [List.getElem?_eq_getElem hil, hri])
    obtain ⟨aoi, capi, rfl, _⟩ := hci
    refine sk (th (sq (bk (sq (rg (?_))))))
    refine ixs hT 0 i rfl rfl xv hil (by decide) fun a14 ha => ?_
    cases ha
    refine lds hT 0 (rstV ri aoi ri.rs.length capi) rfl (by kernel_rfl) hm hcelli ?_
    refine al hT 0 (.agg #[.slice none 0 0, .int .i64 0]) rfl (by kernel_rfl) fun b5 => ?_
    refine stS hT 0 0 rfl rfl (by kernel_rfl) rfl rfl ?_
    refine fin hT 0 rfl (th (rg (?_)))
    refine ldp hT 2 0 rfl rfl rfl ?_
    refine fin hT 2 rfl (bl (th (rg (?_))))
    refine ar hT 0 rfl (i64w (x := ((i + 1 : Nat) : Int)) (by omega)) ?_
    refine fin hT 1 rfl (WQ.drop ?_)
    have ht : (r0 :: m).take (i + 1) = (r0 :: m).take i ++ [ri] := by rw [List.take_add_one, List.getElem?_eq_getElem hil, hri]; rfl
    exact again (x := i) (i + 1) ⟨by rw [ht, List.foldl_append]; rfl, rfl, rfl, rfl, trivial⟩ rfl rfl hil (by omega)
  · refine ex (xt (xt (xb (th (sq (rg (?_)))))))
    refine fin hT 2 rfl (th (rt (?_)))
    refine ret1 rfl rfl ⟨rfl, rfl, ?_⟩
    rw [List.take_of_length_le (by omega)]
    rfl

def GrpC (k : Nat) (b : Nat) (rec : Bld → List RstP → Bld × Int) : Prop :=
  ∀ {w0 : World} {K h : PH} {hs : List PH} (x : Bld) (ao : Option Addr) (n c lb : Nat) (l : List RstP), OkR k l → (∀ r ∈ l, r.rs ≠ []) → (spanP lb l).1 ≠ [] → (spanP lb l).1.length ≤ 1000000 → x.sts.length + totR (spanP lb l).1 + 1 ≤ 1000000 →
    BldH K b x h → SlS 2 (rstR K) K ao n c (spanP lb l).1 → Ct Tryd.prog w0 26 [.pointer (some ⟨b, 0, none⟩), .slice ao n c] K (h :: hs)
      (fun v K' hs' => ∃ h', hs' = h' :: hs ∧ Le K K' ∧ BldH K' b (rec x (spanP lb l).1).1 h' ∧ v = .int .i64 (rec x (spanP lb l).1).2)
theorem stateS {w0 : World} {K h : PH} {hs : List PH} (k b : Nat) (x : Bld) (ao : Option Addr) (n c : Nat) (l : List RstP) (hg : GrpC k b (stateP k)) (hst : ∀ x l' lb, OkR k l' → (∀ r ∈ l', r.rs ≠ []) → (spanP lb l').1 ≠ [] → (stateP k x (spanP lb l').1).1.sts.length ≤ x.sts.length + totR (spanP lb l').1 + 1)
    (y : BldH K b x h) (xl : SlS 2 (rstR K) K ao n c l) (ok : OkR k l) (hl : l ≠ []) (hb : l.length ≤ 1000000) (hsz : x.sts.length + totR l + 1 ≤ 1000000) :
    Ct Tryd.prog w0 26 [.pointer (some ⟨b, 0, none⟩), .slice ao n c] K (h :: hs)
      (fun v K' hs' => ∃ h', hs' = h' :: hs ∧ Le K K' ∧ BldH K' b (stateP (k + 1) x l).1 h' ∧ v = .int .i64 (stateP (k + 1) x l).2) := by
  obtain rfl := xl.len
  have hlp := List.length_pos_iff.2 hl
  have hlow := leastP_bd ok.wt
  obtain ⟨ok1, ne1, tot1, len1⟩ := bodyR_ok ok hl
  refine enter Tryd.func26 (by kernel_rfl) rfl rfl rfl ?_
  refine sq (rg (?_))
  refine fin hT 1 rfl (th (sq (rg (?_))))
  refine cl hT 1 rfl (leastC ao l.length c l (.inl rfl) xl hl hb) ?_
  rintro v10 K10 hs10 ⟨rfl, rfl, rfl⟩
  refine fin hT 1 rfl (th (sq (rg (?_))))
  refine al hT 0 (.agg #[.bool false, .int .i64 0, .slice none 0 0]) rfl (by kernel_rfl) fun b6 => ?_
  refine fin hT 0 rfl (th (jn (σ := Option Addr × Nat) (fun s => [(0, .pointer (some ⟨b, 0, none⟩)), (1, .slice s.1 (bodyR l).length s.2), (5, .int .i64 (leastP l)), (6, .pointer (some ⟨b6, 0, none⟩))]) (fun _ => pt b6 #[.bool (finR l), .int .i64 (outR l), .slice none 0 0] 88 :: h :: hs) (fun s => SlS 2 (rstR K10) K10 s.1 (bodyR l).length s.2 (bodyR l)) ?_ ?_))
  · obtain ⟨a, rfl⟩ := xl.addr hlp (by decide)
    obtain ⟨vs, xv⟩ := xl.isS
    obtain ⟨r0, m, rfl⟩ : ∃ r0 m, l = r0 :: m := by cases l with | nil => exact absurd rfl hl | cons r m => exact ⟨r, m, rfl⟩
    obtain ⟨c0, hc0, hl0, hcell0⟩ := xl.cells (i := 0) (x := r0) rfl
    obtain ⟨ao0, cap0, rfl, xr0⟩ := hc0
    refine sq (rg (?_))
    refine ixs hT 1 0 rfl rfl xv hlp (by decide) fun a12 ha => ?_
    cases ha
    refine ld hT 1 rfl (.inl rfl) (hcell0 0 _ rfl) ?_
    refine cmpS hT 1 rfl fun b16 h16 => ?_
    refine fin hT 0 rfl (ifP h16 rfl (fun e2 => ?_) (fun e2 => ?_))
    · have hf : finR (r0 :: m) = true := by simp only [finR, List.isEmpty_iff]; exact List.eq_nil_of_length_eq_zero (by omega)
      have hbody : bodyR (r0 :: m) = m := by simp [bodyR, hf]
      have hout : outR (r0 :: m) = r0.w - leastP (r0 :: m) := by simp [outR, hf]
      have hw0 := ok.wt r0 (by simp)
      refine sq (rga [] 10 [0, 2, 4, 6, 8, 10, 12, 15, 16, 19] (by simp) (by kernel_rfl) (by kernel_rfl) ?_)
      refine dixs hT (by kernel_rfl) 1 0 rfl rfl hlp ?_
      refine dld hT (by kernel_rfl) 1 rfl (.inl rfl) (hcell0 1 _ rfl) ?_
      refine dar hT (by kernel_rfl) 1 rfl (i64w (x := r0.w - leastP (r0 :: m)) (by omega)) ?_
      refine dact hT (by kernel_rfl) 1 rfl ?_
      refine stp hT 0 0 rfl rfl rfl rfl ?_
      refine dnex [] (by simp) (by simp) rfl ?_
      refine dact hT (by kernel_rfl) 1 rfl ?_
      refine stp hT 0 0 rfl rfl rfl rfl ?_
      refine dnex [] (by simp) (by simp) rfl ?_
      refine dend hT (by kernel_rfl) 0 rfl (th (rg (?_)))
      refine slx hT 1 1 m.length rfl rfl (show (((r0 :: m).length : Nat) : Int) = _ by simp only [List.length_cons]; omega) (by have := xv.2.1; simp only [List.length_cons] at this; omega) ?_
      have xc := xl.cut 1 hlp
      rw [hbody, hf, hout]
      refine fin hT 1 rfl (jx (_, _) (show SlS 2 (rstR K10) K10 _ m.length _ m from xc) ⟨rfl, rfl, rfl, rfl, trivial⟩ rfl rfl)
    · have hf : finR (r0 :: m) = false := by
        cases hf : finR (r0 :: m) with
        | false => rfl
        | true => exfalso; apply e2; simp only [finR, List.isEmpty_iff] at hf; simp [hf]
      have hbody : bodyR (r0 :: m) = r0 :: m := by simp [bodyR, hf]
      have hout : outR (r0 :: m) = 0 := by simp [outR, hf]
      rw [hbody, hf, hout]
      exact sk (jx (some a, c) xl ⟨rfl, rfl, rfl, rfl, trivial⟩ rfl rfl)
  · rintro ⟨ao1, c1⟩ xB
    dsimp only at xB ⊢
    refine sq (bk (WC.em ?_))
    refine loop (σ := (Bld × List ArcP × List RstP × Nat) × (PH × PH × PH) × (Option Addr × Nat) × (Option Addr × Nat)) (fun s => [(0, .pointer (some ⟨b, 0, none⟩)), (1, .slice s.2.2.1.1 s.1.2.2.1.length s.2.2.1.2), (5, .int .i64 (leastP l)), (6, .pointer (some ⟨b6, 0, none⟩))]) (fun s => s.2.1.1)
      (fun s => s.2.1.2.1 :: pt b6 #[.bool (finR l), .int .i64 (outR l), .slice s.2.2.2.1 s.1.2.1.length s.2.2.2.2] 88 :: s.2.1.2.2 :: hs)
      (fun s => Le K10 s.2.1.1 ∧ BldH s.2.1.1 b s.1.1 s.2.1.2.2 ∧ SlO 3 91 arcR s.2.1.2.1 s.2.2.2.1 s.1.2.1.length s.2.2.2.2 s.1.2.1 ∧ SlS 2 (rstR s.2.1.1) s.2.1.1 s.2.2.1.1 s.1.2.2.1.length s.2.2.1.2 s.1.2.2.1 ∧ OkR k s.1.2.2.1 ∧ (∀ r ∈ s.1.2.2.1, r.rs ≠ []) ∧ s.1.2.2.1.length ≤ s.1.2.2.2 ∧
        s.1.2.1.length + s.1.2.2.1.length ≤ (bodyR l).length ∧ s.1.1.sts.length + totR s.1.2.2.1 + 1 ≤ 1000000 ∧ arcsP (stateP k) (leastP l) s.1.2.2.2 s.1.1 s.1.2.2.1 s.1.2.1 = arcsP (stateP k) (leastP l) (bodyR l).length x (bodyR l) [])
      (fun s => s.1.2.2.1.length) ((x, [], bodyR l, (bodyR l).length), (K10, em, h), (ao1, c1), (none, 0))
      ⟨Le.refl _, y, SlO.nil _ _, xB, ok1, ne1, Nat.le_refl _, by simp, by dsimp only; omega, rfl⟩ ⟨rfl, rfl, rfl, rfl, trivial⟩ rfl rfl ?_
    rintro ⟨⟨x', acc, l', m⟩, ⟨K', gA, h'⟩, ⟨ao', c'⟩, ⟨aoA, cA⟩⟩ ⟨leK, y', oA, xs', ok', ne', hm, hacc, hst', hE⟩
    dsimp only at *
    refine sq (sq (rg (?_)))
    refine cmpS hT 2 rfl fun b29 h29 => ?_
    refine fin hT 0 rfl (th (ifP h29 rfl (fun e4 => ?_) (fun e4 => ?_)))
    · have hlp' : 0 < l'.length := by omega
      obtain ⟨r0, l1, rfl⟩ : ∃ r0 m, l' = r0 :: m := by cases l' with | nil => simp at hlp' | cons r m => exact ⟨r, m, rfl⟩
      obtain ⟨m, rfl⟩ : ∃ m', m = m' + 1 := ⟨m - 1, by simp only [List.length_cons] at hm; omega⟩
      have hr0 := ne' r0 (by simp)
      have hr0l := List.length_pos_iff.2 hr0
      obtain ⟨a, rfl⟩ := xs'.addr hlp' (by decide)
      obtain ⟨vs, xv⟩ := xs'.isS
      obtain ⟨c0, hc0, hl0, hcell0⟩ := xs'.cells (i := 0) (x := r0) rfl
      obtain ⟨ao0, cap0, rfl, xr0⟩ := hc0
      obtain ⟨a0, rfl⟩ := xr0.addr hr0l (by decide)
      refine sk (th (bk (sq (rg (?_)))))
      refine ixs hT 1 0 rfl rfl xv hlp' (by decide) fun a31 ha => ?_
      cases ha
      refine ld hT 1 rfl (.inl rfl) (hcell0 0 _ rfl) ?_
      refine ixs hT 0 0 rfl rfl xr0 hr0l (by decide) fun a34 ha => ?_
      cases ha
      refine ld hT 0 rfl (.inl rfl) (cellD xr0 hr0l) ?_
      have hhd : r0.rs.getD 0 0 = r0.rs.headD 0 := by cases r0.rs <;> rfl
      rw [hhd]
      obtain ⟨lb, hlb⟩ : ∃ lb, lb = r0.rs.headD 0 := ⟨_, rfl⟩
      rw [← hlb]
      refine fin hT 1 rfl (th (sq (rg (?_))))
      refine fin hT 1 rfl (th (sq (bk (WC.em ?_))))
      refine loop (σ := (List RstP × List RstP) × PH × (Option Addr × Nat) × (Option Addr × Nat)) (fun s => [(0, .pointer (some ⟨b, 0, none⟩)), (1, .slice s.2.2.1.1 s.1.2.length s.2.2.1.2), (5, .int .i64 (leastP l)), (6, .pointer (some ⟨b6, 0, none⟩)), (7, .int .i32 ((lb : Nat) : Int)), (8, .slice s.2.2.2.1 s.1.1.length s.2.2.2.2)]) (fun _ => K')
        (fun s => s.2.1 :: gA :: pt b6 #[.bool (finR l), .int .i64 (outR l), .slice aoA acc.length cA] 88 :: h' :: hs)
        (fun s => SlO 2 76 (rstR K') s.2.1 s.2.2.2.1 s.1.1.length s.2.2.2.2 s.1.1 ∧ SlS 2 (rstR K') K' s.2.2.1.1 s.1.2.length s.2.2.1.2 s.1.2 ∧ (∀ r ∈ s.1.2, r.rs ≠ []) ∧ s.1.1.length + s.1.2.length ≤ (r0 :: l1).length ∧ spanP lb (r0 :: l1) = (s.1.1 ++ (spanP lb s.1.2).1, (spanP lb s.1.2).2))
        (fun s => s.1.2.length) (([], r0 :: l1), em, (some a, c'), (none, 0)) ⟨SlO.nil _ _, xs', ne', by simp, rfl⟩ ⟨rfl, rfl, rfl, rfl, rfl, rfl, trivial⟩ rfl rfl ?_
      rintro ⟨⟨U, l2⟩, gU, ⟨ao2, c2⟩, ⟨aoU, cU⟩⟩ ⟨oU, xs2, ne2, hUl, hsp⟩
      dsimp only at *
      refine sq (sq (rg (?_)))
      refine cmpS hT 2 rfl fun b38 h38 => ?_
      have hcell2 : ∀ (hp : 0 < l2.length), ∃ r2 l3 a2 vs2 ao0' cap0', l2 = r2 :: l3 ∧ ao2 = some a2 ∧ IsS K' (some a2) l2.length c2 2 vs2 ∧ IsS K' (some ao0') r2.rs.length cap0' 1 (rvv r2.rs) ∧ 0 < r2.rs.length ∧ ∀ (j : Nat) v, (rstV r2 (some ao0') r2.rs.length cap0')[j]? = some v → Cell K' ((a2.add (0 * 2)).add j) v := by
        intro hp
        obtain ⟨r2, l3, rfl⟩ : ∃ r0 m, l2 = r0 :: m := by cases l2 with | nil => simp at hp | cons r m => exact ⟨r, m, rfl⟩
        obtain ⟨a2, rfl⟩ := xs2.addr hp (by decide)
        obtain ⟨vs2, xv2⟩ := xs2.isS
        obtain ⟨c0, hc0, hl0, hcell0⟩ := xs2.cells (i := 0) (x := r2) rfl
        obtain ⟨ao0', cap0', rfl, xr0'⟩ := hc0
        have hr2 := List.length_pos_iff.2 (ne2 r2 (by simp))
        obtain ⟨a0', rfl⟩ := xr0'.addr hr2 (by decide)
        exact ⟨r2, l3, a2, vs2, a0', cap0', rfl, rfl, xv2, xr0', hr2, hcell0⟩
      refine' bja hT 1 9 48 [38, 39] h38 rfl rfl rfl rfl rfl rfl rfl (q := (l2.headD ⟨[], 0⟩).rs.headD 0 = lb) (fun hp => ?x6) (fun b48 h48 => ?_)
      case x6 =>
        obtain ⟨r2, l3, a2, vs2, ao0', cap0', rfl, rfl, xv2, xr2, hr2, hc2⟩ := hcell2 (by omega)
        refine ixs hT 1 0 rfl rfl xv2 (by omega) (by decide) fun a41 ha => ?_
        cases ha
        refine ld hT 1 rfl (.inl rfl) (hc2 0 _ rfl) ?_
        refine ixs hT 0 0 rfl rfl xr2 hr2 (by decide) fun a44 ha => ?_
        cases ha
        refine ld hT 0 rfl (.inl rfl) (cellD xr2 hr2) ?_
        refine cmpS hT 1 rfl fun b47 h47 => ?_
        have hh2 : r2.rs.getD 0 0 = r2.rs.headD 0 := by cases r2.rs <;> rfl
        exact fin hT 1 rfl (bjx (h47.trans ⟨fun h => by rw [hh2] at h; show r2.rs.headD 0 = lb; omega, fun h => by rw [hh2]; have h' : r2.rs.headD 0 = lb := h; omega⟩) rfl rfl rfl)
      refine fin hT 0 rfl (th (ifP h48 rfl (fun e8 => ?_) (fun e8 => ?_)))
      · obtain ⟨e81, e82⟩ := e8
        obtain ⟨r2, l3, a2, vs2, ao0', cap0', rfl, rfl, xv2, xr2, hr2, hc2⟩ := hcell2 (by omega)
        have e82' : r2.rs.headD 0 = lb := e82
        have hhead : r2.rs.head? = some lb := by rw [← e82']; cases e : r2.rs with | nil => rw [e] at hr2; simp at hr2 | cons a m => rfl
        have hspan : spanP lb (r2 :: l3) = (tlR r2 :: (spanP lb l3).1, (spanP lb l3).2) := by simp [spanP, hhead]
        refine sk (th (bk (sq (rga [] 14 [0, 2, 4, 6, 8, 10, 12, 14, 16, 18, 20, 23, 25, 26] (by simp) (by kernel_rfl) (by kernel_rfl) ?_))))
        refine dixs hT (by kernel_rfl) 2 0 rfl rfl (by omega) ?_
        refine dld hT (by kernel_rfl) 1 rfl (.inl rfl) (hc2 0 _ rfl) ?_
        refine dsl hT (by kernel_rfl) 0 1 (r2.rs.length - 1) rfl rfl xr2 rfl (show ((r2.rs.length : Nat) : Int) = _ by omega) (by omega) (ys := rvv r2.rs.tail) (by rw [rvv_tail]; simp only [Nat.mul_one]; exact List.take_of_length_le (by simp [rvv_len])) fun ao54 c54 x54 => ?_
        refine dixs hT (by kernel_rfl) 1 0 rfl rfl (by omega) ?_
        refine dld hT (by kernel_rfl) 1 rfl (.inl rfl) (hc2 1 _ rfl) ?_
        refine dbd hT (by kernel_rfl) 0 (.agg (rstV (tlR r2) ao54 (r2.rs.length - 1) c54).toArray) rfl (fun w => by kernel_rfl) ?_
        refine dact hT (by kernel_rfl) 0 rfl ?_
        refine lit hT 0 (rstV (tlR r2) ao54 (r2.rs.length - 1) c54).toArray rfl (by decide) (by kernel_rfl) fun b60 => ?_
        refine dnex [] (by simp) (by simp) rfl ?_
        refine dact hT (by kernel_rfl) 0 rfl ?_
        have htl : (tlR r2).rs.length = r2.rs.length - 1 := by simp [tlR]
        have hbig : U.length + 1 ≤ 1000000 := by simp only [List.length_cons] at hUl hacc; omega
        refine appS hT 0 1 (rstV (tlR r2) ao54 (r2.rs.length - 1) c54) (tlR r2) rfl rfl rfl oU ⟨ao54, c54, by rw [htl], by rw [htl]; exact x54⟩ rfl (by simp [rstV, Value.oneCell']) rfl (by decide) (by show _ * 32 ≤ _; omega) (by simp only [maxLen]; omega) fun ao61 c61 g61 o61 => ?_
        refine dnex [] (by simp) (by simp) rfl ?_
        refine dend hT (by kernel_rfl) 1 rfl (th (rg (?_)))
        refine slx hT 1 1 l3.length rfl rfl (show (((r2 :: l3).length : Nat) : Int) = _ by simp only [List.length_cons]; omega) (by have := xv2.2.1; simp only [List.length_cons] at this; omega) ?_
        have xc := xs2.cut 1 (by simp)
        refine fin hT 1 rfl (bl (WQ.drop ?_))
        refine again (x := ((U, r2 :: l3), gU, (some a2, c2), (aoU, cU))) ((U ++ [tlR r2], l3), g61, (_, _), (ao61, c61)) ⟨rfl, rfl, rfl, rfl, rfl, by dsimp only; rw [List.length_append]; rfl, trivial⟩ rfl rfl ⟨by dsimp only; rw [List.length_append]; exact o61, xc, fun r hr => ne2 r (by simp [hr]), by simp only [List.length_append, List.length_cons, List.length_nil] at hUl ⊢; omega, ?_⟩ (by simp)
        dsimp only
        rw [hsp, hspan]
        simp
      · have hspan : spanP lb l2 = ([], l2) := by
          cases l2 with
          | nil => rfl
          | cons r2 l3 =>
            have : ¬ r2.rs.head? = some lb := fun hh => e8 ⟨by simp, by show r2.rs.headD 0 = lb; rw [List.headD_eq_head?_getD, hh]; rfl⟩
            simp [spanP, this]
        rw [hspan, List.append_nil] at hsp
        have hU : (spanP lb (r0 :: l1)).1 = U := by rw [hsp]
        have hL2 : (spanP lb (r0 :: l1)).2 = l2 := by rw [hsp]
        have hUne : U ≠ [] := by rw [← hU, hlb]; exact (span_head hr0).1
        have hbU : ∀ r ∈ U, 0 ≤ r.w ∧ r.w ≤ 1073741824 := by
          obtain ⟨mm, g1, g2, _⟩ := spanP_sub lb (r0 :: l1)
          intro r hr
          rw [← hU, g2] at hr
          obtain ⟨z, hz, rfl⟩ := List.mem_map.1 hr
          exact ok'.wt z (by rw [g1]; simp [hz])
        have hlU := leastP_bd hbU
        have hbig : U.length ≤ 1000000 := by simp only [List.length_cons] at hUl hacc; omega
        have htot : totR U + 1 + totR l2 ≤ totR (r0 :: l1) := by have := span_tot (lb := lb) (l := r0 :: l1) (by rw [hU]; exact hUne); rw [hU, hL2] at this; exact this
        refine ex (xt (xt (xb (th (WC.frz fun K2 le1 le2 => ?_)))))
        have xU : SlS 2 (rstR K2) K2 aoU U.length cU U := oU.slS.le le2 fun _ _ h => h.le le1
        refine rga [pt b6 #[.bool (finR l), .int .i64 (outR l), .slice aoA acc.length cA] 88] 14 [0, 2, 4, 6, 10, 14, 16, 9, 12, 19, 20, 23, 25, 26, 29] (by simp) (by kernel_rfl) (by kernel_rfl) ?_
        refine dldpw hT (by kernel_rfl) 1 0 rfl (by kernel_rfl) rfl rfl ?_
        refine dact hT (by kernel_rfl) 5 rfl ?_
        refine cl hT 0 rfl (leastC aoU U.length cU U (.inl rfl) xU hUne hbig) ?_
        rintro v68 K68 hs68 ⟨rfl, rfl, rfl⟩
        refine dnex [pt b6 #[.bool (finR l), .int .i64 (outR l), .slice aoA acc.length cA] 88] (by simp) (by simp) rfl ?_
        refine dar hT (by kernel_rfl) 0 rfl (i64w (x := leastP U - leastP l) (by omega)) ?_
        refine dact hT (by kernel_rfl) 0 rfl ?_
        refine cl hT 0 rfl (Ct.at 2 rfl (by
          have := hg (w0 := w0) (K := K68) (h := h') (hs := gA :: pt b6 #[.bool (finR l), .int .i64 (outR l), .slice aoA acc.length cA] 88 :: hs) x' aoU U.length cU lb (r0 :: l1) ok' ne' (by rw [hU]; exact hUne) (by rw [hU]; exact hbig) (by rw [hU]; omega) (y'.le le1) (by rw [hU]; exact xU)
          rw [hU] at this
          exact this)) ?_
        rintro v73 K73 hs73 ⟨h2, rfl, le3, y2, rfl⟩
        have hst2 := hst x' (r0 :: l1) lb ok' ne' (by rw [hU]; exact hUne)
        rw [hU] at hst2
        refine dnexL [pt b6 #[.bool (finR l), .int .i64 (outR l), .slice aoA acc.length cA] 88] (by simp) (by simp) le3 ?_
        refine dbd hT (by kernel_rfl) 0 (.agg (arcV ⟨((lb : Nat) : Int), leastP U - leastP l, (stateP k x' U).2⟩).toArray) rfl (fun w => by kernel_rfl) ?_
        refine dact hT (by kernel_rfl) 0 rfl ?_
        refine lit hT 0 (arcV ⟨((lb : Nat) : Int), leastP U - leastP l, (stateP k x' U).2⟩).toArray rfl (by decide) (by kernel_rfl) fun b75 => ?_
        refine dnex [pt b6 #[.bool (finR l), .int .i64 (outR l), .slice aoA acc.length cA] 88] (by simp) (by simp) rfl ?_
        refine dact hT (by kernel_rfl) 0 rfl ?_
        refine appS hT 0 1 (arcV ⟨((lb : Nat) : Int), leastP U - leastP l, (stateP k x' U).2⟩) (⟨((lb : Nat) : Int), leastP U - leastP l, (stateP k x' U).2⟩ : ArcP) rfl rfl rfl oA rfl rfl (by simp [arcV, Value.oneCell']) rfl (by decide) (by show _ * 24 ≤ _; omega) (by simp only [maxLen]; omega) fun ao76 c76 g76 o76 => ?_
        refine dnex [pt b6 #[.bool (finR l), .int .i64 (outR l), .slice aoA acc.length cA] 88] (by simp) (by simp) rfl ?_
        refine dact hT (by kernel_rfl) 1 rfl ?_
        refine stp hT 0 2 rfl rfl rfl rfl ?_
        refine dnext (.inl (by kernel_rfl)) ?_
        refine dend hT (by kernel_rfl) 0 rfl (bl (WQ.drop ?_))
        have hl2 : l2.length ≤ l1.length := by have := (span_head (l := l1) hr0).2; rw [← hlb, hL2] at this; exact this
        have hmem : ∀ r ∈ l2, r ∈ r0 :: l1 := by
          obtain ⟨mm, g1, _, _⟩ := spanP_sub lb (r0 :: l1)
          intro r hr
          rw [g1, hL2]
          exact List.mem_append_right _ hr
        refine again (x := ((x', acc, r0 :: l1, m + 1), (K', gA, h'), (some a, c'), (aoA, cA))) (((stateP k x' U).1, acc ++ [⟨((lb : Nat) : Int), leastP U - leastP l, (stateP k x' U).2⟩], l2, m), (K73, g76, h2), (ao2, c2), (ao76, c76)) ⟨rfl, rfl, rfl, rfl, trivial⟩ rfl (by dsimp only; rw [List.length_append]; rfl)
          ⟨leK.trans (le1.trans le3), y2, by dsimp only; rw [List.length_append]; exact o76, xs2.le (le1.trans le3) fun _ _ h => h.le (le1.trans le3), ?_, fun r hr => ne2 r hr, by simp only [List.length_cons] at hm; dsimp only; omega, by simp only [List.length_append, List.length_cons, List.length_nil] at hacc ⊢; omega, by dsimp only; omega, ?_⟩ (by dsimp only [List.length_cons]; omega)
        · dsimp only
          cases k with
          | zero =>
            have := ok'.dep r0 (by simp)
            omega
          | succ k => have := (OkR.span (lb := lb) ok').2; rw [hL2] at this; exact this
        · dsimp only
          rw [← hE]
          conv => rhs; unfold arcsP
          rw [← hlb, hU, hL2]
    · obtain rfl : l' = [] := List.eq_nil_of_length_eq_zero (by omega)
      have hE' : arcsP (stateP k) (leastP l) (bodyR l).length x (bodyR l) [] = (x', acc) := by rw [← hE]; cases m <;> rfl
      refine ex (xt (xt (xb (th (sq (WC.frz fun K2 le1 le2 => rg (?_)))))))
      refine ldS hT 1 0 rfl rfl (by kernel_rfl) ?_
      refine cl hT 0 rfl (Ct.at 1 rfl (addC b x' ⟨finR l, outR l, acc⟩ aoA acc.length cA (y'.le le1) (oA.slS.le le2 fun _ _ h => h) (by omega) (by dsimp only; omega))) ?_
      rintro v80 K80 hs80 ⟨h2, rfl, le3, y2, rfl⟩
      refine fin hT 1 rfl (th (rt (WQ.drop ?_)))
      refine ret1 rfl rfl ⟨h2, rfl, leK.trans (le1.trans le3), ?_, ?_⟩
      · unfold stateP; rw [hE']; exact y2
      · unfold stateP; rw [hE']
theorem okR_pred {k lb : Nat} {l : List RstP} (h : OkR k l) (hne : ∀ r ∈ l, r.rs ≠ []) (hs : (spanP lb l).1 ≠ []) : ∃ j, k = j + 1 ∧ OkR j (spanP lb l).1 := by
  cases k with
  | zero =>
    exfalso
    cases l with
    | nil => exact hs rfl
    | cons r l =>
      have := h.dep r (by simp)
      exact hne r (by simp) (List.eq_nil_of_length_eq_zero (by omega))
  | succ k => exact ⟨k, rfl, h.span.1⟩
theorem stateC : ∀ (k : Nat) {w0 : World} {K h : PH} {hs : List PH} (b : Nat) (x : Bld) (ao : Option Addr) (n c : Nat) (l : List RstP), BldH K b x h → SlS 2 (rstR K) K ao n c l → OkR k l → l ≠ [] → l.length ≤ 1000000 → x.sts.length + totR l + 1 ≤ 1000000 →
    Ct Tryd.prog w0 26 [.pointer (some ⟨b, 0, none⟩), .slice ao n c] K (h :: hs)
      (fun v K' hs' => ∃ h', hs' = h' :: hs ∧ Le K K' ∧ BldH K' b (stateP (k + 1) x l).1 h' ∧ v = .int .i64 (stateP (k + 1) x l).2)
  | k, w0, K, h, hs, b, x, ao, n, c, l, y, xl, ok, hl, hb, hsz => by
    refine stateS k b x ao n c l ?_ ?_ y xl ok hl hb hsz
    · intro w0 K h hs x ao n c lb l' h1 h2 h3 h4 h5 h6 h7
      obtain ⟨j, rfl, h8⟩ := okR_pred h1 h2 h3
      exact stateC j b x ao n c _ h6 h7 h8 h3 h4 h5
    · intro x l' lb h1 h2 h3
      obtain ⟨j, rfl, h8⟩ := okR_pred h1 h2 h3
      exact stateP_sts j x _ h8 h3
termination_by k => k
end Go.Proofs.YtlnhbilpkcfdlaaDoor
