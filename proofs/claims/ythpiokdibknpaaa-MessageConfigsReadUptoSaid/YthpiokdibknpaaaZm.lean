/-
  Arguments that are commands, configurations, entries, messages: opened.
-/
import Derived.Test.YthpiokdibknpaaaZd
import Derived.Test.YthpiokdibknpaaaNi
import Derived.Test.YthpiokdibknpaaaNe
namespace Go.Proofs.Ythpiokdibknpaaa
open Go.En Go.ChangeShapes Go.WideShapes Go.ChangeAt Go.RowKit Go.Deep
set_option linter.unusedVariables false
set_option maxRecDepth 100000

section opens
variable {H : Type} {enc : TypeId × Value → H} {W : World}
theorem sumM_one {α : Type} : ∀ xs : List α, sumM (fun _ => 1) xs = xs.length
  | [] => rfl
  | x :: r => by rw [sumM, sumM_one r, List.length_cons]; omega
theorem sumM_ge {α : Type} (m : α → Nat) (hm : ∀ x, 0 < m x) : ∀ xs : List α, xs.length ≤ sumM m xs
  | [] => Nat.zero_le _
  | x :: r => by have := sumM_ge m hm r; have := hm x; simp only [sumM, List.length_cons]; omega
theorem sumM_mem {α : Type} (m : α → Nat) : ∀ {xs : List α} {x : α}, x ∈ xs → m x ≤ sumM m xs
  | y :: r, x, h => by
    rcases List.mem_cons.1 h with rfl | h
    · simp only [sumM]; omega
    · have := sumM_mem m h; simp only [sumM]; omega
theorem ri_u64 {cs : List Value} {n : Int} (h : RI .u64 cs n) : cs = [.int .u64 (n.toNat : Nat)] ∧ n.toNat ≤ mxU := by
  obtain ⟨rfl, hw⟩ := h
  have h2 : 0 ≤ n ∧ n ≤ 18446744073709551615 := by simpa [Lit.wf, IntKind.min, IntKind.max, IntKind.signed, IntKind.bits] using hw
  have hmx : mxU = 18446744073709551615 := rfl
  refine ⟨?_, by omega⟩
  rw [Int.toNat_of_nonneg h2.1]
theorem ri_i64 {cs : List Value} {n : Int} (h : RI .i64 cs n) : cs = [.int .i64 n] ∧ -9223372036854775808 ≤ n ∧ n ≤ 9223372036854775807 := by
  obtain ⟨rfl, hw⟩ := h
  exact ⟨rfl, by simpa [Lit.wf, IntKind.min, IntKind.max, IntKind.signed, IntKind.bits] using hw⟩
def byI (xs : List Int) : List UInt8 := xs.map fun z => UInt8.ofNat z.toNat
theorem byI_len (xs : List Int) : (byI xs).length = xs.length := by simp [byI]
theorem all2_bytes : ∀ {css : List (List Value)} {xs : List Int}, All2 (RI .u8) css xs → css.flatten = bv (byI xs)
  | [], [], _ => rfl
  | c :: cs, x :: xs, ⟨⟨h1, hw⟩, h2⟩ => by
    subst h1
    have hb : 0 ≤ x ∧ x ≤ 255 := by simpa [Lit.wf, IntKind.min, IntKind.max, IntKind.signed, IntKind.bits] using hw
    rw [List.flatten_cons, all2_bytes h2]
    simp only [byI, bv, List.map_cons, List.singleton_append, List.cons.injEq, and_true]
    congr 1
    simp
    omega
  | [], _ :: _, g => g.elim
  | _ :: _, [], g => g.elim
theorem rsl_bytes {cs : List Value} {xs : List Int} (h : RSl W 1 (RI .u8) cs xs) : ∃ ao cap, cs = [.slice ao (byI xs).length cap] ∧ IsS (hp W) ao (byI xs).length cap 1 (bv (byI xs)) := by
  obtain ⟨ao, cap, css, rfl, x, h2⟩ := h
  rw [all2_bytes h2] at x
  rw [← byI_len xs] at x ⊢
  exact ⟨ao, cap, rfl, x⟩
theorem all2_ints : ∀ {css : List (List Value)} {xs : List Int}, All2 (RI .i64) css xs → css.flatten = iv xs ∧ ∀ v ∈ xs, -9223372036854775808 ≤ v ∧ v ≤ 9223372036854775807
  | [], [], _ => ⟨rfl, by simp⟩
  | c :: cs, x :: xs, ⟨h1, h2⟩ => by
    obtain ⟨rfl, hb⟩ := ri_i64 h1
    obtain ⟨g1, g2⟩ := all2_ints h2
    refine ⟨by rw [List.flatten_cons, g1]; simp [iv], fun v hv => ?_⟩
    rcases List.mem_cons.1 hv with rfl | hv
    · exact hb
    · exact g2 v hv
  | [], _ :: _, g => g.elim
  | _ :: _, [], g => g.elim
theorem rsl_ints {cs : List Value} {xs : List Int} (h : RSl W 1 (RI .i64) cs xs) : ∃ ao cap, cs = [.slice ao xs.length cap] ∧ IsS (hp W) ao xs.length cap 1 (iv xs) ∧ ∀ v ∈ xs, -9223372036854775808 ≤ v ∧ v ≤ 9223372036854775807 := by
  obtain ⟨ao, cap, css, rfl, x, h2⟩ := h
  obtain ⟨g1, g2⟩ := all2_ints h2
  rw [g1] at x
  exact ⟨ao, cap, rfl, x, g2⟩
/-! commands -/
abbrev RCmd := RP (RI .i64) (RP (RI .u64) (RP (RI .u64) (RP RS (RP (RI .i64) R0))))
abbrev mCmd (x : Int × Int × Int × List UInt8 × Int × Unit) : Nat := 1 + (1 + (1 + (x.2.2.2.1.length + 1 + (1 + 0)))) + 1
theorem cmdOpens : Opens enc Try.prog W 24 5 RCmd mCmd := by
  refine Opens.struct Try.underlying24 (by kernel_rfl) ?_
  exact OpensF.cons (off := 0) (sz1 := 1) (sz2 := 4) rfl (Opens.int Try.underlying3 (by kernel_rfl)) (OpensF.cons (off := 1) (sz1 := 1) (sz2 := 3) rfl (Opens.int Try.underlying22 (by kernel_rfl)) (OpensF.cons (off := 2) (sz1 := 1) (sz2 := 2) rfl (Opens.int Try.underlying22 (by kernel_rfl))
    (OpensF.cons (off := 3) (sz1 := 1) (sz2 := 1) rfl (Opens.str Try.underlying9 (by kernel_rfl)) (OpensF.cons (off := 4) (sz1 := 1) (sz2 := 0) rfl (Opens.int Try.underlying3 (by kernel_rfl)) OpensF.nil))))
theorem open_cmd {base : Nat} {v : Value} {d : DataW H} {ps : List MemPlace} (hval : Value.okWide Try.prog W .any base 24 v) (h : DataW.Trod enc Try.prog W 0 (fun _ => true) true 24 v d ps) :
    ∃ c : Cmd, v = .agg c.v ∧ c.ses < 18446744073709551616 ∧ c.seq < 18446744073709551616 := by
  obtain ⟨cs, rfl, hsz⟩ := okWide_struct Try.underlying24 hval
  obtain ⟨⟨k, s, q, w, t, u⟩, hR, hm⟩ := (cmdOpens (enc := enc) (W := W)).arg h
  obtain ⟨c1, c2, e1, h1, c3, c4, e2, h2, c5, c6, e3, h3, c7, c8, e4, h4, c9, c10, e5, h5, h6⟩ := hR
  obtain ⟨rfl, _⟩ := ri_i64 h1
  obtain ⟨rfl, hs⟩ := ri_u64 h2
  obtain ⟨rfl, hq⟩ := ri_u64 h3
  obtain rfl : c7 = [str w] := h4
  obtain ⟨rfl, _⟩ := ri_i64 h5
  obtain rfl : c10 = [] := h6
  have hmx : mxU = 18446744073709551615 := rfl
  refine ⟨⟨k, s.toNat, q.toNat, w, t⟩, ?_, by dsimp only at hs ⊢; omega, by dsimp only at hq ⊢; omega⟩
  have e : cs.toList = (Cmd.v ⟨k, s.toNat, q.toNat, w, t⟩).toList := by
    rw [show cs.toList = _ from e1, e2, e3, e4, e5]; rfl
  rw [← Array.toList_inj.1 e]
/-! configurations -/
abbrev RCf (W : World) := RP (RSl W 1 (RI .i64)) R0
abbrev mCf (x : List Int × Unit) : Nat := sumM (fun _ => 1) x.1 + 1 + 0 + 1
theorem cfOpens : Opens enc Try.prog W 36 1 (RCf W) mCf := by
  refine Opens.struct Try.underlying36 (by kernel_rfl) ?_
  exact OpensF.cons (off := 0) (sz1 := 1) (sz2 := 0) rfl (Opens.slice Try.underlying34 (by kernel_rfl) (Opens.int Try.underlying3 (by kernel_rfl))) OpensF.nil
theorem open_cf {base : Nat} {v : Value} {d : DataW H} {ps : List MemPlace} (hval : Value.okWide Try.prog W .any base 36 v) (h : DataW.Trod enc Try.prog W 0 (fun _ => true) true 36 v d ps) :
    ∃ ao cap, ∃ l : List Int, v = .agg #[.slice ao l.length cap] ∧ IsS (hp W) ao l.length cap 1 (iv l) ∧ l.length ≤ Rows.uptoBulk d ∧ ∀ v ∈ l, -9223372036854775808 ≤ v ∧ v ≤ 9223372036854775807 := by
  obtain ⟨cs, rfl, hsz⟩ := okWide_struct Try.underlying36 hval
  obtain ⟨⟨l, u⟩, hR, hm⟩ := (cfOpens (enc := enc) (W := W)).arg h
  obtain ⟨c1, c2, e1, h1, h2⟩ := hR
  obtain ⟨ao, cap, rfl, x, hb⟩ := rsl_ints h1
  obtain rfl : c2 = [] := h2
  simp only [mCf, sumM_one] at hm
  refine ⟨ao, cap, l, ?_, x, by omega, hb⟩
  have e : cs.toList = (#[.slice ao l.length cap] : Array Value).toList := by rw [show cs.toList = _ from e1]; rfl
  rw [← Array.toList_inj.1 e]
/-! entries -/
abbrev REn (W : World) := RP (RI .u64) (RP (RI .u64) (RP (RI .i64) (RP (RSl W 1 (RI .u8)) R0)))
abbrev mEn (x : Int × Int × Int × List Int × Unit) : Nat := 1 + (1 + (1 + (sumM (fun _ => 1) x.2.2.2.1 + 1 + 0))) + 1
def toEnt (x : Int × Int × Int × List Int × Unit) : Ent := ⟨x.1.toNat, x.2.1.toNat, x.2.2.1, byI x.2.2.2.1⟩
theorem enOpens : Opens enc Try.prog W 43 4 (REn W) mEn := by
  refine Opens.struct Try.underlying43 (by kernel_rfl) ?_
  exact OpensF.cons (off := 0) (sz1 := 1) (sz2 := 3) rfl (Opens.int Try.underlying22 (by kernel_rfl)) (OpensF.cons (off := 1) (sz1 := 1) (sz2 := 2) rfl (Opens.int Try.underlying22 (by kernel_rfl)) (OpensF.cons (off := 2) (sz1 := 1) (sz2 := 1) rfl (Opens.int Try.underlying3 (by kernel_rfl))
    (OpensF.cons (off := 3) (sz1 := 1) (sz2 := 0) rfl (Opens.slice Try.underlying25 (by kernel_rfl) (Opens.int Try.underlying5 (by kernel_rfl))) OpensF.nil)))
theorem ent_of {cs : List Value} {x : Int × Int × Int × List Int × Unit} (hR : REn W cs x) : EntC (hp W) cs (toEnt x) ∧ (toEnt x).idx ≤ mxU ∧ (toEnt x).term ≤ mxU := by
  obtain ⟨i, t, k, dd, u⟩ := x
  obtain ⟨c1, c2, e1, h1, c3, c4, e2, h2, c5, c6, e3, h3, c7, c8, e4, h4, h5⟩ := hR
  obtain ⟨rfl, hi⟩ := ri_u64 h1
  obtain ⟨rfl, ht⟩ := ri_u64 h2
  obtain ⟨rfl, _⟩ := ri_i64 h3
  obtain ⟨ao, cap, rfl, x⟩ := rsl_bytes h4
  obtain rfl : c8 = [] := h5
  exact ⟨⟨ao, cap, by rw [e1, e2, e3, e4]; rfl, x⟩, hi, ht⟩
theorem open_en {base : Nat} {v : Value} {d : DataW H} {ps : List MemPlace} (hval : Value.okWide Try.prog W .any base 43 v) (h : DataW.Trod enc Try.prog W 0 (fun _ => true) true 43 v d ps) :
    ∃ ao cap, ∃ e : Ent, v = .agg (e.v ao cap) ∧ IsS (hp W) ao e.data.length cap 1 (bv e.data) ∧ e.data.length ≤ Rows.uptoBulk d ∧ e.idx ≤ mxU ∧ e.term ≤ mxU := by
  obtain ⟨cs, rfl, hsz⟩ := okWide_struct Try.underlying43 hval
  obtain ⟨x, hR, hm⟩ := (enOpens (enc := enc) (W := W)).arg h
  obtain ⟨⟨ao, cap, e1, x1⟩, hi, ht⟩ := ent_of hR
  simp only [mEn, sumM_one] at hm
  refine ⟨ao, cap, toEnt x, ?_, x1, by show (byI _).length ≤ _; rw [byI_len]; omega, hi, ht⟩
  rw [← Array.toList_inj.1 (show cs.toList = _ from e1)]
theorem all2_ents : ∀ {css : List (List Value)} {xs : List (Int × Int × Int × List Int × Unit)}, All2 (REn W) css xs → All2 (EntC (hp W)) css (xs.map toEnt) ∧ ∀ x ∈ xs, (toEnt x).idx ≤ mxU ∧ (toEnt x).term ≤ mxU
  | [], [], _ => ⟨trivial, by simp⟩
  | c :: cs, x :: xs, ⟨h1, h2⟩ => by
    obtain ⟨g1, g2⟩ := ent_of h1
    obtain ⟨k1, k2⟩ := all2_ents h2
    refine ⟨⟨g1, k1⟩, fun y hy => ?_⟩
    rcases List.mem_cons.1 hy with rfl | hy
    · exact g2
    · exact k2 y hy
  | [], _ :: _, g => g.elim
  | _ :: _, [], g => g.elim
theorem rsl_ents {cs : List Value} {xs : List (Int × Int × Int × List Int × Unit)} (h : RSl W 4 (REn W) cs xs) : ∃ ao cap, cs = [.slice ao (xs.map toEnt).length cap] ∧ EntsS (hp W) ao cap (xs.map toEnt) ∧ ∀ x ∈ xs, (toEnt x).idx ≤ mxU ∧ (toEnt x).term ≤ mxU := by
  obtain ⟨ao, cap, css, rfl, x, h2⟩ := h
  obtain ⟨g1, g2⟩ := all2_ents h2
  have e : xs.length = (xs.map toEnt).length := by simp
  rw [e] at x ⊢
  exact ⟨ao, cap, rfl, ⟨css, x, g1⟩, g2⟩
/-! messages -/
abbrev RMs (W : World) := RP (RI .i64) (RP (RI .i64) (RP (RI .i64) (RP (RI .u64) (RP (RI .u64) (RP (RI .u64) (RP (RI .u64) (RP (RI .u64) (RP RB (RP (RSl W 4 (REn W)) (RP (RI .i64) (RP (RI .i64) (RP (RSl W 1 (RI .i64)) (RP (RSl W 1 (RI .u8)) R0)))))))))))))
def mP {α β : Type} (m1 : α → Nat) (m2 : β → Nat) (x : α × β) : Nat := m1 x.1 + m2 x.2
def mS {α : Type} (m : α → Nat) (x : α) : Nat := m x + 1
def mL {α : Type} (m : α → Nat) (xs : List α) : Nat := sumM m xs + 1
def mU {α : Type} (_ : α) : Nat := 1
def mZ (_ : Unit) : Nat := 0
theorem consM {P : Program} {α β : Type} {off sz1 sz2 : Nat} {f : Field} {fs : List Field} {R1 : List Value → α → Prop} {R2 : List Value → β → Prop} {m1 : α → Nat} {m2 : β → Nat} (hf : f.offset = off) (o1 : Opens enc P W f.type sz1 R1 m1) (o2 : OpensF enc P W (off + sz1) fs sz2 R2 m2) :
    OpensF enc P W off (f :: fs) (sz1 + sz2) (RP R1 R2) (mP m1 m2) := OpensF.cons hf o1 o2
theorem intM {P : Program} {t : TypeId} {k : IntKind} (ht : P.underlying t = some (.int k)) (hc : P.cellsOf t = 1) : Opens enc P W t 1 (RI k) mU := Opens.int ht hc
theorem boolM {P : Program} {t : TypeId} (ht : P.underlying t = some .bool) (hc : P.cellsOf t = 1) : Opens enc P W t 1 RB mU := Opens.bool ht hc
theorem nilM {P : Program} {off : Nat} : OpensF enc P W off [] 0 R0 mZ := OpensF.nil
theorem sliceM {P : Program} {α : Type} {t e : TypeId} {sz : Nat} {R : List Value → α → Prop} {m : α → Nat} (ht : P.underlying t = some (.slice e)) (hc : P.cellsOf t = 1) (o : Opens enc P W e sz R m) : Opens enc P W t 1 (RSl W sz R) (mL m) := Opens.slice ht hc o
theorem structM {P : Program} {α : Type} {t : TypeId} {sz : Nat} {fs : Array Field} {R : List Value → α → Prop} {m : α → Nat} (ht : P.underlying t = some (.struct fs)) (hc : P.cellsOf t = sz) (o : OpensF enc P W 0 fs.toList sz R m) : Opens enc P W t sz R (mS m) := Opens.struct ht hc o
abbrev MsT : Type := Int × Int × Int × Int × Int × Int × Int × Int × Bool × List (Int × Int × Int × List Int × Unit) × Int × Int × List Int × List Int × Unit
def mMs : MsT → Nat := mS (mP mU (mP mU (mP mU (mP mU (mP mU (mP mU (mP mU (mP mU (mP mU (mP (mL mEn) (mP mU (mP mU (mP (mL mU) (mP (mL mU) mZ))))))))))))))
theorem sumM_U {α : Type} (xs : List α) : sumM mU xs = xs.length := sumM_one xs
theorem msOpens : Opens enc Try.prog W 51 14 (RMs W) mMs := by
  refine structM Try.underlying51 (by kernel_rfl) ?_
  exact consM (off := 0) (sz1 := 1) (sz2 := 13) rfl (intM Try.underlying3 (by kernel_rfl)) (consM (off := 1) (sz1 := 1) (sz2 := 12) rfl (intM Try.underlying3 (by kernel_rfl)) (consM (off := 2) (sz1 := 1) (sz2 := 11) rfl (intM Try.underlying3 (by kernel_rfl)) (consM (off := 3) (sz1 := 1) (sz2 := 10) rfl (intM Try.underlying22 (by kernel_rfl)) (consM (off := 4) (sz1 := 1) (sz2 := 9) rfl (intM Try.underlying22 (by kernel_rfl)) (consM (off := 5) (sz1 := 1) (sz2 := 8) rfl (intM Try.underlying22 (by kernel_rfl)) (consM (off := 6) (sz1 := 1) (sz2 := 7) rfl (intM Try.underlying22 (by kernel_rfl)) (consM (off := 7) (sz1 := 1) (sz2 := 6) rfl (intM Try.underlying22 (by kernel_rfl)) (consM (off := 8) (sz1 := 1) (sz2 := 5) rfl (boolM Try.underlying4 (by kernel_rfl)) (consM (off := 9) (sz1 := 1) (sz2 := 4) rfl (sliceM Try.underlying49 (by kernel_rfl) enOpens) (consM (off := 10) (sz1 := 1) (sz2 := 3) rfl (intM Try.underlying3 (by kernel_rfl)) (consM (off := 11) (sz1 := 1) (sz2 := 2) rfl (intM Try.underlying3 (by kernel_rfl)) (consM (off := 12) (sz1 := 1) (sz2 := 1) rfl (sliceM Try.underlying34 (by kernel_rfl) (intM Try.underlying3 (by kernel_rfl))) (consM (off := 13) (sz1 := 1) (sz2 := 0) rfl (sliceM Try.underlying25 (by kernel_rfl) (intM Try.underlying5 (by kernel_rfl))) nilM)))))))))))))
theorem open_ms {base : Nat} {v : Value} {d : DataW H} {ps : List MemPlace} (hval : Value.okWide Try.prog W .any base 51 v) (h : DataW.Trod enc Try.prog W 0 (fun _ => true) true 51 v d ps) (hB : Rows.uptoBulk d ≤ 4194304) :
    ∃ (m : Msg) (p : MA), v = .agg (mv m p) ∧ MsgS (hp W) m p ∧ m.bd := by
  obtain ⟨cs, rfl, hsz⟩ := okWide_struct Try.underlying51 hval
  obtain ⟨⟨k, f, t, te, i, l, c, r, g, e, o, w, vo, dd, u⟩, hR, hm⟩ := (msOpens (enc := enc) (W := W)).arg h
  obtain ⟨c1, r1, e1, h1, c2, r2, e2, h2, c3, r3, e3, h3, c4, r4, e4, h4, c5, r5, e5, h5, c6, r6, e6, h6, c7, r7, e7, h7, c8, r8, e8, h8, c9, r9, e9, h9, c10, r10, e10, h10, c11, r11, e11, h11, c12, r12, e12, h12, c13, r13, e13, h13, c14, r14, e14, h14, h15⟩ := hR
  obtain ⟨rfl, _⟩ := ri_i64 h1
  obtain ⟨rfl, _⟩ := ri_i64 h2
  obtain ⟨rfl, _⟩ := ri_i64 h3
  obtain ⟨rfl, b4⟩ := ri_u64 h4
  obtain ⟨rfl, b5⟩ := ri_u64 h5
  obtain ⟨rfl, b6⟩ := ri_u64 h6
  obtain ⟨rfl, b7⟩ := ri_u64 h7
  obtain ⟨rfl, b8⟩ := ri_u64 h8
  obtain rfl : c9 = [.bool g] := h9
  obtain ⟨ae, ce, rfl, xE, bE⟩ := rsl_ents h10
  obtain ⟨rfl, b11⟩ := ri_i64 h11
  obtain ⟨rfl, b12⟩ := ri_i64 h12
  obtain ⟨av, cv, rfl, xV, bV⟩ := rsl_ints h13
  obtain ⟨ad, cd, rfl, xD⟩ := rsl_bytes h14
  obtain rfl : r14 = [] := h15
  simp only [mMs, mS, mP, mL, mU, mZ, sumM_U] at hm
  dsimp only at b4 b5 b6 b7 b8 b11 b12 bE bV xE xV xD hm e1 e2 e3 e4 e5 e6 e7 e8 e9 e10 e11 e12 e13 e14
  have hge := sumM_ge mEn (fun _ => by simp only [mEn]; omega) e
  refine ⟨⟨k, f, t, te.toNat, i.toNat, l.toNat, c.toNat, r.toNat, g, e.map toEnt, o, w, vo, byI dd⟩, ⟨ae, ce, av, cv, ad, cd⟩, ?_, ⟨xE, xV, xD⟩, ?_⟩
  · have ee : cs.toList = (mv ⟨k, f, t, te.toNat, i.toNat, l.toNat, c.toNat, r.toNat, g, e.map toEnt, o, w, vo, byI dd⟩ ⟨ae, ce, av, cv, ad, cd⟩).toList := by
      rw [show cs.toList = _ from e1, e2, e3, e4, e5, e6, e7, e8, e9, e10, e11, e12, e13, e14]; rfl
    rw [← Array.toList_inj.1 ee]
  · exact { term := b4, idx := b5, lt := b6, com := b7, rnd := b8, off := b11, whole := b12,
            ents := fun x hx => by
              obtain ⟨y, hy, rfl⟩ := List.mem_map.1 hx
              have h1 := sumM_mem mEn hy
              simp only [mEn, sumM_one] at h1
              refine ⟨(bE y hy).1, (bE y hy).2, ?_⟩
              show (byI _).length ≤ _
              rw [byI_len]
              omega
            entsL := by show (e.map toEnt).length ≤ _; rw [List.length_map]; omega
            vot := bV, votL := by dsimp only; omega, dataL := by show (byI _).length ≤ _; rw [byI_len]; omega }
end opens
end Go.Proofs.Ythpiokdibknpaaa
