/-
  A message in memory; the fields' functions: numbers, places, Good.
  The fields' functions: Voters, Data, Entries; the clearing ones.
  The fields' functions: Entries read.
-/
import Derived.Test.YthpiokdibknpaaaNe
import Derived.Test.YthpiokdibknpaaaMs
import Derived.Test.YthpiokdibknpaaaZd
namespace Go.Proofs.Ythpiokdibknpaaa
open Go.En
set_option linter.unusedVariables false
attribute [local irreducible] Code.wp wpList Calls

/-- where the slices of a message lie -/
structure MA where
  ae : Option Addr
  ce : Nat
  av : Option Addr
  cv : Nat
  ad : Option Addr
  cd : Nat
def mv (m : Msg) (p : MA) : Array Value := #[.int .i64 m.kind, .int .i64 m.frm, .int .i64 m.to, .int .u64 (m.term : Nat), .int .u64 (m.idx : Nat), .int .u64 (m.lt : Nat), .int .u64 (m.com : Nat), .int .u64 (m.rnd : Nat), .bool m.good,
  .slice p.ae m.ents.length p.ce, .int .i64 m.off, .int .i64 m.whole, .slice p.av m.vot.length p.cv, .slice p.ad m.data.length p.cd]
def EntC (H : PH) (cs : List Value) (e : Ent) : Prop := ∃ ao cap, cs = (e.v ao cap).toList ∧ IsS H ao e.data.length cap 1 (bv e.data)
def EntsS (H : PH) (ao : Option Addr) (cap : Nat) (es : List Ent) : Prop := ∃ css : List (List Value), IsS H ao es.length cap 4 css.flatten ∧ All2 (EntC H) css es
def MsgS (H : PH) (m : Msg) (p : MA) : Prop := EntsS H p.ae p.ce m.ents ∧ IsS H p.av m.vot.length p.cv 1 (iv m.vot) ∧ IsS H p.ad m.data.length p.cd 1 (bv m.data)
theorem EntC.le {H H' : PH} (l : Le H H') {cs : List Value} {e : Ent} (h : EntC H cs e) : EntC H' cs e := by
  obtain ⟨ao, cap, h1, h2⟩ := h
  exact ⟨ao, cap, h1, h2.le l⟩
theorem All2.imp {α : Type} {R R' : List Value → α → Prop} (h : ∀ c x, R c x → R' c x) : ∀ {cs : List (List Value)} {xs : List α}, All2 R cs xs → All2 R' cs xs
  | [], [], _ => trivial
  | _ :: _, _ :: _, g => ⟨h _ _ g.1, All2.imp h g.2⟩
  | [], _ :: _, g => g.elim
  | _ :: _, [], g => g.elim
theorem EntsS.le {H H' : PH} (l : Le H H') {ao : Option Addr} {cap : Nat} {es : List Ent} (h : EntsS H ao cap es) : EntsS H' ao cap es := by
  obtain ⟨css, h1, h2⟩ := h
  exact ⟨css, h1.le l, All2.imp (fun _ _ => EntC.le l) h2⟩
theorem EntsS.nil (H : PH) (ao : Option Addr) (cap : Nat) : EntsS H ao cap [] := ⟨[], IsS.nil _ _ _ _, trivial⟩
theorem MsgS.le {H H' : PH} (l : Le H H') {m : Msg} {p : MA} (h : MsgS H m p) : MsgS H' m p := ⟨h.1.le l, h.2.1.le l, h.2.2.le l⟩
def Ptr (b : Nat) : Value := .pointer (some ⟨b, 0, none⟩)
/-- what writing a field comes to -/
def PutR (f : Fld) (m : Msg) (bs : List UInt8) (R : List PH) (K : PH) : Value → PH → List PH → Prop := fun v K' hs' =>
  K' = K ∧ ∃ h' ao' c' out, ∃ t : Bool, hs' = h' :: R ∧ v = .tuple #[.slice ao' out.length c', .bool t] ∧ (t = true ↔ f.pok m) ∧ (t = true → out = bs ++ f.pby m) ∧ Own h' ao' out.length c' 5 1 (bv out)
def ClrR (f : Fld) (m : Msg) (mb : Nat) (R : List PH) (K : PH) : Value → PH → List PH → Prop := fun v K' hs' =>
  K' = K ∧ ∃ p', hs' = pt mb (mv (f.clr m) p') 51 :: R ∧ MsgS K (f.clr m) p'
def GetR (f : Fld) (s : Rd) (m : Msg) (p : MA) (rb mb : Nat) (hb : PH) (R : List PH) (K : PH) : Value → PH → List PH → Prop := fun v K' hs' =>
  Le K K' ∧ ∃ h' p', hs' = h' :: pt mb (mv (f.get s m).2 p') 51 :: R ∧ IsRd rb hb (f.get s m).1 h' ∧ MsgS K' (f.get s m).2 p' ∧ (f ≠ .ents → p'.ae = p.ae ∧ p'.ce = p.ce)
/-- a function that says where a field lies -/
def Sel (w0 : World) (g off : Nat) : Prop := ∀ (mb : Nat) (K : PH) (hs : List PH), Ct Try.prog w0 g [Ptr mb] K hs (fun v K' hs' => K' = K ∧ hs' = hs ∧ v = .pointer (some ⟨mb, off, none⟩))
theorem sel_index {w0 : World} : Sel w0 68 4 := by
  intro mb K hs
  refine enter Try.func68 (by kernel_rfl) rfl rfl rfl ?_
  refine sq (rg (?_))
  refine fin hT 1 rfl (th (sq (rg (?_))))
  refine fin hT 4 rfl (th (rt (?_)))
  exact ret1 rfl rfl ⟨rfl, rfl, rfl⟩
theorem sel_logTerm {w0 : World} : Sel w0 69 5 := by
  intro mb K hs
  refine enter Try.func69 (by kernel_rfl) rfl rfl rfl ?_
  refine sq (rg (?_))
  refine fin hT 1 rfl (th (sq (rg (?_))))
  refine fin hT 4 rfl (th (rt (?_)))
  exact ret1 rfl rfl ⟨rfl, rfl, rfl⟩
theorem sel_commit {w0 : World} : Sel w0 71 6 := by
  intro mb K hs
  refine enter Try.func71 (by kernel_rfl) rfl rfl rfl ?_
  refine sq (rg (?_))
  refine fin hT 1 rfl (th (sq (rg (?_))))
  refine fin hT 4 rfl (th (rt (?_)))
  exact ret1 rfl rfl ⟨rfl, rfl, rfl⟩
theorem sel_round {w0 : World} : Sel w0 72 7 := by
  intro mb K hs
  refine enter Try.func72 (by kernel_rfl) rfl rfl rfl ?_
  refine sq (rg (?_))
  refine fin hT 1 rfl (th (sq (rg (?_))))
  refine fin hT 4 rfl (th (rt (?_)))
  exact ret1 rfl rfl ⟨rfl, rfl, rfl⟩
theorem sel_offset {w0 : World} : Sel w0 75 10 := by
  intro mb K hs
  refine enter Try.func75 (by kernel_rfl) rfl rfl rfl ?_
  refine sq (rg (?_))
  refine fin hT 1 rfl (th (sq (rg (?_))))
  refine fin hT 4 rfl (th (rt (?_)))
  exact ret1 rfl rfl ⟨rfl, rfl, rfl⟩
theorem sel_whole {w0 : World} : Sel w0 76 11 := by
  intro mb K hs
  refine enter Try.func76 (by kernel_rfl) rfl rfl rfl ?_
  refine sq (rg (?_))
  refine fin hT 1 rfl (th (sq (rg (?_))))
  refine fin hT 4 rfl (th (rt (?_)))
  exact ret1 rfl rfl ⟨rfl, rfl, rfl⟩
section
variable {w0 : World} {K h : PH} {R : List PH} {g off cb mb : Nat}
abbrev capC (ty g : Nat) : Obj := .cells #[.func (.func g) #[] #[]] ty (0, 0)
theorem cap_cell {K : PH} {cb ty g : Nat} (h : K cb = some (capC ty g)) : Cell K ⟨cb, 0, none⟩ (.func (.func g) #[] #[]) := ⟨rfl, _, _, _, h, rfl⟩
theorem numPut (m : Msg) (p : MA) (ao : Option Addr) (c1 : Nat) (bs : List UInt8) (o : Own h ao bs.length c1 5 1 (bv bs)) (hb : bs.length < 68719476736) (hs : Sel w0 g off) (hc : K cb = some (capC 108 g)) (n : Nat) (hn : n ≤ mxU) (hv : (mv m p)[off]? = some (.int .u64 (n : Nat))) :
    Ct Try.prog w0 82 [.slice ao bs.length c1, Ptr mb, Ptr cb] K (h :: pt mb (mv m p) 51 :: R)
      (fun v K' hs' => K' = K ∧ ∃ h' ao' c', hs' = h' :: pt mb (mv m p) 51 :: R ∧ v = .tuple #[.slice ao' (bs ++ uint n).length c', .bool true] ∧ Own h' ao' (bs ++ uint n).length c' 5 1 (bv (bs ++ uint n))) := by
  have hmx : mxU = 18446744073709551615 := rfl
  refine enter Try.func82 (by kernel_rfl) rfl rfl rfl ?_
  refine sq (rg (?_))
  refine fin hT 2 rfl (th (sq (rg (?_))))
  refine ld hT 1 rfl (.inl rfl) (cap_cell hc) ?_
  refine cl hT 1 rfl (hs mb _ _) ?_   -- encode.go:21 t10
  rintro v10 K10 hs10 ⟨rfl, rfl, rfl⟩
  refine ldp hT 1 1 rfl rfl hv ?_
  refine cl hT 0 rfl (putUint ao c1 bs n o (by omega) (by omega)) ?_   -- encode.go:21 t13
  rintro v13 K13 hs13 ⟨g13, rfl, rfl, ao13, c13, rfl, o13⟩
  refine fin hT 2 rfl (th (rt (?_)))
  exact ret2 rfl rfl rfl ⟨rfl, g13, ao13, c13, rfl, rfl, o13⟩
theorem u64of_wrap (x : Int) : Value.int .u64 (IntKind.u64.wrap x) = .int .u64 ((u64of x : Nat) : Int) := by
  simp [IntKind.wrap, IntKind.bits, IntKind.signed, u64of]
  omega
theorem u64of_lt (x : Int) : u64of x < 18446744073709551616 := by unfold u64of; omega
theorem placePut (m : Msg) (p : MA) (ao : Option Addr) (c1 : Nat) (bs : List UInt8) (o : Own h ao bs.length c1 5 1 (bv bs)) (hb : bs.length < 68719476736) (hs : Sel w0 g off) (hc : K cb = some (capC 111 g)) (n : Int) (hv : (mv m p)[off]? = some (.int .i64 n)) :
    Ct Try.prog w0 91 [.slice ao bs.length c1, Ptr mb, Ptr cb] K (h :: pt mb (mv m p) 51 :: R)
      (fun v K' hs' => K' = K ∧ ∃ h' ao' c', ∃ t : Bool, hs' = h' :: pt mb (mv m p) 51 :: R ∧ v = .tuple #[.slice ao' (bs ++ uint (u64of n)).length c', .bool t] ∧ (t = true ↔ 0 ≤ n ∧ n ≤ 2097152) ∧ Own h' ao' (bs ++ uint (u64of n)).length c' 5 1 (bv (bs ++ uint (u64of n)))) := by
  refine enter Try.func91 (by kernel_rfl) rfl rfl rfl ?_
  refine sq (rg (?_))
  refine fin hT 2 rfl (th (sq (rg (?_))))
  refine ld hT 0 rfl (.inl rfl) (cap_cell hc) ?_
  refine cl hT 1 rfl (hs mb _ _) ?_   -- encode.go:31 t10
  rintro v10 K10 hs10 ⟨rfl, rfl, rfl⟩
  refine ldp hT 1 1 rfl rfl hv ?_
  refine fin hT 1 rfl (th (sq (rg (?_))))
  refine ar hT 2 rfl (u64of_wrap n) ?_
  refine cl hT 0 rfl (putUint ao c1 bs (u64of n) o (u64of_lt n) (by omega)) ?_   -- encode.go:32 t16
  rintro v16 K16 hs16 ⟨g13, rfl, rfl, ao13, c13, rfl, o13⟩
  refine cmpS hT 1 rfl fun b18 h18 => ?_   -- encode.go:32 t18 t17 ≥ 0
  refine' bja hT 1 3 22 [18, 19] h18 rfl rfl rfl rfl rfl rfl rfl (fun _ => ?x2) (fun b22 h22 => ?_)   -- encode.go:32 t22
  case x2 =>
    refine cmpS hT 1 rfl fun b21 h21 => ?_   -- encode.go:32 t21 t20 ≤ 2097152
    exact fin hT 1 rfl (bjx h21 rfl rfl rfl)
  refine fin hT 2 rfl (th (rt (?_)))
  exact ret2 rfl rfl rfl ⟨rfl, g13, ao13, c13, b22, rfl, rfl, h22, o13⟩
theorem numClr (c : Array Value) (hs : Sel w0 g off) (hc : K cb = some (capC 108 g)) (u : Value) (hu : c[off]? = some u) :
    Ct Try.prog w0 84 [Ptr mb, Ptr cb] K (pt mb c 51 :: R)
      (fun v K' hs' => K' = K ∧ hs' = pt mb (c.setIfInBounds off (.int .u64 0)) 51 :: R) := by
  refine enter Try.func84 (by kernel_rfl) rfl rfl rfl ?_
  refine rg (?_)
  refine ld hT 0 rfl (.inl rfl) (cap_cell hc) ?_
  refine cl hT 1 rfl (hs mb _ _) ?_   -- encode.go:23 t5
  rintro v5 K5 hs5 ⟨rfl, rfl, rfl⟩
  refine stp hT 1 0 rfl rfl hu rfl ?_
  refine fin hT 0 rfl (?_)
  exact end0 rfl ⟨rfl, rfl⟩
theorem placeClr (c : Array Value) (hs : Sel w0 g off) (hc : K cb = some (capC 111 g)) (u : Value) (hu : c[off]? = some u) :
    Ct Try.prog w0 93 [Ptr mb, Ptr cb] K (pt mb c 51 :: R)
      (fun v K' hs' => K' = K ∧ hs' = pt mb (c.setIfInBounds off (.int .i64 0)) 51 :: R) := by
  refine enter Try.func93 (by kernel_rfl) rfl rfl rfl ?_
  refine rg (?_)
  refine ld hT 0 rfl (.inl rfl) (cap_cell hc) ?_
  refine cl hT 1 rfl (hs mb _ _) ?_   -- encode.go:35 t5
  rintro v5 K5 hs5 ⟨rfl, rfl, rfl⟩
  refine stp hT 1 0 rfl rfl hu rfl ?_
  refine fin hT 0 rfl (?_)
  exact end0 rfl ⟨rfl, rfl⟩
theorem numGet {c : Array Value} {rb : Nat} {hb : PH} (hi : In K (pt mb c 51 :: R) hb) (s : Rd) (hl : s.1.length < 1099511627776) (rd : IsRd rb hb s h) (hs : Sel w0 g off) (hc : K cb = some (capC 108 g)) (u : Value) (hu : c[off]? = some u) :
    Ct Try.prog w0 83 [Ptr rb, Ptr mb, Ptr cb] K (h :: pt mb c 51 :: R)
      (fun v K' hs' => K' = K ∧ ∃ h', hs' = h' :: pt mb (c.setIfInBounds off (.int .u64 ((rUint mxU s).1 : Nat))) 51 :: R ∧ IsRd rb hb (rUint mxU s).2 h') := by
  refine enter Try.func83 (by kernel_rfl) rfl rfl rfl ?_
  refine rg (?_)
  refine ld hT 0 rfl (.inl rfl) (cap_cell hc) ?_
  refine cl hT 1 rfl (hs mb _ _) ?_   -- encode.go:22 t7
  rintro v7 K7 hs7 ⟨rfl, rfl, rfl⟩
  refine cl hT 1 rfl (uintC hi mxU s hl rd) ?_   -- encode.go:22 t9
  rintro v9 K9 hs9 ⟨h9, rfl, rfl, rfl, rd9⟩
  refine stp hT 1 1 rfl rfl hu rfl ?_
  refine fin hT 0 rfl (?_)
  exact end0 rfl ⟨rfl, h9, rfl, rd9⟩
theorem placeGet {c : Array Value} {rb : Nat} {hb : PH} (hi : In K (pt mb c 51 :: R) hb) (s : Rd) (hl : s.1.length < 1099511627776) (rd : IsRd rb hb s h) (hs : Sel w0 g off) (hc : K cb = some (capC 111 g)) (u : Value) (hu : c[off]? = some u) :
    Ct Try.prog w0 92 [Ptr rb, Ptr mb, Ptr cb] K (h :: pt mb c 51 :: R)
      (fun v K' hs' => K' = K ∧ ∃ h', hs' = h' :: pt mb (c.setIfInBounds off (.int .i64 ((rUint 2097152 s).1 : Nat))) 51 :: R ∧ IsRd rb hb (rUint 2097152 s).2 h') := by
  have hle := rUint_le 2097152 s
  refine enter Try.func92 (by kernel_rfl) rfl rfl rfl ?_
  refine rg (?_)
  refine ld hT 0 rfl (.inl rfl) (cap_cell hc) ?_
  refine cl hT 1 rfl (hs mb _ _) ?_   -- encode.go:34 t7
  rintro v7 K7 hs7 ⟨rfl, rfl, rfl⟩
  refine cl hT 1 rfl (uintC hi 2097152 s hl rd) ?_   -- encode.go:34 t9
  rintro v9 K9 hs9 ⟨h9, rfl, rfl, rfl, rd9⟩
  refine ar hT 0 rfl (i64w (by omega)) ?_   -- encode.go:34 t10 convert t9
  refine stp hT 1 1 rfl rfl hu rfl ?_
  refine fin hT 0 rfl (?_)
  exact end0 rfl ⟨rfl, h9, rfl, rd9⟩
theorem goodPut (m : Msg) (p : MA) (ao : Option Addr) (c1 : Nat) (bs : List UInt8) (o : Own h ao bs.length c1 5 1 (bv bs)) (hb : bs.length < 68719476736) :
    Ct Try.prog w0 85 [.slice ao bs.length c1, Ptr mb] K (h :: pt mb (mv m p) 51 :: R) (PutR .good m bs (pt mb (mv m p) 51 :: R) K) := by
  refine enter Try.func85 (by kernel_rfl) rfl rfl rfl ?_
  refine sq (rg (?_))
  refine fin hT 2 rfl (th (sq (sq (rg (?_)))))
  refine ldp hT 3 1 rfl rfl rfl ?_   -- encode.go:55 t9 *t8
  refine nmS fun b9 h9 => ?_
  refine fin hT 0 rfl (th (ifP h9 rfl (fun e1 => ?_) (fun e1 => ?_)))
  · refine sq (rg (?_))
    refine lit hT 1 #[.int .u8 ((1 : Nat) : Int)] rfl (by decide) (by kernel_rfl) fun b11 => ?_   -- encode.go:56 t11
    refine appB hT 0 1 bs [1] rfl rfl rfl o (.inr ⟨0, rfl⟩) (isS_byte b11 1 (by decide)) (by simp; omega) fun ao12 c12 g12 o12 => ?_
    refine fin hT 2 rfl (th (rt (rT (?_))))
    refine WQ.drop ?_
    exact ret2 rfl rfl rfl ⟨rfl, g12, ao12, c12, _, true, rfl, rfl, by simp [Fld.pok], fun _ => by rw [Fld.pby, if_pos e1], o12⟩
  · refine sk (th (sq (rg (?_))))
    refine lit hT 1 #[.int .u8 ((0 : Nat) : Int)] rfl (by decide) (by kernel_rfl) fun b14 => ?_   -- encode.go:58 t14
    refine appB hT 0 1 bs [0] rfl rfl rfl o (.inr ⟨0, rfl⟩) (isS_byte b14 0 (by decide)) (by simp; omega) fun ao15 c15 g15 o15 => ?_
    refine fin hT 2 rfl (th (rt (?_)))
    refine WQ.drop ?_
    exact ret2 rfl rfl rfl ⟨rfl, g15, ao15, c15, _, true, rfl, rfl, by simp [Fld.pok], fun _ => by rw [Fld.pby, if_neg e1], o15⟩
theorem getGoodT {rb : Nat} {hb h : PH} {s0 : Rd} {m : Msg} (e : (1 : Int) < ((rByte s0).1 : Nat)) (r : IsRd rb hb (rFail 170 (rByte s0).2) h) : IsRd rb hb ((Fld.good).get s0 m).1 h := by
  have : 1 < (rByte s0).1 := by omega
  simp only [Fld.get]
  rw [if_pos this]
  exact r
theorem getGoodF {rb : Nat} {hb h : PH} {s0 : Rd} {m : Msg} (e : ¬ (1 : Int) < ((rByte s0).1 : Nat)) (r : IsRd rb hb (rByte s0).2 h) : IsRd rb hb ((Fld.good).get s0 m).1 h := by
  have : ¬ 1 < (rByte s0).1 := by omega
  simp only [Fld.get]
  rw [if_neg this]
  exact r
theorem goodGet {rb : Nat} {hb : PH} (m : Msg) (p : MA) (hi : In K (pt mb (mv m p) 51 :: R) hb) (s0 : Rd) (rd : IsRd rb hb s0 h) (hS : MsgS K m p) :
    Ct Try.prog w0 86 [Ptr rb, Ptr mb] K (h :: pt mb (mv m p) 51 :: R) (GetR .good s0 m p rb mb hb R K) := by
  refine enter Try.func86 (by kernel_rfl) rfl rfl rfl ?_
  refine sq (rg (?_))
  refine cl hT 1 rfl (byteC hi s0 rd) ?_   -- encode.go:61 t6
  rintro v6 K6 hs6 ⟨h6, rfl, rfl, rfl, rd6⟩
  refine fin hT 1 rfl (th (jn (σ := PH) (fun s => [(1, Ptr mb), (4, .int .u8 ((rByte s0).1 : Nat))]) (fun s => s :: pt mb (mv m p) 51 :: R) (fun s => IsRd rb hb ((Fld.good).get s0 m).1 s) ?_ ?_))
  · refine sq (rg (?_))
    refine cmpS hT 1 rfl fun b8 h8 => ?_   -- encode.go:62 t8 t7 > 1
    refine fin hT 0 rfl (th (ifP h8 rfl (fun e2 => ?_) (fun e2 => ?_)))
    · refine rg (?_)
      refine cl hT 1 rfl (failC (rByte s0).2 170 rd6) ?_   -- encode.go:63 t10
      rintro v10 K10 hs10 ⟨h10, rfl, rfl, rfl, rd10⟩
      refine fin hT 0 rfl (?_)
      exact jx h10 (getGoodT e2 rd10) ⟨rfl, rfl, trivial⟩ rfl rfl
    · refine sk (?_)
      exact jx h6 (getGoodF e2 rd6) ⟨rfl, rfl, trivial⟩ rfl rfl
  · rintro h6 rd6
    refine rg (?_)
    refine cmpS hT 2 rfl fun b13 h13 => ?_   -- encode.go:65 t13 t12 = 1
    have hb13 : b13 = ((Fld.good).get s0 m).2.good := by
      have : b13 = true ↔ (rByte s0).1 = 1 := h13.trans ⟨fun h => by omega, fun h => by omega⟩
      simp only [Fld.get]
      cases b13 <;> simp_all
    subst hb13
    refine stp hT 2 1 rfl rfl rfl rfl ?_   -- encode.go:65 tNone t15 := t13
    refine fin hT 0 rfl (?_)
    exact end0 rfl ⟨Le.refl _, h6, p, rfl, rd6, hS, fun _ => ⟨rfl, rfl⟩⟩
end
end Go.Proofs.Ythpiokdibknpaaa
namespace Go.Proofs.Ythpiokdibknpaaa
open Go.En
set_option linter.unusedVariables false
attribute [local irreducible] Code.wp wpList Calls

theorem putR_no {f : Fld} {m : Msg} {bs : List UInt8} {R : List PH} {K : PH} (h : ¬ f.pok m) : PutR f m bs R K (.tuple #[.slice none 0 0, .bool false]) K (em :: R) :=
  ⟨rfl, em, none, 0, [], false, rfl, rfl, ⟨fun h => (by cases h), fun h' => absurd h' h⟩, (fun h => by cases h), Own.nil _ _⟩
theorem EntsS.get {H : PH} {e0 : Ent} : ∀ {css : List (List Value)} {es : List Ent} {i : Nat}, All2 (EntC H) css es → i < es.length →
    ∃ ae ce, IsS H ae (es.getD i e0).data.length ce 1 (bv (es.getD i e0).data) ∧ ∀ (j : Nat) v, ((es.getD i e0).v ae ce).toList[j]? = some v → css.flatten[i * 4 + j]? = some v
  | [], [], i, _, h => by simp at h
  | [], _ :: _, _, g, _ => g.elim
  | _ :: _, [], _, g, _ => g.elim
  | c :: css, e :: es, 0, g, h => by
    obtain ⟨⟨ae, ce, rfl, x⟩, _⟩ := g
    refine ⟨ae, ce, by simpa using x, fun j v hv => ?_⟩
    have hj : j < 4 := by have := (List.getElem?_eq_some_iff.1 hv).1; simpa [Ent.v] using this
    simp only [List.getD_cons_zero] at hv
    rw [List.flatten_cons, Nat.zero_mul, Nat.zero_add, List.getElem?_append_left (by simpa [Ent.v] using hj)]
    exact hv
  | c :: css, e :: es, i + 1, g, h => by
    obtain ⟨ae, ce, x, hx⟩ := EntsS.get (e0 := e0) (i := i) g.2 (by simpa using h)
    obtain ⟨⟨ae', ce', rfl, _⟩, _⟩ := g
    refine ⟨ae, ce, by simpa using x, fun j v hv => ?_⟩
    have := hx j v (by simpa using hv)
    rw [List.flatten_cons, List.getElem?_append_right (by simp [Ent.v]; omega)]
    rw [show (i + 1) * 4 + j - (e.v ae' ce').toList.length = i * 4 + j from by simp [Ent.v]; omega]
    exact this
theorem entsOK_split (a : Nat) : ∀ (l r : List Ent) (i : Nat), entsOK a i (l ++ r) ↔ entsOK a i l ∧ entsOK a (i + l.length) r
  | [], r, i => by simp [entsOK]
  | e :: l, r, i => by
    show (e.ok ∧ e.idx = (a + i + 1) % 18446744073709551616 ∧ a ≤ e.idx ∧ entsOK a (i + 1) (l ++ r)) ↔ (e.ok ∧ e.idx = (a + i + 1) % 18446744073709551616 ∧ a ≤ e.idx ∧ entsOK a (i + 1) l) ∧ entsOK a (i + (l.length + 1)) r
    rw [entsOK_split a l r (i + 1), show i + 1 + l.length = i + (l.length + 1) from by omega]
    simp only [and_assoc]
theorem entsBytes_append : ∀ l r : List Ent, entsBytes (l ++ r) = entsBytes l ++ entsBytes r
  | [], r => rfl
  | e :: l, r => by simp [entsBytes, entsBytes_append l r]
theorem entsBytes_len (a : Nat) : ∀ (l : List Ent) (i : Nat), entsOK a i l → (∀ e ∈ l, e.idx ≤ mxU ∧ e.term ≤ mxU) → (entsBytes l).length ≤ 260 * l.length
  | [], _, _, _ => by simp [entsBytes]
  | e :: l, i, h, hb => by
    obtain ⟨h1, _, _, h4⟩ := h
    have h5 := Ent.bytes_length e h1 (hb e (by simp)).1 (hb e (by simp)).2
    have h6 := entsBytes_len a l (i + 1) h4 (fun x hx => hb x (by simp [hx]))
    have h7 := uint_le10 (n := e.bytes.length) (by omega)
    simp only [entsBytes, putBytes, List.length_append, List.length_cons]
    omega
theorem getD_take_succ (l : List Ent) (i : Nat) (h : i < l.length) (d : Ent) : l.take (i + 1) = l.take i ++ [l.getD i d] := by
  rw [take_succ_get l i h]; simp [List.getD, h]
theorem entsOK_at {a : Nat} {l : List Ent} {i : Nat} (h : i < l.length) (d : Ent) (hok : entsOK a 0 l) : (l.getD i d).ok ∧ (l.getD i d).idx = (a + i + 1) % 18446744073709551616 ∧ a ≤ (l.getD i d).idx := by
  have h1 := (entsOK_split a (l.take i) (l.drop i) 0).1 (by rw [List.take_append_drop]; exact hok)
  have h2 := h1.2
  rw [List.drop_eq_getElem_cons h] at h2
  have hl : (l.take i).length = i := by simp; omega
  obtain ⟨g1, g2, g3, _⟩ := h2
  rw [hl, Nat.zero_add] at g2
  have e : l.getD i d = l[i] := by simp [List.getD, h]
  rw [e]
  exact ⟨g1, g2, g3⟩
theorem entsOK_take_succ {a : Nat} {l : List Ent} {i : Nat} (h : i < l.length) (d : Ent) (h0 : entsOK a 0 (l.take i)) (h1 : (l.getD i d).ok) (h2 : (l.getD i d).idx = (a + i + 1) % 18446744073709551616) (h3 : a ≤ (l.getD i d).idx) : entsOK a 0 (l.take (i + 1)) := by
  rw [getD_take_succ l i h d, entsOK_split]
  have hl : (l.take i).length = i := by simp; omega
  exact ⟨h0, h1, by rw [hl, Nat.zero_add]; exact h2, h3, trivial⟩
section
variable {w0 : World} {K h : PH} {R : List PH} {mb : Nat}
theorem goodClr (m : Msg) (p : MA) (hS : MsgS K m p) : Ct Try.prog w0 87 [Ptr mb] K (pt mb (mv m p) 51 :: R) (ClrR .good m mb R K) := by
  refine enter Try.func87 (by kernel_rfl) rfl rfl rfl ?_
  refine rg (?_)
  refine stp hT 3 0 rfl rfl rfl rfl ?_   -- encode.go:67 tNone t4 := c
  refine fin hT 0 rfl (?_)
  exact end0 rfl ⟨rfl, p, rfl, hS⟩
theorem entsClr (m : Msg) (p : MA) (hS : MsgS K m p) : Ct Try.prog w0 90 [Ptr mb] K (pt mb (mv m p) 51 :: R) (ClrR .ents m mb R K) := by
  refine enter Try.func90 (by kernel_rfl) rfl rfl rfl ?_
  refine rg (?_)
  refine stp hT 3 0 rfl rfl rfl rfl ?_   -- encode.go:92 tNone t4 := c
  refine fin hT 0 rfl (?_)
  exact end0 rfl ⟨rfl, { p with ae := none, ce := 0 }, rfl, EntsS.nil _ _ _, hS.2⟩
theorem votClr (m : Msg) (p : MA) (hS : MsgS K m p) : Ct Try.prog w0 96 [Ptr mb] K (pt mb (mv m p) 51 :: R) (ClrR .vot m mb R K) := by
  refine enter Try.func96 (by kernel_rfl) rfl rfl rfl ?_
  refine rg (?_)
  refine stp hT 3 0 rfl rfl rfl rfl ?_   -- encode.go:108 tNone t4 := c
  refine fin hT 0 rfl (?_)
  exact end0 rfl ⟨rfl, { p with av := none, cv := 0 }, rfl, hS.1, IsS.nil _ _ _ _, hS.2.2⟩
theorem dataClr (m : Msg) (p : MA) (hS : MsgS K m p) : Ct Try.prog w0 99 [Ptr mb] K (pt mb (mv m p) 51 :: R) (ClrR .data m mb R K) := by
  refine enter Try.func99 (by kernel_rfl) rfl rfl rfl ?_
  refine rg (?_)
  refine stp hT 3 0 rfl rfl rfl rfl ?_   -- encode.go:119 tNone t4 := c
  refine fin hT 0 rfl (?_)
  exact end0 rfl ⟨rfl, { p with ad := none, cd := 0 }, rfl, hS.1, hS.2.1, IsS.nil _ _ _ _⟩
theorem ob_conf_len (l : List Int) : (ob (putConf l)).length ≤ 1 := by
  unfold putConf
  split <;> simp [ob]
theorem votPut (m : Msg) (p : MA) (ao : Option Addr) (c1 : Nat) (bs : List UInt8) (o : Own h ao bs.length c1 5 1 (bv bs)) (hb : bs.length < 68719476736) (hS : MsgS K m p) (hbd : m.bd) :
    Ct Try.prog w0 94 [.slice ao bs.length c1, Ptr mb] K (h :: pt mb (mv m p) 51 :: R) (PutR .vot m bs (pt mb (mv m p) 51 :: R) K) := by
  have hcl := ob_conf_len m.vot
  have hvl := hbd.votL
  refine enter Try.func94 (by kernel_rfl) rfl rfl rfl ?_
  refine sq (rg (?_))
  refine fin hT 2 rfl (th (sq (rg (?_))))
  refine ldp hT 3 1 rfl rfl rfl ?_   -- encode.go:100 t12 *t11
  refine bd hT 0 (.agg #[.slice p.av m.vot.length p.cv]) rfl (fun w => by kernel_rfl) ?_   -- encode.go:100 t13
  refine cl hT 0 rfl (putConfC p.av p.cv m.vot (.inl rfl) hS.2.1 (by omega)) ?_   -- encode.go:100 t14
  rintro v14 K14 hs14 ⟨rfl, g, aog, cg, rfl, rfl, og⟩
  refine fin hT 5 rfl (th (sq (rg (?_))))
  refine appB hT 2 1 bs (ob (putConf m.vot)) rfl rfl rfl o (.inr ⟨0, rfl⟩) og.isS (by omega) fun ao19 c19 g19 o19 => ?_
  refine cmpS hT 1 rfl fun b21 h21 => ?_   -- encode.go:101 t21 t20 = 0
  refine fin hT 2 rfl (th (rt (?_)))
  refine WQ.drop ?_
  exact ret2 rfl rfl rfl ⟨rfl, g19, ao19, c19, _, b21, rfl, rfl, h21.trans ec_zero, fun _ => rfl, o19⟩
theorem votGet {rb : Nat} {hb : PH} (m : Msg) (p : MA) (hi : In K (pt mb (mv m p) 51 :: R) hb) (s : Rd) (rd : IsRd rb hb s h) (hS : MsgS K m p) :
    Ct Try.prog w0 95 [Ptr rb, Ptr mb] K (h :: pt mb (mv m p) 51 :: R) (GetR .vot s m p rb mb hb R K) := by
  have hk := rByte_lt s
  refine enter Try.func95 (by kernel_rfl) rfl rfl rfl ?_
  refine sq (rg (?_))
  refine cl hT 1 rfl (byteC hi s rd) ?_   -- encode.go:104 t8
  rintro v8 K8 hs8 ⟨h6, rfl, rfl, rfl, rd6⟩
  refine lit hT 0 #[.int .u8 ((rByte s).1 : Nat)] rfl (by decide) (by kernel_rfl) fun b9 => ?_   -- encode.go:104 t9
  refine cl hT 0 rfl (getConfC (some ⟨b9, 0, none⟩) 1 [UInt8.ofNat (rByte s).1] (.inr ⟨0, rfl⟩) (isS_byte b9 _ hk) (by simp)) ?_   -- encode.go:104 t10
  rintro v10 K10 hs10 ⟨rfl, gv, aov, cv, rfl, rfl, ov⟩
  refine al hT 3 (.agg #[.slice none 0 0]) rfl (by kernel_rfl) fun b4 => ?_   -- encode.go:104 t4
  refine stS hT 0 0 rfl rfl (by kernel_rfl) rfl rfl ?_   -- encode.go:104 tNone t4 := t11
  refine fin hT 1 rfl (th (sq (rg (?_))))
  refine cl hT 2 rfl (Ct.at 3 rfl (failC (rByte s).2 _ rd6)) ?_   -- encode.go:105 t15
  rintro v15 K15 hs15 ⟨h15, rfl, rfl, rfl, rd15⟩
  refine fin hT 0 rfl (th (rg (?_)))
  refine ldp hT 2 0 rfl rfl rfl ?_   -- encode.go:106 t18 *t17
  refine stp hT 2 4 rfl rfl rfl rfl ?_   -- encode.go:106 tNone t20 := t18
  refine fin hT 0 rfl (?_)
  refine WQ.drop (WQ.frz fun K' le1 le2 => WQ.drop ?_)
  exact end0 rfl ⟨le1, h15, { p with av := aov, cv := cv }, rfl, rd15, ⟨(hS.le le1).1, ov.isS.le le2, (hS.le le1).2.2⟩, fun _ => ⟨rfl, rfl⟩⟩
theorem dataPut (m : Msg) (p : MA) (ao : Option Addr) (c1 : Nat) (bs : List UInt8) (o : Own h ao bs.length c1 5 1 (bv bs)) (hb : bs.length < 68719476736) (hS : MsgS K m p) (hbd : m.bd) :
    Ct Try.prog w0 97 [.slice ao bs.length c1, Ptr mb] K (h :: pt mb (mv m p) 51 :: R) (PutR .data m bs (pt mb (mv m p) 51 :: R) K) := by
  have hdl := hbd.dataL
  refine enter Try.func97 (by kernel_rfl) rfl rfl rfl ?_
  refine sq (rg (?_))
  refine fin hT 2 rfl (th (sq (rga [pt mb (mv m p) 51] 31 [0, 2, 4, 6, 8, 12, 14, 16, 18, 20, 22, 11, 24, 26, 28, 30, 32, 34, 36, 38, 40, 42, 44, 46, 48, 50, 52, 54, 56, 58, 60] (by simp) (by kernel_rfl) (by kernel_rfl) ?_)))
  refine dldp hT (by kernel_rfl) 4 0 rfl rfl rfl ?_   -- encode.go:116 t10 *t9
  refine dldp hT (by kernel_rfl) 3 0 rfl rfl rfl ?_   -- encode.go:116 t15 *t14
  refine dcmp hT (by kernel_rfl) 1 ((m.data.length : Int) ≤ 256) rfl (by simp) (fun h1 => ?_) (fun h1 => ?_)   -- encode.go:116 t17 t16 ≤ 256
  · refine dact hT (by kernel_rfl) 0 rfl ?_
    refine cl hT 0 rfl (putBytesC ao c1 bs p.ad p.cd m.data o (.inl rfl) hS.2.2 (by omega) (by omega)) ?_   -- encode.go:116 t11
    rintro v11 K11 hs11 ⟨g11, rfl, rfl, ao11, c11, rfl, o11⟩
    refine dnex [pt mb (mv m p) 51] (by simp) (by simp) rfl ?_
    refine dldp hT (by kernel_rfl) 4 0 rfl rfl rfl ?_   -- encode.go:116 t22 *t21
    refine dldp hT (by kernel_rfl) 3 0 rfl rfl rfl ?_   -- encode.go:116 t26 *t25
    refine dldp hT (by kernel_rfl) 3 0 rfl rfl rfl ?_   -- encode.go:116 t30 *t29
    refine dar hT (by kernel_rfl) 1 rfl rfl ?_
    refine dcbS hT (by kernel_rfl) 0 (m.off ≤ IntKind.i64.wrap (m.whole - m.data.length)) rfl (by simp) fun b33 h33 => ?_   -- encode.go:116 t33 t22 ≤ t32
    refine dend hT (by kernel_rfl) 3 rfl (th (rt (?_)))
    exact ret2 rfl rfl rfl ⟨rfl, g11, ao11, c11, _, b33, rfl, rfl, h33.trans ⟨fun h => ⟨by omega, h⟩, fun h => h.2⟩, fun _ => rfl, o11⟩
  · refine dact hT (by kernel_rfl) 0 rfl ?_
    refine cl hT 0 rfl (putBytesC ao c1 bs p.ad p.cd m.data o (.inl rfl) hS.2.2 (by omega) (by omega)) ?_   -- encode.go:116 t11
    rintro v11 K11 hs11 ⟨g11, rfl, rfl, ao11, c11, rfl, o11⟩
    refine dnex [pt mb (mv m p) 51] (by simp) (by simp) rfl ?_
    refine dend hT (by kernel_rfl) 19 rfl (th (rt (?_)))
    exact ret2 rfl rfl rfl ⟨rfl, g11, ao11, c11, _, false, rfl, rfl, ⟨fun h => (by cases h), fun h => absurd h.1 (by omega)⟩, fun _ => rfl, o11⟩
theorem dataGet {rb : Nat} {hb : PH} (m : Msg) (p : MA) (hi : In K (pt mb (mv m p) 51 :: R) hb) (s : Rd) (hl : s.1.length < 1099511627776) (rd : IsRd rb hb s h) (hS : MsgS K m p) :
    Ct Try.prog w0 98 [Ptr rb, Ptr mb] K (h :: pt mb (mv m p) 51 :: R) (GetR .data s m p rb mb hb R K) := by
  refine enter Try.func98 (by kernel_rfl) rfl rfl rfl ?_
  refine rg (?_)
  refine cl hT 2 rfl (bytesC hi 256 (by omega) s hl rd) ?_   -- encode.go:118 t6
  rintro v6 K6 hs6 ⟨h4, new, rfl, rfl, hx, aox, cx, rfl, rfl, ox, rd4⟩
  refine stp hT 2 2 rfl rfl rfl rfl ?_   -- encode.go:118 tNone t8 := t6
  refine fin hT 0 rfl (?_)
  refine WQ.frz fun K' le1 le2 => ?_
  exact end0 rfl ⟨le1, h4, { p with ad := aox, cd := cx }, rfl, rd4, ⟨(hS.le le1).1, (hS.le le1).2.1, ox.isS.le le2⟩, fun _ => ⟨rfl, rfl⟩⟩
theorem entsPut (m : Msg) (p : MA) (ao : Option Addr) (c1 : Nat) (bs : List UInt8) (o : Own h ao bs.length c1 5 1 (bv bs)) (hb : bs.length < 68719476736) (hS : MsgS K m p) (hbd : m.bd) :
    Ct Try.prog w0 88 [.slice ao bs.length c1, Ptr mb] K (h :: pt mb (mv m p) 51 :: R) (PutR .ents m bs (pt mb (mv m p) 51 :: R) K) := by
  have hel := hbd.entsL
  have hmx : mxU = 18446744073709551615 := rfl
  have hidx := hbd.idx
  have hu := uint_le10 (n := m.ents.length) (by omega)
  obtain ⟨⟨css, xE, hE⟩, hS2⟩ := hS
  refine enter Try.func88 (by kernel_rfl) rfl rfl rfl ?_
  refine sq (rg (?_))
  refine fin hT 2 rfl (th (sq (rg (?_))))
  refine ldp hT 4 1 rfl rfl rfl ?_   -- encode.go:75 t14 *t13
  refine ar hT 1 rfl (u64w (by omega)) ?_   -- encode.go:75 t16 convert t15
  refine cl hT 0 rfl (putUint ao c1 bs m.ents.length o (by omega) (by omega)) ?_   -- encode.go:75 t17
  rintro v17 K17 hs17 ⟨g17, rfl, rfl, ao17, c17, rfl, o17⟩
  refine fin hT 1 rfl (th (sq (sq (rg (?_)))))
  refine ldp hT 3 1 rfl rfl rfl ?_   -- encode.go:76 t21 *t20
  refine fin hT 2 rfl (th (bk (?_)))
  refine loop (σ := Nat × Option Addr × Nat × PH) (fun s => [(0, .slice s.2.1 (bs ++ uint m.ents.length ++ entsBytes (m.ents.take s.1)).length s.2.2.1), (1, Ptr mb), (21, .slice p.ae m.ents.length p.ce), (22, .int .i64 (m.ents.length : Nat)), (23, .int .i64 (s.1 : Nat))]) (fun _ => K17) (fun s => s.2.2.2 :: pt mb (mv m p) 51 :: R) (fun s => s.1 ≤ m.ents.length ∧ entsOK m.idx 0 (m.ents.take s.1) ∧ Own s.2.2.2 s.2.1 (bs ++ uint m.ents.length ++ entsBytes (m.ents.take s.1)).length s.2.2.1 5 1 (bv (bs ++ uint m.ents.length ++ entsBytes (m.ents.take s.1)))) (fun s => m.ents.length - s.1) (0, ao17, c17, g17) ⟨Nat.zero_le _, trivial, by simpa [entsBytes] using o17⟩ (by simp only [entsBytes, List.take_zero, List.append_nil]; exact ⟨rfl, rfl, rfl, rfl, rfl, trivial⟩) rfl rfl ?_
  rintro ⟨i, ao, c1, h⟩ ⟨hi, hok, o⟩
  dsimp only at hi hok o ⊢
  refine sq (rg (?_))
  refine cmpS hT 0 rfl fun b24 h24 => ?_   -- encode.go:76 t24 t23 < t22
  have hbl := entsBytes_len m.idx _ 0 hok (fun e he => ⟨(hbd.ents e (List.mem_of_mem_take he)).1, (hbd.ents e (List.mem_of_mem_take he)).2.1⟩)
  have htl : (m.ents.take i).length ≤ m.ents.length := by simp; omega
  have hlen : (bs ++ uint m.ents.length ++ entsBytes (m.ents.take i)).length < 137438953472 := by simp only [List.length_append]; omega
  refine fin hT 0 rfl (th (sq (ifP h24 rfl (fun e2 => ?_) (fun e2 => ?_))))
  · have hin : i < m.ents.length := by omega
    refine sk (th (sq (bk (sq (rg (?_))))))
    obtain ⟨ae, ce, xd, hcell⟩ := EntsS.get (e0 := Ent.zero) hE hin
    have hge : m.ents.getD i Ent.zero ∈ m.ents := by simp [List.getD, hin]
    have hbe := hbd.ents _ hge
    have htk := getD_take_succ m.ents i hin Ent.zero
    have hat := fun h => entsOK_at (a := m.idx) hin Ent.zero h
    have hsu := fun h1 h2 h3 => entsOK_take_succ (a := m.idx) hin Ent.zero hok h1 h2 h3
    generalize m.ents.getD i Ent.zero = e at xd hcell hge hbe htk hat hsu
    refine ixs hT 1 i rfl rfl xE hin (by decide) fun a26 ha26 => ?_
    refine lds hT 0 [.int .u64 (e.idx : Nat), .int .u64 (e.term : Nat), .int .i64 e.kind, .slice ae e.data.length ce] rfl (by kernel_rfl) (.inl rfl) (fun j v hv => ?_) ?_
    · obtain ⟨a', q1, q2⟩ := xE.2.2 (i * 4 + j) v (hcell j v hv)
      rw [ha26] at q1
      cases q1
      rw [Deep.add_add]
      exact q2
    refine al hT 0 (.agg #[.int .u64 0, .int .u64 0, .int .i64 0, .slice none 0 0]) rfl (by kernel_rfl) fun b7 => ?_   -- encode.go:76 t7
    refine stS hT 1 0 rfl rfl (by kernel_rfl) rfl rfl ?_   -- encode.go:76 tNone t7 := t27
    refine fin hT 0 rfl (th (sq (rg (?_))))
    refine ldS hT 0 0 rfl rfl (by kernel_rfl) ?_   -- encode.go:77 t29 t7
    refine cl hT 0 rfl (putEntC e ae ce hbe.1 hbe.2.1 (.inl rfl) xd (by omega)) ?_   -- encode.go:77 t30
    rintro v30 K30 hs30 ⟨rfl, g, aog, cg, rfl, rfl, og⟩
    refine fin hT 5 rfl (th (jn (σ := Unit) (fun s => [(0, .slice ao (bs ++ uint m.ents.length ++ entsBytes (m.ents.take i)).length c1), (1, Ptr mb), (8, .slice aog (ob (putEnt e)).length cg), (21, .slice p.ae m.ents.length p.ce), (22, .int .i64 (m.ents.length : Nat)), (23, .int .i64 (i : Nat))]) (fun s => g :: pt b7 #[.int .u64 (e.idx : Nat), .int .u64 (e.term : Nat), .int .i64 e.kind, .slice ae e.data.length ce] 43 :: h :: pt mb (mv m p) 51 :: R) (fun s => e.ok ∧ e.idx = (m.idx + i + 1) % 18446744073709551616 ∧ m.idx ≤ e.idx) ?_ ?_))
    · refine sq (rga [pt b7 #[.int .u64 (e.idx : Nat), .int .u64 (e.term : Nat), .int .i64 e.kind, .slice ae e.data.length ce] 43, pt mb (mv m p) 51] 24 [0, 2, 4, 6, 8, 10, 12, 14, 16, 18, 20, 22, 24, 26, 28, 30, 32, 34, 36, 38, 40, 42, 44, 46] (by simp) (by kernel_rfl) (by kernel_rfl) ?_)
      refine dcmp hT (by kernel_rfl) 1 (ec (putEnt e) ≠ 0) rfl (by simp) (fun h3 => ?_) (fun h3 => ?_)   -- encode.go:78 t34 t33 ≠ 0
      · refine dend hT (by kernel_rfl) 22 rfl (th (ifT rfl (sq (rg (?_)))))
        refine fin hT 2 rfl (th (rt (jr (rB (rT (rT (rB (rT (?_)))))))))
        refine WQ.drop (WQ.drop (WQ.drop (WQ.em ?_)))
        exact ret2 rfl rfl rfl (putR_no fun hp => h3 (by rw [putEnt, if_pos (hat hp.1).1]; rfl))
      · have heok : e.ok := Decidable.not_not.1 fun hn => h3 (by rw [putEnt, if_neg hn]; decide)
        refine dldp hT (by kernel_rfl) 2 0 rfl rfl rfl ?_   -- encode.go:78 t37 *t36
        refine dldp hT (by kernel_rfl) 3 1 rfl rfl rfl ?_   -- encode.go:78 t41 *t40
        refine dar hT (by kernel_rfl) 1 rfl (u64w (by omega)) ?_   -- encode.go:78 t43 convert t42
        refine dar hT (by kernel_rfl) 0 rfl (v' := .int .u64 (((m.idx + i) % 18446744073709551616 : Nat) : Int)) (by rw [← u64m]; rfl) ?_
        refine dar hT (by kernel_rfl) 0 rfl (v' := .int .u64 (((m.idx + i + 1) % 18446744073709551616 : Nat) : Int)) (by rw [show (m.idx + i + 1) % 18446744073709551616 = ((m.idx + i) % 18446744073709551616 + 1) % 18446744073709551616 from by omega, ← u64m]; rfl) ?_
        refine dcmp hT (by kernel_rfl) 0 (((e.idx : Nat) : Int) ≠ (((m.idx + i + 1) % 18446744073709551616 : Nat) : Int)) rfl (by simp) (fun h4 => ?_) (fun h4 => ?_)   -- encode.go:78 t46 t37 ≠ t45
        · refine dend hT (by kernel_rfl) 10 rfl (th (ifT rfl (sq (rg (?_)))))
          refine fin hT 2 rfl (th (rt (jr (rB (rT (rT (rB (rT (?_)))))))))
          refine WQ.drop (WQ.drop (WQ.drop (WQ.em ?_)))
          exact ret2 rfl rfl rfl (putR_no fun hp => h4 (Int.ofNat_inj.2 (hat hp.1).2.1))
        · refine dldp hT (by kernel_rfl) 3 0 rfl rfl rfl ?_   -- encode.go:78 t50 *t49
          refine dldp hT (by kernel_rfl) 3 1 rfl rfl rfl ?_   -- encode.go:78 t54 *t53
          refine dcbS hT (by kernel_rfl) 0 (((e.idx : Nat) : Int) < (m.idx : Nat)) rfl (by simp) fun b55 h55 => ?_   -- encode.go:78 t55 t50 < t54
          refine dend hT (by kernel_rfl) 1 rfl (th (ifP h55 rfl (fun e5 => ?_) (fun e5 => ?_)))
          · refine sq (rg (?_))
            refine fin hT 2 rfl (th (rt (jr (rB (rT (rT (rB (rT (?_)))))))))
            refine WQ.drop (WQ.drop (WQ.drop (WQ.em ?_)))
            exact ret2 rfl rfl rfl (putR_no fun hp => absurd (hat hp.1).2.2 (by omega))
          · refine sk (?_)
            exact jx () ⟨heok, Int.ofNat_inj.1 (Decidable.not_not.1 h4), by omega⟩ ⟨rfl, rfl, rfl, rfl, rfl, rfl, trivial⟩ rfl rfl
    · rintro _ ⟨heok, he2, he3⟩
      have hpe : ob (putEnt e) = e.bytes := by rw [putEnt, if_pos heok]; rfl
      rw [hpe] at og ⊢
      have hel2 := Ent.bytes_length e heok hbe.1 hbe.2.1
      refine rg (?_)
      refine cl hT 2 rfl (Ct.at 2 rfl (putBytesC ao c1 _ aog cg e.bytes o (.inr ⟨0, rfl⟩) og.isS (by omega) (by omega))) ?_   -- encode.go:81 t59
      rintro v59 K59 hs59 ⟨g59, rfl, rfl, ao59, c59, rfl, o59⟩
      have ee : bs ++ uint m.ents.length ++ entsBytes (m.ents.take i) ++ putBytes e.bytes = bs ++ uint m.ents.length ++ entsBytes (m.ents.take (i + 1)) := by rw [htk, entsBytes_append]; simp [entsBytes]
      rw [ee] at o59 ⊢
      refine fin hT 1 rfl (bl (th (WC.drop (WC.drop (rg (?_))))))
      refine ar hT 0 rfl (i64w (by omega)) ?_   -- encode.go:76 t60 t23 add 1
      refine fin hT 1 rfl (?_)
      exact again (x := (i, ao, c1, h)) (i + 1, ao59, c59, g59) ⟨rfl, rfl, rfl, rfl, rfl, trivial⟩ rfl rfl ⟨by omega, hsu heok he2 he3, o59⟩ (by (try dsimp only); omega)
  · obtain rfl : i = m.ents.length := by omega
    refine ex (xt (xt (xb (th (sq (rga [pt mb (mv m p) 51] 9 [0, 2, 4, 6, 8, 10, 12, 14, 16] (by simp) (by kernel_rfl) (by kernel_rfl) ?_))))))
    rw [List.take_of_length_le (Nat.le_refl _)] at o hok ⊢
    refine dldp hT (by kernel_rfl) 4 0 rfl rfl rfl ?_   -- encode.go:83 t65 *t64
    refine dcbS hT (by kernel_rfl) 1 ((m.ents.length : Int) ≤ 8) rfl (by simp) fun b67 h67 => ?_   -- encode.go:83 t67 t66 ≤ 8
    refine dend hT (by kernel_rfl) 2 rfl (th (rt (?_)))
    exact ret2 rfl rfl rfl ⟨rfl, h, ao, c1, _, b67, rfl, rfl, h67.trans ⟨fun h => ⟨hok, by omega⟩, fun h => by have := h.2; omega⟩, fun _ => by simp [Fld.pby], o⟩
end
end Go.Proofs.Ythpiokdibknpaaa
namespace Go.Proofs.Ythpiokdibknpaaa
open Go.En
set_option linter.unusedVariables false
attribute [local irreducible] Code.wp wpList Calls

theorem All2.len {α : Type} {R : List Value → α → Prop} : ∀ {cs : List (List Value)} {xs : List α}, All2 R cs xs → cs.length = xs.length
  | [], [], _ => rfl
  | _ :: _, _ :: _, g => by simp [All2.len g.2]
  | [], _ :: _, g => g.elim
  | _ :: _, [], g => g.elim
theorem entsGet {w0 : World} {K h : PH} {R : List PH} {mb : Nat} {rb ii : Nat} {hb : PH} (m : Msg) (p : MA) (h0 : m.ents = []) (hpe : p.ae = none) (hpc : p.ce = 0) (hR : R[ii]? = some hb) (s : Rd) (hl : s.1.length < 1099511627776) (rd : IsRd rb hb s h) (hS : MsgS K m p) :
    Ct Try.prog w0 89 [Ptr rb, Ptr mb] K (h :: pt mb (mv m p) 51 :: R) (GetR .ents s m p rb mb hb R K) := by
  obtain ⟨mk, mf, mt, mte, mi, ml, mc, mr, mg, me, mo, mw, mvo, md⟩ := m
  obtain ⟨pae, pce, pav, pcv, pad, pcd⟩ := p
  dsimp only at h0 hpe hpc
  subst h0 hpe hpc
  have hN := rUint_le 8 s
  have hlr := rUint_len 8 s
  refine enter Try.func89 (by kernel_rfl) rfl rfl rfl ?_
  refine sq (rg (?_))
  refine cl hT 1 rfl (uintC (.inr ⟨ii + 1, hR⟩) 8 s hl rd) ?_   -- encode.go:86 t7
  rintro v7 K7 hs7 ⟨h7, rfl, rfl, rfl, rd7⟩
  refine fin hT 1 rfl (th (bk (WC.em ?_)))
  refine loop (σ := Nat × Rd × List Ent × PH × PH × PH × Option Addr × Nat × List (List Value)) (fun s' => [(0, Ptr rb), (1, Ptr mb), (7, .int .u64 ((rUint 8 s).1 : Nat)), (8, .int .u64 (s'.1 : Nat))]) (fun s => s.2.2.2.1) (fun s => s.2.2.2.2.2.1 :: s.2.2.2.2.1 :: pt mb (mv ⟨mk, mf, mt, mte, mi, ml, mc, mr, mg, s.2.2.1, mo, mw, mvo, md⟩ ⟨s.2.2.2.2.2.2.1, s.2.2.2.2.2.2.2.1, pav, pcv, pad, pcd⟩) 51 :: R)
    (fun s' => Le K7 s'.2.2.2.1 ∧ s'.1 ≤ (rUint 8 s).1 ∧ getEnts ((rUint 8 s).1 - s'.1) s'.2.1 s'.2.2.1 = getEnts (rUint 8 s).1 (rUint 8 s).2 [] ∧ IsRd rb hb s'.2.1 s'.2.2.2.2.1 ∧ Own s'.2.2.2.2.2.1 s'.2.2.2.2.2.2.1 s'.2.2.1.length s'.2.2.2.2.2.2.2.1 43 4 s'.2.2.2.2.2.2.2.2.flatten ∧ All2 (EntC s'.2.2.2.1) s'.2.2.2.2.2.2.2.2 s'.2.2.1 ∧ s'.2.1.1.length < 1099511627776 ∧ s'.2.2.1.length = s'.1) (fun s' => (rUint 8 s).1 - s'.1)
    (0, (rUint 8 s).2, [], K7, h7, em, none, 0, []) ⟨Le.refl _, Nat.zero_le _, rfl, rd7, Own.nil _ _, trivial, by dsimp only; omega, rfl⟩ ⟨rfl, rfl, rfl, rfl, trivial⟩ rfl rfl ?_
  rintro ⟨j, s', l, K', h, g, ao, cap, css⟩ ⟨hle, hj, hge, rd, o, hA, hsl, hll⟩
  dsimp only at hle hj hge rd o hA hsl hll ⊢
  refine sq (rg (?_))
  refine cmpS hT 0 rfl fun b9 h9 => ?_   -- encode.go:86 t9 t8 < t7
  refine fin hT 0 rfl (th (sq (ifP h9 rfl (fun e2 => ?_) (fun e2 => ?_))))
  · have hjN : j < (rUint 8 s).1 := by omega
    refine sk (th (sq (bk (sq (rg (?_))))))
    have hge2 : getEnts ((rUint 8 s).1 - (j + 1)) (rFail (ec (getEnt (rBytes 512 s').1)) (rBytes 512 s').2) (l ++ [(getEnt (rBytes 512 s').1).getD Ent.zero]) = getEnts (rUint 8 s).1 (rUint 8 s).2 [] := by
      rw [← hge, show (rUint 8 s).1 - j = ((rUint 8 s).1 - (j + 1)) + 1 from by omega]
      rfl
    have hbl := rBytes_len 512 s'
    have hcl := All2.len hA
    refine cl hT 1 rfl (Ct.atN 1 rfl (bytesC (.inr ⟨ii + 2, hR⟩) 512 (by omega) s' hsl rd)) ?_   -- encode.go:87 t12
    rintro v12 K12 hs12 ⟨h4, new, rfl, rfl, hx, aox, cx, rfl, rfl, ox, rd4⟩
    refine cl hT 0 rfl (getEntC aox cx (rBytes 512 s').1 (.inr ⟨0, rfl⟩) ox.isS (by omega)) ?_   -- encode.go:87 t13
    rintro v13 K13 hs13 ⟨rfl, ge, aoe, ce, rfl, rfl, oe⟩
    generalize hee : (getEnt (rBytes 512 s').1).getD Ent.zero = e at oe hge2 ⊢
    refine al hT 3 (.agg #[.int .u64 0, .int .u64 0, .int .i64 0, .slice none 0 0]) rfl (by kernel_rfl) fun b4 => ?_   -- encode.go:87 t4
    refine stS hT 0 0 rfl rfl (by kernel_rfl) rfl rfl ?_   -- encode.go:87 tNone t4 := t14
    refine fin hT 1 rfl (th (sq (rg (?_))))
    refine cl hT 2 rfl (Ct.at 4 rfl (failC (rBytes 512 s').2 _ rd4)) ?_   -- encode.go:88 t18
    rintro v18 K18 hs18 ⟨h5, rfl, rfl, rfl, rd5⟩
    refine fin hT 0 rfl (th (rga [pt b4 (e.v aoe ce) 43, pt mb (mv ⟨mk, mf, mt, mte, mi, ml, mc, mr, mg, l, mo, mw, mvo, md⟩ ⟨ao, cap, pav, pcv, pad, pcd⟩) 51] 10 [0, 2, 4, 6, 8, 10, 13, 15, 16, 18, 21] (by simp) (by kernel_rfl) (by kernel_rfl) ?_))
    refine dldpw hT (by kernel_rfl) 4 1 rfl (by kernel_rfl) rfl rfl ?_
    refine dldS hT (by kernel_rfl) 0 0 rfl (by kernel_rfl) rfl (by kernel_rfl) ?_   -- encode.go:89 t24 t4
    refine dact hT (by kernel_rfl) 0 rfl ?_
    refine lit hT 0 (e.v aoe ce) rfl (by decide) (by kernel_rfl) fun b25 => ?_   -- encode.go:89 t25
    refine dnex [pt b4 (e.v aoe ce) 43, pt mb (mv ⟨mk, mf, mt, mte, mi, ml, mc, mr, mg, l, mo, mw, mvo, md⟩ ⟨ao, cap, pav, pcv, pad, pcd⟩) 51] (by simp) (by simp) rfl ?_
    refine dact hT (by kernel_rfl) 0 rfl ?_
    refine app hT 0 4 rfl rfl o (.inr ⟨0, rfl⟩) (Own.ofPt (b := b25) (c := e.v aoe ce) (e := 43) (n := 1) (size := 4) rfl (by simp [maxLen])).isS rfl (by decide) (by simp [Ent.v]; exact ⟨rfl, rfl, rfl, rfl⟩) (by dsimp only; omega) (by simp only [maxLen]; omega) fun ao26 c26 g26 o26 => ?_
    refine dnex [pt b4 (e.v aoe ce) 43, pt mb (mv ⟨mk, mf, mt, mte, mi, ml, mc, mr, mg, l, mo, mw, mvo, md⟩ ⟨ao, cap, pav, pcv, pad, pcd⟩) 51] (by simp) (by simp) rfl ?_
    refine dact hT (by kernel_rfl) 2 rfl ?_
    refine stp hT 0 6 rfl rfl rfl rfl ?_   -- encode.go:89 tNone t28 := t26
    refine dnext (.inl rfl) ?_
    refine dend hT (by kernel_rfl) 0 rfl (bl (WQ.drop (WQ.drop (WQ.frz fun K2 le1 le2 => WQ.drop (th (rg (?_)))))))
    have ecss : css.flatten ++ (e.v aoe ce).toList = (css ++ [(e.v aoe ce).toList]).flatten := by simp
    have elen : l.length + 1 = (l ++ [e]).length := by simp
    rw [ecss, elen] at o26
    refine ar hT 0 rfl (u64w (by omega)) ?_   -- encode.go:86 t29 t8 add 1
    refine fin hT 1 rfl (?_)
    exact again (x := (j, s', l, K18, h, g, ao, cap, css)) (j + 1, rFail (ec (getEnt (rBytes 512 s').1)) (rBytes 512 s').2, l ++ [e], K2, h5, g26, ao26, c26, css ++ [(e.v aoe ce).toList]) ⟨rfl, rfl, rfl, rfl, trivial⟩ rfl (congrArg (fun k : Nat => g26 :: h5 :: pt mb ((mv ⟨mk, mf, mt, mte, mi, ml, mc, mr, mg, [], mo, mw, mvo, md⟩ ⟨ao26, c26, pav, pcv, pad, pcd⟩).setIfInBounds 9 (.slice ao26 k c26)) 51 :: R) elen) ⟨hle.trans le1, by omega, hge2, rd5, o26, All2.snoc ⟨aoe, ce, rfl, oe.isS.le le2⟩ (All2.imp (fun _ _ => EntC.le le1) hA), by simp only [rFail]; omega, by simp; omega⟩ (by (try dsimp only); omega)
  · obtain rfl : j = (rUint 8 s).1 := by omega
    refine ex (xt (xt (xb (?_))))
    rw [Nat.sub_self] at hge
    have hfin : (s', l) = getEnts (rUint 8 s).1 (rUint 8 s).2 [] := hge
    refine WQ.frz fun K2 le1 le2 => ?_
    exact end0 rfl ⟨hle.trans le1, h, ⟨ao, cap, pav, pcv, pad, pcd⟩, by simp only [Fld.get]; rw [← hfin], by simp only [Fld.get]; rw [← hfin]; exact rd, by simp only [Fld.get]; rw [← hfin]; exact ⟨⟨css, o.isS.le le2, All2.imp (fun _ _ => EntC.le le1) hA⟩, (hS.le (hle.trans le1)).2⟩, fun h => absurd rfl h⟩
end Go.Proofs.Ythpiokdibknpaaa
