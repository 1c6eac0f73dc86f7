/-
  The laws of messages: written, read, there and back.
-/
import Derived.Test.YthpiokdibknpaaaOa
namespace Go.Proofs.Ythpiokdibknpaaa
open Go.En
set_option linter.unusedVariables false
attribute [local irreducible] Code.wp wpList Calls

theorem zero_bd : Msg.zero.bd where
  term := by decide
  idx := by decide
  lt := by decide
  com := by decide
  rnd := by decide
  off := by decide
  whole := by decide
  ents := fun e (he : e ∈ []) => by simp at he
  entsL := Nat.zero_le _
  vot := fun e (he : e ∈ []) => by simp at he
  votL := Nat.zero_le _
  dataL := Nat.zero_le _
theorem decD_bd (b : List UInt8) : ((dec b).getD Msg.zero).bd := by
  cases h : dec b with
  | none => exact zero_bd
  | some m => exact ((dec_iff b m body_small).1 h).2
theorem lawWrites {w0 : World} {K : PH} {hs : List PH} (m : Msg) (p : MA) (hS : MsgS K m p) (hbd : m.bd) :
    Ct Try.prog w0 9 [.agg (mv m p)] K hs (fun v K' hs' => K' = K ∧ v = .bool true) := by
  refine enter Try.func9 (by kernel_rfl) rfl rfl rfl ?_
  refine sq (rg (?_))
  refine bx hT 0 rfl fun b1 => ?_   -- law.go:65 t1
  refine fin hT 1 rfl (th (sq (rg (?_))))
  refine ldS hT 0 0 rfl rfl (by kernel_rfl) ?_   -- law.go:66 t8 t1
  refine cl hT 0 rfl (encodeC m p hS hbd) ?_   -- law.go:66 t9
  rintro v9 K9 hs9 ⟨rfl, g1, ao1, c1, rfl, rfl, o1⟩
  refine fin hT 5 rfl (th (sq (rg (?_))))
  refine ldS hT 0 1 rfl rfl (by kernel_rfl) ?_   -- law.go:67 t13 t1
  refine cl hT 0 rfl (encodeRef m p hS hbd) ?_   -- law.go:67 t14
  rintro v14 K14 hs14 ⟨rfl, g2, ao2, c2, rfl, rfl, o2⟩
  refine fin hT 5 rfl (th (sq (rg (?_))))
  refine cl hT 0 rfl aliveMC ?_   -- law.go:68 t17
  rintro v17 K17 hs17 ⟨rfl, rfl, b17, rfl, h17⟩
  refine' bja hT 1 4 22 [17, 18] h17 rfl rfl rfl rfl rfl rfl rfl (fun _ => ?x1) (fun b22 h22 => ?_)   -- law.go:68 t22
  case x1 =>
    refine cmpS hT 2 rfl fun b21 h21 => ?_   -- law.go:68 t21 t19 = t20
    exact fin hT 1 rfl (bjx h21 rfl rfl rfl)
  refine' bja hT 1 6 29 [22, 23] h22 rfl rfl rfl rfl rfl rfl rfl (fun _ => ?x3) (fun b29 h29 => ?_)   -- law.go:68 t29
  case x3 =>
    refine cvs hT 1 _ rfl (.inr ⟨1, rfl⟩) o1.isS (by kernel_rfl) ?_   -- law.go:68 t25 t24
    refine cvs hT 1 _ rfl (.inr ⟨0, rfl⟩) o2.isS (by kernel_rfl) ?_   -- law.go:68 t27 t26
    refine seS hT 0 rfl fun b28 h28 => ?_   -- law.go:68 t28 t25 = t27
    exact fin hT 1 rfl (bjx h28 rfl rfl rfl)
  refine fin hT 1 rfl (th (rt (?_)))
  have hfin : b29 = true := h29.2 ⟨⟨trivial, rfl⟩, rfl⟩
  exact ret1 rfl rfl ⟨rfl, by rw [hfin]⟩
theorem lawReads {w0 : World} {K hb : PH} {hs : List PH} (ao : Option Addr) (cap : Nat) (b : List UInt8) (hm : In K hs hb) (x : IsS hb ao b.length cap 1 (bv b)) (hl : b.length < 1099511627776) :
    Ct Try.prog w0 10 [.slice ao b.length cap] K hs (fun v K' hs' => K' = K ∧ v = .bool true) := by
  have hbd := decD_bd b
  refine enter Try.func10 (by kernel_rfl) rfl rfl rfl ?_
  refine sq (rg (?_))
  refine fin hT 1 rfl (th (sq (rg (?_))))
  refine cl hT 1 rfl (decodeC ao cap b hm x hl) ?_   -- law.go:73 t9
  rintro v9 K9 hs9 ⟨rfl, le1, p1, rfl, hS1⟩
  obtain ⟨y, hmy, hly⟩ := In.le hm le1
  refine al hT 3 (.agg #[.int .i64 0, .int .i64 0, .int .i64 0, .int .u64 0, .int .u64 0, .int .u64 0, .int .u64 0, .int .u64 0, .bool false, .slice none 0 0, .int .i64 0, .int .i64 0, .slice none 0 0, .slice none 0 0]) rfl (by kernel_rfl) fun b3 => ?_   -- law.go:73 t3
  refine stS hT 0 0 rfl rfl (by kernel_rfl) rfl rfl ?_   -- law.go:73 tNone t3 := t10
  refine fin hT 1 rfl (th (sq (rg (?_))))
  refine cl hT 1 rfl (decodeRef ao cap b (In.cons hmy) (x.le hly) hl) ?_   -- law.go:74 t14
  rintro v14 K14 hs14 ⟨rfl, le2, p2, rfl, hS2⟩
  refine al hT 3 (.agg #[.int .i64 0, .int .i64 0, .int .i64 0, .int .u64 0, .int .u64 0, .int .u64 0, .int .u64 0, .int .u64 0, .bool false, .slice none 0 0, .int .i64 0, .int .i64 0, .slice none 0 0, .slice none 0 0]) rfl (by kernel_rfl) fun b5 => ?_   -- law.go:74 t5
  refine stS hT 0 0 rfl rfl (by kernel_rfl) rfl rfl ?_   -- law.go:74 tNone t5 := t15
  refine fin hT 1 rfl (th (sq (rg (?_))))
  refine cl hT 0 rfl aliveMC ?_   -- law.go:75 t17
  rintro v17 K17 hs17 ⟨rfl, rfl, b17, rfl, h17⟩
  refine' bja hT 1 4 22 [17, 18] h17 rfl rfl rfl rfl rfl rfl rfl (fun _ => ?x1) (fun b22 h22 => ?_)   -- law.go:75 t22
  case x1 =>
    refine cmpS hT 2 rfl fun b21 h21 => ?_   -- law.go:75 t21 t19 = t20
    exact fin hT 1 rfl (bjx h21 rfl rfl rfl)
  refine' bja hT 1 4 27 [22, 23] h22 rfl rfl rfl rfl rfl rfl rfl (fun _ => ?x3) (fun b27 h27 => ?_)   -- law.go:75 t27
  case x3 =>
    refine ldS hT 0 1 rfl rfl (by kernel_rfl) ?_   -- law.go:75 t24 t3
    refine ldS hT 0 0 rfl rfl (by kernel_rfl) ?_   -- law.go:75 t25 t5
    refine cl hT 0 rfl (sameRef ((dec b).getD Msg.zero) ((dec b).getD Msg.zero) p1 p2 (hS1.le le2) hS2 (by have := hbd.entsL; omega) (by have := hbd.votL; omega)) ?_   -- law.go:75 t26
    rintro v26 K26 hs26 ⟨rfl, rfl, b26, rfl, h26⟩
    exact fin hT 1 rfl (bjx h26 rfl rfl rfl)
  refine fin hT 1 rfl (th (rt (?_)))
  have hfin : b27 = true := h27.2 ⟨⟨trivial, rfl⟩, rfl⟩
  refine WQ.weak (le1.trans le2) ?_
  exact ret1 rfl rfl ⟨rfl, by rw [hfin]⟩
theorem lawBackM {w0 : World} {K : PH} {hs : List PH} (m : Msg) (p : MA) (hS : MsgS K m p) (hbd : m.bd) :
    Ct Try.prog w0 11 [.agg (mv m p)] K hs (fun v K' hs' => K' = K ∧ v = .bool true) := by
  have hlen := enc_len m hbd
  refine enter Try.func11 (by kernel_rfl) rfl rfl rfl ?_
  refine sq (rg (?_))
  refine bx hT 0 rfl fun b1 => ?_   -- law.go:79 t1
  refine fin hT 1 rfl (th (sq (rg (?_))))
  refine ldS hT 0 0 rfl rfl (by kernel_rfl) ?_   -- law.go:80 t10 t1
  refine cl hT 0 rfl (encodeC m p hS hbd) ?_   -- law.go:80 t11
  rintro v11 K11 hs11 ⟨rfl, g1, ao1, c1, rfl, rfl, o1⟩
  refine fin hT 5 rfl (th (sq (sq (rg (?_)))))
  refine cmpS hT 1 rfl fun b15 h15 => ?_   -- law.go:81 t15 t14 ≠ 0
  refine fin hT 0 rfl (th (ifP h15 rfl (fun e2 => ?_) (fun e2 => ?_)))
  · refine sq (rg (?_))
    refine cl hT 0 rfl aliveMC ?_   -- law.go:82 t16
    rintro v16 K16 hs16 ⟨rfl, rfl, b16, rfl, h16⟩
    refine' bja hT 1 4 21 [16, 17] h16 rfl rfl rfl rfl rfl rfl rfl (fun _ => ?x3) (fun b21 h21 => ?_)   -- law.go:82 t21
    case x3 =>
      refine ldS hT 0 1 rfl rfl (by kernel_rfl) ?_   -- law.go:82 t18 t1
      refine cl hT 0 rfl (rightRef m p hS hbd) ?_   -- law.go:82 t19
      rintro v19 K19 hs19 ⟨rfl, rfl, b19, rfl, h19⟩
      refine cbS hT 0 _ rfl (bnot h19) fun b20 h20 => ?_   -- not
      exact fin hT 1 rfl (bjx h20 rfl rfl rfl)
    refine fin hT 1 rfl (th (rt (rT (?_))))
    have hfin : b21 = true := h21.2 ⟨trivial, fun h => e2 (by rw [enc, if_pos h]; rfl)⟩
    exact ret1 rfl rfl ⟨rfl, by rw [hfin]⟩
  · have henc : enc m = some (ob (enc m)) := by
      cases h : enc m with
      | none => exact absurd (by rw [h]; simp [ec]) e2
      | some z => rfl
    have hdec : dec (ob (enc m)) = some m := (dec_iff _ _ body_small).2 ⟨henc, hbd⟩
    refine sk (th (sq (rg (?_))))
    refine cl hT 1 rfl (decodeC ao1 c1 (ob (enc m)) (.inr ⟨0, rfl⟩) o1.isS (by omega)) ?_   -- law.go:84 t24
    rintro v24 K24 hs24 ⟨rfl, le, p2, rfl, hS2⟩
    rw [hdec] at hS2 ⊢
    simp only [Option.getD_some] at hS2 ⊢
    refine al hT 3 (.agg #[.int .i64 0, .int .i64 0, .int .i64 0, .int .u64 0, .int .u64 0, .int .u64 0, .int .u64 0, .int .u64 0, .bool false, .slice none 0 0, .int .i64 0, .int .i64 0, .slice none 0 0, .slice none 0 0]) rfl (by kernel_rfl) fun b5 => ?_   -- law.go:84 t5
    refine stS hT 0 0 rfl rfl (by kernel_rfl) rfl rfl ?_   -- law.go:84 tNone t5 := t25
    refine fin hT 1 rfl (th (sq (rg (?_))))
    refine ldS hT 0 0 rfl rfl (by kernel_rfl) ?_   -- law.go:85 t28 t5
    refine cl hT 0 rfl (encodeC m p2 hS2 hbd) ?_   -- law.go:85 t29
    rintro v29 K29 hs29 ⟨rfl, g2, ao2, c2, rfl, rfl, o2⟩
    refine fin hT 5 rfl (th (sq (rg (?_))))
    refine cl hT 0 rfl aliveMC ?_   -- law.go:86 t32
    rintro v32 K32 hs32 ⟨rfl, rfl, b32, rfl, h32⟩
    refine' bja hT 1 3 36 [32, 33] h32 rfl rfl rfl rfl rfl rfl rfl (fun _ => ?x4) (fun b36 h36 => ?_)   -- law.go:86 t36
    case x4 =>
      refine cmpS hT 1 rfl fun b35 h35 => ?_   -- law.go:86 t35 t34 = 0
      exact fin hT 1 rfl (bjx h35 rfl rfl rfl)
    refine' bja hT 1 3 40 [36, 37] h36 rfl rfl rfl rfl rfl rfl rfl (fun _ => ?x6) (fun b40 h40 => ?_)   -- law.go:86 t40
    case x6 =>
      refine cmpS hT 1 rfl fun b39 h39 => ?_   -- law.go:86 t39 t38 = 0
      exact fin hT 1 rfl (bjx h39 rfl rfl rfl)
    refine' bja hT 1 4 45 [40, 41] h40 rfl rfl rfl rfl rfl rfl rfl (fun _ => ?x8) (fun b45 h45 => ?_)   -- law.go:86 t45
    case x8 =>
      refine ldS hT 0 3 rfl rfl (by kernel_rfl) ?_   -- law.go:86 t42 t1
      refine ldS hT 0 1 rfl rfl (by kernel_rfl) ?_   -- law.go:86 t43 t5
      refine cl hT 0 rfl (sameRef m m p p2 (hS.le le) hS2 (by have := hbd.entsL; omega) (by have := hbd.votL; omega)) ?_   -- law.go:86 t44
      rintro v44 K44 hs44 ⟨rfl, rfl, b44, rfl, h44⟩
      exact fin hT 1 rfl (bjx h44 rfl rfl rfl)
    refine' bja hT 1 6 52 [45, 46] h45 rfl rfl rfl rfl rfl rfl rfl (fun _ => ?x9) (fun b52 h52 => ?_)   -- law.go:86 t52
    case x9 =>
      refine cvs hT 1 _ rfl (.inr ⟨2, rfl⟩) o1.isS (by kernel_rfl) ?_   -- law.go:86 t48 t47
      refine cvs hT 1 _ rfl (.inr ⟨0, rfl⟩) o2.isS (by kernel_rfl) ?_   -- law.go:86 t50 t49
      refine seS hT 0 rfl fun b51 h51 => ?_   -- law.go:86 t51 t48 = t50
      exact fin hT 1 rfl (bjx h51 rfl rfl rfl)
    refine fin hT 1 rfl (th (rt (?_)))
    have hfin : b52 = true := h52.2 ⟨⟨⟨⟨trivial, rfl⟩, by rw [henc]; rfl⟩, rfl⟩, rfl⟩
    refine WQ.weak le ?_
    exact ret1 rfl rfl ⟨rfl, by rw [hfin]⟩
end Go.Proofs.Ythpiokdibknpaaa
