/-
  The laws of commands.
-/
import Derived.Test.YthpiokdibknpaaaNt
namespace Go.Proofs.Ythpiokdibknpaaa
open Go.En
set_option linter.unusedVariables false
attribute [local irreducible] Code.wp wpList Calls

theorem obCmd_len (c : Cmd) (h1 : c.ses ≤ mxU) (h2 : c.seq ≤ mxU) : (ob (putCmd c)).length ≤ 200 := by
  unfold putCmd
  split
  · rename_i h
    rcases h with ⟨k, _⟩ | ⟨_, w, a, b, _⟩
    · show c.bytes.length ≤ 200
      unfold Cmd.bytes
      rw [if_pos k]
      decide
    · exact Cmd.bytes_length c h1 h2 w b
  · exact Nat.zero_le _
theorem pCommands {c : Cmd} (h1 : c.ses ≤ mxU) (h2 : c.seq ≤ mxU) : ¬ ec (putCmd c) = 0 ∨ ec (getCmd (ob (putCmd c))) = 0 ∧ (decide ((getCmd (ob (putCmd c))).getD Cmd.zero = c) == true) = true := by
  cases hp : putCmd c with
  | none => exact .inl (by simp [ec])
  | some b => exact .inr ⟨by rw [show ob (some b) = b from rfl, get_put h1 h2 hp]; rfl, by rw [show ob (some b) = b from rfl, get_put h1 h2 hp]; simp⟩
theorem pConfigs {l : List Int} : ¬ ec (putConf l) = 0 ∨ ec (getConf (ob (putConf l))) = 0 ∧ l = (getConf (ob (putConf l))).getD [] := by
  cases hp : putConf l with
  | none => exact .inl (by simp [ec])
  | some b => exact .inr ⟨by rw [show ob (some b) = b from rfl, getConf_put hp]; rfl, by rw [show ob (some b) = b from rfl, getConf_put hp]; rfl⟩
theorem pEntries {e : Ent} (h1 : e.idx ≤ mxU) (h2 : e.term ≤ mxU) : ¬ ec (putEnt e) = 0 ∨ ec (getEnt (ob (putEnt e))) = 0 ∧ e = (getEnt (ob (putEnt e))).getD Ent.zero := by
  cases hp : putEnt e with
  | none => exact .inl (by simp [ec])
  | some b => exact .inr ⟨by rw [show ob (some b) = b from rfl, getEnt_put h1 h2 hp]; rfl, by rw [show ob (some b) = b from rfl, getEnt_put h1 h2 hp]; rfl⟩
theorem obConf_len (l : List Int) : (ob (putConf l)).length ≤ 1 := by unfold putConf; split <;> simp [ob]
theorem obEnt_len (e : Ent) (h1 : e.idx ≤ mxU) (h2 : e.term ≤ mxU) : (ob (putEnt e)).length ≤ 250 := by
  unfold putEnt
  split
  · rename_i h; exact Ent.bytes_length e h h1 h2
  · exact Nat.zero_le _
theorem lawCommands {w0 : World} {K : PH} {hs : List PH} (c : Cmd) (hs1 : c.ses < 18446744073709551616) (hs2 : c.seq < 18446744073709551616) :
    Ct Try.prog w0 3 [.agg c.v] K hs (fun v K' hs' => K' = K ∧ v = .bool true) := by
  have hmx : mxU = 18446744073709551615 := rfl
  have hlen := obCmd_len c (by omega) (by omega)
  refine enter Try.func3 (by kernel_rfl) rfl rfl rfl ?_
  refine sq (rg (?_))
  refine bx hT 0 rfl fun b1 => ?_   -- law.go:20 t1
  refine fin hT 1 rfl (th (sq (rg (?_))))
  refine ldS hT 0 0 rfl rfl (by kernel_rfl) ?_   -- law.go:21 t10 t1
  refine cl hT 0 rfl (putCmdC c hs1 hs2) ?_   -- law.go:21 t11
  rintro v11 K11 hs11 ⟨rfl, g1, ao1, c1, rfl, rfl, o1⟩
  refine fin hT 5 rfl (th (sq (rg (?_))))
  refine ldS hT 0 1 rfl rfl (by kernel_rfl) ?_   -- law.go:22 t15 t1
  refine cl hT 0 rfl (putCmdRef c hs1 hs2) ?_   -- law.go:22 t16
  rintro v16 K16 hs16 ⟨rfl, g2, ao2, c2, rfl, rfl, o2⟩
  refine fin hT 5 rfl (th (sq (rg (?_))))
  refine cl hT 1 rfl (getCmdC ao1 c1 (ob (putCmd c)) (.inr ⟨1, rfl⟩) o1.isS (by omega)) ?_   -- law.go:23 t21
  rintro v21 K21 hs21 ⟨rfl, rfl, rfl⟩
  refine al hT 3 (.agg #[.int .i64 0, .int .u64 0, .int .u64 0, .string ⟨#[]⟩, .int .i64 0]) rfl (by kernel_rfl) fun b7 => ?_   -- law.go:23 t7
  refine stS hT 0 0 rfl rfl (by kernel_rfl) rfl rfl ?_   -- law.go:23 tNone t7 := t22
  refine fin hT 1 rfl (th (sq (rg (?_))))
  refine cl hT 0 rfl aliveMC ?_   -- law.go:24 t24
  rintro v24 K24 hs24 ⟨rfl, rfl, b24, rfl, h24⟩
  refine' bja hT 1 4 29 [24, 25] h24 rfl rfl rfl rfl rfl rfl rfl (fun _ => ?x1) (fun b29 h29 => ?_)   -- law.go:24 t29
  case x1 =>
    refine cmpS hT 2 rfl fun b28 h28 => ?_   -- law.go:24 t28 t26 = t27
    exact fin hT 1 rfl (bjx h28 rfl rfl rfl)
  refine' bja hT 1 6 36 [29, 30] h29 rfl rfl rfl rfl rfl rfl rfl (fun _ => ?x3) (fun b36 h36 => ?_)   -- law.go:24 t36
  case x3 =>
    refine cvs hT 1 _ rfl (.inr ⟨2, rfl⟩) o1.isS (by kernel_rfl) ?_   -- law.go:24 t32 t31
    refine cvs hT 1 _ rfl (.inr ⟨1, rfl⟩) o2.isS (by kernel_rfl) ?_   -- law.go:24 t34 t33
    refine seS hT 0 rfl fun b35 h35 => ?_   -- law.go:24 t35 t32 = t34
    exact fin hT 1 rfl (bjx h35 rfl rfl rfl)
  refine' bja hT 1 12 49 [36, 37] h36 rfl rfl rfl rfl rfl rfl rfl (fun _ => ?x5) (fun b49 h49 => ?_)   -- law.go:24 t49
  case x5 =>
    refine cmpS hT 1 rfl fun b39 h39 => ?_   -- law.go:24 t39 t38 ≠ 0
    refine' bjo hT 1 8 48 [39, 40] h39 rfl rfl rfl rfl rfl rfl rfl (fun _ => ?x7) (fun b48 h48 => ?_)   -- law.go:24 t48
    case x7 =>
      refine cmpS hT 1 rfl fun b42 h42 => ?_   -- law.go:24 t42 t41 = 0
      refine' bja hT 1 4 47 [42, 43] h42 rfl rfl rfl rfl rfl rfl rfl (fun _ => ?x9) (fun b47 h47 => ?_)   -- law.go:24 t47
      case x9 =>
        refine ldS hT 0 0 rfl rfl (by kernel_rfl) ?_   -- law.go:24 t44 t7
        refine ldS hT 0 3 rfl rfl (by kernel_rfl) ?_   -- law.go:24 t45 t1
        refine eqs hT 0 rfl (by kernel_rfl) (fun w => eqCmd _ c w) ?_   -- law.go:24 t46 t44 = t45
        refine nmS fun b46 h46 => ?_
        exact fin hT 1 rfl (bjx h46 rfl rfl rfl)
      exact fin hT 1 rfl (bjx h47 rfl rfl rfl)
    exact fin hT 1 rfl (bjx h48 rfl rfl rfl)
  refine fin hT 1 rfl (th (rt (?_)))
  have hfin : b49 = true := h49.2 ⟨⟨⟨trivial, rfl⟩, rfl⟩, pCommands (by omega) (by omega)⟩
  exact ret1 rfl rfl ⟨rfl, by rw [hfin]⟩
theorem lawCommandsRead {w0 : World} {K hb : PH} {hs : List PH} (ao : Option Addr) (cap : Nat) (b : List UInt8) (hm : In K hs hb) (x : IsS hb ao b.length cap 1 (bv b)) (hl : b.length < 1099511627776) :
    Ct Try.prog w0 4 [.slice ao b.length cap] K hs (fun v K' hs' => K' = K ∧ v = .bool true) := by
  refine enter Try.func4 (by kernel_rfl) rfl rfl rfl ?_
  refine sq (rg (?_))
  refine fin hT 1 rfl (th (sq (rg (?_))))
  refine cl hT 1 rfl (getCmdC ao cap b hm x hl) ?_   -- law.go:29 t9
  rintro v9 K9 hs9 ⟨rfl, rfl, rfl⟩
  refine al hT 3 (.agg #[.int .i64 0, .int .u64 0, .int .u64 0, .string ⟨#[]⟩, .int .i64 0]) rfl (by kernel_rfl) fun b3 => ?_   -- law.go:29 t3
  refine stS hT 0 0 rfl rfl (by kernel_rfl) rfl rfl ?_   -- law.go:29 tNone t3 := t10
  refine fin hT 1 rfl (th (sq (rg (?_))))
  refine cl hT 1 rfl (getCmdRef ao cap b (In.cons hm) x hl) ?_   -- law.go:30 t14
  rintro v14 K14 hs14 ⟨rfl, rfl, rfl⟩
  refine al hT 3 (.agg #[.int .i64 0, .int .u64 0, .int .u64 0, .string ⟨#[]⟩, .int .i64 0]) rfl (by kernel_rfl) fun b5 => ?_   -- law.go:30 t5
  refine stS hT 0 0 rfl rfl (by kernel_rfl) rfl rfl ?_   -- law.go:30 tNone t5 := t15
  refine fin hT 1 rfl (th (sq (rg (?_))))
  refine cl hT 0 rfl aliveMC ?_   -- law.go:31 t17
  rintro v17 K17 hs17 ⟨rfl, rfl, b17, rfl, h17⟩
  refine' bja hT 1 4 22 [17, 18] h17 rfl rfl rfl rfl rfl rfl rfl (fun _ => ?x1) (fun b22 h22 => ?_)   -- law.go:31 t22
  case x1 =>
    refine cmpS hT 2 rfl fun b21 h21 => ?_   -- law.go:31 t21 t19 = t20
    exact fin hT 1 rfl (bjx h21 rfl rfl rfl)
  refine' bja hT 1 4 27 [22, 23] h22 rfl rfl rfl rfl rfl rfl rfl (fun _ => ?x3) (fun b27 h27 => ?_)   -- law.go:31 t27
  case x3 =>
    refine ldS hT 0 1 rfl rfl (by kernel_rfl) ?_   -- law.go:31 t24 t3
    refine ldS hT 0 0 rfl rfl (by kernel_rfl) ?_   -- law.go:31 t25 t5
    refine eqs hT 0 rfl (by kernel_rfl) (fun w => eqCmd _ _ w) ?_   -- law.go:31 t26 t24 = t25
    refine nmS fun b26 h26 => ?_
    exact fin hT 1 rfl (bjx h26 rfl rfl rfl)
  refine fin hT 1 rfl (th (rt (?_)))
  have hfin : b27 = true := h27.2 ⟨⟨trivial, rfl⟩, by simp⟩
  exact ret1 rfl rfl ⟨rfl, by rw [hfin]⟩
theorem lawConfigs {w0 : World} {K hv : PH} {hs : List PH} (ao : Option Addr) (cap : Nat) (l : List Int) (hm : In K hs hv) (x : IsS hv ao l.length cap 1 (iv l)) (hl : l.length < 1099511627776) (h64 : ∀ v ∈ l, -9223372036854775808 ≤ v ∧ v ≤ 9223372036854775807) :
    Ct Try.prog w0 5 [.agg #[.slice ao l.length cap]] K hs (fun v K' hs' => K' = K ∧ v = .bool true) := by
  have hlen := obConf_len l
  refine enter Try.func5 (by kernel_rfl) rfl rfl rfl ?_
  refine sq (rg (?_))
  refine bx hT 0 rfl fun b1 => ?_   -- law.go:35 t1
  refine fin hT 1 rfl (th (sq (rg (?_))))
  refine ldS hT 0 0 rfl rfl (by kernel_rfl) ?_   -- law.go:36 t10 t1
  refine cl hT 0 rfl (putConfC ao cap l (In.cons hm) x hl) ?_   -- law.go:36 t11
  rintro v11 K11 hs11 ⟨rfl, g1, ao1, c1, rfl, rfl, o1⟩
  refine fin hT 5 rfl (th (sq (rg (?_))))
  refine ldS hT 0 1 rfl rfl (by kernel_rfl) ?_   -- law.go:37 t15 t1
  refine cl hT 0 rfl (putConfRef ao cap l (In.cons (In.cons hm)) x hl h64) ?_   -- law.go:37 t16
  rintro v16 K16 hs16 ⟨rfl, g2, ao2, c2, rfl, rfl, o2⟩
  refine fin hT 5 rfl (th (sq (rg (?_))))
  refine cl hT 1 rfl (getConfC ao1 c1 (ob (putConf l)) (.inr ⟨1, rfl⟩) o1.isS (by omega)) ?_   -- law.go:38 t21
  rintro v21 K21 hs21 ⟨rfl, g3, ao3, c3, rfl, rfl, o3⟩
  refine al hT 3 (.agg #[.slice none 0 0]) rfl (by kernel_rfl) fun b7 => ?_   -- law.go:38 t7
  refine stS hT 0 0 rfl rfl (by kernel_rfl) rfl rfl ?_   -- law.go:38 tNone t7 := t22
  refine fin hT 1 rfl (th (sq (rg (?_))))
  refine cl hT 0 rfl aliveMC ?_   -- law.go:39 t24
  rintro v24 K24 hs24 ⟨rfl, rfl, b24, rfl, h24⟩
  refine' bja hT 1 4 29 [24, 25] h24 rfl rfl rfl rfl rfl rfl rfl (fun _ => ?x1) (fun b29 h29 => ?_)   -- law.go:39 t29
  case x1 =>
    refine cmpS hT 2 rfl fun b28 h28 => ?_   -- law.go:39 t28 t26 = t27
    exact fin hT 1 rfl (bjx h28 rfl rfl rfl)
  refine' bja hT 1 6 36 [29, 30] h29 rfl rfl rfl rfl rfl rfl rfl (fun _ => ?x3) (fun b36 h36 => ?_)   -- law.go:39 t36
  case x3 =>
    refine cvs hT 1 _ rfl (.inr ⟨3, rfl⟩) o1.isS (by kernel_rfl) ?_   -- law.go:39 t32 t31
    refine cvs hT 1 _ rfl (.inr ⟨2, rfl⟩) o2.isS (by kernel_rfl) ?_   -- law.go:39 t34 t33
    refine seS hT 0 rfl fun b35 h35 => ?_   -- law.go:39 t35 t32 = t34
    exact fin hT 1 rfl (bjx h35 rfl rfl rfl)
  refine' bja hT 1 14 51 [36, 37] h36 rfl rfl rfl rfl rfl rfl rfl (fun _ => ?x5) (fun b51 h51 => ?_)   -- law.go:39 t51
  case x5 =>
    refine cmpS hT 1 rfl fun b39 h39 => ?_   -- law.go:39 t39 t38 ≠ 0
    refine' bjo hT 1 10 50 [39, 40] h39 rfl rfl rfl rfl rfl rfl rfl (fun _ => ?x7) (fun b50 h50 => ?_)   -- law.go:39 t50
    case x7 =>
      refine cmpS hT 1 rfl fun b42 h42 => ?_   -- law.go:39 t42 t41 = 0
      refine' bja hT 1 6 49 [42, 43] h42 rfl rfl rfl rfl rfl rfl rfl (fun _ => ?x9) (fun b49 h49 => ?_)   -- law.go:39 t49
      case x9 =>
        refine ldp hT 1 4 rfl rfl rfl ?_   -- law.go:39 t45 *t44
        refine ldp hT 1 0 rfl rfl rfl ?_   -- law.go:39 t47 *t46
        refine cl hT 0 rfl (sameVoters ao ao3 cap c3 l ((getConf (ob (putConf l))).getD []) (In.cons (In.cons4 hm)) (.inr ⟨1, rfl⟩) x o3.isS hl) ?_   -- law.go:39 t48
        rintro v48 K48 hs48 ⟨rfl, rfl, b48, rfl, h48⟩
        exact fin hT 1 rfl (bjx h48 rfl rfl rfl)
      exact fin hT 1 rfl (bjx h49 rfl rfl rfl)
    exact fin hT 1 rfl (bjx h50 rfl rfl rfl)
  refine fin hT 1 rfl (th (rt (?_)))
  have hfin : b51 = true := h51.2 ⟨⟨⟨trivial, rfl⟩, rfl⟩, pConfigs⟩
  exact ret1 rfl rfl ⟨rfl, by rw [hfin]⟩
theorem lawConfigsRead {w0 : World} {K hb : PH} {hs : List PH} (ao : Option Addr) (cap : Nat) (b : List UInt8) (hm : In K hs hb) (x : IsS hb ao b.length cap 1 (bv b)) (hl : b.length < 1099511627776) :
    Ct Try.prog w0 6 [.slice ao b.length cap] K hs (fun v K' hs' => K' = K ∧ v = .bool true) := by
  have hlen := (getConf_mem b).1
  refine enter Try.func6 (by kernel_rfl) rfl rfl rfl ?_
  refine sq (rg (?_))
  refine fin hT 1 rfl (th (sq (rg (?_))))
  refine cl hT 1 rfl (getConfC ao cap b hm x hl) ?_   -- law.go:44 t9
  rintro v9 K9 hs9 ⟨rfl, g1, ao1, c1, rfl, rfl, o1⟩
  refine al hT 3 (.agg #[.slice none 0 0]) rfl (by kernel_rfl) fun b3 => ?_   -- law.go:44 t3
  refine stS hT 0 0 rfl rfl (by kernel_rfl) rfl rfl ?_   -- law.go:44 tNone t3 := t10
  refine fin hT 1 rfl (th (sq (rg (?_))))
  refine cl hT 1 rfl (getConfRef ao cap b (In.cons (In.cons hm)) x hl) ?_   -- law.go:45 t14
  rintro v14 K14 hs14 ⟨rfl, g2, ao2, c2, rfl, rfl, o2⟩
  refine al hT 3 (.agg #[.slice none 0 0]) rfl (by kernel_rfl) fun b5 => ?_   -- law.go:45 t5
  refine stS hT 0 0 rfl rfl (by kernel_rfl) rfl rfl ?_   -- law.go:45 tNone t5 := t15
  refine fin hT 1 rfl (th (sq (rg (?_))))
  refine cl hT 0 rfl aliveMC ?_   -- law.go:46 t17
  rintro v17 K17 hs17 ⟨rfl, rfl, b17, rfl, h17⟩
  refine' bja hT 1 4 22 [17, 18] h17 rfl rfl rfl rfl rfl rfl rfl (fun _ => ?x1) (fun b22 h22 => ?_)   -- law.go:46 t22
  case x1 =>
    refine cmpS hT 2 rfl fun b21 h21 => ?_   -- law.go:46 t21 t19 = t20
    exact fin hT 1 rfl (bjx h21 rfl rfl rfl)
  refine' bja hT 1 6 29 [22, 23] h22 rfl rfl rfl rfl rfl rfl rfl (fun _ => ?x3) (fun b29 h29 => ?_)   -- law.go:46 t29
  case x3 =>
    refine ldp hT 1 2 rfl rfl rfl ?_   -- law.go:46 t25 *t24
    refine ldp hT 1 0 rfl rfl rfl ?_   -- law.go:46 t27 *t26
    refine cl hT 0 rfl (sameVoters ao1 ao2 c1 c2 ((getConf b).getD []) ((getConf b).getD []) (.inr ⟨3, rfl⟩) (.inr ⟨1, rfl⟩) o1.isS o2.isS (by omega)) ?_   -- law.go:46 t28
    rintro v28 K28 hs28 ⟨rfl, rfl, b28, rfl, h28⟩
    exact fin hT 1 rfl (bjx h28 rfl rfl rfl)
  refine fin hT 1 rfl (th (rt (?_)))
  have hfin : b29 = true := h29.2 ⟨⟨trivial, rfl⟩, rfl⟩
  exact ret1 rfl rfl ⟨rfl, by rw [hfin]⟩
theorem lawEntries {w0 : World} {K hb : PH} {hs : List PH} (e : Ent) (ao : Option Addr) (cap : Nat) (h1 : e.idx ≤ mxU) (h2 : e.term ≤ mxU) (hm : In K hs hb) (x : IsS hb ao e.data.length cap 1 (bv e.data)) (hl : e.data.length < 1099511627776) :
    Ct Try.prog w0 7 [.agg (e.v ao cap)] K hs (fun v K' hs' => K' = K ∧ v = .bool true) := by
  have hlen := obEnt_len e h1 h2
  refine enter Try.func7 (by kernel_rfl) rfl rfl rfl ?_
  refine sq (rg (?_))
  refine bx hT 0 rfl fun b1 => ?_   -- law.go:50 t1
  refine fin hT 1 rfl (th (sq (rg (?_))))
  refine ldS hT 0 0 rfl rfl (by kernel_rfl) ?_   -- law.go:51 t10 t1
  refine cl hT 0 rfl (putEntC e ao cap h1 h2 (In.cons hm) x hl) ?_   -- law.go:51 t11
  rintro v11 K11 hs11 ⟨rfl, g1, ao1, c1, rfl, rfl, o1⟩
  refine fin hT 5 rfl (th (sq (rg (?_))))
  refine ldS hT 0 1 rfl rfl (by kernel_rfl) ?_   -- law.go:52 t15 t1
  refine cl hT 0 rfl (putEntRef e ao cap h1 h2 (In.cons (In.cons hm)) x hl) ?_   -- law.go:52 t16
  rintro v16 K16 hs16 ⟨rfl, g2, ao2, c2, rfl, rfl, o2⟩
  refine fin hT 5 rfl (th (sq (rg (?_))))
  refine cl hT 1 rfl (getEntC ao1 c1 (ob (putEnt e)) (.inr ⟨1, rfl⟩) o1.isS (by omega)) ?_   -- law.go:53 t21
  rintro v21 K21 hs21 ⟨rfl, g3, ao3, c3, rfl, rfl, o3⟩
  refine al hT 3 (.agg #[.int .u64 0, .int .u64 0, .int .i64 0, .slice none 0 0]) rfl (by kernel_rfl) fun b7 => ?_   -- law.go:53 t7
  refine stS hT 0 0 rfl rfl (by kernel_rfl) rfl rfl ?_   -- law.go:53 tNone t7 := t22
  refine fin hT 1 rfl (th (sq (rg (?_))))
  refine cl hT 0 rfl aliveMC ?_   -- law.go:54 t24
  rintro v24 K24 hs24 ⟨rfl, rfl, b24, rfl, h24⟩
  refine' bja hT 1 4 29 [24, 25] h24 rfl rfl rfl rfl rfl rfl rfl (fun _ => ?x1) (fun b29 h29 => ?_)   -- law.go:54 t29
  case x1 =>
    refine cmpS hT 2 rfl fun b28 h28 => ?_   -- law.go:54 t28 t26 = t27
    exact fin hT 1 rfl (bjx h28 rfl rfl rfl)
  refine' bja hT 1 6 36 [29, 30] h29 rfl rfl rfl rfl rfl rfl rfl (fun _ => ?x3) (fun b36 h36 => ?_)   -- law.go:54 t36
  case x3 =>
    refine cvs hT 1 _ rfl (.inr ⟨3, rfl⟩) o1.isS (by kernel_rfl) ?_   -- law.go:54 t32 t31
    refine cvs hT 1 _ rfl (.inr ⟨2, rfl⟩) o2.isS (by kernel_rfl) ?_   -- law.go:54 t34 t33
    refine seS hT 0 rfl fun b35 h35 => ?_   -- law.go:54 t35 t32 = t34
    exact fin hT 1 rfl (bjx h35 rfl rfl rfl)
  refine' bja hT 1 12 49 [36, 37] h36 rfl rfl rfl rfl rfl rfl rfl (fun _ => ?x5) (fun b49 h49 => ?_)   -- law.go:54 t49
  case x5 =>
    refine cmpS hT 1 rfl fun b39 h39 => ?_   -- law.go:54 t39 t38 ≠ 0
    refine' bjo hT 1 8 48 [39, 40] h39 rfl rfl rfl rfl rfl rfl rfl (fun _ => ?x7) (fun b48 h48 => ?_)   -- law.go:54 t48
    case x7 =>
      refine cmpS hT 1 rfl fun b42 h42 => ?_   -- law.go:54 t42 t41 = 0
      refine' bja hT 1 4 47 [42, 43] h42 rfl rfl rfl rfl rfl rfl rfl (fun _ => ?x9) (fun b47 h47 => ?_)   -- law.go:54 t47
      case x9 =>
        refine ldS hT 0 4 rfl rfl (by kernel_rfl) ?_   -- law.go:54 t44 t1
        refine ldS hT 0 0 rfl rfl (by kernel_rfl) ?_   -- law.go:54 t45 t7
        refine cl hT 0 rfl (sameEntry e ((getEnt (ob (putEnt e))).getD Ent.zero) ao ao3 cap c3 (In.cons (In.cons4 hm)) (.inr ⟨1, rfl⟩) x o3.isS) ?_   -- law.go:54 t46
        rintro v46 K46 hs46 ⟨rfl, rfl, b46, rfl, h46⟩
        exact fin hT 1 rfl (bjx h46 rfl rfl rfl)
      exact fin hT 1 rfl (bjx h47 rfl rfl rfl)
    exact fin hT 1 rfl (bjx h48 rfl rfl rfl)
  refine fin hT 1 rfl (th (rt (?_)))
  have hfin : b49 = true := h49.2 ⟨⟨⟨trivial, rfl⟩, rfl⟩, pEntries h1 h2⟩
  exact ret1 rfl rfl ⟨rfl, by rw [hfin]⟩
theorem lawEntriesRead {w0 : World} {K hb : PH} {hs : List PH} (ao : Option Addr) (cap : Nat) (b : List UInt8) (hm : In K hs hb) (x : IsS hb ao b.length cap 1 (bv b)) (hl : b.length < 1099511627776) :
    Ct Try.prog w0 8 [.slice ao b.length cap] K hs (fun v K' hs' => K' = K ∧ v = .bool true) := by
  refine enter Try.func8 (by kernel_rfl) rfl rfl rfl ?_
  refine sq (rg (?_))
  refine fin hT 1 rfl (th (sq (rg (?_))))
  refine cl hT 1 rfl (getEntC ao cap b hm x hl) ?_   -- law.go:59 t9
  rintro v9 K9 hs9 ⟨rfl, g1, ao1, c1, rfl, rfl, o1⟩
  refine al hT 3 (.agg #[.int .u64 0, .int .u64 0, .int .i64 0, .slice none 0 0]) rfl (by kernel_rfl) fun b3 => ?_   -- law.go:59 t3
  refine stS hT 0 0 rfl rfl (by kernel_rfl) rfl rfl ?_   -- law.go:59 tNone t3 := t10
  refine fin hT 1 rfl (th (sq (rg (?_))))
  refine cl hT 1 rfl (getEntRef ao cap b (In.cons (In.cons hm)) x hl) ?_   -- law.go:60 t14
  rintro v14 K14 hs14 ⟨rfl, g2, ao2, c2, rfl, rfl, o2⟩
  refine al hT 3 (.agg #[.int .u64 0, .int .u64 0, .int .i64 0, .slice none 0 0]) rfl (by kernel_rfl) fun b5 => ?_   -- law.go:60 t5
  refine stS hT 0 0 rfl rfl (by kernel_rfl) rfl rfl ?_   -- law.go:60 tNone t5 := t15
  refine fin hT 1 rfl (th (sq (rg (?_))))
  refine cl hT 0 rfl aliveMC ?_   -- law.go:61 t17
  rintro v17 K17 hs17 ⟨rfl, rfl, b17, rfl, h17⟩
  refine' bja hT 1 4 22 [17, 18] h17 rfl rfl rfl rfl rfl rfl rfl (fun _ => ?x1) (fun b22 h22 => ?_)   -- law.go:61 t22
  case x1 =>
    refine cmpS hT 2 rfl fun b21 h21 => ?_   -- law.go:61 t21 t19 = t20
    exact fin hT 1 rfl (bjx h21 rfl rfl rfl)
  refine' bja hT 1 4 27 [22, 23] h22 rfl rfl rfl rfl rfl rfl rfl (fun _ => ?x3) (fun b27 h27 => ?_)   -- law.go:61 t27
  case x3 =>
    refine ldS hT 0 2 rfl rfl (by kernel_rfl) ?_   -- law.go:61 t24 t3
    refine ldS hT 0 0 rfl rfl (by kernel_rfl) ?_   -- law.go:61 t25 t5
    refine cl hT 0 rfl (sameEntry ((getEnt b).getD Ent.zero) ((getEnt b).getD Ent.zero) ao1 ao2 c1 c2 (.inr ⟨3, rfl⟩) (.inr ⟨1, rfl⟩) o1.isS o2.isS) ?_   -- law.go:61 t26
    rintro v26 K26 hs26 ⟨rfl, rfl, b26, rfl, h26⟩
    exact fin hT 1 rfl (bjx h26 rfl rfl rfl)
  refine fin hT 1 rfl (th (rt (?_)))
  have hfin : b27 = true := h27.2 ⟨⟨trivial, rfl⟩, rfl⟩
  exact ret1 rfl rfl ⟨rfl, by rw [hfin]⟩
end Go.Proofs.Ythpiokdibknpaaa
