/-
  What a command is written as.
  What bytes are read as, if they are a command.
  The reference: numbers one behind the other; a command written.
  The reference: bytes read as a command.
-/
import Derived.Test.YthpiokdibknpaaaMs
import Derived.Test.YthpiokdibknpaaaEd
import Derived.Test.YthpiokdibknpaaaDu
import Derived.Test.YthpiokdibknpaaaCm
import Derived.Test.YthpiokdibknpaaaEw
import Derived.Test.YthpiokdibknpaaaCg
namespace Go.Proofs.Ythpiokdibknpaaa
open Go.En
set_option linter.unusedVariables false
set_option linter.unusedSimpArgs false
attribute [local irreducible] Code.wp wpList Calls

/-- bytes of one's own, and how it went -/
def OutB (o : Option (List UInt8)) (hs : List PH) (v : Value) (hs' : List PH) : Prop :=
  ∃ h ao c, hs' = h :: hs ∧ v = .tuple #[.slice ao (ob o).length c, .int .i64 (ec o)] ∧ Own h ao (ob o).length c 5 1 (bv (ob o))
theorem outN {o : Option (List UInt8)} {hs : List PH} (h : o = none) : OutB o hs (.tuple #[.slice none 0 0, .int .i64 170]) (em :: hs) := by subst h; exact ⟨em, none, 0, rfl, rfl, Own.nil _ _⟩
theorem outS {o : Option (List UInt8)} {hs : List PH} {l : List UInt8} {h : PH} {ao : Option Addr} {c : Nat} (e : o = some l) (x : Own h ao l.length c 5 1 (bv l)) : OutB o hs (.tuple #[.slice ao l.length c, .int .i64 0]) (h :: hs) := by subst e; exact ⟨h, ao, c, rfl, rfl, x⟩
theorem putCmd_no {c : Cmd} (h : ¬ c.ok) : putCmd c = none := if_neg h
theorem eqCmd (c d : Cmd) (w : World) : (Op.equalIn 10000 24 (.agg c.v) (.agg d.v)).run Try.prog w = .ok (decide (c = d)) w := by
  have u3 := Try.underlying3
  have a3 := Try.isAgg3
  have z3 := Try.sizeOf3
  have u22 := Try.underlying22
  have a22 := Try.isAgg22
  have z22 := Try.sizeOf22
  have u9 := Try.underlying9
  have a9 := Try.isAgg9
  have z9 := Try.sizeOf9
  have hS : Try.prog.underlying 24 = some (.struct (Try.prog.fieldsOf 24)) := by kernel_rfl
  rw [show (10000 : Nat) = 9999 + 1 from rfl, run_equalIn_agg w 9999 24 _ _ hS (by kernel_rfl)]
  simp only [Program.fieldsOf, Try.underlying24, Cmd.v]
  go_simp
  obtain ⟨k, s, q, l, t⟩ := c
  obtain ⟨k', s', q', l', t'⟩ := d
  by_cases h1 : k = k' <;> by_cases h2 : s = s' <;> by_cases h3 : q = q' <;> by_cases h4 : l = l' <;> by_cases h5 : t = t' <;> simp [h1, h2, h3, h4, h5, str_toList, Int.ofNat_inj]
theorem putCmdC {w0 : World} {K : PH} {hs : List PH} (c : Cmd) (hs1 : c.ses < 18446744073709551616) (hs2 : c.seq < 18446744073709551616) :
    Ct Try.prog w0 14 [.agg c.v] K hs (fun v K' hs' => K' = K ∧ OutB (putCmd c) hs v hs') := by
  refine enter Try.func14 (by kernel_rfl) rfl rfl rfl ?_
  refine sq (rg (?_))
  refine bx hT 0 rfl fun b1 => ?_   -- message.go:17 t1
  refine fin hT 2 rfl (th (sq (rg (?_))))
  refine ldp hT 1 0 rfl rfl rfl ?_   -- message.go:18 t6 *t5
  refine ar hT 0 rfl rfl ?_
  refine lit hT 0 #[.int .u8 (IntKind.u8.wrap c.kind)] rfl (by decide) (by kernel_rfl) fun b8 => ?_   -- message.go:18 t8
  refine fin hT 1 rfl (th (jn (σ := Nat) (fun s => [(1, .pointer (some ⟨b1, 0, none⟩)), (4, .slice (some ⟨b8, 0, none⟩) 1 1)]) (fun s => pt b8 #[.int .u8 ((s : Nat) : Int)] 5 :: pt b1 c.v 24 :: hs) (fun s => (s = 2 ∨ s = 3) ∧ c.kind = (s : Nat)) ?_ ?_))
  · refine sq (rg (?_))
    refine ldp hT 1 1 rfl rfl rfl ?_   -- message.go:19 t10 *t9
    refine fin hT 0 rfl (th (bk (sq (rg (?_)))))
    refine cmpS hT 0 rfl fun b12 h12 => ?_   -- message.go:20 t12 t10 = 1
    refine fin hT 1 rfl (th (ifP h12 rfl (fun e2 => ?_) (fun e2 => ?_)))
    · refine sq (sq (rg (?_)))
      refine ldS hT 0 1 rfl rfl (by kernel_rfl) ?_   -- message.go:21 t13 t1
      refine bd hT 0 (.agg (Cmd.mk 1 0 0 [] 0).v) rfl (fun w => by kernel_rfl) ?_   -- message.go:21 t14
      refine eqs hT 0 rfl (by kernel_rfl) (fun w => eqCmd c ⟨1, 0, 0, [], 0⟩ w) ?_   -- message.go:21 t15 t13 ≠ t14
      refine nmS fun b15 h15 => ?_
      refine fin hT 0 rfl (th (ifP h15 rfl (fun e4 => ?_) (fun e4 => ?_)))
      · refine sq (rg (?_))
        refine fin hT 2 rfl (th (rt (rT (rB (jr (?_))))))
        refine WQ.drop (WQ.drop (WQ.em ?_))
        exact ret2 rfl rfl rfl ⟨rfl, outN (putCmd_no fun ok => ok.elim (fun ⟨h0, h1, h2, h3, h4⟩ => absurd (show c = ⟨1, 0, 0, [], 0⟩ by cases c; simp_all) (by simpa using e4)) (fun ⟨h1, _⟩ => by omega))⟩
      · refine sk (th (sq (rg (?_))))
        refine fin hT 3 rfl (th (rt (rB (jr (?_)))))
        have hc : c = ⟨1, 0, 0, [], 0⟩ := by simpa using e4
        subst hc
        refine WQ.perm (List.Perm.swap _ _ _) (WQ.drop ?_)
        exact ret2 rfl rfl rfl ⟨rfl, _, _, _, rfl, rfl, own_byte _ 1 (by decide)⟩
    · refine sq (sq (rg (?_)))
      refine cmpS hT 0 rfl fun b18 h18 => ?_   -- message.go:25 t18 t10 = 2
      refine fin hT 1 rfl (th (ifP h18 rfl (fun e6 => ?_) (fun e6 => ?_)))
      · refine sk (th (ifPT h18 e6 rfl (sk (bl (?_)))))
        exact jx (2 : Nat) ⟨.inl rfl, e6⟩ ⟨rfl, rfl, trivial⟩ rfl (by rw [e6]; rfl)
      · refine rg (?_)
        refine cmpS hT 0 rfl fun b19 h19 => ?_   -- message.go:25 t19 t10 = 3
        refine fin hT 1 rfl (th (ifP h19 rfl (fun e8 => ?_) (fun e8 => ?_)))
        · refine sk (bl (?_))
          exact jx (3 : Nat) ⟨.inr rfl, e8⟩ ⟨rfl, rfl, trivial⟩ rfl (by rw [e8]; rfl)
        · refine sq (rg (?_))
          refine fin hT 2 rfl (th (rt (rB (jr (?_)))))
          refine WQ.drop (WQ.drop (WQ.em ?_))
          exact ret2 rfl rfl rfl ⟨rfl, outN (putCmd_no fun ok => ok.elim (fun h => e2 h.1) (fun h => h.1.elim e6 e8))⟩
  · rintro k ⟨hk, hkk⟩
    refine sq (sq (rg (?_)))
    refine ldp hT 1 1 rfl rfl rfl ?_   -- message.go:29 t21 *t20
    refine cmpS hT 1 rfl fun b23 h23 => ?_   -- message.go:29 t23 t22 > 96
    refine' bjo hT 1 4 28 [23, 24] h23 rfl rfl rfl rfl rfl rfl rfl (fun _ => ?x10) (fun b28 h28 => ?_)   -- message.go:29 t28
    case x10 =>
      refine ldp hT 1 1 rfl rfl rfl ?_   -- message.go:29 t26 *t25
      refine cmpS hT 0 rfl fun b27 h27 => ?_   -- message.go:29 t27 t26 < 0
      exact fin hT 1 rfl (bjx h27 rfl rfl rfl)
    refine' bjo hT 1 4 33 [28, 29] h28 rfl rfl rfl rfl rfl rfl rfl (fun _ => ?x12) (fun b33 h33 => ?_)   -- message.go:29 t33
    case x12 =>
      refine ldp hT 1 1 rfl rfl rfl ?_   -- message.go:29 t31 *t30
      refine cmpS hT 0 rfl fun b32 h32 => ?_   -- message.go:29 t32 t31 > 1073741824
      exact fin hT 1 rfl (bjx h32 rfl rfl rfl)
    refine' bjo hT 1 9 43 [33, 34] h33 rfl rfl rfl rfl rfl rfl rfl (fun _ => ?x14) (fun b43 h43 => ?_)   -- message.go:29 t43
    case x14 =>
      refine ldp hT 1 1 rfl rfl rfl ?_   -- message.go:29 t36 *t35
      refine cmpS hT 0 rfl fun b37 h37 => ?_   -- message.go:29 t37 t36 = 3
      refine' bja hT 1 4 42 [37, 38] h37 rfl rfl rfl rfl rfl rfl rfl (fun _ => ?x16) (fun b42 h42 => ?_)   -- message.go:29 t42
      case x16 =>
        refine ldp hT 1 1 rfl rfl rfl ?_   -- message.go:29 t40 *t39
        refine cmpS hT 0 rfl fun b41 h41 => ?_   -- message.go:29 t41 t40 ≠ 0
        exact fin hT 1 rfl (bjx h41 rfl rfl rfl)
      exact fin hT 1 rfl (bjx h42 rfl rfl rfl)
    refine fin hT 0 rfl (th (ifP h43 rfl (fun e18 => ?_) (fun e18 => ?_)))
    · refine sq (rg (?_))
      refine fin hT 2 rfl (th (rt (rT (?_))))
      refine WQ.drop (WQ.drop (WQ.em ?_))
      exact ret2 rfl rfl rfl ⟨rfl, outN (putCmd_no fun ok => ok.elim (fun h => by omega) (fun h => by simp only [ByteArray.size, List.size_toArray] at e18; omega))⟩
    · have hok : c.ok := .inr ⟨by omega, by simp only [ByteArray.size, List.size_toArray] at e18; omega, by omega, by omega, by omega⟩
      obtain ⟨t, ht⟩ : ∃ t : Nat, c.wt = (t : Nat) := Int.eq_ofNat_of_zero_le (by rcases hok with h | h <;> omega)
      have hw96 : c.word.length ≤ 96 := by simp only [ByteArray.size, List.size_toArray] at e18; omega
      have hu1 := uint_le10 (n := c.ses) hs1
      have hu2 := uint_le10 (n := c.seq) hs2
      have hu3 := uint_le10 (n := c.word.length) (by omega)
      have o8 : Own (pt b8 #[.int .u8 ((k : Nat) : Int)] 5) (some ⟨b8, 0, none⟩) ([UInt8.ofNat k] : List UInt8).length 1 5 1 (bv [UInt8.ofNat k]) := own_byte b8 k (by omega)
      refine sk (th (jn (σ := Option Addr × Nat × PH) (fun s => [(1, .pointer (some ⟨b1, 0, none⟩)), (4, .slice s.1 ([UInt8.ofNat k] ++ uint c.ses ++ uint c.seq ++ putBytes c.word).length s.2.1)]) (fun s => s.2.2 :: pt b1 c.v 24 :: hs) (fun s => Own s.2.2 s.1 ([UInt8.ofNat k] ++ uint c.ses ++ uint c.seq ++ putBytes c.word).length s.2.1 5 1 (bv ([UInt8.ofNat k] ++ uint c.ses ++ uint c.seq ++ putBytes c.word))) ?_ ?_))
      · refine rga [pt b1 c.v 24] 12 [0, 2, 4, 8, 10, 14, 16, 7, 13, 19, 21, 22] (by simp) (by kernel_rfl) (by kernel_rfl) ?_
        refine dldp hT (by kernel_rfl) 2 0 rfl rfl rfl ?_   -- message.go:32 t46 *t45
        refine dldp hT (by kernel_rfl) 1 0 rfl rfl rfl ?_   -- message.go:32 t49 *t48
        refine dldp hT (by kernel_rfl) 1 0 rfl rfl rfl ?_   -- message.go:32 t52 *t51
        refine dfork 9 hT (by kernel_rfl) 0 [7, 13, 21, 22] rfl (by kernel_rfl) ?_ ?_
        · refine cl hT 0 rfl (putUint _ _ [UInt8.ofNat k] c.ses o8 hs1 (by simp)) ?_   -- message.go:32 t47
          rintro v47 K47 hs47 ⟨g47, rfl, rfl, ao47, c47, rfl, o47⟩
          refine dnex [pt b1 c.v 24] (by simp) (by simp) rfl ?_
          refine dfork 9 hT (by kernel_rfl) 0 [13, 21, 22] rfl (by kernel_rfl) ?_ ?_
          · refine cl hT 0 rfl (putUint ao47 c47 _ c.seq o47 hs2 (by simp; omega)) ?_   -- message.go:32 t50
            rintro v50 K50 hs50 ⟨g50, rfl, rfl, ao50, c50, rfl, o50⟩
            refine dnex [pt b1 c.v 24] (by simp) (by simp) rfl ?_
            refine dact hT (by kernel_rfl) 0 rfl ?_
            refine cvb hT 0 rfl (by kernel_rfl) fun b53 c53 g53 o53 => ?_   -- message.go:32 t53
            refine dnex [pt b1 c.v 24] (by simp) (by simp) rfl ?_
            refine dact hT (by kernel_rfl) 0 rfl ?_
            refine cl hT 0 rfl (Ct.at 1 rfl (putBytesC ao50 c50 _ _ _ c.word o50 (.inr ⟨0, rfl⟩) o53 (by simp; omega) (by omega))) ?_   -- message.go:32 t54
            rintro v54 K54 hs54 ⟨g54, rfl, rfl, ao54, c54, rfl, o54⟩
            refine dnex [pt b1 c.v 24] (by simp) (by simp) rfl ?_
            refine dend hT (by kernel_rfl) 1 rfl (?_)
            refine WQ.drop ?_
            exact jx (ao54, c54, g54) o54 ⟨rfl, rfl, trivial⟩ rfl rfl
          · refine cvb hT 0 rfl (by kernel_rfl) fun b53 c53 g53 o53 => ?_   -- message.go:32 t53
            refine dnex [pt b1 c.v 24] (by simp) (by simp) rfl ?_
            refine dact hT (by kernel_rfl) 0 rfl ?_
            refine cl hT 0 rfl (Ct.at 1 rfl (putUint ao47 c47 _ c.seq o47 hs2 (by simp; omega))) ?_   -- message.go:32 t50
            rintro v50 K50 hs50 ⟨g50, rfl, rfl, ao50, c50, rfl, o50⟩
            refine dnex [pt b1 c.v 24] (by simp) (by simp) rfl ?_
            refine dact hT (by kernel_rfl) 0 rfl ?_
            refine cl hT 0 rfl (Ct.at 1 rfl (putBytesC ao50 c50 _ _ _ c.word o50 (.inr ⟨0, rfl⟩) o53 (by simp; omega) (by omega))) ?_   -- message.go:32 t54
            rintro v54 K54 hs54 ⟨g54, rfl, rfl, ao54, c54, rfl, o54⟩
            refine dnex [pt b1 c.v 24] (by simp) (by simp) rfl ?_
            refine dend hT (by kernel_rfl) 1 rfl (?_)
            refine WQ.drop ?_
            exact jx (ao54, c54, g54) o54 ⟨rfl, rfl, trivial⟩ rfl rfl
        · refine cvb hT 0 rfl (by kernel_rfl) fun b53 c53 g53 o53 => ?_   -- message.go:32 t53
          refine dnex [pt b1 c.v 24] (by simp) (by simp) rfl ?_
          refine dact hT (by kernel_rfl) 0 rfl ?_
          refine cl hT 0 rfl (Ct.at 1 rfl (putUint _ _ [UInt8.ofNat k] c.ses o8 hs1 (by simp))) ?_   -- message.go:32 t47
          rintro v47 K47 hs47 ⟨g47, rfl, rfl, ao47, c47, rfl, o47⟩
          refine dnex [pt b1 c.v 24] (by simp) (by simp) rfl ?_
          refine dact hT (by kernel_rfl) 0 rfl ?_
          refine cl hT 0 rfl (Ct.at 1 rfl (putUint ao47 c47 _ c.seq o47 hs2 (by simp; omega))) ?_   -- message.go:32 t50
          rintro v50 K50 hs50 ⟨g50, rfl, rfl, ao50, c50, rfl, o50⟩
          refine dnex [pt b1 c.v 24] (by simp) (by simp) rfl ?_
          refine dact hT (by kernel_rfl) 0 rfl ?_
          refine cl hT 0 rfl (Ct.at 1 rfl (putBytesC ao50 c50 _ _ _ c.word o50 (.inr ⟨0, rfl⟩) o53 (by simp; omega) (by omega))) ?_   -- message.go:32 t54
          rintro v54 K54 hs54 ⟨g54, rfl, rfl, ao54, c54, rfl, o54⟩
          refine dnex [pt b1 c.v 24] (by simp) (by simp) rfl ?_
          refine dend hT (by kernel_rfl) 1 rfl (?_)
          refine WQ.drop ?_
          exact jx (ao54, c54, g54) o54 ⟨rfl, rfl, trivial⟩ rfl rfl
      · rintro ⟨ao, cap, g⟩ o
        dsimp only at o ⊢
        refine sq (sq (rg (?_)))
        refine ldp hT 1 1 rfl rfl rfl ?_   -- message.go:33 t56 *t55
        refine cmpS hT 0 rfl fun b57 h57 => ?_   -- message.go:33 t57 t56 = 2
        refine fin hT 0 rfl (th (ifP h57 rfl (fun e20 => ?_) (fun e20 => ?_)))
        · refine rg (?_)
          refine ldp hT 2 1 rfl rfl rfl ?_   -- message.go:34 t60 *t59
          refine ar hT 0 rfl (v' := .int .u64 ((t : Nat) : Int)) (by rw [ht, u64w (by omega)]) ?_
          refine cl hT 0 rfl (putUint ao cap _ t o (by omega) (by simp [putBytes]; omega)) ?_   -- message.go:34 t62
          rintro v62 K62 hs62 ⟨g62, rfl, rfl, ao62, c62, rfl, o62⟩
          refine fin hT 1 rfl (th (sq (rg (?_))))
          refine fin hT 3 rfl (th (rt (?_)))
          refine WQ.perm (List.Perm.swap _ _ _) (WQ.drop ?_)
          exact ret2 rfl rfl rfl ⟨rfl, outS (by (obtain rfl : k = 2 := by omega); rw [putCmd, if_pos hok, Cmd.bytes, if_neg (by omega), if_pos e20, ht]; simp) o62⟩
        · refine sk (th (sq (rg (?_))))
          refine fin hT 3 rfl (th (rt (?_)))
          refine WQ.perm (List.Perm.swap _ _ _) (WQ.drop ?_)
          exact ret2 rfl rfl rfl ⟨rfl, outS (by (obtain rfl : k = 3 := by omega); rw [putCmd, if_pos hok, Cmd.bytes, if_neg (by omega), if_neg e20]; simp) o⟩
end Go.Proofs.Ythpiokdibknpaaa
namespace Go.Proofs.Ythpiokdibknpaaa
open Go.En
set_option linter.unusedVariables false
set_option linter.unusedSimpArgs false
attribute [local irreducible] Code.wp wpList Calls

theorem rByte_lt (s : Rd) : (rByte s).1 < 256 := by
  obtain ⟨b, e⟩ := s
  unfold rByte
  dsimp only
  split
  · cases b with
    | nil => decide
    | cons c r => exact c.toNat_lt
  · show (0 : Nat) < 256; omega
theorem rByte_len (s : Rd) : (rByte s).2.1.length ≤ s.1.length := by
  obtain ⟨b, e⟩ := s
  unfold rByte
  dsimp only
  split
  · cases b <;> simp
  · exact Nat.le_refl _
theorem rUint_lt64 (m : Nat) (s : Rd) : (rUint m s).1 < 18446744073709551616 := (rUint_bd m s.1 s.2).1
theorem rUint_len (m : Nat) (s : Rd) : (rUint m s).2.1.length ≤ s.1.length := (rUint_bd m s.1 s.2).2
theorem rBytes_len (m : Int) (s : Rd) : (rBytes m s).1.length ≤ s.1.length ∧ (rBytes m s).2.1.length ≤ s.1.length := rBytes_bd m s.1 s.2
theorem getCmdR_2 {b : List UInt8} (h : (rByte (b, 0)).1 = 2) : getCmdR b = (⟨2, (rUint mxU (rByte (b, 0)).2).1, (rUint mxU (rUint mxU (rByte (b, 0)).2).2).1, (rBytes 96 (rUint mxU (rUint mxU (rByte (b, 0)).2).2).2).1, (rUint 1073741824 (rBytes 96 (rUint mxU (rUint mxU (rByte (b, 0)).2).2).2).2).1⟩, (rUint 1073741824 (rBytes 96 (rUint mxU (rUint mxU (rByte (b, 0)).2).2).2).2).2) := by
  unfold getCmdR
  dsimp only
  rw [if_neg (by omega), if_pos (.inl h), if_pos h]
theorem getCmdR_3 {b : List UInt8} (h : (rByte (b, 0)).1 = 3) : getCmdR b = (⟨3, (rUint mxU (rByte (b, 0)).2).1, (rUint mxU (rUint mxU (rByte (b, 0)).2).2).1, (rBytes 96 (rUint mxU (rUint mxU (rByte (b, 0)).2).2).2).1, 0⟩, (rBytes 96 (rUint mxU (rUint mxU (rByte (b, 0)).2).2).2).2) := by
  unfold getCmdR
  dsimp only
  rw [if_neg (by omega), if_pos (.inr h), if_neg (by omega)]
theorem getCmdR_1 {b : List UInt8} (h : (rByte (b, 0)).1 = 1) : getCmdR b = (⟨1, 0, 0, [], 0⟩, (rByte (b, 0)).2) := by
  unfold getCmdR
  dsimp only
  rw [if_pos h]
theorem getCmdR_n {b : List UInt8} (h1 : ¬ (rByte (b, 0)).1 = 1) (h2 : ¬ (rByte (b, 0)).1 = 2) (h3 : ¬ (rByte (b, 0)).1 = 3) : getCmdR b = (⟨(rByte (b, 0)).1, 0, 0, [], 0⟩, ((rByte (b, 0)).2.1, if (rByte (b, 0)).2.2 = 0 then 170 else (rByte (b, 0)).2.2)) := by
  unfold getCmdR
  dsimp only
  rw [if_neg h1, if_neg (by omega)]
theorem getCmdC {w0 : World} {K hb : PH} {hs : List PH} (ao : Option Addr) (cap : Nat) (b : List UInt8) (hm : In K hs hb) (x : IsS hb ao b.length cap 1 (bv b)) (hl : b.length < 1099511627776) :
    Ct Try.prog w0 16 [.slice ao b.length cap] K hs (fun v K' hs' => K' = K ∧ hs' = hs ∧ v = .tuple #[.agg ((getCmd b).getD Cmd.zero).v, .int .i64 (ec (getCmd b))]) := by
  refine enter Try.func16 (by kernel_rfl) rfl rfl rfl ?_
  refine sq (rg (?_))
  refine al hT 0 (.agg #[.int .i64 0, .int .u64 0, .int .u64 0, .string ⟨#[]⟩, .int .i64 0]) rfl (by kernel_rfl) fun b2 => ?_   -- message.go:40 t2
  refine fin hT 1 rfl (th (sq (rg (?_))))
  refine cl hT 1 rfl (readC ao cap b (In.cons hm) x hl) ?_   -- message.go:41 t7
  rintro v7 K7 hs7 ⟨rfl, rb, h, hb', rfl, rfl, rd⟩
  refine fin hT 1 rfl (th (sq (rg (?_))))
  refine cl hT 1 rfl (byteC (.inr ⟨0, rfl⟩) (b, 0) rd) ?_   -- message.go:42 t9
  rintro v9 K9 hs9 ⟨h1, rfl, rfl, rfl, rd1⟩
  have hk256 := rByte_lt (b, 0)
  have hl1 := rByte_len (b, 0)
  have hl2 := rUint_len mxU (rByte (b, 0)).2
  have hl3 := rUint_len mxU (rUint mxU (rByte (b, 0)).2).2
  have hl4 := (rBytes_len 96 (rUint mxU (rUint mxU (rByte (b, 0)).2).2).2).2
  dsimp only at hl1 hk256
  refine ar hT 0 rfl (i64w (by omega)) ?_   -- message.go:42 t10 convert t9
  refine bd hT 0 (.agg (Cmd.mk ((rByte (b, 0)).1 : Nat) 0 0 [] 0).v) rfl (fun w => by kernel_rfl) ?_   -- message.go:42 t11
  refine al hT 0 (.agg #[.int .i64 0, .int .u64 0, .int .u64 0, .string ⟨#[]⟩, .int .i64 0]) rfl (by kernel_rfl) fun b5 => ?_   -- message.go:42 t5
  refine stS hT 0 0 rfl rfl (by kernel_rfl) rfl rfl ?_   -- message.go:42 tNone t5 := t11
  refine fin hT 0 rfl (th (jn (σ := Cmd × Rd × PH) (fun s => [(2, .pointer (some ⟨b2, 0, none⟩)), (4, .pointer (some ⟨rb, 0, none⟩)), (5, .pointer (some ⟨b5, 0, none⟩))]) (fun s => pt b5 s.1.v 24 :: s.2.2 :: hb' :: pt b2 Cmd.zero.v 24 :: hs) (fun s => (s.1, s.2.1) = getCmdR b ∧ IsRd rb hb' s.2.1 s.2.2) ?_ ?_))
  · refine sq (rg (?_))
    refine ldp hT 1 0 rfl rfl rfl ?_   -- message.go:43 t13 *t12
    refine fin hT 0 rfl (th (bk (sq (rg (?_)))))
    refine cmpS hT 0 rfl fun b17 h17 => ?_   -- message.go:44 t17 t13 = 1
    refine fin hT 1 rfl (th (ifP h17 rfl (fun e2 => ?_) (fun e2 => ?_)))
    · refine sk (bl (?_))
      exact jx (⟨1, 0, 0, [], 0⟩, (rByte (b, 0)).2, h1) ⟨(getCmdR_1 (by have : ((rByte (b, 0)).1 : Int) = 1 := e2; omega)).symm, rd1⟩ ⟨rfl, rfl, rfl, trivial⟩ rfl (congrArg (fun k : Int => pt b5 (Cmd.mk k 0 0 [] 0).v 24 :: h1 :: hb' :: pt b2 Cmd.zero.v 24 :: hs) e2)
    · refine sq (sq (rg (?_)))
      refine cmpS hT 0 rfl fun b19 h19 => ?_   -- message.go:45 t19 t13 = 2
      refine fin hT 1 rfl (th (ifP h19 rfl (fun e4 => ?_) (fun e4 => ?_)))
      · refine sk (th (ifPT h19 e4 rfl (sq (rg (?_)))))
        refine cl hT 1 rfl (Ct.at 1 rfl (uintC (.inr ⟨1, rfl⟩) mxU _ (by omega) rd1)) ?_   -- message.go:46 t22
        rintro v22 K22 hs22 ⟨h2, rfl, rfl, rfl, rd2⟩
        refine stp hT 1 0 rfl rfl rfl rfl ?_   -- message.go:46 tNone t23 := t22
        refine fin hT 0 rfl (th (sq (rg (?_))))
        refine cl hT 1 rfl (Ct.at 1 rfl (uintC (.inr ⟨1, rfl⟩) mxU _ (by omega) rd2)) ?_   -- message.go:47 t25
        rintro v25 K25 hs25 ⟨h3, rfl, rfl, rfl, rd3⟩
        refine stp hT 1 0 rfl rfl rfl rfl ?_   -- message.go:47 tNone t26 := t25
        refine fin hT 0 rfl (th (sq (rg (?_))))
        refine cl hT 1 rfl (Ct.atN 1 rfl (bytesC (.inr ⟨1, rfl⟩) 96 (by omega) _ (by omega) rd3)) ?_   -- message.go:48 t28
        rintro v28 K28 hs28 ⟨h4, new, rfl, rfl, hx, aox, cx, rfl, rfl, ox, rd4⟩
        refine cvs hT 0 _ rfl (.inr ⟨0, rfl⟩) ox.isS (by kernel_rfl) ?_   -- message.go:48 t29 t28
        refine stp hT 1 1 rfl rfl rfl rfl ?_   -- message.go:48 tNone t30 := t29
        refine fin hT 0 rfl (th (WC.drop (sq (rg (?_)))))
        refine ldp hT 1 0 rfl rfl rfl ?_   -- message.go:49 t32 *t31
        refine cmpS hT 0 rfl fun b33 h33 => ?_   -- message.go:49 t33 t32 = 2
        refine fin hT 0 rfl (th (ifP h33 rfl (fun e6 => ?_) (fun e6 => ?_)))
        · refine rg (?_)
          refine cl hT 1 rfl (Ct.at 1 rfl (uintC (.inr ⟨1, rfl⟩) 1073741824 _ (by omega) rd4)) ?_   -- message.go:50 t35
          rintro v35 K35 hs35 ⟨h5, rfl, rfl, rfl, rd5⟩
          have hw30 := rUint_le 1073741824 (rBytes 96 (rUint mxU (rUint mxU (rByte (b, 0)).2).2).2).2
          refine ar hT 0 rfl (i64w (by omega)) ?_   -- message.go:50 t36 convert t35
          refine stp hT 1 0 rfl rfl rfl rfl ?_   -- message.go:50 tNone t37 := t36
          refine fin hT 0 rfl (bl (?_))
          exact jx (⟨2, (rUint mxU (rByte (b, 0)).2).1, (rUint mxU (rUint mxU (rByte (b, 0)).2).2).1, (rBytes 96 (rUint mxU (rUint mxU (rByte (b, 0)).2).2).2).1, (rUint 1073741824 (rBytes 96 (rUint mxU (rUint mxU (rByte (b, 0)).2).2).2).2).1⟩, (rUint 1073741824 (rBytes 96 (rUint mxU (rUint mxU (rByte (b, 0)).2).2).2).2).2, h5) ⟨(getCmdR_2 (by have : ((rByte (b, 0)).1 : Int) = 2 := e4; omega)).symm, rd5⟩ ⟨rfl, rfl, rfl, trivial⟩ rfl (congrArg (fun k : Int => pt b5 (Cmd.mk k (rUint mxU (rByte (b, 0)).2).1 (rUint mxU (rUint mxU (rByte (b, 0)).2).2).1 (rBytes 96 (rUint mxU (rUint mxU (rByte (b, 0)).2).2).2).1 (rUint 1073741824 (rBytes 96 (rUint mxU (rUint mxU (rByte (b, 0)).2).2).2).2).1).v 24 :: h5 :: hb' :: pt b2 Cmd.zero.v 24 :: hs) e4)
        · refine absurd e4 e6
      · refine rg (?_)
        refine cmpS hT 0 rfl fun b20 h20 => ?_   -- message.go:45 t20 t13 = 3
        refine fin hT 1 rfl (th (ifP h20 rfl (fun e8 => ?_) (fun e8 => ?_)))
        · refine sq (rg (?_))
          refine cl hT 1 rfl (Ct.at 1 rfl (uintC (.inr ⟨1, rfl⟩) mxU _ (by omega) rd1)) ?_   -- message.go:46 t22
          rintro v22 K22 hs22 ⟨h2, rfl, rfl, rfl, rd2⟩
          refine stp hT 1 0 rfl rfl rfl rfl ?_   -- message.go:46 tNone t23 := t22
          refine fin hT 0 rfl (th (sq (rg (?_))))
          refine cl hT 1 rfl (Ct.at 1 rfl (uintC (.inr ⟨1, rfl⟩) mxU _ (by omega) rd2)) ?_   -- message.go:47 t25
          rintro v25 K25 hs25 ⟨h3, rfl, rfl, rfl, rd3⟩
          refine stp hT 1 0 rfl rfl rfl rfl ?_   -- message.go:47 tNone t26 := t25
          refine fin hT 0 rfl (th (sq (rg (?_))))
          refine cl hT 1 rfl (Ct.atN 1 rfl (bytesC (.inr ⟨1, rfl⟩) 96 (by omega) _ (by omega) rd3)) ?_   -- message.go:48 t28
          rintro v28 K28 hs28 ⟨h4, new, rfl, rfl, hx, aox, cx, rfl, rfl, ox, rd4⟩
          refine cvs hT 0 _ rfl (.inr ⟨0, rfl⟩) ox.isS (by kernel_rfl) ?_   -- message.go:48 t29 t28
          refine stp hT 1 1 rfl rfl rfl rfl ?_   -- message.go:48 tNone t30 := t29
          refine fin hT 0 rfl (th (WC.drop (sq (rg (?_)))))
          refine ldp hT 1 0 rfl rfl rfl ?_   -- message.go:49 t32 *t31
          refine cmpS hT 0 rfl fun b33 h33 => ?_   -- message.go:49 t33 t32 = 2
          refine fin hT 0 rfl (th (ifP h33 rfl (fun e10 => ?_) (fun e10 => ?_)))
          · refine absurd e10 (by rw [show ((rByte (b, 0)).1 : Int) = 3 from e8]; decide)
          · refine sk (bl (?_))
            exact jx (⟨3, (rUint mxU (rByte (b, 0)).2).1, (rUint mxU (rUint mxU (rByte (b, 0)).2).2).1, (rBytes 96 (rUint mxU (rUint mxU (rByte (b, 0)).2).2).2).1, 0⟩, (rBytes 96 (rUint mxU (rUint mxU (rByte (b, 0)).2).2).2).2, h4) ⟨(getCmdR_3 (by have : ((rByte (b, 0)).1 : Int) = 3 := e8; omega)).symm, rd4⟩ ⟨rfl, rfl, rfl, trivial⟩ rfl (congrArg (fun k : Int => pt b5 (Cmd.mk k (rUint mxU (rByte (b, 0)).2).1 (rUint mxU (rUint mxU (rByte (b, 0)).2).2).1 (rBytes 96 (rUint mxU (rUint mxU (rByte (b, 0)).2).2).2).1 0).v 24 :: h4 :: hb' :: pt b2 Cmd.zero.v 24 :: hs) e8)
        · refine rg (?_)
          refine cl hT 1 rfl (Ct.at 1 rfl (failC (rByte (b, 0)).2 170 rd1)) ?_   -- message.go:53 t15
          rintro v15 K15 hs15 ⟨h2, rfl, rfl, rfl, rd2⟩
          refine fin hT 0 rfl (bl (?_))
          exact jx (⟨((rByte (b, 0)).1 : Nat), 0, 0, [], 0⟩, ((rByte (b, 0)).2.1, if (rByte (b, 0)).2.2 = 0 then 170 else (rByte (b, 0)).2.2), h2) ⟨(getCmdR_n (fun h => e2 (show ((rByte (b, 0)).1 : Int) = 1 by omega)) (fun h => e4 (show ((rByte (b, 0)).1 : Int) = 2 by omega)) (fun h => e8 (show ((rByte (b, 0)).1 : Int) = 3 by omega))).symm, rd2⟩ ⟨rfl, rfl, rfl, trivial⟩ rfl rfl
  · clear rd rd1
    rintro ⟨c, s, h⟩ ⟨hc, rd⟩
    dsimp only at hc rd ⊢
    refine sq (sq (rg (?_)))
    refine cl hT 1 rfl (Ct.keep 1 rfl (endC s rd)) ?_   -- message.go:55 t39
    rintro v39 K39 hs39 ⟨rfl, rfl, rfl⟩
    refine cmpS hT 0 rfl fun b40 h40 => ?_   -- message.go:55 t40 t39 ≠ 0
    have hg : getCmd b = if rEnd s = 0 then some c else none := by rw [getCmd, ← hc]
    refine fin hT 0 rfl (th (ifP h40 rfl (fun e12 => ?_) (fun e12 => ?_)))
    · refine sq (rg (?_))
      refine bd hT 0 (.agg Cmd.zero.v) rfl (fun w => by kernel_rfl) ?_   -- message.go:56 t41
      refine stS hT 0 3 rfl rfl (by kernel_rfl) rfl rfl ?_   -- message.go:56 tNone t2 := t41
      refine fin hT 1 rfl (th (rt (rT (?_))))
      exact retcP 3 4 rfl rfl rfl rfl (by kernel_rfl) ⟨rfl, rfl, by rw [hg, if_neg e12]; rfl⟩
    · refine sk (th (sq (rg (?_))))
      refine ldS hT 0 0 rfl rfl (by kernel_rfl) ?_   -- message.go:58 t42 t5
      refine stS hT 0 3 rfl rfl (by kernel_rfl) rfl rfl ?_   -- message.go:58 tNone t2 := t42
      refine fin hT 1 rfl (th (rt (?_)))
      exact retcP 3 4 rfl rfl rfl rfl (by kernel_rfl) ⟨rfl, rfl, by rw [hg, if_pos (by simpa using e12)]; rfl⟩
end Go.Proofs.Ythpiokdibknpaaa
namespace Go.Proofs.Ythpiokdibknpaaa
open Go.En
set_option linter.unusedVariables false
set_option linter.unusedSimpArgs false
attribute [local irreducible] Code.wp wpList Calls

def uv (l : List Nat) : List Value := l.map fun n => Value.int .u64 (n : Nat)
theorem uv_get {l : List Nat} {j : Nat} (h : j < l.length) : (uv l)[j]? = some (.int .u64 (l[j] : Nat)) := by simp [uv, h]
def us : List Nat → List UInt8
  | [] => []
  | n :: r => uint n ++ us r
theorem us_append : ∀ (l r : List Nat), us (l ++ r) = us l ++ us r
  | [], r => rfl
  | n :: l, r => by simp [us, us_append l r]
theorem us_len : ∀ (l : List Nat), (∀ n ∈ l, n < 18446744073709551616) → (us l).length ≤ 10 * l.length
  | [], _ => Nat.le_refl _
  | n :: l, h => by
    have h1 := us_len l (fun x hx => h x (by simp [hx]))
    have h2 := uint_le10 (h n (by simp))
    simp only [us, List.length_append, List.length_cons]
    omega
theorem uintsRef {w0 : World} {K h hl : PH} {R : List PH} (ao : Option Addr) (c1 : Nat) (bs : List UInt8) (al : Option Addr) (cl' : Nat) (ns : List Nat) (o : Own h ao bs.length c1 5 1 (bv bs)) (hm : In K R hl) (x : IsS hl al ns.length cl' 1 (uv ns))
    (hns : ∀ n ∈ ns, n < 18446744073709551616) (hb : bs.length < 1099511627776) (hl' : ns.length < 1099511627776) :
    Ct Try.prog w0 37 [.slice ao bs.length c1, .slice al ns.length cl'] K (h :: R)
      (fun v K' hs' => ∃ h', hs' = h' :: R ∧ K' = K ∧ ∃ ao' c', v = .slice ao' (bs ++ us ns).length c' ∧ Own h' ao' (bs ++ us ns).length c' 5 1 (bv (bs ++ us ns))) := by
  refine enter Try.func37 (by kernel_rfl) rfl rfl rfl ?_
  refine sq (rg (?_))
  refine fin hT 1 rfl (th (sq (sq (rg (?_)))))
  refine fin hT 1 rfl (th (bk (?_)))
  refine loop (σ := Nat × Option Addr × Nat × PH) (fun s => [(0, .slice s.2.1 (bs ++ us (ns.take s.1)).length s.2.2.1), (1, .slice al ns.length cl'), (5, .int .i64 (s.1 : Nat))]) (fun _ => K) (fun s => s.2.2.2 :: R) (fun s => s.1 ≤ ns.length ∧ Own s.2.2.2 s.2.1 (bs ++ us (ns.take s.1)).length s.2.2.1 5 1 (bv (bs ++ us (ns.take s.1)))) (fun s => ns.length - s.1) (0, ao, c1, h) (by simpa [us] using o) (by simp only [us, List.take_zero, List.append_nil]; exact ⟨rfl, rfl, rfl, trivial⟩) rfl rfl ?_
  rintro ⟨i, ao, c1, h⟩ ⟨hi, o⟩
  dsimp only at hi o ⊢
  refine sq (sq (rg (?_)))
  refine cmpS hT 3 rfl fun b10 h10 => ?_   -- ref.go:14 t10 t7 < t9
  refine fin hT 0 rfl (th (ifP h10 rfl (fun e2 => ?_) (fun e2 => ?_)))
  have hus := us_len (ns.take i) (fun n hn => hns n (List.mem_of_mem_take hn))
  have hlt : (ns.take i).length ≤ ns.length := by simp; omega
  · have hin : i < ns.length := by omega
    refine sk (th (sq (bk (sq (rg (?_))))))
    refine ix1 hT 2 i rfl rfl rfl x (uv_get hin) fun a15 hc15 => ?_   -- ref.go:15 t15 t13[t14]
    refine ld hT 0 rfl (In.cons hm) hc15 ?_
    refine cl hT 0 rfl (uintRef ns[i] (hns _ (List.getElem_mem hin))) ?_   -- ref.go:15 t17
    rintro v17 K17 hs17 ⟨g17, rfl, rfl, ao17, c17, rfl, o17⟩
    have hu := uint_le10 (hns _ (List.getElem_mem hin))
    refine fin hT 1 rfl (th (rg (?_)))
    refine appB hT 2 1 (bs ++ us (ns.take i)) (uint ns[i]) rfl rfl rfl o (.inr ⟨0, rfl⟩) o17.isS (by simp only [List.length_append]; omega) fun ao20 c20 g20 o20 => ?_
    have e : bs ++ us (ns.take i) ++ uint ns[i] = bs ++ us (ns.take (i + 1)) := by rw [List.append_assoc, take_succ_get ns i hin, us_append]; simp [us]
    rw [e] at o20 ⊢
    refine fin hT 1 rfl (bl (th (WC.drop (rg (?_)))))
    refine ar hT 1 rfl (i64w (by omega)) ?_   -- ref.go:14 t12 t11 add 1
    refine fin hT 1 rfl (?_)
    exact again (x := (i, ao, c1, h)) (i + 1, ao20, c20, g20) ⟨rfl, rfl, rfl, trivial⟩ rfl rfl ⟨by omega, o20⟩ (by dsimp only; omega)
  · refine ex (xt (xt (xb (th (sq (rg (?_)))))))
    obtain rfl : i = ns.length := by omega
    rw [List.take_of_length_le (Nat.le_refl _)] at o ⊢
    refine fin hT 2 rfl (th (rt (?_)))
    exact ret1 rfl rfl ⟨h, rfl, rfl, ao, c1, rfl, o⟩
theorem putCmdRef {w0 : World} {K : PH} {hs : List PH} (c : Cmd) (hs1 : c.ses < 18446744073709551616) (hs2 : c.seq < 18446744073709551616) :
    Ct Try.prog w0 15 [.agg c.v] K hs (fun v K' hs' => K' = K ∧ OutB (putCmd c) hs v hs') := by
  refine enter Try.func15 (by kernel_rfl) rfl rfl rfl ?_
  refine sq (rg (?_))
  refine bx hT 0 rfl fun b1 => ?_   -- ref.go:22 t1
  refine fin hT 2 rfl (th (sq (sq (rg (?_)))))
  refine ldp hT 1 0 rfl rfl rfl ?_   -- ref.go:23 t7 *t6
  refine cmpS hT 0 rfl fun b8 h8 => ?_   -- ref.go:23 t8 t7 = 1
  refine fin hT 0 rfl (th (ifP h8 rfl (fun e2 => ?_) (fun e2 => ?_)))
  · refine sq (sq (rg (?_)))
    refine ldp hT 1 0 rfl rfl rfl ?_   -- ref.go:24 t10 *t9
    refine cmpS hT 0 rfl fun b11 h11 => ?_   -- ref.go:24 t11 t10 ≠ 0
    refine' bjo hT 1 4 16 [11, 12] h11 rfl rfl rfl rfl rfl rfl rfl (fun _ => ?x4) (fun b16 h16 => ?_)   -- ref.go:24 t16
    case x4 =>
      refine ldp hT 1 0 rfl rfl rfl ?_   -- ref.go:24 t14 *t13
      refine cmpS hT 0 rfl fun b15 h15 => ?_   -- ref.go:24 t15 t14 ≠ 0
      exact fin hT 1 rfl (bjx h15 rfl rfl rfl)
    refine' bjo hT 1 4 21 [16, 17] h16 rfl rfl rfl rfl rfl rfl rfl (fun _ => ?x6) (fun b21 h21 => ?_)   -- ref.go:24 t21
    case x6 =>
      refine ldp hT 1 0 rfl rfl rfl ?_   -- ref.go:24 t19 *t18
      refine snS hT 0 rfl fun b20 h20 => ?_   -- ref.go:24 t20 t19 ≠ c
      exact fin hT 1 rfl (bjx h20 rfl rfl rfl)
    refine' bjo hT 1 4 26 [21, 22] h21 rfl rfl rfl rfl rfl rfl rfl (fun _ => ?x8) (fun b26 h26 => ?_)   -- ref.go:24 t26
    case x8 =>
      refine ldp hT 1 0 rfl rfl rfl ?_   -- ref.go:24 t24 *t23
      refine cmpS hT 0 rfl fun b25 h25 => ?_   -- ref.go:24 t25 t24 ≠ 0
      exact fin hT 1 rfl (bjx h25 rfl rfl rfl)
    refine fin hT 0 rfl (th (ifP h26 rfl (fun e10 => ?_) (fun e10 => ?_)))
    · refine sq (rg (?_))
      refine fin hT 2 rfl (th (rt (rT (rT (?_)))))
      refine WQ.drop (WQ.em ?_)
      exact ret2 rfl rfl rfl ⟨rfl, outN (putCmd_no fun ok => ok.elim (fun ⟨h0, h1, h2, h3, h4⟩ => e10.elim (fun e => e.elim (fun e => e.elim (fun e => e (by rw [h1]; rfl)) (fun e => e (by rw [h2]; rfl))) (fun e => e h3)) (fun e => e h4)) (fun ⟨h1, _⟩ => by omega))⟩
    · refine sk (th (sq (rg (?_))))
      refine lit hT 0 #[.int .u8 ((1 : Nat) : Int)] rfl (by decide) (by kernel_rfl) fun b27 => ?_   -- ref.go:27 t27
      refine fin hT 2 rfl (th (rt (rT (?_))))
      have hc : c = ⟨1, 0, 0, [], 0⟩ := by
        simp only [not_or, ne_eq, Decidable.not_not] at e10
        obtain ⟨⟨⟨h1, h2⟩, h3⟩, h4⟩ := e10
        obtain ⟨k, s, q, l, t⟩ := c
        dsimp only [Cmd.v] at *
        simp_all
      subst hc
      refine WQ.perm (List.Perm.swap _ _ _) (WQ.drop ?_)
      exact ret2 rfl rfl rfl ⟨rfl, outS (by decide) (own_byte b27 1 (by decide))⟩
  · refine sk (th (sq (sq (rg (?_)))))
    refine ldp hT 1 0 rfl rfl rfl ?_   -- ref.go:29 t29 *t28
    refine cmpS hT 0 rfl fun b30 h30 => ?_   -- ref.go:29 t30 t29 ≠ 2
    refine' bja hT 1 4 35 [30, 31] h30 rfl rfl rfl rfl rfl rfl rfl (fun _ => ?x12) (fun b35 h35 => ?_)   -- ref.go:29 t35
    case x12 =>
      refine ldp hT 1 0 rfl rfl rfl ?_   -- ref.go:29 t33 *t32
      refine cmpS hT 0 rfl fun b34 h34 => ?_   -- ref.go:29 t34 t33 ≠ 3
      exact fin hT 1 rfl (bjx h34 rfl rfl rfl)
    refine' bjo hT 1 5 41 [35, 36] h35 rfl rfl rfl rfl rfl rfl rfl (fun _ => ?x14) (fun b41 h41 => ?_)   -- ref.go:29 t41
    case x14 =>
      refine ldp hT 1 0 rfl rfl rfl ?_   -- ref.go:29 t38 *t37
      refine cmpS hT 1 rfl fun b40 h40 => ?_   -- ref.go:29 t40 t39 > 96
      exact fin hT 1 rfl (bjx h40 rfl rfl rfl)
    refine' bjo hT 1 4 46 [41, 42] h41 rfl rfl rfl rfl rfl rfl rfl (fun _ => ?x16) (fun b46 h46 => ?_)   -- ref.go:29 t46
    case x16 =>
      refine ldp hT 1 0 rfl rfl rfl ?_   -- ref.go:29 t44 *t43
      refine cmpS hT 0 rfl fun b45 h45 => ?_   -- ref.go:29 t45 t44 < 0
      exact fin hT 1 rfl (bjx h45 rfl rfl rfl)
    refine' bjo hT 1 4 51 [46, 47] h46 rfl rfl rfl rfl rfl rfl rfl (fun _ => ?x18) (fun b51 h51 => ?_)   -- ref.go:29 t51
    case x18 =>
      refine ldp hT 1 0 rfl rfl rfl ?_   -- ref.go:29 t49 *t48
      refine cmpS hT 0 rfl fun b50 h50 => ?_   -- ref.go:29 t50 t49 > 1073741824
      exact fin hT 1 rfl (bjx h50 rfl rfl rfl)
    refine fin hT 0 rfl (th (ifP h51 rfl (fun e20 => ?_) (fun e20 => ?_)))
    · refine sq (rg (?_))
      refine fin hT 2 rfl (th (rt (rT (?_))))
      refine WQ.drop (WQ.em ?_)
      exact ret2 rfl rfl rfl ⟨rfl, outN (putCmd_no fun ok => ok.elim (fun h => e2 h.1) (fun ⟨h1, h2, h3, h4, h5⟩ => by simp only [ByteArray.size, List.size_toArray] at e20; exact absurd e20 (by omega)))⟩
    · refine sk (th (sq (sq (rg (?_)))))
      refine ldp hT 1 0 rfl rfl rfl ?_   -- ref.go:32 t53 *t52
      refine cmpS hT 0 rfl fun b54 h54 => ?_   -- ref.go:32 t54 t53 = 3
      refine' bja hT 1 4 59 [54, 55] h54 rfl rfl rfl rfl rfl rfl rfl (fun _ => ?x22) (fun b59 h59 => ?_)   -- ref.go:32 t59
      case x22 =>
        refine ldp hT 1 0 rfl rfl rfl ?_   -- ref.go:32 t57 *t56
        refine cmpS hT 0 rfl fun b58 h58 => ?_   -- ref.go:32 t58 t57 ≠ 0
        exact fin hT 1 rfl (bjx h58 rfl rfl rfl)
      refine fin hT 0 rfl (th (ifP h59 rfl (fun e24 => ?_) (fun e24 => ?_)))
      · refine sq (rg (?_))
        refine fin hT 2 rfl (th (rt (rT (?_))))
        refine WQ.drop (WQ.em ?_)
        exact ret2 rfl rfl rfl ⟨rfl, outN (putCmd_no fun ok => ok.elim (fun h => e2 h.1) (fun ⟨h1, h2, h3, h4, h5⟩ => e24.2 (h5 e24.1)))⟩
      · have hw96 : c.word.length ≤ 96 := by simp only [ByteArray.size, List.size_toArray] at e20; omega
        refine sk (th (sq (rg (?_))))
        have hok : c.ok := .inr ⟨by omega, hw96, by omega, by omega, fun h => by have := e24; omega⟩
        obtain ⟨t, ht⟩ : ∃ t : Nat, c.wt = (t : Nat) := Int.eq_ofNat_of_zero_le (by omega)
        obtain ⟨k, hk⟩ : ∃ k : Nat, c.kind = (k : Nat) := Int.eq_ofNat_of_zero_le (by omega)
        have hu1 := uint_le10 (n := c.ses) hs1
        have hu2 := uint_le10 (n := c.seq) hs2
        have hu3 := uint_le10 (n := c.word.length) (by omega)
        refine ldp hT 1 0 rfl rfl rfl ?_   -- ref.go:35 t61 *t60
        refine ar hT 0 rfl (v' := .int .u8 ((k : Nat) : Int)) (by rw [hk, u8w (by omega)]) ?_
        refine lit hT 0 #[.int .u8 ((k : Nat) : Int)] rfl (by decide) (by kernel_rfl) fun b63 => ?_   -- ref.go:35 t63
        refine ldp hT 1 1 rfl rfl rfl ?_   -- ref.go:35 t65 *t64
        refine ldp hT 1 1 rfl rfl rfl ?_   -- ref.go:35 t67 *t66
        refine lit hT 0 #[.int .u64 (c.ses : Nat), .int .u64 (c.seq : Nat)] rfl (by decide) (by kernel_rfl) fun b68 => ?_   -- ref.go:35 t68
        refine cl hT 0 rfl (Ct.at 1 rfl (uintsRef _ _ [UInt8.ofNat k] _ _ [c.ses, c.seq] (own_byte b63 k (by omega)) (.inr ⟨0, rfl⟩) (isS_pt rfl rfl) (by simp; omega) (by simp) (by simp))) ?_   -- ref.go:35 t69
        rintro v69 K69 hs69 ⟨g69, rfl, rfl, ao69, c69, rfl, o69⟩
        have hus := us_len [c.ses, c.seq] (by simp; omega)
        have husl : [c.ses, c.seq].length = 2 := rfl
        refine fin hT 1 rfl (th (WC.drop (sq (rg (?_)))))
        refine ldp hT 1 1 rfl rfl rfl ?_   -- ref.go:36 t71 *t70
        refine cvb hT 0 rfl (by kernel_rfl) fun b72 c72 g72 o72 => ?_   -- ref.go:36 t72
        refine cl hT 0 rfl (putRef _ _ c.word (.inr ⟨0, rfl⟩) o72 (by omega)) ?_   -- ref.go:36 t73
        rintro v73 K73 hs73 ⟨g73, rfl, rfl, ao73, c73, rfl, o73⟩
        have hpl := putBytes_length c.word
        refine fin hT 1 rfl (th (WC.perm (List.Perm.swap _ _ _) (WC.drop (sq (rg (?_))))))
        refine appB hT 2 1 ([UInt8.ofNat k] ++ us [c.ses, c.seq]) (putBytes c.word) rfl rfl rfl o69 (.inr ⟨0, rfl⟩) o73.isS (by simp only [List.length_append, List.length_singleton]; omega) fun ao76 c76 g76 o76 => ?_
        refine fin hT 1 rfl (th (WC.drop (sq (sq (rg (?_))))))
        refine ldp hT 1 1 rfl rfl rfl ?_   -- ref.go:38 t78 *t77
        refine cmpS hT 0 rfl fun b79 h79 => ?_   -- ref.go:38 t79 t78 = 2
        refine fin hT 0 rfl (th (ifP h79 rfl (fun e26 => ?_) (fun e26 => ?_)))
        · refine rg (?_)
          refine ldp hT 2 1 rfl rfl rfl ?_   -- ref.go:39 t82 *t81
          refine ar hT 0 rfl (v' := .int .u64 ((t : Nat) : Int)) (by rw [ht, u64w (by omega)]) ?_
          refine lit hT 0 #[.int .u64 ((t : Nat) : Int)] rfl (by decide) (by kernel_rfl) fun b84 => ?_   -- ref.go:39 t84
          refine cl hT 0 rfl (Ct.at 1 rfl (uintsRef _ _ _ _ _ [t] o76 (.inr ⟨0, rfl⟩) (isS_pt rfl rfl) (by simp; omega) (by simp only [List.length_append, List.length_singleton]; omega) (by simp))) ?_   -- ref.go:39 t85
          rintro v85 K85 hs85 ⟨g85, rfl, rfl, ao85, c85, rfl, o85⟩
          refine fin hT 1 rfl (th (sq (rg (?_))))
          refine fin hT 3 rfl (th (rt (?_)))
          refine WQ.drop (WQ.perm (List.Perm.swap _ _ _) (WQ.drop ?_))
          exact ret2 rfl rfl rfl ⟨rfl, outS (by (obtain rfl : k = 2 := by omega); rw [putCmd, if_pos hok, Cmd.bytes, if_neg (by omega), if_pos e26, ht]; simp [us]) o85⟩
        · refine sk (th (sq (rg (?_))))
          refine fin hT 3 rfl (th (rt (?_)))
          refine WQ.perm (List.Perm.swap _ _ _) (WQ.drop ?_)
          exact ret2 rfl rfl rfl ⟨rfl, outS (by (obtain rfl : k = 3 := by omega); rw [putCmd, if_pos hok, Cmd.bytes, if_neg (by omega), if_neg e26]; simp [us]) o76⟩
end Go.Proofs.Ythpiokdibknpaaa
namespace Go.Proofs.Ythpiokdibknpaaa
open Go.En
set_option linter.unusedVariables false
set_option linter.unusedSimpArgs false
attribute [local irreducible] Code.wp wpList Calls

def refCmdA (b : List UInt8) : Cmd × Rd :=
  let x := rByte (b, 0)
  if x.1 = 1 then (⟨1, 0, 0, [], 0⟩, x.2)
  else
    let s := rUint mxU x.2
    let q := rUint mxU s.2
    let w := rBytes 96 q.2
    (⟨x.1, s.1, q.1, w.1, 0⟩, w.2)
theorem refCmdR_ne {b : List UInt8} (h : ¬ (rByte (b, 0)).1 = 2) : refCmdR b = refCmdA b := by
  unfold refCmdR refCmdA
  dsimp only
  by_cases h1 : (rByte (b, 0)).1 = 1
  · rw [if_pos h1, if_pos h1]
  · rw [if_neg h1, if_neg h1, if_neg h]
theorem refCmdR_eq {b : List UInt8} (h : (rByte (b, 0)).1 = 2) : refCmdR b = (⟨2, (refCmdA b).1.ses, (refCmdA b).1.seq, (refCmdA b).1.word, (rUint 1073741824 (refCmdA b).2).1⟩, (rUint 1073741824 (refCmdA b).2).2) := by
  unfold refCmdR refCmdA
  dsimp only
  rw [if_neg (by omega), if_pos h, if_neg (by omega)]
theorem refCmdB {b : List UInt8} {c : Cmd} {s : Rd} (hc : (c, s) = refCmdA b) (h2 : (rByte (b, 0)).1 = 2) : ((⟨c.kind, c.ses, c.seq, c.word, ((rUint 1073741824 s).1 : Nat)⟩ : Cmd), (rUint 1073741824 s).2) = refCmdR b := by
  have hk : c.kind = 2 := by
    have := congrArg (fun z => z.1.kind) hc
    dsimp only at this
    rw [this]
    unfold refCmdA
    dsimp only
    rw [if_neg (by omega), h2]
    rfl
  rw [refCmdR_eq h2, ← hc]
  dsimp only
  rw [hk]
theorem ec_ob {o : Option (List UInt8)} {b : List UInt8} : (ec o = 0 ∧ ob o = b) ↔ o = some b := by
  cases o <;> simp [ec, ob]
theorem getCmdRef {w0 : World} {K hb : PH} {hs : List PH} (ao : Option Addr) (cap : Nat) (b : List UInt8) (hm : In K hs hb) (x : IsS hb ao b.length cap 1 (bv b)) (hl : b.length < 1099511627776) :
    Ct Try.prog w0 18 [.slice ao b.length cap] K hs (fun v K' hs' => K' = K ∧ hs' = hs ∧ v = .tuple #[.agg ((getCmd b).getD Cmd.zero).v, .int .i64 (ec (getCmd b))]) := by
  refine enter Try.func18 (by kernel_rfl) rfl rfl rfl ?_
  refine sq (rg (?_))
  refine al hT 0 (.agg #[.int .i64 0, .int .u64 0, .int .u64 0, .string ⟨#[]⟩, .int .i64 0]) rfl (by kernel_rfl) fun b2 => ?_   -- ref.go:45 t2
  refine fin hT 1 rfl (th (sq (rg (?_))))
  refine bd hT 1 (rv ao b.length cap 0 0) rfl (fun w => by kernel_rfl) ?_   -- ref.go:46 t17
  refine cl hT 0 rfl (byteRef ao cap b (In.cons hm) x hl 0 0 (Nat.zero_le _)) ?_   -- ref.go:46 t18
  rintro v18 K18 hs18 ⟨rfl, rfl, p1, hp1, rfl, hd1⟩
  rw [List.drop_zero] at hd1 ⊢
  have hk256 := rByte_lt (b, 0)
  have E1 : (b.drop p1, (rByte (b, 0)).2.2) = (rByte (b, 0)).2 := Prod.ext hd1.symm rfl
  refine al hT 3 (.agg #[.slice none 0 0, .int .i64 0, .int .i64 0]) rfl (by kernel_rfl) fun b4 => ?_   -- ref.go:46 t4
  refine stS hT 0 0 rfl rfl (by kernel_rfl) rfl rfl ?_   -- ref.go:46 tNone t4 := t19
  refine fin hT 1 rfl (th (sq (rg (?_))))
  refine ar hT 1 rfl (i64w (by omega)) ?_   -- ref.go:47 t22 convert t21
  refine bd hT 0 (.agg (Cmd.mk ((rByte (b, 0)).1 : Nat) 0 0 [] 0).v) rfl (fun w => by kernel_rfl) ?_   -- ref.go:47 t23
  refine al hT 0 (.agg #[.int .i64 0, .int .u64 0, .int .u64 0, .string ⟨#[]⟩, .int .i64 0]) rfl (by kernel_rfl) fun b6 => ?_   -- ref.go:47 t6
  refine stS hT 0 0 rfl rfl (by kernel_rfl) rfl rfl ?_   -- ref.go:47 tNone t6 := t23
  refine fin hT 0 rfl (th (jn (σ := Cmd × Nat × Int) (fun s => [(0, .slice ao b.length cap), (2, .pointer (some ⟨b2, 0, none⟩)), (4, .pointer (some ⟨b4, 0, none⟩)), (5, .int .u8 ((rByte (b, 0)).1 : Nat)), (6, .pointer (some ⟨b6, 0, none⟩))]) (fun s => pt b6 s.1.v 24 :: pt b4 #[.slice ao b.length cap, .int .i64 ((s.2.1 : Nat) : Int), .int .i64 s.2.2] 73 :: pt b2 Cmd.zero.v 24 :: hs) (fun s => s.2.1 ≤ b.length ∧ (s.1, (b.drop s.2.1, s.2.2)) = refCmdA b) ?_ ?_))
  · refine sq (rg (?_))
    refine cmpS hT 1 rfl fun b25 h25 => ?_   -- ref.go:48 t25 t24 ≠ 1
    refine fin hT 0 rfl (th (ifP h25 rfl (fun e2 => ?_) (fun e2 => ?_)))
    · refine sq (rg (?_))
      refine ldS hT 0 1 rfl rfl (by kernel_rfl) ?_   -- ref.go:49 t27 t4
      refine cl hT 0 rfl (getUintRef ao cap b (In.cons3 hm) x hl p1 _ hp1 mxU) ?_   -- ref.go:49 t28
      rintro v28 K28 hs28 ⟨rfl, rfl, p2, hp2, rfl, hd2⟩
      have E2 : (b.drop p2, (rUint mxU (b.drop p1, (rByte (b, 0)).2.2)).2.2) = (rUint mxU (b.drop p1, (rByte (b, 0)).2.2)).2 := Prod.ext hd2.symm rfl
      refine al hT 3 (.agg #[.slice none 0 0, .int .i64 0, .int .i64 0]) rfl (by kernel_rfl) fun b7 => ?_   -- ref.go:49 t7
      refine stS hT 0 0 rfl rfl (by kernel_rfl) rfl rfl ?_   -- ref.go:49 tNone t7 := t29
      refine fin hT 1 rfl (th (sq (rg (?_))))
      refine ldS hT 0 0 rfl rfl (by kernel_rfl) ?_   -- ref.go:50 t32 t7
      refine cl hT 0 rfl (getUintRef ao cap b (In.cons4 hm) x hl p2 _ hp2 mxU) ?_   -- ref.go:50 t33
      rintro v33 K33 hs33 ⟨rfl, rfl, p3, hp3, rfl, hd3⟩
      have E3 := (Prod.ext hd3.symm rfl : (b.drop p3, (rUint mxU (b.drop p2, (rUint mxU (b.drop p1, (rByte (b, 0)).2.2)).2.2)).2.2) = (rUint mxU (b.drop p2, (rUint mxU (b.drop p1, (rByte (b, 0)).2.2)).2.2)).2)
      refine stS hT 3 0 rfl rfl (by kernel_rfl) rfl rfl ?_   -- ref.go:50 tNone t7 := t34
      refine fin hT 1 rfl (th (sq (rg (?_))))
      refine ldS hT 0 0 rfl rfl (by kernel_rfl) ?_   -- ref.go:51 t37 t7
      refine cl hT 0 rfl (getBytesRef ao cap b (In.cons4 hm) x hl p3 _ hp3 96 (by omega)) ?_   -- ref.go:51 t38
      rintro v38 K38 hs38 ⟨rfl, hy, rfl, p4, hp4, aoy, cy, rfl, hd4, oy⟩
      refine stS hT 3 1 rfl rfl (by kernel_rfl) rfl rfl ?_   -- ref.go:51 tNone t7 := t39
      refine fin hT 1 rfl (th (sq (rg (?_))))
      refine stp hT 2 2 rfl rfl rfl rfl ?_   -- ref.go:52 tNone t42 := t41
      refine fin hT 0 rfl (th (sq (rg (?_))))
      refine stp hT 2 2 rfl rfl rfl rfl ?_   -- ref.go:53 tNone t44 := t43
      refine fin hT 0 rfl (th (sq (rg (?_))))
      refine cvs hT 1 _ rfl (.inr ⟨0, rfl⟩) oy.isS (by kernel_rfl) ?_   -- ref.go:54 t46 t45
      refine stp hT 1 2 rfl rfl rfl rfl ?_   -- ref.go:54 tNone t47 := t46
      refine fin hT 0 rfl (th (rg (?_)))
      refine ldS hT 0 1 rfl rfl (by kernel_rfl) ?_   -- ref.go:55 t48 t7
      refine stS hT 0 3 rfl rfl (by kernel_rfl) rfl rfl ?_   -- ref.go:55 tNone t4 := t48
      refine fin hT 0 rfl (WQ.drop (WQ.drop ?_))
      exact jx (⟨((rByte (b, 0)).1 : Nat), _, _, _, 0⟩, p4, _) ⟨hp4, (by unfold refCmdA; dsimp only; rw [if_neg (fun h => e2 (by rw [h]; rfl)), ← E1, ← E2, ← E3]; exact Prod.ext rfl (Prod.ext hd4.symm rfl))⟩ ⟨rfl, rfl, rfl, rfl, rfl, trivial⟩ rfl rfl
    · have e2 : (rByte (b, 0)).1 = 1 := by omega
      refine sk (?_)
      exact jx (⟨((rByte (b, 0)).1 : Nat), 0, 0, [], 0⟩, p1, _) ⟨hp1, (by unfold refCmdA; dsimp only; rw [if_pos e2, ← E1, e2]; rfl)⟩ ⟨rfl, rfl, rfl, rfl, rfl, trivial⟩ rfl rfl
  · rintro ⟨c, p, e⟩ ⟨hp, hc⟩
    dsimp only at hp hc ⊢
    refine jn (σ := Cmd × Nat × Int) (fun s => [(0, .slice ao b.length cap), (2, .pointer (some ⟨b2, 0, none⟩)), (4, .pointer (some ⟨b4, 0, none⟩)), (6, .pointer (some ⟨b6, 0, none⟩))]) (fun s => pt b6 s.1.v 24 :: pt b4 #[.slice ao b.length cap, .int .i64 ((s.2.1 : Nat) : Int), .int .i64 s.2.2] 73 :: pt b2 Cmd.zero.v 24 :: hs) (fun s => s.2.1 ≤ b.length ∧ (s.1, (b.drop s.2.1, s.2.2)) = refCmdR b) ?_ ?_
    · refine sq (rg (?_))
      refine cmpS hT 1 rfl fun b50 h50 => ?_   -- ref.go:57 t50 t49 = 2
      refine fin hT 0 rfl (th (ifP h50 rfl (fun e4 => ?_) (fun e4 => ?_)))
      · refine sq (rg (?_))
        refine ldS hT 0 1 rfl rfl (by kernel_rfl) ?_   -- ref.go:58 t52 t4
        refine cl hT 0 rfl (getUintRef ao cap b (In.cons3 hm) x hl p _ hp 1073741824) ?_   -- ref.go:58 t53
        rintro v53 K53 hs53 ⟨rfl, rfl, p5, hp5, rfl, hd5⟩
        have hw30 := rUint_le 1073741824 (b.drop p, e)
        refine al hT 3 (.agg #[.slice none 0 0, .int .i64 0, .int .i64 0]) rfl (by kernel_rfl) fun b11 => ?_   -- ref.go:58 t11
        refine stS hT 0 0 rfl rfl (by kernel_rfl) rfl rfl ?_   -- ref.go:58 tNone t11 := t54
        refine fin hT 1 rfl (th (sq (rg (?_))))
        refine ar hT 1 rfl (i64w (by omega)) ?_   -- ref.go:59 t57 convert t56
        refine stp hT 1 1 rfl rfl rfl rfl ?_   -- ref.go:59 tNone t58 := t57
        refine fin hT 0 rfl (th (rg (?_)))
        refine ldS hT 0 0 rfl rfl (by kernel_rfl) ?_   -- ref.go:60 t59 t11
        refine stS hT 0 2 rfl rfl (by kernel_rfl) rfl rfl ?_   -- ref.go:60 tNone t4 := t59
        refine fin hT 0 rfl (WQ.drop ?_)
        exact jx (⟨c.kind, c.ses, c.seq, c.word, ((rUint 1073741824 (b.drop p, e)).1 : Nat)⟩, p5, (rUint 1073741824 (b.drop p, e)).2.2) ⟨hp5, (by dsimp only; rw [← hd5]; exact refCmdB hc (by omega))⟩ ⟨rfl, rfl, rfl, rfl, trivial⟩ rfl rfl
      · refine sk (?_)
        exact jx (c, p, e) ⟨hp, by rw [refCmdR_ne (fun h => e4 (by rw [h]; rfl))]; exact hc⟩ ⟨rfl, rfl, rfl, rfl, trivial⟩ rfl rfl
    · clear hp hc
      rintro ⟨c, p, e⟩ ⟨hp, hc⟩
      dsimp only at hp hc ⊢
      have hmx : mxU = 18446744073709551615 := rfl
      have hbd := refCmd_bd b
      rw [← hc] at hbd
      dsimp only at hbd
      refine sq (rg (?_))
      refine ldS hT 0 0 rfl rfl (by kernel_rfl) ?_   -- ref.go:62 t61 t6
      refine cl hT 0 rfl (putCmdRef c (by omega) (by omega)) ?_   -- ref.go:62 t62
      rintro v62 K62 hs62 ⟨rfl, g, aog, cg, rfl, rfl, og⟩
      refine fin hT 5 rfl (th (sq (sq (rg (?_)))))
      refine ldS hT 0 2 rfl rfl (by kernel_rfl) ?_   -- ref.go:63 t65 t4
      refine cl hT 0 rfl (endRef ao cap b p e hp) ?_   -- ref.go:63 t66
      rintro v66 K66 hs66 ⟨rfl, rfl, rfl⟩
      refine cmpS hT 0 rfl fun b67 h67 => ?_   -- ref.go:63 t67 t66 ≠ 0
      refine' bjo hT 1 3 71 [67, 68] h67 rfl rfl rfl rfl rfl rfl rfl (fun _ => ?x6) (fun b71 h71 => ?_)   -- ref.go:63 t71
      case x6 =>
        refine cmpS hT 1 rfl fun b70 h70 => ?_   -- ref.go:63 t70 t69 ≠ 0
        exact fin hT 1 rfl (bjx h70 rfl rfl rfl)
      refine' bjo hT 1 6 78 [71, 72] h71 rfl rfl rfl rfl rfl rfl rfl (fun _ => ?x8) (fun b78 h78 => ?_)   -- ref.go:63 t78
      case x8 =>
        refine cvs hT 1 _ rfl (.inr ⟨0, rfl⟩) og.isS (by kernel_rfl) ?_   -- ref.go:63 t74 t73
        refine cvs hT 1 b rfl (In.cons4 hm) x (by kernel_rfl) ?_   -- ref.go:63 t76 t75
        refine snS hT 0 rfl fun b77 h77 => ?_   -- ref.go:63 t77 t74 ≠ t76
        exact fin hT 1 rfl (bjx h77 rfl rfl rfl)
      have hg := ref_getCmd b
      rw [← hc] at hg
      dsimp only at hg
      refine fin hT 0 rfl (th (ifP h78 rfl (fun e10 => ?_) (fun e10 => ?_)))
      · refine sq (rg (?_))
        refine bd hT 0 (.agg Cmd.zero.v) rfl (fun w => by kernel_rfl) ?_   -- ref.go:64 t79
        refine stS hT 0 3 rfl rfl (by kernel_rfl) rfl rfl ?_   -- ref.go:64 tNone t2 := t79
        refine fin hT 1 rfl (th (rt (rT (?_))))
        exact retcP 3 4 rfl rfl rfl rfl (by kernel_rfl) ⟨rfl, rfl, by rw [hg, if_neg (fun h => by have := ec_ob.2 h.2; exact e10.elim (fun e => e.elim (fun e => e h.1) (fun e => e this.1)) (fun e => e this.2))]; rfl⟩
      · refine sk (th (sq (rg (?_))))
        refine ldS hT 0 1 rfl rfl (by kernel_rfl) ?_   -- ref.go:66 t80 t6
        refine stS hT 0 3 rfl rfl (by kernel_rfl) rfl rfl ?_   -- ref.go:66 tNone t2 := t80
        refine fin hT 1 rfl (th (rt (?_)))
        exact retcP 3 4 rfl rfl rfl rfl (by kernel_rfl) ⟨rfl, rfl, by simp only [not_or, ne_eq, Decidable.not_not] at e10; rw [hg, if_pos ⟨e10.1.1, ec_ob.1 ⟨e10.1.2, e10.2⟩⟩]; rfl⟩
end Go.Proofs.Ythpiokdibknpaaa
