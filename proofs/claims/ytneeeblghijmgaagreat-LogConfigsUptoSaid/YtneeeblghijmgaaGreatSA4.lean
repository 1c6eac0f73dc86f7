/-
  Part 4 of what the proof needs (texts Uc Ud Wb Wc Wd We Wf Wg Wh Wi Wj Wk Ja Jb Jc Jd Je Jf Jg).
-/
import Derived.Test.YtneeeblghijmgaaGreatSA3
set_option linter.unusedSectionVars false
set_option linter.unusedSimpArgs false
set_option linter.unusedVariables false
section
namespace Go.En
theorem u64shlB (m : Nat) (h : m * 256 < 18446744073709551616) : Value.int .u64 (IntKind.u64.wrap (((m : Nat) : Int) * 2 ^ (min (8 : Int).toNat IntKind.u64.bits))) = .int .u64 ((m * 256 : Nat) : Int) := by
 have e : min (8 : Int).toNat IntKind.u64.bits = 8 := rfl
 rw [e, show ((m : Nat) : Int) * 2 ^ 8 = ((m * 256 : Nat) : Int) from by rw [Int.natCast_mul]; rfl, u64m, Nat.mod_eq_of_lt h]
theorem u64orB (m : Nat) (c : UInt8) (h : m * 256 + 256 <= 18446744073709551616) :
  Value.int .u64 (IntKind.u64.wrap (BitVec.ofInt 64 ((m * 256 : Nat) : Int) ||| BitVec.ofInt 64 ((c.toNat : Nat) : Int)).toNat) = .int .u64 ((c.toNat + 256 * m : Nat) : Int) := by
 have hc := c.toNat_lt
 have e : (BitVec.ofInt 64 ((m * 256 : Nat) : Int) ||| BitVec.ofInt 64 ((c.toNat : Nat) : Int)).toNat = c.toNat + 256 * m := by
  rw [BitVec.toNat_or, BitVec.ofInt_natCast, BitVec.ofInt_natCast, BitVec.toNat_ofNat, BitVec.toNat_ofNat, Nat.mod_eq_of_lt (by omega), Nat.mod_eq_of_lt (by omega), show m * 256 = 2 ^ 8 * m from by omega,
   <- Nat.two_pow_add_eq_or_of_lt (by omega)]
  omega
 rw [e, u64m, Nat.mod_eq_of_lt (by omega)]
end Go.En
namespace Go.Proofs.YtneeeblghijmgaaGreat
open Go.En
attribute [local irreducible] Code.wp wpList Calls
theorem readSC {w0 : World} {K h : PH} {hs : List PH} (sb b : Nat) (D : Dk) (c : Nat) (o : D.Ok c) (hc : c <= 1099511627) (hm : DskH K b D h) (area : Nat) (sv nv : Value) (i : Nat) (hi : i <= 1) :
  Ct Tryz.prog w0 94 [.pointer (some ⟨sb, 0, none⟩), .int .i64 ((i : Nat) : Int)] K (pt sb #[.pointer (some ⟨b, 0, none⟩), .int .u64 ((area : Nat) : Int), sv, nv] 160 :: h :: hs)
   (fun v K' hs' => hs' = pt sb #[.pointer (some ⟨b, 0, none⟩), .int .u64 ((area : Nat) : Int), sv, nv] 160 :: h :: hs /\ Le K K' /\ ∃ ao cap, v = .tuple #[.int .u64 (((sltRd D area i).1 : Nat) : Int), .slice ao (sltRd D area i).2.length cap] /\ IsS K' ao (sltRd D area i).2.length cap 1 (bv (sltRd D area i).2)) := by
 obtain ⟨S, hS⟩ : ∃ S, S = pt sb #[.pointer (some ⟨b, 0, none⟩), .int .u64 ((area : Nat) : Int), sv, nv] 160 := ⟨_, rfl⟩
 refine enter Tryz.func94 (by kernel_rfl) rfl rfl rfl ?_
 refine sq (rg ?_)
 refine fin hT 2 rfl (th (sq (rga [pt sb #[.pointer (some ⟨b, 0, none⟩), .int .u64 ((area : Nat) : Int), sv, nv] 160] 15 [0, 2, 4, 6, 8, 10, 12, 14, 16, 19, 20, 22, 24, 26, 28] (by simp) (by kernel_rfl) (by kernel_rfl) ?_)))
 refine dldp hT (by kernel_rfl) 3 0 rfl rfl rfl ?_
 refine dldp hT (by kernel_rfl) 3 0 rfl rfl rfl ?_
 refine dact hT (by kernel_rfl) 1 rfl ?_
 rw [<- hS]
 refine cl hT 0 rfl (Ct.at 1 rfl (readH b D c o hc hm ((area : Nat) : Int) ((i : Nat) : Int))) ?_
 rintro v22 K22 hs22 ⟨h', rfl, rfl, le, hR⟩
 refine dnexL [S] (by simp) (by simp) le ?_
 rcases hR with ⟨hn, rfl⟩ | ⟨bs, ao, cap, hb, hl, rfl, x⟩
 ·have e : sltRd D area i = (0, []) := by unfold sltRd; rw [hn]
  rw [e]
  refine dend hT (by kernel_rfl) 5 rfl (th (sq (sq (rg ?_))))
  refine cmp hT 2 rfl (fun h27 => ?_) (fun h27 => absurd (by omega) h27)
  refine fin hT 6 rfl (th (ifT rfl ?_))
  refine sq (rg ?_)
  refine fin hT 2 rfl (th (rt (rT ?_)))
  exact ret2 rfl rfl rfl ⟨rfl, le, none, 0, rfl, IsS.nil _ _ _ _⟩
 ·have e : sltRd D area i = sltSay bs i := by unfold sltRd; rw [hb]
  rw [e]
  obtain ⟨c8, hc8⟩ : ∃ c8, bs[8]? = some c8 := ⟨bs[8]'(by omega), List.getElem?_eq_getElem (by omega)⟩
  have hg8 : bs.getD 8 0 = c8 := by rw [List.getD_eq_getElem?_getD, hc8]; rfl
  have hx8 : (bv bs)[8]? = some (.int .u8 ((c8.toNat : Nat) : Int)) := by simp [bv, hc8]
  have h8lt := c8.toNat_lt
  refine dend hT (by kernel_rfl) 5 rfl (th (sq (sq (rg ?_))))
  refine cmp hT 2 rfl (fun h27 => absurd h27 (by omega)) (fun h27 => ?_)
  refine ix1 hT 2 8 rfl rfl rfl x hx8 fun a30 hc30 => ?_
  refine ld hT 0 rfl (.inl rfl) hc30 ?_
  refine cmpS hT 0 rfl fun b32 h32 => ?_
  refine fin hT 1 rfl (th (ifP h32 rfl (fun e4 => ?_) (fun e4 => ?_)))
  ·have e2 : sltSay bs i = (0, []) := by unfold sltSay; rw [hg8, if_pos (by omega)]
   rw [e2]
   refine sq (rg ?_)
   refine fin hT 2 rfl (th (rt (rT ?_)))
   exact ret2 rfl rfl rfl ⟨rfl, le, none, 0, rfl, IsS.nil _ _ _ _⟩
  ·obtain ⟨q, hq⟩ : ∃ q, q = bs.take 8 := ⟨_, rfl⟩
   have hql : q.length = 8 := by rw [hq, List.length_take]; omega
   obtain ⟨vv, hvv⟩ : ∃ vv, vv = (bs.drop 9).take c8.toNat := ⟨_, rfl⟩
   have hvl : vv.length = c8.toNat := by rw [hvv, List.length_take, List.length_drop]; omega
   have hq64 : un4 q < 18446744073709551616 := by have := un4_lt q 8 (by omega); omega
   have e2 : sltSay bs i = if un4 q % 2 = i /\ bs = sect (un4 q) vv then (un4 q, vv) else (0, []) := by unfold sltSay; rw [hg8, if_neg (by omega), <- hq, <- hvv]
   rw [e2]
   refine sk (th (sq (rg ?_)))
   refine fin hT 1 rfl (th (sq (sq (rg ?_))))
   refine fin hT 1 rfl (th (bk ?_))
   refine loop (σ := Nat) (fun j => [(0, .pointer (some ⟨sb, 0, none⟩)), (1, .int .i64 ((i : Nat) : Int)), (6, .slice ao bs.length cap), (8, .int .u64 ((un4 (q.drop j) : Nat) : Int)), (9, .int .i64 (((j : Nat) : Int) - 1))]) (fun _ => K22) (fun _ => S :: h' :: hs) (fun j => j <= 8) (fun j => j) 8 (Nat.le_refl _)
    ⟨rfl, rfl, rfl, by rw [List.drop_of_length_le (by omega)]; rfl, rfl, trivial⟩ rfl rfl ?_
   intro j hj
   refine sq (sq (rg ?_))
   refine cmpS hT 1 rfl fun b35 h35 => ?_
   refine fin hT 0 rfl (th (ifP h35 rfl (fun e6 => ?_) (fun e6 => ?_)))
   ·obtain ⟨k, rfl⟩ : ∃ k, j = k + 1 := ⟨j - 1, by omega⟩
    have hk : k < q.length := by omega
    have hlt : un4 (q.drop (k + 1)) < 256 ^ 7 := un4_lt _ 7 (by rw [List.length_drop]; omega)
    have hd := un4_drop q k hk
    obtain ⟨ck, hck⟩ : ∃ ck, ck = q[k] := ⟨_, rfl⟩
    have hbk : bs[k]? = some ck := by
     have h1 : q[k]? = bs[k]? := by rw [hq, List.getElem?_take_of_lt (by omega)]
     rw [<- h1, List.getElem?_eq_getElem hk, hck]
    have hxk : (bv bs)[k]? = some (.int .u8 ((ck.toNat : Nat) : Int)) := by simp [bv, hbk]
    rw [<- hck] at hd
    refine sk (th (sq (bk (rg ?_))))
    refine ar hT 1 rfl (u64shlB (un4 (q.drop (k + 1))) (by omega)) ?_
    refine ix1 hT 2 k rfl (show ((k + 1 : Nat) : Int) - 1 = ((k : Nat) : Int) by omega) rfl x hxk fun a42 hc42 => ?_
    refine ld hT 0 rfl (.inl rfl) hc42 ?_
    have hcl := ck.toNat_lt
    refine ar hT 0 rfl (u64w (by omega)) ?_
    refine ar hT 0 rfl (u64orB (un4 (q.drop (k + 1))) ck (by omega)) ?_
    refine fin hT 1 rfl (bl (th (rg ?_)))
    refine ar hT 1 rfl (v' := .int .i64 (((k : Nat) : Int) - 1)) (by rw [show ((k + 1 : Nat) : Int) - 1 - 1 = ((k : Nat) : Int) - 1 from by omega]; exact i64w (by omega)) ?_
    refine fin hT 1 rfl ?_
    exact again (x := k + 1) k ⟨rfl, rfl, rfl, by rw [hd]; rfl, rfl, trivial⟩ rfl rfl (by omega) (by omega)
   ·obtain rfl : j = 0 := by omega
    rw [List.drop_zero]
    refine ex (xt (xt (xb (th (sq (rg ?_))))))
    refine ix1 hT 2 8 rfl rfl rfl x hx8 fun a48 hc48 => ?_
    refine ld hT 0 rfl (.inl rfl) hc48 ?_
    refine ar hT 0 rfl (u8w (x := ((9 + c8.toNat : Nat) : Int)) (by omega)) ?_
    refine sl hT 0 9 vv.length rfl x rfl (by show ((9 + c8.toNat : Nat) : Int) = _; rw [hvl]) (by omega) (by
     show ((bv bs).drop (9 * 1)).take (vv.length * 1) = bv vv
     rw [hvl, hvv]
     simp [bv]) fun ao51 c51 x51 => ?_
    refine fin hT 1 rfl (th (sq (rg ?_)))
    refine cl hT 2 rfl (sectorC (un4 q) vv ao51 c51 (by omega) (.inl rfl) x51) ?_
    rintro v54 K54 hs54 ⟨rfl, rfl, rfl⟩
    have hsl : (sect (un4 q) vv).length = 64 := sect_length (by omega)
    have hss : (bv (sect (un4 q) vv)).toArray.size = 64 := by simp [bv, hsl]
    refine al hT 0 (.agg (bv (List.replicate 64 0)).toArray) rfl (by kernel_rfl) fun b11 => ?_
    refine stS hT 0 0 rfl rfl (by rw [hss]; kernel_rfl) (by rw [hss]; rfl) (by simp only [Array.all_toList, List.all_eq_true]; first | exact bv_one _ | (simp; intro u hu; exact bv_one _ u hu)) ?_
    refine fin hT 0 rfl (th (sq (sq (rg ?_))))
    refine ar hT 1 rfl (u_rem .u64 (un4 q) 2) ?_
    refine ar hT 1 rfl (u64w (x := ((i : Nat) : Int)) (by omega)) ?_
    refine cmpS hT 0 rfl fun b59 h59 => ?_
    refine' bjo hT 1 5 65 [59, 60] h59 rfl rfl rfl rfl rfl rfl rfl (fun _ => ?x8) (fun b65 h65 => ?_)
    case x8 =>
     refine sla hT 1 (sz := 1) 0 64 rfl rfl Tryz.underlying191 (by kernel_rfl) rfl rfl (Nat.le_refl _) (by decide) ?_
     simp only [add_mk, Nat.zero_mul, Nat.add_zero, Nat.sub_zero]
     have xR : IsS (pt b11 (bv (sect (un4 q) vv)).toArray 191) (some ⟨b11, 0, none⟩) (sect (un4 q) vv).length 64 1 (bv (sect (un4 q) vv)) := by
      have := bA_isS (g := b11) (ty := 191) (A := []) (B := sect (un4 q) vv) (C := []) (off := 0) (n := (sect (un4 q) vv).length) (cap := 64) rfl rfl (by omega)
      simpa using this
     have heq := equalC (w0 := w0) (K := K54) (hs := pt b11 (bv (sect (un4 q) vv)).toArray 191 :: S :: h' :: hs) ao (some ⟨b11, 0, none⟩) cap 64 bs (sect (un4 q) vv) (.inl rfl) (.inr ⟨0, rfl⟩) x xR (by omega)
     rw [hsl] at heq
     refine cl hT 0 rfl heq ?_
     rintro v63 K63 hs63 ⟨rfl, rfl, t63, rfl, h63⟩
     refine nmS fun b63 h63' => ?_
     refine cbS hT 0 _ rfl (bnot (h63'.trans h63)) fun b64 h64 => ?_
     exact fin hT 1 rfl (bjx h64 rfl rfl rfl)
    refine fin hT 0 rfl (th (ifP h65 rfl (fun e9 => ?_) (fun e9 => ?_)))
    ·rw [if_neg (by intro g; rcases e9 with g1 | g1; exact g1 (by have := g.1; omega); exact g1 g.2)]
     refine sq (rg ?_)
     refine fin hT 2 rfl (th (rt (rT (WQ.drop ?_))))
     exact ret2 rfl rfl rfl ⟨rfl, le, none, 0, rfl, IsS.nil _ _ _ _⟩
    ·rw [if_pos ⟨by rcases Decidable.em (un4 q % 2 = i) with g | g; exact g; exact absurd (.inl (by omega)) e9, by rcases Decidable.em (bs = sect (un4 q) vv) with g | g; exact g; exact absurd (.inr g) e9⟩]
     refine sk (th (sq (rg ?_)))
     refine fin hT 4 rfl (th (rt (WQ.drop ?_)))
     exact ret2 rfl rfl rfl ⟨rfl, le, ao51, c51, rfl, x51⟩
end Go.Proofs.YtneeeblghijmgaaGreat
end
section
namespace Go.En
def sltUp (D : Dk) (area : Nat) : Nat -> Slt
 | 0 => ⟨0, []⟩
 | i + 1 => (sltUp D area i).pick (sltRd D area i)
theorem sltSay_bd (b : List UInt8) (i : Nat) (hb : b.length = 64) : (sltSay b i).1 < 18446744073709551616 /\ (sltSay b i).2.length <= 48 := by
 unfold sltSay
 split
 ·simp
 ·rename_i h
  split
  ·have h1 := un4_lt (b.take 8) 8 (by rw [List.length_take]; omega)
   refine ⟨by dsimp only; omega, ?_⟩
   dsimp only
   rw [List.length_take]
   omega
  ·simp
theorem sltRd_bd {c : Nat} {D : Dk} (o : D.Ok c) (area i : Nat) : (sltRd D area i).1 < 18446744073709551616 /\ (sltRd D area i).2.length <= 48 := by
 unfold sltRd
 cases hr : D.read area i with
 | none => simp
 | some b =>
  refine sltSay_bd b i ?_
  unfold Dk.read at hr
  cases hs : D.sec area i with
  | none => rw [hs] at hr; cases hr
  | some s =>
   rw [hs] at hr
   simp only [Option.map_some, Option.some.injEq] at hr
   obtain ⟨h1, _, h3⟩ := o.secOk hs
   rw [<- hr, List.getLastD_eq_getLast?, List.getLast?_eq_some_getLast h1]
   exact h3 _ (List.getLast_mem h1)
def Slt.bd (S : Slt) : Prop := S.num < 18446744073709551616 /\ S.val.length <= 48
theorem sltUp_bd {c : Nat} {D : Dk} (o : D.Ok c) (area : Nat) : ∀ i, (sltUp D area i).bd
 | 0 => by simp [sltUp, Slt.bd]
 | i + 1 => by
  have h := sltUp_bd o area i
  unfold sltUp Slt.pick
  split
  ·exact sltRd_bd o area i
  ·exact h
theorem Slt.save_bd {S : Slt} (h : S.bd) (area : Nat) (D : Dk) (v : List UInt8) : (S.save area D v).1.bd := by
 unfold Slt.save
 split
 ·exact h
 ·rename_i hn
  obtain ⟨h1, h2⟩ := h
  split
  ·dsimp only
   split
   ·exact ⟨by dsimp only; omega, by dsimp only; omega⟩
   ·exact ⟨h1, h2⟩
  ·exact ⟨h1, h2⟩
def sltA (b area : Nat) (S : Slt) (ao : Option Addr) (cap : Nat) : Array Value := #[.pointer (some ⟨b, 0, none⟩), .int .u64 ((area : Nat) : Int), .slice ao S.val.length cap, .int .u64 ((S.num : Nat) : Int)]
theorem DOk.save {c : Nat} {D : Dk} (o : DOk c D) (S : Slt) (area : Nat) (ha : area <= 18446744073709551615) (v : List UInt8) : DOk (c + 2) (S.save area D v).2.1 := by
 unfold Slt.save
 split
 ·exact o.up (by omega)
 ·split
  ·exact (o.write _ _ _ (by omega)).sync _
  ·exact (o.write _ _ _ (by omega)).up (by omega)
end Go.En
namespace Go.Proofs.YtneeeblghijmgaaGreat
open Go.En
attribute [local irreducible] Code.wp wpList Calls
def SltH (K : PH) (sb b area : Nat) (S : Slt) (h : PH) : Prop := ∃ ao cap, h = pt sb (sltA b area S ao cap) 160 /\ IsS K ao S.val.length cap 1 (bv S.val)
theorem SltH.le {K K' : PH} (l : Le K K') {sb b area : Nat} {S : Slt} {h : PH} (x : SltH K sb b area S h) : SltH K' sb b area S h := let ⟨a, c, h1, h2⟩ := x; ⟨a, c, h1, h2.le l⟩
theorem openSC {w0 : World} {K h : PH} {hs : List PH} (b : Nat) (D : Dk) (c : Nat) (o : D.Ok c) (hc : c <= 1099511627) (hm : DskH K b D h) (area : Nat) :
  Ct Tryz.prog w0 58 [.pointer (some ⟨b, 0, none⟩), .int .u64 ((area : Nat) : Int)] K (h :: hs)
   (fun v K' hs' => (D.dead = true /\ K' = K /\ hs' = h :: hs /\ v = .tuple #[.pointer none, .int .i64 30]) \/
    (D.dead = false /\ Le K K' /\ ∃ sb s, hs' = s :: h :: hs /\ SltH K' sb b area (sltOpen D area) s /\ v = .tuple #[.pointer (some ⟨sb, 0, none⟩), .int .i64 0])) := by
 refine enter Tryz.func58 (by kernel_rfl) rfl rfl rfl ?_
 refine sq (rg ?_)
 refine fin hT 2 rfl (th (sq (sq (rg ?_))))
 refine cl hT 1 rfl (deadH b D hm) ?_
 rintro v11 K11 hs11 ⟨rfl, rfl, rfl⟩
 refine fin hT 0 rfl (th (ifB rfl (fun e1 => ?_) (fun e1 => ?_)))
 ·refine sq (rg ?_)
  refine fin hT 2 rfl (th (rt (rT ?_)))
  exact ret2 rfl rfl rfl (.inl ⟨e1, rfl, rfl, rfl⟩)
 ·refine sk (th (sq (rg ?_)))
  refine bd hT 2 (.agg (sltA b area ⟨0, []⟩ none 0)) rfl (fun w => by kernel_rfl) ?_
  refine bx hT 0 rfl fun b15 => ?_
  refine fin hT 1 rfl (th (sq (sq (rg ?_))))
  refine fin hT 1 rfl (th (bk ?_))
  refine loop (σ := Nat × PH × Option Addr × Nat) (fun s => [(6, .pointer (some ⟨b15, 0, none⟩)), (16, .int .i64 ((s.1 : Nat) : Int))]) (fun s => s.2.1) (fun s => pt b15 (sltA b area (sltUp D area s.1) s.2.2.1 s.2.2.2) 160 :: h :: hs)
   (fun s => s.1 <= 2 /\ Le K11 s.2.1 /\ IsS s.2.1 s.2.2.1 (sltUp D area s.1).val.length s.2.2.2 1 (bv (sltUp D area s.1).val)) (fun s => 2 - s.1) (0, K11, none, 0) ⟨by dsimp only; omega, Le.refl _, IsS.nil _ _ _ _⟩ ⟨rfl, rfl, trivial⟩ rfl rfl ?_
  rintro ⟨i, K1, ao, cap⟩ ⟨hi, le, x⟩
  dsimp only at *
  have hbd := sltUp_bd o area i
  refine sq (rg ?_)
  refine cmpS hT 0 rfl fun b17 h17 => ?_
  refine fin hT 0 rfl (th (sq (ifP h17 rfl (fun e3 => ?_) (fun e3 => ?_))))
  ·refine sk (th (sq (bk (sq (rg ?_)))))
   refine fin hT 2 rfl (th (sq (rg ?_)))
   refine cl hT 2 rfl (readSC b15 b D c o hc (hm.le le) area _ _ i (by omega)) ?_
   rintro v22 K22 hs22 ⟨rfl, le2, ao2, cap2, rfl, x2⟩
   refine fin hT 5 rfl (th (sq (rg ?_)))
   refine ldp hT 4 0 rfl rfl rfl ?_
   refine cmpS hT 0 rfl fun b30 h30 => ?_
   refine fin hT 0 rfl (th (ifP h30 rfl (fun e5 => ?_) (fun e5 => ?_)))
   ·have e : sltUp D area (i + 1) = ⟨(sltRd D area i).1, (sltRd D area i).2⟩ := by rw [sltUp, Slt.pick, if_pos (by omega)]
    refine rg ?_
    refine stp hT 6 0 rfl rfl rfl rfl ?_
    refine stp hT 2 0 rfl rfl rfl rfl ?_
    refine fin hT 0 rfl (bl (th (rg ?_)))
    refine ar hT 0 rfl (i64w (x := ((i + 1 : Nat) : Int)) (by omega)) ?_
    refine fin hT 1 rfl ?_
    exact again (x := (i, K1, ao, cap)) (i + 1, K22, ao2, cap2) ⟨rfl, rfl, trivial⟩ rfl (by dsimp only; rw [e]; rfl) ⟨by dsimp only; omega, le.trans le2, by dsimp only; rw [e]; exact x2⟩ (by dsimp only; omega)
   ·have e : sltUp D area (i + 1) = sltUp D area i := by rw [sltUp, Slt.pick, if_neg (by omega)]
    refine sk (bl (th (rg ?_)))
    refine ar hT 0 rfl (i64w (x := ((i + 1 : Nat) : Int)) (by omega)) ?_
    refine fin hT 1 rfl ?_
    exact again (x := (i, K1, ao, cap)) (i + 1, K22, ao, cap) ⟨rfl, rfl, trivial⟩ rfl (by dsimp only; rw [e]; rfl) ⟨by dsimp only; omega, le.trans le2, by dsimp only; rw [e]; exact x.le le2⟩ (by dsimp only; omega)
  ·obtain rfl : i = 2 := by omega
   refine ex (xt (xt (xb (th (sq (rg ?_))))))
   refine fin hT 3 rfl (th (rt ?_))
   exact ret2 rfl rfl rfl (.inr ⟨e1, le, b15, _, rfl, ⟨ao, cap, rfl, x⟩, rfl⟩)
theorem valueSC {w0 : World} {K s : PH} {hs : List PH} (sb b area : Nat) (S : Slt) (hS : SltH K sb b area S s) (hb : S.bd) :
  Ct Tryz.prog w0 97 [.pointer (some ⟨sb, 0, none⟩)] K (s :: hs)
   (fun v K' hs' => ∃ h', hs' = h' :: hs /\ h' = s /\ Le K K' /\ ∃ ao c, v = .slice ao S.val.length c /\ IsS K' ao S.val.length c 1 (bv S.val)) := by
 obtain ⟨ao, cap, rfl, x⟩ := hS
 refine enter Tryz.func97 (by kernel_rfl) rfl rfl rfl ?_
 refine sq (rg ?_)
 refine fin hT 1 rfl (th (sq (rg ?_)))
 refine ldp hT 3 0 rfl rfl rfl ?_
 refine cl hT 0 rfl (cloneB ao cap S.val (.inl rfl) x (by have := hb.2; omega)) ?_
 rintro v7 K7 hs7 ⟨rfl, h', ao', c', rfl, rfl, o⟩
 refine fin hT 1 rfl (th (rt (WQ.frz fun K' l1 l2 => ?_)))
 exact ret1 rfl rfl ⟨_, rfl, rfl, l1, ao', c', rfl, o.isS.le l2⟩
theorem numberSC {w0 : World} {K s : PH} {hs : List PH} (sb b area : Nat) (S : Slt) (hS : SltH K sb b area S s) :
  Ct Tryz.prog w0 95 [.pointer (some ⟨sb, 0, none⟩)] K (s :: hs)
   (fun v K' hs' => K' = K /\ hs' = s :: hs /\ v = .int .u64 ((S.num : Nat) : Int)) := by
 obtain ⟨ao, cap, rfl, x⟩ := hS
 refine enter Tryz.func95 (by kernel_rfl) rfl rfl rfl ?_
 refine sq (rg ?_)
 refine fin hT 1 rfl (th (sq (rg ?_)))
 refine ldp hT 3 0 rfl rfl rfl ?_
 refine fin hT 1 rfl (th (rt ?_))
 exact ret1 rfl rfl ⟨rfl, rfl, rfl⟩
theorem saveSC {w0 : World} {K s h hv : PH} {hs : List PH} (sb b area : Nat) (S : Slt) (hS : SltH K sb b area S s) (hbd : S.bd) (D : Dk) (c : Nat) (o : D.Ok c) (hc : c <= 1099511626) (hm : DskH K b D h) (ha : area <= 18446744073709551615)
  (v : List UInt8) (ao : Option Addr) (cap : Nat) (hl : v.length < 1099511627776) (hin : In K hs hv) (x : IsS hv ao v.length cap 1 (bv v)) :
  Ct Tryz.prog w0 76 [.pointer (some ⟨sb, 0, none⟩), .slice ao v.length cap] K (s :: h :: hs)
   (fun u K' hs' => Le K K' /\ ∃ s' h', hs' = s' :: h' :: hs /\ SltH K' sb b area (S.save area D v).1 s' /\ DskH K' b (S.save area D v).2.1 h' /\ u = .int .i64 (S.save area D v).2.2) := by
 obtain ⟨aS, cS, rfl, xS⟩ := hS
 obtain ⟨hb1, hb2⟩ := hbd
 refine enter Tryz.func76 (by kernel_rfl) rfl rfl rfl ?_
 refine sq (rg ?_)
 refine fin hT 1 rfl (th (sq (sq (rg ?_))))
 refine cmpS hT 2 rfl fun b9 h9 => ?_
 refine' bjo hT 1 6 16 [9, 10] h9 rfl rfl rfl rfl rfl rfl rfl (fun _ => ?x2) (fun b16 h16 => ?_)
 case x2 =>
  refine ldp hT 3 0 rfl rfl rfl ?_
  refine cmpS hT 0 rfl fun b15 h15 => ?_
  exact fin hT 1 rfl (bjx h15 rfl rfl rfl)
 refine fin hT 0 rfl (th (ifP h16 rfl (fun e4 => ?_) (fun e4 => ?_)))
 ·have e : S.save area D v = (S, D, 40) := by unfold Slt.save; rw [if_pos (by omega)]
  rw [e]
  refine sq (rg ?_)
  refine fin hT 1 rfl (th (rt (rT ?_)))
  exact ret1 rfl rfl ⟨Le.refl _, _, _, rfl, ⟨aS, cS, rfl, xS⟩, hm, rfl⟩
 ·have hvl : v.length <= 48 := by omega
  have e : S.save area D v = if (D.write area (((S.num + 1) % 2 : Nat) : Int) (sect (S.num + 1) v)).2 = 0 then
    (if ((D.write area (((S.num + 1) % 2 : Nat) : Int) (sect (S.num + 1) v)).1.sync area).2 = 0 then ⟨S.num + 1, v⟩ else S, ((D.write area (((S.num + 1) % 2 : Nat) : Int) (sect (S.num + 1) v)).1.sync area).1, ((D.write area (((S.num + 1) % 2 : Nat) : Int) (sect (S.num + 1) v)).1.sync area).2)
   else (S, (D.write area (((S.num + 1) % 2 : Nat) : Int) (sect (S.num + 1) v)).1, (D.write area (((S.num + 1) % 2 : Nat) : Int) (sect (S.num + 1) v)).2) := by unfold Slt.save; rw [if_neg (by omega)]
  rw [e]
  refine sk (th (sq (rg ?_)))
  refine ldp hT 3 0 rfl rfl rfl ?_
  refine ar hT 0 rfl (u64w (x := ((S.num + 1 : Nat) : Int)) (by omega)) ?_
  refine cl hT 1 rfl (sectorC (S.num + 1) v ao cap hvl (In.cons (In.cons hin)) x) ?_
  rintro v23 K23 hs23 ⟨rfl, rfl, rfl⟩
  have hsl : (sect (S.num + 1) v).length = 64 := sect_length hvl
  have hss : (bv (sect (S.num + 1) v)).toArray.size = 64 := by simp [bv, hsl]
  refine al hT 0 (.agg (bv (List.replicate 64 0)).toArray) rfl (by kernel_rfl) fun b5 => ?_
  refine stS hT 0 0 rfl rfl (by rw [hss]; kernel_rfl) (by rw [hss]; rfl) (by simp only [Array.all_toList, List.all_eq_true]; first | exact bv_one _ | (simp; intro u hu; exact bv_one _ u hu)) ?_
  have xR : IsS (pt b5 (bv (sect (S.num + 1) v)).toArray 191) (some ⟨b5, 0, none⟩) (sect (S.num + 1) v).length 64 1 (bv (sect (S.num + 1) v)) := by
   have := bA_isS (g := b5) (ty := 191) (A := []) (B := sect (S.num + 1) v) (C := []) (off := 0) (n := (sect (S.num + 1) v).length) (cap := 64) rfl rfl (by omega)
   simpa using this
  refine fin hT 0 rfl (th (sq (rga [pt sb (sltA b area S aS cS) 160] 18 [0, 2, 4, 6, 8, 10, 12, 14, 16, 18, 20, 22, 24, 26, 28, 30, 33, 34] (by simp) (by kernel_rfl) (by kernel_rfl) ?_)))
  refine dldp hT (by kernel_rfl) 3 0 rfl rfl rfl ?_
  refine dldp hT (by kernel_rfl) 3 0 rfl rfl rfl ?_
  refine dldp hT (by kernel_rfl) 3 0 rfl rfl rfl ?_
  refine dar hT (by kernel_rfl) 0 rfl (u64w (x := ((S.num + 1 : Nat) : Int)) (by omega)) ?_
  refine dar hT (by kernel_rfl) 0 rfl (u_rem .u64 (S.num + 1) 2) ?_
  refine dar hT (by kernel_rfl) 0 rfl (i64w (x := (((S.num + 1) % 2 : Nat) : Int)) (by omega)) ?_
  refine dsla hT (by kernel_rfl) 0 (sz := 1) 0 64 rfl rfl Tryz.underlying191 (by kernel_rfl) rfl rfl (Nat.le_refl _) (by decide) ?_
  simp only [add_mk, Nat.zero_mul, Nat.add_zero, Nat.sub_zero]
  refine dact hT (by kernel_rfl) 0 rfl ?_
  have hw := writeH (w0 := w0) (K := K23) (h := h) (hs := [pt b5 (bv (sect (S.num + 1) v)).toArray 191, pt sb (sltA b area S aS cS) 160] ++ hs) b D c o (by omega) hm area (((S.num + 1) % 2 : Nat) : Int) (by omega) (some ⟨b5, 0, none⟩) 64 (sect (S.num + 1) v) (.inr ⟨0, rfl⟩) xR
  rw [hsl] at hw
  obtain ⟨W, hW⟩ : ∃ W, W = D.write area (((S.num + 1) % 2 : Nat) : Int) (sect (S.num + 1) v) := ⟨_, rfl⟩
  have oW : W.1.Ok (c + 1) := by rw [hW]; exact o.write _ _ _
  rw [<- hW] at hw ⊢
  refine cl hT 0 rfl (Ct.at 2 rfl hw) ?_
  rintro v40 K40 hs40 ⟨h', rfl, le, hm', rfl⟩
  refine dnexL [pt sb (sltA b area S aS cS) 160] (by simp) (by simp) le ?_
  refine dend hT (by kernel_rfl) 1 rfl (th (sq (sq (rg ?_))))
  refine cmpS hT 1 rfl fun b42 h42 => ?_
  refine fin hT 0 rfl (th (ifP h42 rfl (fun e6 => ?_) (fun e6 => ?_)))
  ·rw [if_pos e6]
   refine rga [pt sb (sltA b area S aS cS) 160] 10 [0, 2, 4, 6, 8, 10, 12, 14, 17, 18] (by simp) (by kernel_rfl) (by kernel_rfl) ?_
   refine dldp hT (by kernel_rfl) 3 0 rfl rfl rfl ?_
   refine dldp hT (by kernel_rfl) 3 0 rfl rfl rfl ?_
   refine dact hT (by kernel_rfl) 0 rfl ?_
   refine cl hT 0 rfl (Ct.at 2 rfl (syncH b W.1 (c + 1) oW (by omega) hm' area)) ?_
   rintro v51 K51 hs51 ⟨h2, rfl, rfl, hm2, rfl⟩
   refine dnex [pt sb (sltA b area S aS cS) 160] (by simp) (by simp) rfl ?_
   refine dend hT (by kernel_rfl) 1 rfl (th (sq (sq (rg ?_))))
   refine cmpS hT 1 rfl fun b53 h53 => ?_
   refine fin hT 0 rfl (th (ifP h53 rfl (fun e8 => ?_) (fun e8 => ?_)))
   ·rw [if_pos e8]
    refine sq (rg ?_)
    refine ldp hT 3 1 rfl rfl rfl ?_
    refine ar hT 0 rfl (u64w (x := ((S.num + 1 : Nat) : Int)) (by omega)) ?_
    refine stp hT 2 1 rfl rfl rfl rfl ?_
    refine fin hT 0 rfl (th (rg ?_))
    obtain ⟨hv', hin', lev⟩ := hin.le le
    refine cl hT 2 rfl (cloneB ao cap v (In.cons (In.cons (In.cons hin'))) (x.le lev) (by omega)) ?_
    rintro v63 K63 hs63 ⟨rfl, g, ao', c', rfl, rfl, og⟩
    refine stp hT 2 2 rfl rfl rfl rfl ?_
    refine fin hT 0 rfl (th (sq (rg ?_)))
    refine fin hT 2 rfl (th (rt (WQ.frz fun K' l1 l2 => WQ.drop ?_)))
    exact ret1 rfl rfl ⟨le.trans l1, _, _, rfl, ⟨ao', c', rfl, og.isS.le l2⟩, hm2.le l1, by rw [e8]⟩
   ·rw [if_neg e8]
    refine sk (th (sq (rg ?_)))
    refine fin hT 2 rfl (th (rt (WQ.drop ?_)))
    exact ret1 rfl rfl ⟨le, _, _, rfl, ⟨aS, cS, rfl, xS.le le⟩, hm2, rfl⟩
  ·rw [if_neg e6]
   refine sk (th (sq (sq (rg ?_))))
   refine cmpS hT 1 rfl fun b53 h53 => ?_
   refine fin hT 0 rfl (th (ifPF h53 e6 rfl ?_))
   refine sk (th (sq (rg ?_)))
   refine fin hT 2 rfl (th (rt (WQ.drop ?_)))
   exact ret1 rfl rfl ⟨le, _, _, rfl, ⟨aS, cS, rfl, xS.le le⟩, hm', rfl⟩
end Go.Proofs.YtneeeblghijmgaaGreat
end
section
namespace Go.En
theorem Ct.bun2 {P : Program} {w0 : World} {f : FuncId} {args : List Value} {K : PH} {m hs : List PH} {R R' : Value -> PH -> List PH -> Prop} (d : Djs m) (c : Ct P w0 f args K (m ++ hs) R)
  (h : ∀ v K' hs', R v K' hs' -> ∃ m' t', hs' = m' ++ t' /\ (Djs m' -> R' v K' (uns m' :: t'))) : Ct P w0 f args K (uns m :: hs) R' :=
 ⟨c.1, fun w hw => (c.2 w (hw.split d)).mono fun e w' he => by
  obtain ⟨v, K', hs', rfl, hR, hS⟩ := he
  obtain ⟨m', t', rfl, h2⟩ := h v K' hs' hR
  obtain ⟨d', hS'⟩ := Sat.join m' hS
  exact ⟨v, K', _, rfl, h2 d', hS'⟩⟩
def recR (K : PH) (c : List Value) (r : List UInt8) : Prop := ∃ ao k, c = [.slice ao r.length k] /\ IsS K ao r.length k 1 (bv r)
theorem recR.le {K K' : PH} (l : Le K K') {c : List Value} {r : List UInt8} (h : recR K c r) : recR K' c r := let ⟨a, k, h1, h2⟩ := h; ⟨a, k, h1, h2.le l⟩
def segR (c : List Value) (s : Nat × Nat) : Prop := c = [.int .u64 ((s.1 : Nat) : Int), .int .u64 ((s.2 : Nat) : Int)]
def wlA (db : Nat) (ob : Option Nat) (first : Nat) (lv ov : Value) (next : Nat) (code : Int) : Array Value :=
 #[.pointer (ob.map fun b => ⟨b, 0, none⟩), .pointer (some ⟨db, 0, none⟩), .int .u64 ((first : Nat) : Int), lv, ov, .int .u64 ((next : Nat) : Int), .int .i64 code]
def wopA (o : WOp) (aR : Option Addr) (cR : Nat) : Array Value := #[.int .u64 ((o.num : Nat) : Int), .int .u64 ((o.idx : Nat) : Int), .int .i64 ((o.full : Nat) : Int), .slice aR o.rest.length cR]
theorem ownz_of {h : PH} {ao : Option Addr} {n n' cap e size : Nat} {xs ys : List Value} (o : OwnZ h ao n cap e size xs) (h1 : n = n') (h2 : xs = ys) : OwnZ h ao n' cap e size ys := by subst h1; subst h2; exact o
theorem wrL_step (f : Nat) (o : WOp) (D : Dk) : wrL (f + 1) o D =
  if (D.write (segA o.num) o.full (UInt8.ofNat (min o.rest.length 63) :: o.rest.take (min o.rest.length 63))).2 ≠ 0 \/ o.rest.length < 63 then
   (o, (D.write (segA o.num) o.full (UInt8.ofNat (min o.rest.length 63) :: o.rest.take (min o.rest.length 63))).1, (D.write (segA o.num) o.full (UInt8.ofNat (min o.rest.length 63) :: o.rest.take (min o.rest.length 63))).2)
  else if o.rest.length = 63 then ({ o with full := o.full + 1, rest := [] }, (D.write (segA o.num) o.full (UInt8.ofNat (min o.rest.length 63) :: o.rest.take (min o.rest.length 63))).1, 0)
  else wrL f { o with full := o.full + 1, rest := o.rest.drop 63 } (D.write (segA o.num) o.full (UInt8.ofNat (min o.rest.length 63) :: o.rest.take (min o.rest.length 63))).1 := rfl
end Go.En
namespace Go.Proofs.YtneeeblghijmgaaGreat
open Go.En
attribute [local irreducible] Code.wp wpList Calls
def OpH (ob : Option Nat) (op : Option WOp) (oH rH : PH) : Prop := match op with
 | none => ob = none /\ oH = em /\ rH = em
 | some o => ∃ b aR cR, ob = some b /\ oH = pt b (wopA o aR cR) 189 /\ OwnZ rH aR o.rest.length cR 5 1 (bv o.rest)
def WalM (K : PH) (wb db : Nat) (W : Wl) (m : List PH) : Prop :=
 ∃ ob aL cL aO cO oH rH gL gO, m = [pt wb (wlA db ob W.first (.slice aL W.recs.length cL) (.slice aO W.old.length cO) W.next W.code) 146, oH, rH, gL, gO] /\ OpH ob W.op oH rH /\
  SlZ 1 30 (recR K) gL aL W.recs.length cL W.recs /\ SlZ 2 173 segR gO aO W.old.length cO W.old
theorem WalM.le {K K' : PH} (l : Le K K') {wb db : Nat} {W : Wl} {m : List PH} (h : WalM K wb db W m) : WalM K' wb db W m := by
 obtain ⟨ob, aL, cL, aO, cO, oH, rH, gL, gO, h1, h2, h3, h4⟩ := h
 exact ⟨ob, aL, cL, aO, cO, oH, rH, gL, gO, h1, h2, h3.imp fun _ _ h => h.le l, h4⟩
theorem areaC {w0 : World} {K : PH} {hs : List PH} (n : Nat) (hn : n <= 2305843009213693952) : Ct Tryz.prog w0 127 [.int .u64 ((n : Nat) : Int)] K hs (fun v K' hs' => K' = K /\ hs' = hs /\ v = .int .u64 (segA n)) := by
 refine enter Tryz.func127 (by kernel_rfl) rfl rfl rfl ?_
 refine sq (rg ?_)
 refine fin hT 1 rfl (th (sq (rg ?_)))
 refine ar hT 1 rfl (u64w (x := ((4 * n : Nat) : Int)) (by omega)) ?_
 refine ar hT 0 rfl (u64w (x := ((4 * n + 1 : Nat) : Int)) (by omega)) ?_
 refine fin hT 1 rfl (th (rt ?_))
 exact ret1 rfl rfl ⟨rfl, rfl, rfl⟩
theorem didC {w0 : World} {K : PH} {hs : List PH} (wb db : Nat) (ob : Option Nat) (first : Nat) (lv ov : Value) (next : Nat) (code e : Int) :
  Ct Tryz.prog w0 126 [.pointer (some ⟨wb, 0, none⟩), .int .i64 e] K (pt wb (wlA db ob first lv ov next code) 146 :: hs)
   (fun v K' hs' => ∃ h', hs' = h' :: hs /\ K' = K /\ h' = pt wb (wlA db ob first lv ov next (if code = 0 then e else code)) 146 /\ v = .int .i64 (if code = 0 then e else code)) := by
 refine enter Tryz.func126 (by kernel_rfl) rfl rfl rfl ?_
 refine sq (rg ?_)
 refine fin hT 1 rfl (th (sq (sq (rg ?_))))
 refine ldp hT 3 0 rfl rfl rfl ?_
 refine cmpS hT 0 rfl fun b9 h9 => ?_
 refine fin hT 0 rfl (th (ifP h9 rfl (fun e2 => ?_) (fun e2 => ?_)))
 ·rw [if_pos e2]
  refine rg ?_
  refine stp hT 4 0 rfl rfl rfl rfl ?_
  refine fin hT 0 rfl (th (sq (rg ?_)))
  refine ldp hT 3 0 rfl rfl rfl ?_
  refine fin hT 1 rfl (th (rt ?_))
  exact ret1 rfl rfl ⟨_, rfl, rfl, rfl, rfl⟩
 ·rw [if_neg e2]
  refine sk (th (sq (rg ?_)))
  refine ldp hT 3 0 rfl rfl rfl ?_
  refine fin hT 1 rfl (th (rt ?_))
  exact ret1 rfl rfl ⟨_, rfl, rfl, rfl, rfl⟩
theorem writeWC {w0 : World} {K hv rH gL gO dh : PH} {hs : List PH} (wb db ob : Nat) (first : Nat) (lv ov : Value) (next : Nat) (o : WOp) (aR : Option Addr) (cR : Nat) (oR : OwnZ rH aR o.rest.length cR 5 1 (bv o.rest)) (hrl : o.rest.length <= 63)
  (D : Dk) (c : Nat) (oD : D.Ok c) (hc : c <= 1099510000) (hd : DskH K db D dh) (hnum : o.num <= 2305843009213693952) (hfull : o.full <= 1099511627776) (ab : Option Addr) (cb : Nat) (b : List UInt8) (hb : 0 < b.length /\ b.length <= 600) (hin : In K hs hv) (x : IsS hv ab b.length cb 1 (bv b)) :
  Ct Tryz.prog w0 122 [.pointer (some ⟨wb, 0, none⟩), .slice ab b.length cb] K (pt wb (wlA db (some ob) first lv ov next 0) 146 :: pt ob (wopA o aR cR) 189 :: rH :: gL :: gO :: dh :: hs)
   (fun v K' hs' => Le K K' /\ ∃ aR' cR' rH' dh', hs' = pt wb (wlA db (some ob) first lv ov next (wrO o b D).2.2) 146 :: pt ob (wopA (wrO o b D).1 aR' cR') 189 :: rH' :: gL :: gO :: dh' :: hs /\
    OwnZ rH' aR' (wrO o b D).1.rest.length cR' 5 1 (bv (wrO o b D).1.rest) /\ DskH K' db (wrO o b D).2.1 dh' /\ v = .int .i64 (wrO o b D).2.2) := by
 refine enter Tryz.func122 (by kernel_rfl) rfl rfl rfl ?_
 refine sq (rg ?_)
 refine fin hT 1 rfl (th (sq (rga [pt wb (wlA db (some ob) first lv ov next 0) 146, pt ob (wopA o aR cR) 189] 15 [0, 2, 4, 6, 8, 10, 12, 14, 16, 18, 20, 22, 25, 26, 28, 31] (by simp) (by kernel_rfl) (by kernel_rfl) ?_)))
 refine dldpw hT (by kernel_rfl) 3 0 rfl (by kernel_rfl) rfl rfl ?_
 refine dldpw hT (by kernel_rfl) 3 0 rfl (by kernel_rfl) rfl rfl ?_
 refine dldpw hT (by kernel_rfl) 2 1 rfl (by kernel_rfl) rfl rfl ?_
 refine dact hT (by kernel_rfl) 1 rfl ?_
 refine appq hT 0 2 rfl rfl oR (In.cons (In.cons (In.cons (In.cons (In.cons (In.cons hin)))))) x rfl (by decide) (bv_one b) hb.1 (by show (o.rest.length + b.length) * 1 <= _; omega) (by simp only [maxLen]; omega) fun ao19 c19 g19 o19 => ?_
 refine dnex [pt wb (wlA db (some ob) first lv ov next 0) 146, pt ob (wopA o aR cR) 189] (by simp) (by simp) rfl ?_
 refine dact hT (by kernel_rfl) 2 rfl ?_
 refine stp hT 0 1 rfl rfl rfl rfl ?_
 refine dnext (.inl (by kernel_rfl)) ?_
 refine dend hT (by kernel_rfl) 0 rfl (th (bk ?_))
 obtain ⟨F, hF⟩ : ∃ F, F = o.rest.length + b.length + 1 := ⟨_, rfl⟩
 refine loop (σ := (Nat × WOp × Dk) × (Option Addr × Nat × PH × PH) × PH) (fun _ => [(0, .pointer (some ⟨wb, 0, none⟩))]) (fun s => s.2.2) (fun s => pt wb (wlA db (some ob) first lv ov next 0) 146 :: pt ob (wopA s.1.2.1 s.2.1.1 s.2.1.2.1) 189 :: s.2.1.2.2.1 :: gL :: gO :: s.2.1.2.2.2 :: hs)
  (fun s => wrL s.1.1 s.1.2.1 s.1.2.2 = wrO o b D /\ s.1.2.1.rest.length < s.1.1 /\ s.1.1 <= F /\ s.1.2.2.Ok (c + (F - s.1.1)) /\ s.1.2.1.full + s.1.1 <= o.full + F /\ s.1.2.1.num = o.num /\ Le K s.2.2 /\ DskH s.2.2 db s.1.2.2 s.2.1.2.2.2 /\ OwnZ s.2.1.2.2.1 s.2.1.1 s.1.2.1.rest.length s.2.1.2.1 5 1 (bv s.1.2.1.rest)) (fun s => s.1.1)
  ((F, { o with rest := o.rest ++ b }, D), (ao19, c19, g19, dh), K) ⟨by dsimp only; unfold wrO; rw [hF], by dsimp only; simp; omega, Nat.le_refl _, by dsimp only; exact oD.up (by omega), by dsimp only; omega, rfl, Le.refl _, hd, .inl (by
   dsimp only
   have := o19
   rw [<- bv_append] at this
   simpa using this)⟩ ⟨rfl, trivial⟩ rfl (by simp [wopA]) ?_
 rintro ⟨⟨f, q, E⟩, ⟨aQ, cQ, rQ, eh⟩, K1⟩ ⟨hw, hlf, hfF, oE, hfu, hqn, le, hE, oQ⟩
 dsimp only at *
 obtain ⟨f, rfl⟩ : ∃ g, f = g + 1 := ⟨f - 1, by omega⟩
 rw [wrL_step] at hw
 have hcQ := oQ.caps
 obtain ⟨n, hn⟩ : ∃ n, n = min q.rest.length 63 := ⟨_, rfl⟩
 obtain ⟨s, hs1⟩ : ∃ s, s = UInt8.ofNat n :: q.rest.take n := ⟨_, rfl⟩
 have hsl : s.length = 1 + n := by rw [hs1]; simp; omega
 rw [<- hn, <- hs1] at hw
 refine bk (sq (rg ?_))
 refine ldp hT 3 0 rfl rfl rfl ?_
 refine ldp hT 2 1 rfl rfl rfl ?_
 refine ar hT 1 rfl (v' := .int .i64 ((n : Nat) : Int)) (by
  congr 1
  rw [hn]
  split <;> omega) ?_
 refine fin hT 1 rfl (th (sq (rg ?_)))
 refine ar hT 1 rfl (u8w (x := ((n : Nat) : Int)) (by omega)) ?_
 refine lit hT 0 #[.int .u8 ((n : Nat) : Int)] rfl (by decide) (by kernel_rfl) fun b33 => ?_
 refine ldp hT 3 1 rfl rfl rfl ?_
 refine ldp hT 2 2 rfl rfl rfl ?_
 refine sl hT 1 0 n rfl oQ.isS rfl (by show ((n : Nat) : Int) = ((0 + n : Nat) : Int); omega) (by omega) (ys := bv (q.rest.take n)) (by
  show ((bv q.rest).drop (0 * 1)).take (n * 1) = _
  simp [bv]) fun ao42 c42 x42 => ?_
 have o33 : Own (pt b33 #[Value.int .u8 ((n : Nat) : Int)] 5) (some ⟨b33, 0, none⟩) 1 1 5 1 (bv [UInt8.ofNat n]) := own_byte b33 n (by omega)
 refine app hT 0 0 rfl rfl o33 (.inr ⟨3, rfl⟩) x42 rfl (by decide) (bv_one _) (by show (1 + n) * 1 <= _; omega) (by simp only [maxLen]; omega) fun ao43 c43 g43 o43 => ?_
 have x43 : IsS g43 ao43 s.length c43 1 (bv s) := by
  rw [hsl, hs1]
  exact o43.isS
 obtain ⟨R, hR⟩ : ∃ R, R = E.write (segA q.num) q.full s := ⟨_, rfl⟩
 have oR' : R.1.Ok (c + (F - (f + 1)) + 1) := by rw [hR]; exact oE.write _ _ _
 rw [<- hR] at hw
 refine fin hT 1 rfl (th (sq (sq (rga [pt wb (wlA db (some ob) first lv ov next 0) 146, pt ob (wopA q aQ cQ) 189] 23 [0, 2, 4, 6, 8, 10, 12, 14, 16, 18, 20, 22, 24, 28, 30, 32, 34, 36, 38, 40, 42, 27, 45, 47, 48, 50, 52, 54, 56] (by simp) (by kernel_rfl) (by kernel_rfl) ?_))))
 refine dldtp [22] hT (by kernel_rfl) 4 0 rfl (by kernel_rfl) rfl rfl ?_
 refine dldtp [22, 13, 12, 11, 10, 9] hT (by kernel_rfl) 3 0 rfl (by kernel_rfl) rfl rfl ?_
 refine dldtp [22, 13] hT (by kernel_rfl) 3 1 rfl (by kernel_rfl) rfl rfl ?_
 refine dldtp [22, 20, 19, 18] hT (by kernel_rfl) 3 0 rfl (by kernel_rfl) rfl rfl ?_
 refine dldtp [22] hT (by kernel_rfl) 2 1 rfl (by kernel_rfl) rfl rfl ?_
 refine dact hT (by kernel_rfl) 1 rfl ?_
 refine cl hT 0 rfl (areaC q.num (by omega)) ?_
 rintro v57 K57 hs57 ⟨rfl, rfl, rfl⟩
 refine dnex [pt wb (wlA db (some ob) first lv ov next 0) 146, pt ob (wopA q aQ cQ) 189] (by simp) (by simp) rfl ?_
 refine dact hT (by kernel_rfl) 0 rfl ?_
 have hwr := writeH (w0 := w0) (K := K57) (h := eh) (hs := [g43, pt wb (wlA db (some ob) first lv ov next 0) 146, pt ob (wopA q aQ cQ) 189, rQ, gL, gO] ++ hs) db E (c + (F - (f + 1))) oE (by omega) hE (segA q.num) ((q.full : Nat) : Int) (by unfold segA; omega) ao43 c43 s (.inr ⟨0, rfl⟩) x43
 rw [hsl, <- hR] at hwr
 refine cl hT 0 rfl (Ct.at 6 rfl hwr) ?_
 rintro v66 K66 hs66 ⟨eh', rfl, le2, hE', rfl⟩
 refine dnexL [pt wb (wlA db (some ob) first lv ov next 0) 146, pt ob (wopA q aQ cQ) 189] (by simp) (by simp) le2 ?_
 refine dact hT (by kernel_rfl) 0 rfl ?_
 refine cl hT 0 rfl (Ct.at 1 rfl (didC wb db (some ob) first lv ov next 0 R.2)) ?_
 rintro v67 K67 hs67 ⟨_, rfl, rfl, rfl, rfl⟩
 rw [if_pos rfl]
 refine dnext (.inl (by kernel_rfl)) ?_
 refine dcmp hT (by kernel_rfl) 0 (R.2 ≠ 0) rfl (by simp) (fun h1 => ?_) (fun h1 => ?_)
 ·rw [if_pos (.inl h1)] at hw
  refine dend hT (by kernel_rfl) 4 rfl (th (ifT rfl (sq (rg ?_))))
  refine ldp hT 3 1 rfl rfl rfl ?_
  refine fin hT 1 rfl (th (rt (rT (rB (rT (rB (WQ.drop ?_)))))))
  rw [<- hw]
  exact ret1 rfl rfl ⟨le.trans le2, aQ, cQ, rQ, eh', rfl, oQ, hE', rfl⟩
 ·have h1 : R.2 = 0 := Decidable.not_not.1 h1
  refine dcbS hT (by kernel_rfl) 2 (((n : Nat) : Int) < 63) rfl (by simp) fun b71 h71 => ?_
  refine dend hT (by kernel_rfl) 1 rfl (th (ifP h71 rfl (fun e2 => ?_) (fun e2 => ?_)))
  ·rw [if_pos (.inr (by omega))] at hw
   refine sq (rg ?_)
   refine ldp hT 3 1 rfl rfl rfl ?_
   refine fin hT 1 rfl (th (rt (rT (rB (rT (rB (WQ.drop ?_)))))))
   rw [<- hw]
   exact ret1 rfl rfl ⟨le.trans le2, aQ, cQ, rQ, eh', rfl, oQ, hE', rfl⟩
  ·have hn63 : n = 63 := by omega
   rw [if_neg (by rintro (g | g); exact g h1; omega)] at hw
   rw [h1]
   refine sk (th (sq (rg ?_)))
   refine ldp hT 3 1 rfl rfl rfl ?_
   refine ldp hT 2 2 rfl rfl rfl ?_
   refine ar hT 0 rfl (i64w (x := ((q.full + 1 : Nat) : Int)) (by omega)) ?_
   refine stp hT 2 2 rfl rfl rfl rfl ?_
   refine fin hT 0 rfl (th (sq (rga [pt wb (wlA db (some ob) first lv ov next 0) 146, pt ob (wopA { q with full := q.full + 1 } aQ cQ) 189] 15 [0, 2, 4, 6, 8, 10, 12, 14, 16, 18, 20, 22, 24, 26, 28, 31] (by simp [wopA]) (by kernel_rfl) (by kernel_rfl) ?_)))
   refine dldpw hT (by kernel_rfl) 3 0 rfl (by kernel_rfl) rfl rfl ?_
   refine dldpw hT (by kernel_rfl) 3 0 rfl (by kernel_rfl) rfl rfl ?_
   refine dldpw hT (by kernel_rfl) 2 1 rfl (by kernel_rfl) rfl rfl ?_
   refine dslx hT (by kernel_rfl) 1 63 (q.rest.length - 63) rfl rfl (by show ((n : Nat) : Int) = _; omega) (by show ((q.rest.length : Nat) : Int) = _; omega) (by omega) ?_
   refine dact hT (by kernel_rfl) 2 rfl ?_
   refine stp hT 0 2 rfl rfl rfl rfl ?_
   refine dnext (.inl (by kernel_rfl)) ?_
   obtain ⟨rQ2, hrQ2, oQ2⟩ := oQ.cut 63 (q.rest.length - 63) (by omega) (ys := bv (q.rest.drop 63)) (by
    rw [Nat.mul_one, Nat.mul_one]
    unfold bv
    rw [<- List.map_drop, List.take_of_length_le (by simp)])
   refine dend hT (by kernel_rfl) 0 rfl (th (sq (WC.loss 3 rQ2 rfl hrQ2 (rg ?_))))
   refine ldp hT 3 1 rfl rfl rfl ?_
   refine ldp hT 2 2 rfl rfl rfl ?_
   refine cmpS hT 1 rfl fun b110 h110 => ?_
   refine fin hT 0 rfl (th (ifP h110 rfl (fun e4 => ?_) (fun e4 => ?_)))
   ·rw [if_pos (by omega)] at hw
    refine sq (rg ?_)
    refine ldp hT 3 1 rfl rfl rfl ?_
    refine fin hT 1 rfl (th (rt (rB (rT (rB (WQ.drop ?_))))))
    rw [<- hw]
    refine ret1 rfl rfl ⟨le.trans le2, cutA aQ cQ 63 1, cQ - 63, rQ2, eh', ?_, ownz_of oQ2 (show q.rest.length - 63 = 0 by omega) (by rw [List.drop_of_length_le (by omega)]), hE', rfl⟩
    show [_, _, _, _, _, _] ++ hs = [_, _, _, _, _, _] ++ hs
    simp only [wopA, List.length_nil, show q.rest.length - 63 = 0 from by omega]
    rfl
   ·rw [if_neg (by omega)] at hw
    refine sk (bl (WQ.drop ?_))
    refine again (x := ((f + 1, q, E), (aQ, cQ, rQ, eh), K57)) ((f, { q with full := q.full + 1, rest := q.rest.drop 63 }, R.1), (cutA aQ cQ 63 1, cQ - 63, rQ2, eh'), K67) ⟨rfl, trivial⟩ rfl ?_ ⟨hw, ?_, by dsimp only; omega, by dsimp only; exact oR'.up (by omega), by dsimp only; omega, hqn, le.trans le2, hE', ?_⟩ (by dsimp only; omega)
    ·simp [wopA]
    ·dsimp only; rw [List.length_drop]; omega
    ·dsimp only; rw [List.length_drop]; exact oQ2
end Go.Proofs.YtneeeblghijmgaaGreat
end
section
namespace Go.En
theorem Sat.del {w0 w : World} {K : PH} {hs : List PH} (s : Sat w0 w K hs) (i : Nat) {h : PH} (hi : hs[i]? = some h) : Sat w0 w K (hs.eraseIdx i) := (s.perm (perm_front hs i h hi)).dropHead
theorem WC.del {P : Program} {w0 : World} {Q : Exit -> Act -> World -> Prop} {n : Nat} {l : Sl} {K : PH} {hs : List PH} {c : Code} (i : Nat) {h : PH} (hi : hs[i]? = some h) (hk : WC P w0 c Q n l K (hs.eraseIdx i)) : WC P w0 c Q n l K hs := fun a w ha hw => hk a w ha (hw.del i hi)
theorem WQ.del {w0 : World} {Q : Exit -> Act -> World -> Prop} {e : Exit} {n : Nat} {l : Sl} {K : PH} {hs : List PH} (i : Nat) {h : PH} (hi : hs[i]? = some h) (hk : WQ w0 Q e n l K (hs.eraseIdx i)) : WQ w0 Q e n l K hs := fun a w ha hw => hk a w ha (hw.del i hi)
theorem WL.del {P : Program} {w0 : World} {ops : Array Oper} {Q : Exit -> Act -> World -> Prop} {rest : List Oper} {n : Nat} {l : Sl} {K : PH} {hs : List PH} (i : Nat) {h : PH} (hi : hs[i]? = some h) (hk : WL P w0 ops Q rest n l K (hs.eraseIdx i)) : WL P w0 ops Q rest n l K hs := fun a w ha hw => hk a w ha (hw.del i hi)
structure WBd (c : Nat) (W : Wl) : Prop where
 last : W.first + W.recs.length <= wTop
 recs : W.recs.length <= 70000000000 + c
 old : W.old.length <= c
 next : W.next <= wMany + c
 op : ∀ o, W.op = some o -> o.num <= wMany + c /\ o.full <= c
 rest : ∀ o, W.op = some o -> W.code = 0 -> o.rest.length <= 62
 olds : ∀ s ∈ W.old, s.1 <= wMany + c /\ s.2 <= wTop
 recl : ∀ r ∈ W.recs, r.length <= 512
theorem WBd.up {c d : Nat} {W : Wl} (o : WBd c W) (h : c <= d) : WBd d W :=
 ⟨o.last, by have := o.recs; omega, by have := o.old; omega, by have := o.next; omega, fun q hq => by have := o.op q hq; omega, o.rest, fun s hs => by have := o.olds s hs; omega, o.recl⟩
def lastV (n : Nat) : Int := if n = 0 then 18446744073709551615 else ((n : Nat) : Int) - 1
theorem u64last (n : Nat) (h : n < 18446744073709551616) : Value.int .u64 (IntKind.u64.wrap (((n : Nat) : Int) - 1)) = .int .u64 (lastV n) := by
 unfold lastV
 split
 ·rename_i e; subst e; rfl
 ·exact u64w (by omega)
theorem u64back (n : Nat) (h : n < 18446744073709551616) : Value.int .u64 (IntKind.u64.wrap (lastV n + 1)) = .int .u64 ((n : Nat) : Int) := by
 unfold lastV
 split
 ·rename_i e; subst e; rfl
 ·rw [Int.sub_add_cancel]; exact u64w (by omega)
theorem SlZ.get {α : Type} {R : List Value -> α -> Prop} {e : Nat} {h : PH} {ao : Option Addr} {n cap : Nat} {xs : List α} (x : SlZ 1 e R h ao n cap xs) {i : Nat} {y : α} (hy : xs[i]? = some y) : ∃ v, R [v] y /\ ∃ g off cur, ao = some ⟨g, off, none⟩ /\ h = pt g cur e /\ cur[off + i]? = some v := by
 obtain ⟨css, h1, h2, h3, h4⟩ := x
 obtain ⟨c, hc, hR⟩ := h3.get hy
 have hl := h4 c (List.mem_of_getElem? hc)
 obtain ⟨v, rfl⟩ : ∃ v, c = [v] := by
  match c, hl with
  | [v], _ => exact ⟨v, rfl⟩
 have hi : i < n := by rw [h1]; exact (List.getElem?_eq_some_iff.1 hy).1
 refine ⟨v, hR, ?_⟩
 have hf := flat_get h4 hc 0 v rfl
 rcases h2 with ⟨g1, g2, g3, ⟨g4, g5, g6⟩ | ⟨g, off, cur, g4, g5, g6, g7⟩⟩ | ⟨rfl, _⟩
 ·omega
 ·refine ⟨g, off, cur, g4, g5, ?_⟩
  rw [<- g7, Nat.mul_one, Nat.mul_one, Nat.add_zero, List.getElem?_take_of_lt (by omega), List.getElem?_drop] at hf
  simpa using hf
 ·omega
end Go.En
namespace Go.Proofs.YtneeeblghijmgaaGreat
open Go.En
attribute [local irreducible] Code.wp wpList Calls
theorem firstWC {w0 : World} {K : PH} {m hs : List PH} (wb db : Nat) (W : Wl) (hW : WalM K wb db W m) : Ct Tryz.prog w0 109 [.pointer (some ⟨wb, 0, none⟩)] K (m ++ hs)
  (fun v K' hs' => K' = K /\ hs' = m ++ hs /\ v = .int .u64 ((W.first : Nat) : Int)) := by
 obtain ⟨ob, aL, cL, aO, cO, oH, rH, gL, gO, rfl, hop, hL, hO⟩ := hW
 refine enter Tryz.func109 (by kernel_rfl) rfl rfl rfl ?_
 refine sq (rg ?_)
 refine fin hT 1 rfl (th (sq (rg ?_)))
 refine ldp hT 3 0 rfl rfl rfl ?_
 refine fin hT 1 rfl (th (rt ?_))
 exact ret1 rfl rfl ⟨rfl, rfl, rfl⟩
theorem nextWC {w0 : World} {K : PH} {m hs : List PH} (wb db : Nat) (W : Wl) (hW : WalM K wb db W m) : Ct Tryz.prog w0 84 [.pointer (some ⟨wb, 0, none⟩)] K (m ++ hs)
  (fun v K' hs' => K' = K /\ hs' = m ++ hs /\ v = .int .u64 ((W.next : Nat) : Int)) := by
 obtain ⟨ob, aL, cL, aO, cO, oH, rH, gL, gO, rfl, hop, hL, hO⟩ := hW
 refine enter Tryz.func84 (by kernel_rfl) rfl rfl rfl ?_
 refine sq (rg ?_)
 refine fin hT 1 rfl (th (sq (rg ?_)))
 refine ldp hT 3 0 rfl rfl rfl ?_
 refine fin hT 1 rfl (th (rt ?_))
 exact ret1 rfl rfl ⟨rfl, rfl, rfl⟩
theorem lastWC {w0 : World} {K : PH} {m hs : List PH} (wb db : Nat) (W : Wl) (hW : WalM K wb db W m) (hb : W.first + W.recs.length <= wTop) : Ct Tryz.prog w0 110 [.pointer (some ⟨wb, 0, none⟩)] K (m ++ hs)
  (fun v K' hs' => K' = K /\ hs' = m ++ hs /\ v = .int .u64 (lastV (W.first + W.recs.length))) := by
 obtain ⟨ob, aL, cL, aO, cO, oH, rH, gL, gO, rfl, hop, hL, hO⟩ := hW
 unfold wTop at hb
 refine enter Tryz.func110 (by kernel_rfl) rfl rfl rfl ?_
 refine sq (rg ?_)
 refine fin hT 1 rfl (th (sq (rga [pt wb (wlA db ob W.first (.slice aL W.recs.length cL) (.slice aO W.old.length cO) W.next W.code) 146] 13 [0, 2, 4, 6, 8, 10, 12, 14, 16, 18, 20, 22, 24] (by simp) (by kernel_rfl) (by kernel_rfl) ?_)))
 refine dldp hT (by kernel_rfl) 3 0 rfl rfl rfl ?_
 refine dldp hT (by kernel_rfl) 3 0 rfl rfl rfl ?_
 refine dar hT (by kernel_rfl) 1 rfl (u64w (x := ((W.recs.length : Nat) : Int)) (by omega)) ?_
 refine dar hT (by kernel_rfl) 0 rfl (u64w (x := ((W.first + W.recs.length : Nat) : Int)) (by omega)) ?_
 refine dar hT (by kernel_rfl) 0 rfl (u64last _ (by omega)) ?_
 refine dend hT (by kernel_rfl) 1 rfl (th (rt ?_))
 exact ret1 rfl rfl ⟨rfl, rfl, rfl⟩
theorem getWC {w0 : World} {K : PH} {m hs : List PH} (wb db : Nat) (W : Wl) (c : Nat) (hc : c <= 1000000000) (hb : WBd c W) (hW : WalM K wb db W m) (i : Nat) (hi : i < 18446744073709551616) (hrl : ∀ r ∈ W.recs, r.length <= 512) : Ct Tryz.prog w0 111 [.pointer (some ⟨wb, 0, none⟩), .int .u64 ((i : Nat) : Int)] K (m ++ hs)
  (fun v K' hs' => Le K K' /\ hs' = m ++ hs /\ ((¬ (W.first <= i /\ i - W.first < W.recs.length) /\ v = .tuple #[.slice none 0 0, .bool false]) \/
   ∃ r ao k, W.first <= i /\ W.recs[i - W.first]? = some r /\ v = .tuple #[.slice ao r.length k, .bool true] /\ IsS K' ao r.length k 1 (bv r))) := by
 obtain ⟨ob, aL, cL, aO, cO, oH, rH, gL, gO, rfl, hop, hL, hO⟩ := hW
 have h1 := hb.last
 have h2 := hb.recs
 unfold wTop at h1
 refine enter Tryz.func111 (by kernel_rfl) rfl rfl rfl ?_
 refine sq (rg ?_)
 refine fin hT 2 rfl (th (sq (sq (rga [pt wb (wlA db ob W.first (.slice aL W.recs.length cL) (.slice aO W.old.length cO) W.next W.code) 146] 21 [0, 2, 4, 6, 8, 10, 12, 14, 16, 18, 20, 22, 24, 26, 28, 30, 32, 34, 36, 38, 40] (by simp) (by kernel_rfl) (by kernel_rfl) ?_))))
 refine dldp hT (by kernel_rfl) 4 0 rfl rfl rfl ?_
 refine dcmp hT (by kernel_rfl) 0 (i < W.first) rfl (by simp) (fun g1 => ?_) (fun g1 => ?_)
 ·refine dend hT (by kernel_rfl) 15 rfl (th (ifT rfl (sq (rg ?_))))
  refine fin hT 2 rfl (th (rt (rT ?_)))
  exact ret2 rfl rfl rfl ⟨Le.refl _, rfl, .inl ⟨by omega, rfl⟩⟩
 ·refine dldp hT (by kernel_rfl) 5 0 rfl rfl rfl ?_
  refine dar hT (by kernel_rfl) 0 rfl (v' := .int .u64 ((i - W.first : Nat) : Int)) (by rw [show ((i : Nat) : Int) - ((W.first : Nat) : Int) = ((i - W.first : Nat) : Int) from by omega]; exact u64w (by omega)) ?_
  refine dldp hT (by kernel_rfl) 3 0 rfl rfl rfl ?_
  refine dar hT (by kernel_rfl) 1 rfl (u64w (x := ((W.recs.length : Nat) : Int)) (by omega)) ?_
  refine dcbS hT (by kernel_rfl) 0 (W.recs.length <= i - W.first) rfl (by simp) fun b25 h25 => ?_
  refine dend hT (by kernel_rfl) 1 rfl (th (ifP h25 rfl (fun e2 => ?_) (fun e2 => ?_)))
  ·refine sq (rg ?_)
   refine fin hT 2 rfl (th (rt (rT ?_)))
   exact ret2 rfl rfl rfl ⟨Le.refl _, rfl, .inl ⟨by omega, rfl⟩⟩
  ·obtain ⟨r, hr⟩ : ∃ r, W.recs[i - W.first]? = some r := ⟨W.recs[i - W.first]'(by omega), List.getElem?_eq_getElem (by omega)⟩
   obtain ⟨v, ⟨ao, k, hv, xr⟩, g, off, cur, rfl, rfl, hcur⟩ := hL.get hr
   simp only [List.cons.injEq, and_true] at hv
   subst hv
   have hrl2 := hrl r (List.mem_of_getElem? hr)
   refine sk (th (sq (rga [pt wb (wlA db ob W.first (.slice (some ⟨g, off, none⟩) W.recs.length cL) (.slice aO W.old.length cO) W.next W.code) 146, pt g cur 30] 15 [0, 2, 4, 6, 8, 10, 12, 14, 16, 18, 20, 22, 25, 26, 28] (by simp) (by kernel_rfl) (by kernel_rfl) ?_)))
   refine dldp hT (by kernel_rfl) 3 0 rfl rfl rfl ?_
   refine dldp hT (by kernel_rfl) 4 0 rfl rfl rfl ?_
   refine dar hT (by kernel_rfl) 0 rfl (v' := .int .u64 ((i - W.first : Nat) : Int)) (by rw [show ((i : Nat) : Int) - ((W.first : Nat) : Int) = ((i - W.first : Nat) : Int) from by omega]; exact u64w (by omega)) ?_
   refine dixs hT (by kernel_rfl) 0 (i - W.first) rfl rfl (by omega) ?_
   simp only [add_mk, Nat.mul_one]
   refine dldp hT (by kernel_rfl) 0 1 rfl rfl hcur ?_
   refine dact hT (by kernel_rfl) 0 rfl ?_
   refine cl hT 0 rfl (cloneB ao k r (.inl rfl) xr (by omega)) ?_
   rintro v39 K39 hs39 ⟨rfl, h', ao', c', rfl, rfl, o⟩
   refine dnex [pt wb (wlA db ob W.first (.slice (some ⟨g, off, none⟩) W.recs.length cL) (.slice aO W.old.length cO) W.next W.code) 146, pt g cur 30] (by simp) (by simp) rfl ?_
   refine dend hT (by kernel_rfl) 2 rfl (th (rt (WQ.frz fun K' l1 l2 => ?_)))
   exact ret2 rfl rfl rfl ⟨l1, rfl, .inr ⟨r, ao', c', by omega, hr, rfl, o.isS.le l2⟩⟩
theorem syncWC {w0 : World} {K dh : PH} {m hs : List PH} (wb db : Nat) (W : Wl) (hW : WalM K wb db W m) (D : Dk) (c : Nat) (oD : D.Ok c) (hc : c <= 1000000000) (hb : WBd c W) (hd : DskH K db D dh) :
  Ct Tryz.prog w0 77 [.pointer (some ⟨wb, 0, none⟩)] K (m ++ dh :: hs)
   (fun v K' hs' => K' = K /\ ∃ m' dh', hs' = m' ++ dh' :: hs /\ WalM K wb db (W.sync D).1 m' /\ DskH K db (W.sync D).2 dh' /\ v = .int .i64 (W.sync D).1.code) := by
 obtain ⟨ob, aL, cL, aO, cO, oH, rH, gL, gO, rfl, hop, hL, hO⟩ := hW
 obtain ⟨op, first, recs, old, next, code⟩ := W
 dsimp only at *
 refine enter Tryz.func77 (by kernel_rfl) rfl rfl rfl ?_
 refine sq (rg ?_)
 refine fin hT 1 rfl (th (sq (sq (rg ?_))))
 refine ldp hT 3 0 rfl rfl rfl ?_
 refine cmpS hT 0 rfl fun b7 h7 => ?_
 refine' bjo hT 1 6 14 [7, 8] h7 rfl rfl rfl rfl rfl rfl rfl (fun _ => ?x2) (fun b14 h14 => ?_)
 case x2 =>
  refine ldp hT 3 0 rfl rfl rfl ?_
  refine cbS hT 0 (op = none) rfl (by
   cases op with
   | none => obtain ⟨rfl, _⟩ := hop; simp
   | some o => obtain ⟨b, _, _, rfl, _⟩ := hop; simp) fun b13 h13 => ?_
  exact fin hT 1 rfl (bjx h13 rfl rfl rfl)
 refine fin hT 0 rfl (th (ifP h14 rfl (fun e4 => ?_) (fun e4 => ?_)))
 ·have e : Wl.sync ⟨op, first, recs, old, next, code⟩ D = (⟨op, first, recs, old, next, code⟩, D) := by
   unfold Wl.sync
   dsimp only
   split
   ·rfl
   ·rename_i h
    rcases e4 with h2 | rfl
    ·exact absurd h2 h
    ·rfl
  rw [e]
  refine sq (rg ?_)
  refine ldp hT 3 0 rfl rfl rfl ?_
  refine fin hT 1 rfl (th (rt (rT ?_)))
  exact ret1 rfl rfl ⟨rfl, _, _, rfl, ⟨ob, aL, cL, aO, cO, oH, rH, gL, gO, rfl, hop, hL, hO⟩, hd, rfl⟩
 ·have hcode : code = 0 := by rcases Decidable.em (code = 0) with h | h; exact h; exact absurd (.inl h) e4
  subst hcode
  cases op with
  | none => exact absurd (.inr rfl) e4
  | some o =>
   obtain ⟨b, aR, cR, rfl, rfl, oR⟩ := hop
   have hnum := (hb.op o rfl).1
   unfold wMany at hnum
   have e : Wl.sync ⟨some o, first, recs, old, next, 0⟩ D = (⟨some o, first, recs, old, next, (D.sync (segA o.num)).2⟩, (D.sync (segA o.num)).1) := rfl
   rw [e]
   refine sk (th (sq (rga [pt wb (wlA db (some b) first (.slice aL recs.length cL) (.slice aO old.length cO) next 0) 146, pt b (wopA o aR cR) 189] 15 [0, 2, 4, 6, 8, 10, 12, 14, 16, 18, 20, 22, 24, 27, 29, 31, 32] (by simp) (by kernel_rfl) (by kernel_rfl) ?_)))
   refine dldtp [14] hT (by kernel_rfl) 4 0 rfl (by kernel_rfl) rfl rfl ?_
   refine dldtp [14, 13, 12, 11, 10, 9] hT (by kernel_rfl) 3 0 rfl (by kernel_rfl) rfl rfl ?_
   refine dldtp [14, 13] hT (by kernel_rfl) 3 1 rfl (by kernel_rfl) rfl rfl ?_
   refine dact hT (by kernel_rfl) 0 rfl ?_
   refine cl hT 0 rfl (areaC o.num (by omega)) ?_
   rintro v32 K32 hs32 ⟨rfl, rfl, rfl⟩
   refine dnex [pt wb (wlA db (some b) first (.slice aL recs.length cL) (.slice aO old.length cO) next 0) 146, pt b (wopA o aR cR) 189] (by simp) (by simp) rfl ?_
   refine dact hT (by kernel_rfl) 0 rfl ?_
   refine cl hT 0 rfl (Ct.at 5 rfl (syncH db D c oD (by omega) hd (segA o.num))) ?_
   rintro v33 K33 hs33 ⟨dh', rfl, rfl, hd', rfl⟩
   refine dnex [pt wb (wlA db (some b) first (.slice aL recs.length cL) (.slice aO old.length cO) next 0) 146, pt b (wopA o aR cR) 189] (by simp) (by simp) rfl ?_
   refine dact hT (by kernel_rfl) 0 rfl ?_
   refine cl hT 0 rfl (didC wb db (some b) first _ _ next 0 _) ?_
   rintro v34 K34 hs34 ⟨_, rfl, rfl, rfl, rfl⟩
   rw [if_pos rfl]
   refine dnext (.inl (by kernel_rfl)) ?_
   refine dend hT (by kernel_rfl) 1 rfl (th (rt ?_))
   exact ret1 rfl rfl ⟨rfl, _, _, rfl, ⟨some b, aL, cL, aO, cO, _, rH, gL, gO, rfl, ⟨b, aR, cR, rfl, rfl, oR⟩, hL, hO⟩, hd', rfl⟩
theorem beginWC {w0 : World} {K dh : PH} {m hs : List PH} (wb db : Nat) (W : Wl) (hW : WalM K wb db W m) (D : Dk) (c : Nat) (oD : D.Ok c) (hc : c <= 1000000000) (hb : WBd c W) (hd : DskH K db D dh) (i : Nat) (hi : i < 18446744073709551616) :
  Ct Tryz.prog w0 78 [.pointer (some ⟨wb, 0, none⟩), .int .u64 ((i : Nat) : Int)] K (m ++ dh :: hs)
   (fun v K' hs' => Le K K' /\ ∃ m' dh', hs' = m' ++ dh' :: hs /\ WalM K' wb db (W.begin i D).1 m' /\ DskH K' db (W.begin i D).2 dh' /\ v = .int .i64 (W.begin i D).1.code) := by
 refine enter Tryz.func78 (by kernel_rfl) rfl rfl rfl ?_
 refine sq (rg ?_)
 refine fin hT 1 rfl (th (sq (sq (rg ?_))))
 refine cl hT 1 rfl (syncWC wb db W hW D c oD hc hb hd) ?_
 rintro v6 K6 hs6 ⟨rfl, m1, dh1, rfl, hW1, hd1, rfl⟩
 have oS : (W.sync D).2.Ok (c + 1) := by
  unfold Wl.sync
  split
  ·exact oD.up (by omega)
  ·split
   ·exact oD.up (by omega)
   ·exact oD.sync _
 have hS : (W.sync D).1 = { W with code := (W.sync D).1.code } := by
  unfold Wl.sync
  split
  ·rfl
  ·split
   ·rfl
   ·rfl
 refine cmpS hT 0 rfl fun b7 h7 => ?_
 refine fin hT 0 rfl (th (ifP h7 rfl (fun e2 => ?_) (fun e2 => ?_)))
 ·have e : W.begin i D = W.sync D := by unfold Wl.begin; rw [if_pos e2]
  rw [e]
  obtain ⟨ob, aL, cL, aO, cO, oH, rH, gL, gO, rfl, hop, hL, hO⟩ := hW1
  refine sq (rg ?_)
  refine ldp hT 3 0 rfl rfl rfl ?_
  refine fin hT 1 rfl (th (rt (rT ?_)))
  exact ret1 rfl rfl ⟨Le.refl _, _, _, rfl, ⟨ob, aL, cL, aO, cO, oH, rH, gL, gO, rfl, hop, hL, hO⟩, hd1, rfl⟩
 ·have e2 : (W.sync D).1.code = 0 := Decidable.not_not.1 e2
  have e : W.begin i D = ({ (W.sync D).1 with op := some (wrO ⟨W.next, i, 0, []⟩ (uint i) (W.sync D).2).1, next := W.next + 1, old := W.old ++ [(W.next, i)], code := (wrO ⟨W.next, i, 0, []⟩ (uint i) (W.sync D).2).2.2 }, (wrO ⟨W.next, i, 0, []⟩ (uint i) (W.sync D).2).2.1) := by
   unfold Wl.begin; rw [if_neg (by rw [e2]; simp)]
  rw [e]
  obtain ⟨E, hE⟩ : ∃ E, E = (W.sync D).2 := ⟨_, rfl⟩
  rw [hS, e2] at hW1
  rw [hS]
  rw [<- hE] at oS hd1 ⊢
  clear hE e hS e2 h7
  obtain ⟨op, first, recs, old, next, code⟩ := W
  dsimp only at *
  obtain ⟨ob, aL, cL, aO, cO, oH, rH, gL, gO, rfl, hop, hL, hO⟩ := hW1
  dsimp only at *
  have hnx := hb.next
  have hol := hb.old
  unfold wMany at hnx
  dsimp only at hnx hol
  refine sk (th (sq (rg ?_)))
  refine ldp hT 4 0 rfl rfl rfl ?_
  refine bd hT 1 (.agg #[.int .u64 ((next : Nat) : Int), .int .u64 ((i : Nat) : Int)]) rfl (fun w => by kernel_rfl) ?_
  refine bd hT 0 (.agg (wopA ⟨next, i, 0, []⟩ none 0)) rfl (fun w => by kernel_rfl) ?_
  refine bx hT 0 rfl fun b20 => ?_
  refine stp hT 2 1 rfl rfl rfl rfl ?_
  refine fin hT 0 rfl (th (WC.perm (List.Perm.swap _ _ _) (WC.loss 3 em rfl (.inr rfl) (WC.del 2 rfl (sq (rg ?_))))))
  refine ldp hT 3 0 rfl rfl rfl ?_
  refine ar hT 0 rfl (u64w (x := ((next + 1 : Nat) : Int)) (by omega)) ?_
  refine stp hT 2 0 rfl rfl rfl rfl ?_
  refine fin hT 0 rfl (th (sq (rga [pt wb (wlA db (some b20) first (.slice aL recs.length cL) (.slice aO old.length cO) (next + 1) 0) 146, pt b20 (wopA ⟨next, i, 0, []⟩ none 0) 189] 16 [0, 2, 4, 6, 8, 10, 12, 14, 16, 18, 20, 22, 25, 27, 28, 30, 33] (by intro h hm; simp at hm; rcases hm with rfl | rfl; exact List.mem_cons_self ..; exact List.mem_cons_of_mem _ (List.mem_cons_self ..)) (by kernel_rfl) (by kernel_rfl) ?_)))
  refine dldpw hT (by kernel_rfl) 4 0 rfl (by kernel_rfl) rfl rfl ?_
  refine dldpw hT (by kernel_rfl) 3 0 rfl (by kernel_rfl) rfl rfl ?_
  refine dlds hT (by kernel_rfl) 2 [.int .u64 ((next : Nat) : Int), .int .u64 ((i : Nat) : Int)] rfl (by kernel_rfl) (by kernel_rfl) (.inr ⟨1, rfl⟩) (cells_pt _ (fun j v hj => by
   match j, hj with
   | 0, hj => exact hj
   | 1, hj => exact hj)) ?_
  refine dact hT (by kernel_rfl) 0 rfl ?_
  refine lit hT 0 #[.int .u64 ((next : Nat) : Int), .int .u64 ((i : Nat) : Int)] rfl (by decide) (by kernel_rfl) fun b42 => ?_
  refine dnex [pt wb (wlA db (some b20) first (.slice aL recs.length cL) (.slice aO old.length cO) (next + 1) 0) 146, pt b20 (wopA ⟨next, i, 0, []⟩ none 0) 189] (by intro h hm; simp at hm; rcases hm with rfl | rfl; exact List.mem_cons_of_mem _ (List.mem_cons_self ..); exact List.mem_cons_of_mem _ (List.mem_cons_of_mem _ (List.mem_cons_self ..))) (by simp) rfl ?_
  refine dact hT (by kernel_rfl) 0 rfl ?_
  refine appSq hT 0 5 [.int .u64 ((next : Nat) : Int), .int .u64 ((i : Nat) : Int)] (next, i) rfl rfl rfl hO rfl rfl (by simp [Value.oneCell']) rfl (by decide) (by show (old.length + 1) * 16 <= _; omega) (by simp only [maxLen]; omega) fun ao43 c43 g43 o43 => ?_
  refine dnex [pt wb (wlA db (some b20) first (.slice aL recs.length cL) (.slice aO old.length cO) (next + 1) 0) 146, pt b20 (wopA ⟨next, i, 0, []⟩ none 0) 189] (by intro h hm; simp at hm; rcases hm with rfl | rfl; exact List.mem_cons_of_mem _ (List.mem_cons_self ..); exact List.mem_cons_of_mem _ (List.mem_cons_of_mem _ (List.mem_cons_self ..))) (by simp) rfl ?_
  refine dact hT (by kernel_rfl) 2 rfl ?_
  refine stp hT 0 1 rfl rfl rfl rfl ?_
  refine dnext (.inl (by kernel_rfl)) ?_
  refine dend hT (by kernel_rfl) 0 rfl (th (WC.drop (sq (rg (WL.em ?_)))))
  have hul := uint_le10 (n := i) hi
  have hu0 : 0 < (uint i).length := by rw [uint]; split <;> simp
  refine cl hT 2 rfl (putUint none 0 [] i (Own.nil _ _) hi (by decide)) ?_
  rintro v48 K48 hs48 ⟨hu, rfl, rfl, ao', c', rfl, ou⟩
  rw [List.nil_append] at ou
  refine WL.frz fun K1 l1 l2 => ?_
  refine cl hT 0 rfl (writeWC wb db b20 first _ _ (next + 1) ⟨next, i, 0, []⟩ none 0 (OwnZ.nil _ _) (by simp) E (c + 1) oS (by omega) (hd1.le l1) (by dsimp only; omega) (by simp) ao' c' (uint i) ⟨hu0, by omega⟩ (.inl rfl) (ou.isS.le l2)) ?_
  rintro v49 K49 hs49 ⟨le, aR, cR, rH', dh', rfl, oR, hd', rfl⟩
  refine fin hT 1 rfl (th (rt ?_))
  refine ret1 rfl rfl ⟨l1.trans le, [_, _, _, _, _], dh', rfl, ⟨some b20, aL, cL, ao43, c43, _, rH', gL, g43, ?_, ⟨b20, aR, cR, rfl, rfl, oR⟩, hL.imp fun _ _ h => h.le (l1.trans le), ?_⟩, hd', rfl⟩
  ·dsimp only; rw [List.length_append]; rfl
  ·dsimp only; rw [List.length_append]; exact o43
end Go.Proofs.YtneeeblghijmgaaGreat
end
section
namespace Go.En
theorem uint_pos (n : Nat) : 0 < (uint n).length := by rw [uint]; split <;> simp
theorem segA_bd {n : Nat} (h : n <= 2305843009213693952) : 0 <= segA n /\ segA n <= 18446744073709551615 := by unfold segA; omega
theorem DOk.wrL : ∀ (f : Nat) (o : WOp) (D : Dk) (c : Nat), DOk c D -> o.num <= 2305843009213693952 -> DOk (c + (o.rest.length / 63 + 1)) (wrL f o D).2.1
 | 0, o, D, c, h, _ => h.up (by omega)
 | f + 1, o, D, c, h, hn => by
  have hw := h.write (segA o.num) o.full (UInt8.ofNat (min o.rest.length 63) :: o.rest.take (min o.rest.length 63)) (segA_bd hn)
  rw [wrL_step]
  split
  ·exact hw.up (by omega)
  ·split
   ·exact hw.up (by omega)
   ·rename_i h1 h2
    refine (DOk.wrL f _ _ _ hw (by exact hn)).up ?_
    dsimp only
    rw [List.length_drop]
    omega
theorem wrL_num : ∀ (f : Nat) (o : WOp) (D : Dk), (wrL f o D).1.num = o.num /\ (wrL f o D).1.idx = o.idx /\ (wrL f o D).1.full <= o.full + o.rest.length / 63
 | 0, o, D => ⟨rfl, rfl, Nat.le_add_right _ _⟩
 | f + 1, o, D => by
  rw [wrL_step]
  split
  ·exact ⟨rfl, rfl, Nat.le_add_right _ _⟩
  ·split
   ·exact ⟨rfl, rfl, by dsimp only; omega⟩
   ·obtain ⟨h1, h2, h3⟩ := wrL_num f { o with full := o.full + 1, rest := o.rest.drop 63 } (D.write (segA o.num) o.full (UInt8.ofNat (min o.rest.length 63) :: o.rest.take (min o.rest.length 63))).1
    refine ⟨h1, h2, Nat.le_trans h3 ?_⟩
    dsimp only
    rw [List.length_drop]
    omega
theorem wrL_rest : ∀ (f : Nat) (o : WOp) (D : Dk), o.rest.length < f -> (wrL f o D).2.2 = 0 -> (wrL f o D).1.rest.length <= 62
 | 0, o, D, h, _ => by omega
 | f + 1, o, D, h, he => by
  rw [wrL_step] at he ⊢
  split
  ·rename_i h1
   rw [if_pos h1] at he
   rcases h1 with h1 | h1
   ·exact absurd he h1
   ·dsimp only; omega
  ·rename_i h1
   rw [if_neg h1] at he
   split
   ·simp
   ·rename_i h2
    rw [if_neg h2] at he
    exact wrL_rest f _ _ (by dsimp only; rw [List.length_drop]; omega) he
theorem DOk.wrO {c : Nat} {D : Dk} (h : DOk c D) (o : WOp) (b : List UInt8) (hn : o.num <= 2305843009213693952) : DOk (c + ((o.rest.length + b.length) / 63 + 1)) (wrO o b D).2.1 := by
 have := DOk.wrL (o.rest.length + b.length + 1) { o with rest := o.rest ++ b } D c h hn
 dsimp only at this
 rwa [List.length_append] at this
theorem wrO_num (o : WOp) (b : List UInt8) (D : Dk) : (wrO o b D).1.num = o.num /\ (wrO o b D).1.idx = o.idx /\ (wrO o b D).1.full <= o.full + (o.rest.length + b.length) / 63 := by
 have := wrL_num (o.rest.length + b.length + 1) { o with rest := o.rest ++ b } D
 dsimp only at this
 rwa [List.length_append] at this
theorem wrO_rest (o : WOp) (b : List UInt8) (D : Dk) (h : (wrO o b D).2.2 = 0) : (wrO o b D).1.rest.length <= 62 := wrL_rest _ _ _ (by simp) h
theorem Wl.sync_eq (W : Wl) (D : Dk) : (W.sync D).1 = { W with code := (W.sync D).1.code } := by
 unfold Wl.sync
 split
 ·rfl
 ·split <;> rfl
theorem DOk.syncW {c : Nat} {D : Dk} (h : DOk c D) (W : Wl) : DOk (c + 1) (W.sync D).2 := by
 unfold Wl.sync
 split
 ·exact h.up (by omega)
 ·split
  ·exact h.up (by omega)
  ·exact h.sync _
theorem Wl.sync_code {W : Wl} {D : Dk} (h : (W.sync D).1.code = 0) : W.code = 0 := by
 unfold Wl.sync at h
 split at h
 ·exact h
 ·rename_i hn; exact Decidable.not_not.1 hn
theorem WBd.sync {c : Nat} {W : Wl} (o : WBd c W) (D : Dk) : WBd c (W.sync D).1 := by
 rw [Wl.sync_eq]
 exact ⟨o.last, o.recs, o.old, o.next, o.op, fun q hq hc => o.rest q hq (Wl.sync_code hc), o.olds, o.recl⟩
theorem DOk.begin {c : Nat} {D : Dk} (h : DOk c D) {W : Wl} (o : WBd c W) (i : Nat) (hi : i < 18446744073709551616) (hc : c <= 1000000000) : DOk (c + 2) (W.begin i D).2 := by
 have h1 := h.syncW W
 have hn := o.next
 unfold wMany at hn
 have hu := uint_le10 hi
 unfold Wl.begin
 split
 ·exact h1.up (by omega)
 ·refine (h1.wrO ⟨W.next, i, 0, []⟩ (uint i) (by dsimp only; omega)).up ?_
  dsimp only [List.length_nil]
  omega
theorem WBd.begin {c : Nat} {W : Wl} (o : WBd c W) (i : Nat) (hi : i <= wTop) (D : Dk) : WBd (c + 1) (W.begin i D).1 := by
 have h1 := o.sync D
 unfold Wl.begin
 split
 ·exact h1.up (by omega)
 ·have hn := wrO_num ⟨W.next, i, 0, []⟩ (uint i) (W.sync D).2
  have hu := uint_le10 (n := i) (by unfold wTop at hi; omega)
  dsimp only [List.length_nil] at hn
  rw [Wl.sync_eq]
  refine ⟨o.last, Nat.le_trans o.recs (by omega), ?_, ?_, ?_, ?_, ?_, o.recl⟩
  ·have := o.old; dsimp only; rw [List.length_append]; simp only [List.length_cons, List.length_nil]; omega
  ·have := o.next; dsimp only; omega
  ·intro q hq
   simp only [Option.some.injEq] at hq
   rw [<- hq]
   have := o.next
   exact ⟨by rw [hn.1]; omega, by have := hn.2.2; omega⟩
  ·intro q hq hc
   simp only [Option.some.injEq] at hq
   rw [<- hq]
   exact wrO_rest _ _ _ hc
  ·intro s hs
   rcases List.mem_append.1 hs with hs | hs
   ·have := o.olds s hs; omega
   ·simp only [List.mem_singleton] at hs
    subst hs
    have := o.next
    exact ⟨by dsimp only; omega, hi⟩
theorem begin_op {W : Wl} {i : Nat} {D : Dk} (h : (W.begin i D).1.code = 0) : (W.begin i D).1.op ≠ none /\ (W.begin i D).1.first = W.first /\ (W.begin i D).1.recs = W.recs /\ (W.sync D).1.code = 0 := by
 unfold Wl.begin at h ⊢
 split
 ·rename_i h2; rw [if_pos h2] at h; exact absurd h h2
 ·rename_i h2
  rw [Wl.sync_eq]
  exact ⟨by simp, rfl, rfl, Decidable.not_not.1 h2⟩
theorem begin_recs (W : Wl) (i : Nat) (D : Dk) : (W.begin i D).1.first = W.first /\ (W.begin i D).1.recs = W.recs := by
 unfold Wl.begin
 split
 ·rw [Wl.sync_eq]; exact ⟨rfl, rfl⟩
 ·rw [Wl.sync_eq]; exact ⟨rfl, rfl⟩
theorem putBytes_le {b : List UInt8} (h : b.length <= 512) : 0 < (putBytes b).length /\ (putBytes b).length <= 522 := by
 have h1 := uint_pos b.length
 have h2 := uint_le10 (n := b.length) (by omega)
 rw [putBytes_length]
 omega
theorem DOk.lay {c : Nat} {D : Dk} (h : DOk c D) {W : Wl} (o : WBd c W) (hc : c <= 1000000000) (hw : W.code = 0) {b : List UInt8} (hb : b.length <= 512) : DOk (c + 10) (wLay W b D).2.1 := by
 unfold wLay
 cases hop : W.op with
 | none => exact h.up (by omega)
 | some q =>
  have hq := o.op q hop
  unfold wMany at hq
  have hr := o.rest q hop hw
  have hp := putBytes_le hb
  exact (h.wrO q (putBytes b) (by omega)).up (by omega)
theorem WBd.lay {c : Nat} {W : Wl} (o : WBd c W) (hw : W.code = 0) (hl : W.first + W.recs.length < wTop) {b : List UInt8} (hb : b.length <= 512) (D : Dk) : WBd (c + 10) (wLay W b D).1 := by
 unfold wLay
 cases hop : W.op with
 | none => exact o.up (by omega)
 | some q =>
  have hq := o.op q hop
  have hr := o.rest q hop hw
  have hp := putBytes_le hb
  have hn := wrO_num q (putBytes b) D
  have h1 := o.recs
  have h2 := o.old
  have h3 := o.next
  have h4 := o.last
  refine ⟨?_, ?_, by dsimp only; omega, by dsimp only; omega, ?_, ?_, ?_, ?_⟩
  ·dsimp only
   split
   ·rw [List.length_append]; simp only [List.length_cons, List.length_nil]; omega
   ·exact h4
  ·dsimp only
   split
   ·rw [List.length_append]; simp only [List.length_cons, List.length_nil]; omega
   ·omega
  ·intro x hx
   simp only [Option.some.injEq] at hx
   rw [<- hx]
   exact ⟨by rw [hn.1]; omega, by have := hn.2.2; omega⟩
  ·intro x hx hc
   simp only [Option.some.injEq] at hx
   rw [<- hx]
   exact wrO_rest _ _ _ hc
  ·intro s hs
   have := o.olds s hs
   omega
  ·intro r hr
   dsimp only at hr
   split at hr
   ·rcases List.mem_append.1 hr with hr | hr
    ·exact o.recl r hr
    ·simp only [List.mem_singleton] at hr; rw [hr]; exact hb
   ·exact o.recl r hr
theorem DOk.append {c : Nat} {D : Dk} (h : DOk c D) {W : Wl} (o : WBd c W) (hc : c <= 999999990) (b : List UInt8) : DOk (c + 12) (W.append b D).2.1 := by
 have hl := o.last
 unfold Wl.append
 split
 ·exact h.up (by omega)
 ·rename_i hw
  have hw := Decidable.not_not.1 hw
  split
  ·exact h.up (by omega)
  ·split
   ·exact h.up (by omega)
   ·split
    ·have hb := h.begin o (W.first + W.recs.length) (by unfold wTop at hl; omega) (by omega)
     split
     ·exact hb.up (by omega)
     ·rename_i h2
      exact (hb.lay ((o.begin _ hl D).up (by omega)) (by omega) (Decidable.not_not.1 h2) (by omega)).up (by omega)
    ·exact (h.lay o (by omega) hw (by omega)).up (by omega)
theorem WBd.append {c : Nat} {W : Wl} (o : WBd c W) (b : List UInt8) (D : Dk) : WBd (c + 12) (W.append b D).1 := by
 have hl := o.last
 unfold Wl.append
 split
 ·exact o.up (by omega)
 ·rename_i hw
  have hw := Decidable.not_not.1 hw
  split
  ·exact o.up (by omega)
  ·split
   ·exact o.up (by omega)
   ·split
    ·have hb := o.begin (W.first + W.recs.length) hl D
     split
     ·exact hb.up (by omega)
     ·rename_i h2
      have hr := begin_recs W (W.first + W.recs.length) D
      exact (hb.lay (Decidable.not_not.1 h2) (by rw [hr.1, hr.2]; omega) (by omega) _).up (by omega)
    ·exact (o.lay hw (by omega) (by omega) D).up (by omega)
theorem DOk.truncate {c : Nat} {D : Dk} (h : DOk c D) {W : Wl} (o : WBd c W) (hc : c <= 1000000000) (i : Nat) (hi : i < 18446744073709551616) : DOk (c + 2) (W.truncate i D).2.1 := by
 unfold Wl.truncate
 split
 ·exact h.up (by omega)
 ·split
  ·exact h.up (by omega)
  ·split
   ·exact h.up (by omega)
   ·exact h.begin o i hi hc
theorem WBd.cutR {c : Nat} {W : Wl} (o : WBd c W) (n : Nat) : WBd c { W with recs := W.recs.take n } := by
 have h1 : (W.recs.take n).length <= W.recs.length := by rw [List.length_take]; omega
 exact ⟨by have := o.last; dsimp only; omega, by have := o.recs; dsimp only; omega, o.old, o.next, o.op, o.rest, o.olds, fun r hr => o.recl r (List.mem_of_mem_take hr)⟩
theorem WBd.truncate {c : Nat} {W : Wl} (o : WBd c W) (i : Nat) (D : Dk) : WBd (c + 1) (W.truncate i D).1 := by
 have hl := o.last
 unfold Wl.truncate
 split
 ·exact o.up (by omega)
 ·split
  ·exact o.up (by omega)
  ·split
   ·exact o.up (by omega)
   ·have hb := o.begin i (by omega) D
    dsimp only
    split
    ·have hr := begin_recs W i D
     rw [<- hr.2]
     exact hb.cutR _
    ·exact hb
theorem DOk.compact1 {c : Nat} {D : Dk} (h : DOk c D) {W : Wl} (o : WBd c W) (hc : c <= 1000000000) (i : Nat) (hi : i < 18446744073709551616) : DOk (c + 2) (W.compact1 i D).2 := by
 unfold Wl.compact1
 split
 ·exact h.begin o i hi hc
 ·exact h.up (by omega)
theorem WBd.compact1 {c : Nat} {W : Wl} (o : WBd c W) (i : Nat) (D : Dk) : WBd (c + 1) (W.compact1 i D).1 := by
 have hl := o.last
 unfold Wl.compact1
 split
 ·exact o.begin i (by omega) D
 ·exact o.up (by omega)
theorem DOk.compact2 {c : Nat} {D : Dk} (h : DOk c D) {W : Wl} (o : WBd c W) (hc : c <= 1000000000) (i : Nat) (hi : i < 18446744073709551616) : DOk (c + 3) (W.compact2 i D).2 := (h.compact1 o hc i hi).syncW _
theorem WBd.compact2 {c : Nat} {W : Wl} (o : WBd c W) (i : Nat) (D : Dk) : WBd (c + 1) (W.compact2 i D).1 := (o.compact1 i D).sync _
theorem compact2_recs (W : Wl) (i : Nat) (D : Dk) : (W.compact2 i D).1.first = W.first /\ (W.compact2 i D).1.recs = W.recs := by
 unfold Wl.compact2
 rw [Wl.sync_eq]
 unfold Wl.compact1
 split
 ·exact begin_recs W i D
 ·exact ⟨rfl, rfl⟩
theorem DOk.wfree (i : Nat) : ∀ (f : Nat) (old : List (Nat × Nat)) (D : Dk) (c : Nat), DOk c D -> DOk (c + old.length) (wfree i f old D).2.1 /\ (wfree i f old D).1 <:+ old
 | 0, old, D, c, h => ⟨h.up (by omega), List.suffix_refl _⟩
 | f + 1, old, D, c, h => by
  have hf := h.free (segA (old.headD (0, 0)).1)
  unfold Go.En.wfree
  split
  ·rename_i h1
   split
   ·exact ⟨hf.up (by omega), List.suffix_refl _⟩
   ·obtain ⟨g1, g2⟩ := DOk.wfree i f (old.drop 1) _ _ hf
    refine ⟨g1.up (by rw [List.length_drop]; omega), g2.trans (List.drop_suffix 1 old)⟩
  ·exact ⟨h.up (by omega), List.suffix_refl _⟩
theorem DOk.compact {c : Nat} {D : Dk} (h : DOk c D) {W : Wl} (o : WBd c W) (hc : c <= 1000000000) (i : Nat) (hi : i < 18446744073709551616) : DOk (c + 3 + (W.compact2 i D).1.old.length) (W.compact i D).2.1 := by
 have h2 := h.compact2 o hc i hi
 have h3 := (DOk.wfree i ((W.compact2 i D).1.old.length + 1) (W.compact2 i D).1.old (W.compact2 i D).2 _ h2).1
 unfold Wl.compact
 split
 ·exact h.up (by omega)
 ·split
  ·exact h.up (by omega)
  ·split
   ·exact h.up (by omega)
   ·split
    ·exact h2.up (by omega)
    ·split
     ·exact h3
     ·exact h3
theorem WBd.compact {c : Nat} {W : Wl} (o : WBd c W) (i : Nat) (D : Dk) : WBd (c + 1) (W.compact i D).1 := by
 have h2 := o.compact2 i D
 have hr := compact2_recs W i D
 have hs : (Go.En.wfree i ((W.compact2 i D).1.old.length + 1) (W.compact2 i D).1.old (W.compact2 i D).2).1 <:+ (W.compact2 i D).1.old := by
  generalize (W.compact2 i D).1.old = old
  generalize (W.compact2 i D).2 = E
  generalize old.length + 1 = f
  induction f generalizing old E with
  | zero => exact List.suffix_refl _
  | succ f ih =>
   unfold Go.En.wfree
   split
   ·split
    ·exact List.suffix_refl _
    ·exact (ih _ _).trans (List.drop_suffix 1 old)
   ·exact List.suffix_refl _
 have hl := o.last
 unfold Wl.compact
 split
 ·exact o.up (by omega)
 ·rename_i hcode
  split
  ·exact o.up (by omega)
  ·split
   ·exact o.up (by omega)
   ·split
    ·exact h2
    ·rename_i hc2
     split
     ·rename_i h6
      exact ⟨h2.last, h2.recs, Nat.le_trans hs.length_le h2.old, h2.next, h2.op, fun q hq hc => absurd hc h6, fun s hm => h2.olds s (hs.subset hm), h2.recl⟩
     ·refine ⟨?_, ?_, Nat.le_trans hs.length_le h2.old, h2.next, h2.op, h2.rest, fun s hm => h2.olds s (hs.subset hm), fun r hm => o.recl r (List.mem_of_mem_drop hm)⟩
      ·dsimp only; rw [List.length_drop]; omega
      ·have := o.recs; dsimp only; rw [List.length_drop]; omega
theorem DOk.wreset : ∀ (l : List Int) (D : Dk) (c : Nat), DOk c D -> DOk (c + l.length) (wreset l D).1
 | [], D, c, h => h.up (by omega)
 | a :: r, D, c, h => by
  have hf := h.free a
  unfold Go.En.wreset
  split
  ·split
   ·exact (DOk.wreset r _ _ hf).up (by simp only [List.length_cons]; omega)
   ·exact hf.up (by simp only [List.length_cons]; omega)
  ·exact (DOk.wreset r _ _ h).up (by simp only [List.length_cons]; omega)
theorem DOk.reset {c : Nat} {D : Dk} (h : DOk c D) (W : Wl) (first : Nat) : DOk (c + (areasL D).length) (W.reset first D).2.1 := by
 have h1 := DOk.wreset (areasL D) D c h
 unfold Wl.reset
 split
 ·exact h.up (by omega)
 ·split
  ·exact h.up (by omega)
  ·split
   ·exact h1
   ·exact h1
theorem WBd.reset {c : Nat} {W : Wl} (o : WBd c W) (first : Nat) (D : Dk) : WBd c (W.reset first D).1 := by
 unfold Wl.reset
 split
 ·exact o
 ·split
  ·exact o
  ·split
   ·rename_i h1
    exact ⟨o.last, o.recs, o.old, o.next, o.op, fun q hq hc => absurd hc h1, o.olds, o.recl⟩
   ·exact ⟨by simp; omega, by simp, by simp, o.next, by simp, by simp, by simp, by simp⟩
end Go.En
end
section
namespace Go.Proofs.YtneeeblghijmgaaGreat
open Go.En
attribute [local irreducible] Code.wp wpList Calls
theorem appendWC {w0 : World} {K dh hv : PH} {m hs : List PH} (wb db : Nat) (W : Wl) (hW : WalM K wb db W m) (D : Dk) (c : Nat) (oD : DOk c D) (hc : c <= 999999000) (hb : WBd c W) (hd : DskH K db D dh) (ab : Option Addr) (cb : Nat) (b : List UInt8) (hbl : b.length < 1099511627776) (hin : In K hs hv) (x : IsS hv ab b.length cb 1 (bv b)) :
  Ct Tryz.prog w0 74 [.pointer (some ⟨wb, 0, none⟩), .slice ab b.length cb] K (m ++ dh :: hs)
   (fun v K' hs' => Le K K' /\ ∃ m' dh', hs' = m' ++ dh' :: hs /\ WalM K' wb db (W.append b D).1 m' /\ DskH K' db (W.append b D).2.1 dh' /\ v = .int .i64 (W.append b D).2.2) := by
 obtain ⟨ob, aL, cL, aO, cO, oH, rH, gL, gO, rfl, hop, hL, hO⟩ := id hW
 have hlast := hb.last
 refine enter Tryz.func74 (by kernel_rfl) rfl rfl rfl ?_
 refine sq (rg ?_)
 refine fin hT 1 rfl (th (sq (bk (sq (rg ?_)))))
 refine ldp hT 3 0 rfl rfl rfl ?_
 refine cmpS hT 0 rfl fun b10 h10 => ?_
 refine fin hT 1 rfl (th (ifP h10 rfl (fun e2 => ?_) (fun e2 => ?_)))
 ·have e : W.append b D = (W, D, W.code) := by unfold Wl.append; rw [if_pos e2]
  rw [e]
  refine sq (rg ?_)
  refine ldp hT 3 0 rfl rfl rfl ?_
  refine fin hT 1 rfl (th (rt (rB (rT ?_))))
  exact ret1 rfl rfl ⟨Le.refl _, _, _, rfl, hW, hd, rfl⟩
 ·have hcode : W.code = 0 := Decidable.not_not.1 e2
  refine sq (rg ?_)
  refine cmpS hT 2 rfl fun b18 h18 => ?_
  refine fin hT 1 rfl (th (ifP h18 rfl (fun e4 => ?_) (fun e4 => ?_)))
  ·have e : W.append b D = (W, D, 50) := by unfold Wl.append; rw [if_neg e2, if_pos (by omega)]
   rw [e]
   refine sq (rg ?_)
   refine fin hT 1 rfl (th (rt (rB (rT ?_))))
   exact ret1 rfl rfl ⟨Le.refl _, _, _, rfl, hW, hd, rfl⟩
  ·refine sq (rg ?_)
   refine cl hT 1 rfl (lastWC wb db W hW hlast) ?_
   rintro v21 K21 hs21 ⟨rfl, rfl, rfl⟩
   refine ar hT 0 rfl (u64back _ (by unfold wTop at hlast; omega)) ?_
   refine cmpS hT 0 rfl fun b23 h23 => ?_
   refine fin hT 1 rfl (th (ifP h23 rfl (fun e6 => ?_) (fun e6 => ?_)))
   ·have e : W.append b D = (W, D, 51) := by unfold Wl.append; rw [if_neg e2, if_neg (by omega), if_pos (by unfold wTop; omega)]
    rw [e]
    refine sq (rg ?_)
    refine fin hT 1 rfl (th (rt (rB (rT ?_))))
    exact ret1 rfl rfl ⟨Le.refl _, _, _, rfl, hW, hd, rfl⟩
   ·have e0 : W.append b D = if wNeed W.op = true then
      (if (W.begin (W.first + W.recs.length) D).1.code ≠ 0 then ((W.begin (W.first + W.recs.length) D).1, (W.begin (W.first + W.recs.length) D).2, (W.begin (W.first + W.recs.length) D).1.code)
       else wLay (W.begin (W.first + W.recs.length) D).1 b (W.begin (W.first + W.recs.length) D).2)
     else wLay W b D := by unfold Wl.append; rw [if_neg e2, if_neg (by omega), if_neg (by unfold wTop; omega)]
    rw [e0]
    obtain ⟨B, hB⟩ : ∃ B, B = W.begin (W.first + W.recs.length) D := ⟨_, rfl⟩
    have oB : DOk (c + 2) B.2 := by rw [hB]; exact oD.begin hb _ (by unfold wTop at hlast; omega) (by omega)
    have bB : WBd (c + 2) B.1 := by rw [hB]; exact (hb.begin _ hlast D).up (by omega)
    have rB2 := begin_recs W (W.first + W.recs.length) D
    have oB2 : B.1.code = 0 -> B.1.op ≠ none := by rw [hB]; exact fun h => (begin_op h).1
    rw [<- hB] at rB2 ⊢
    refine sk (bl (th (jnK (σ := (Wl × Dk) × (List PH × PH) × PH) (fun _ => [(0, .pointer (some ⟨wb, 0, none⟩)), (1, .slice ab b.length cb)]) (fun s => s.2.2) (fun s => s.2.1.1 ++ s.2.1.2 :: hs)
     (fun s => Le K21 s.2.2 /\ WalM s.2.2 wb db s.1.1 s.2.1.1 /\ DskH s.2.2 db s.1.2 s.2.1.2 /\ DOk (c + 2) s.1.2 /\ WBd (c + 2) s.1.1 /\ s.1.1.code = 0 /\ s.1.1.op ≠ none /\ s.1.1.first + s.1.1.recs.length < wTop /\
      (if wNeed W.op = true then (if B.1.code ≠ 0 then (B.1, B.2, B.1.code) else wLay B.1 b B.2) else wLay W b D) = wLay s.1.1 b s.1.2) ?_ ?_)))
    ·refine sq (rg ?_)
     refine ldp hT 3 0 rfl rfl rfl ?_
     cases hwo : W.op with
     | none =>
      rw [hwo] at hop
      obtain ⟨rfl, rfl, rfl⟩ := hop
      refine En.cb hT 0 rfl (fun h => ?_) (fun h => by simp at h)
      refine cl hT 13 rfl (lastWC wb db W hW hlast) ?_
      rintro v42 K42 hs42 ⟨rfl, rfl, rfl⟩
      refine ar hT 0 rfl (u64back _ (by unfold wTop at hlast; omega)) ?_
      refine cl hT 0 rfl (beginWC wb db W hW D c oD.ok (by omega) hb hd (W.first + W.recs.length) (by unfold wTop at hlast; omega)) ?_
      rintro v44 K44 hs44 ⟨le, m', dh', rfl, hW', hd', rfl⟩
      rw [<- hB] at hW' hd' ⊢
      refine cmpS hT 0 rfl fun b45 h45 => ?_
      refine fin hT 1 rfl (th (ifP h45 rfl (fun e12 => ?_) (fun e12 => ?_)))
      ·rw [if_pos (by rfl), if_pos e12]
       obtain ⟨ob2, aL2, cL2, aO2, cO2, oH2, rH2, gL2, gO2, rfl, hop2, hL2, hO2⟩ := id hW'
       refine sq (rg ?_)
       refine ldp hT 3 0 rfl rfl rfl ?_
       refine fin hT 1 rfl (th (rt (rT ?_)))
       exact ret1 rfl rfl ⟨le, _, _, rfl, hW', hd', rfl⟩
      ·have e12 := Decidable.not_not.1 e12
       refine sk ?_
       exact jxK ((B.1, B.2), (m', dh'), K44) ⟨le, hW', hd', oB, bB, e12, oB2 e12, by rw [rB2.1, rB2.2]; unfold wTop at hlast ⊢; omega, by rw [if_pos (by rfl), if_neg (by rw [e12]; simp)]⟩ ⟨rfl, rfl, trivial⟩ rfl rfl
     | some o =>
      rw [hwo] at hop
      obtain ⟨b1, aR, cR, rfl, rfl, oR⟩ := hop
      refine En.cb hT 0 rfl (fun h => by simp at h) (fun h => ?_)
      refine ldp hT 4 0 rfl rfl rfl ?_
      refine ldp hT 2 1 rfl rfl rfl ?_
      refine cmp hT 0 rfl (fun h37 => ?_) (fun h37 => ?_)
      ·have hneed : wNeed (some o) = true := decide_eq_true (by omega)
       refine cl hT 4 rfl (lastWC wb db W hW hlast) ?_
       rintro v42 K42 hs42 ⟨rfl, rfl, rfl⟩
       refine ar hT 0 rfl (u64back _ (by unfold wTop at hlast; omega)) ?_
       refine cl hT 0 rfl (beginWC wb db W hW D c oD.ok (by omega) hb hd (W.first + W.recs.length) (by unfold wTop at hlast; omega)) ?_
       rintro v44 K44 hs44 ⟨le, m', dh', rfl, hW', hd', rfl⟩
       rw [<- hB] at hW' hd' ⊢
       refine cmpS hT 0 rfl fun b45 h45 => ?_
       refine fin hT 1 rfl (th (ifP h45 rfl (fun e12 => ?_) (fun e12 => ?_)))
       ·rw [if_pos hneed, if_pos e12]
        obtain ⟨ob2, aL2, cL2, aO2, cO2, oH2, rH2, gL2, gO2, rfl, hop2, hL2, hO2⟩ := id hW'
        refine sq (rg ?_)
        refine ldp hT 3 0 rfl rfl rfl ?_
        refine fin hT 1 rfl (th (rt (rT ?_)))
        exact ret1 rfl rfl ⟨le, _, _, rfl, hW', hd', rfl⟩
       ·have e12 := Decidable.not_not.1 e12
        refine sk ?_
        exact jxK ((B.1, B.2), (m', dh'), K44) ⟨le, hW', hd', oB, bB, e12, oB2 e12, by rw [rB2.1, rB2.2]; unfold wTop at hlast ⊢; omega, by rw [if_pos hneed, if_neg (by rw [e12]; simp)]⟩ ⟨rfl, rfl, trivial⟩ rfl rfl
      ·have hneed : ¬ wNeed (some o) = true := by simp only [wNeed, decide_eq_true_eq]; omega
       refine fin hT 9 rfl (th (ifF rfl ?_))
       refine sk ?_
       exact jxK ((W, D), ([_, _, _, _, _], dh), K21) ⟨Le.refl _, hW, hd, oD.up (by omega), hb.up (by omega), hcode, by rw [hwo]; simp, by dsimp only; unfold wTop at hlast ⊢; omega, by rw [if_neg hneed]⟩ ⟨rfl, rfl, trivial⟩ rfl rfl
    ·clear oB2 rB2 bB oB hop hL hO
     rintro ⟨⟨V, E⟩, ⟨m1, eh⟩, K1⟩ ⟨le, hV, hE, oE, bV, hcV, hoV, hlV, heq⟩
     dsimp only at *
     rw [heq]
     clear heq
     obtain ⟨ob, aL, cL, aO, cO, oH, rH, gL, gO, rfl, hop, hL, hO⟩ := id hV
     obtain ⟨op, first, recs, old, next, code⟩ := V
     dsimp only at *
     subst hcV
     cases op with
     | none => exact absurd rfl hoV
     | some o =>
      obtain ⟨b1, aR, cR, rfl, rfl, oR⟩ := hop
      have hq := bV.op o rfl
      have hr := bV.rest o rfl rfl
      have hrl := bV.recs
      unfold wMany at hq
      dsimp only at hq hr hrl
      have hpb := putBytes_le (b := b) (by omega)
      have eL : wLay ⟨some o, first, recs, old, next, 0⟩ b E = (⟨some (wrO o (putBytes b) E).1, first, if (wrO o (putBytes b) E).2.2 = 0 then recs ++ [b] else recs, old, next, (wrO o (putBytes b) E).2.2⟩, (wrO o (putBytes b) E).2.1, (wrO o (putBytes b) E).2.2) := rfl
      rw [eL]
      refine sq (sq (rg (WL.em ?_)))
      obtain ⟨hv', hin', lev⟩ := hin.le le
      refine cl hT 2 rfl (putBytesC none 0 [] ab cb b (Own.nil _ _) (hin'.tail (_ :: _ :: _ :: _ :: _ :: [eh])) (x.le lev) (by decide) (by omega)) ?_
      rintro v53 K53 hs53 ⟨hu, rfl, rfl, ao', c', rfl, ou⟩
      rw [List.nil_append] at ou
      refine WL.frz fun K2 l1 l2 => ?_
      obtain ⟨hv2, hin2, lev2⟩ := hin'.le l1
      refine cl hT 0 rfl (writeWC wb db b1 first _ _ next o aR cR oR (by omega) E (c + 2) oE.ok (by omega) (hE.le l1) (by omega) (by omega) ao' c' (putBytes b) ⟨hpb.1, by omega⟩ (.inl rfl) (ou.isS.le l2)) ?_
      rintro v54 K54 hs54 ⟨le3, aR', cR', rH', dh', rfl, oR', hd', rfl⟩
      obtain ⟨hv3, hin3, lev3⟩ := hin2.le le3
      have le4 := le.trans (l1.trans le3)
      refine cmpS hT 0 rfl fun b55 h55 => ?_
      refine fin hT 0 rfl (th (ifP h55 rfl (fun e14 => ?_) (fun e14 => ?_)))
      ·rw [if_pos e14]
       refine rga [pt wb (wlA db (some b1) first (.slice aL recs.length cL) (.slice aO old.length cO) next (wrO o (putBytes b) E).2.2) 146] 11 [0, 2, 4, 6, 8, 10, 13, 15, 17, 18, 20, 23] (by simp) (by kernel_rfl) (by kernel_rfl) ?_
       refine dldpw hT (by kernel_rfl) 4 0 rfl (by kernel_rfl) rfl rfl ?_
       refine dact hT (by kernel_rfl) 1 rfl ?_
       refine cl hT 0 rfl (cloneB ab cb b (hin3.tail (_ :: _ :: _ :: _ :: _ :: [dh'])) (((x.le lev).le lev2).le lev3) (by omega)) ?_
       rintro v62 K62 hs62 ⟨rfl, g, aoc, cc, rfl, rfl, og⟩
       refine WL.frz fun K3 l3 l4 => ?_
       refine dnexL [pt wb (wlA db (some b1) first (.slice aL recs.length cL) (.slice aO old.length cO) next (wrO o (putBytes b) E).2.2) 146] (by simp) (by simp) l3 ?_
       refine dact hT (by kernel_rfl) 0 rfl ?_
       refine lit hT 0 #[.slice aoc b.length cc] rfl (by decide) (by kernel_rfl) fun b63 => ?_
       refine dnex [pt wb (wlA db (some b1) first (.slice aL recs.length cL) (.slice aO old.length cO) next (wrO o (putBytes b) E).2.2) 146] (by simp) (by simp) rfl ?_
       refine dact hT (by kernel_rfl) 0 rfl ?_
       refine appSq (R := recR K3) hT 0 4 [.slice aoc b.length cc] b rfl rfl rfl (hL.imp fun _ _ h => ((h.le l1).le le3).le l3) ⟨aoc, cc, rfl, og.isS.le l4⟩ rfl (by simp [Value.oneCell']) rfl (by decide) (by show (recs.length + 1) * 24 <= _; omega) (by simp only [maxLen]; omega) fun ao64 c64 g64 o64 => ?_
       refine dnex [pt wb (wlA db (some b1) first (.slice aL recs.length cL) (.slice aO old.length cO) next (wrO o (putBytes b) E).2.2) 146] (by simp) (by simp) rfl ?_
       refine dact hT (by kernel_rfl) 2 rfl ?_
       refine stp hT 0 1 rfl rfl rfl rfl ?_
       refine dnext (.inl (by kernel_rfl)) ?_
       refine dend hT (by kernel_rfl) 0 rfl (th (sq (rg (WL.drop ?_))))
       refine ldp hT 3 0 rfl rfl rfl ?_
       refine fin hT 1 rfl (th (rt ?_))
       refine ret1 rfl rfl ⟨le4.trans l3, [_, _, _, _, _], dh', rfl, ⟨some b1, ao64, c64, aO, cO, _, rH', g64, gO, ?_, ⟨b1, aR', cR', rfl, rfl, oR'⟩, ?_, hO⟩, hd'.le l3, rfl⟩
       ·dsimp only; rw [List.length_append]; rfl
       ·dsimp only; rw [List.length_append]; exact o64
      ·rw [if_neg e14]
       refine sk (th (sq (rg ?_)))
       refine ldp hT 3 0 rfl rfl rfl ?_
       refine fin hT 1 rfl (th (rt ?_))
       exact ret1 rfl rfl ⟨le4, [_, _, _, _, _], dh', rfl, ⟨some b1, aL, cL, aO, cO, _, rH', gL, gO, rfl, ⟨b1, aR', cR', rfl, rfl, oR'⟩, hL.imp fun _ _ h => (h.le l1).le le3, hO⟩, hd', rfl⟩
theorem truncWC {w0 : World} {K dh : PH} {m hs : List PH} (wb db : Nat) (W : Wl) (hW : WalM K wb db W m) (D : Dk) (c : Nat) (oD : DOk c D) (hc : c <= 999999000) (hb : WBd c W) (hd : DskH K db D dh) (i : Nat) (hi : i < 18446744073709551616) :
  Ct Tryz.prog w0 40 [.pointer (some ⟨wb, 0, none⟩), .int .u64 ((i : Nat) : Int)] K (m ++ dh :: hs)
   (fun v K' hs' => Le K K' /\ ∃ m' dh', hs' = m' ++ dh' :: hs /\ WalM K' wb db (W.truncate i D).1 m' /\ DskH K' db (W.truncate i D).2.1 dh' /\ v = .int .i64 (W.truncate i D).2.2) := by
 obtain ⟨ob, aL, cL, aO, cO, oH, rH, gL, gO, rfl, hop, hL, hO⟩ := id hW
 have hlast := hb.last
 have hrl := hb.recs
 unfold wTop at hlast
 refine enter Tryz.func40 (by kernel_rfl) rfl rfl rfl ?_
 refine sq (rg ?_)
 refine fin hT 1 rfl (th (sq (bk (sq (rg ?_)))))
 refine ldp hT 3 0 rfl rfl rfl ?_
 refine cmpS hT 0 rfl fun b10 h10 => ?_
 refine fin hT 1 rfl (th (ifP h10 rfl (fun e2 => ?_) (fun e2 => ?_)))
 ·have e : W.truncate i D = (W, D, W.code) := by unfold Wl.truncate; rw [if_pos e2]
  rw [e]
  refine sq (rg ?_)
  refine ldp hT 3 0 rfl rfl rfl ?_
  refine fin hT 1 rfl (th (rt (rB (rT ?_))))
  exact ret1 rfl rfl ⟨Le.refl _, _, _, rfl, hW, hd, rfl⟩
 ·have hcode : W.code = 0 := Decidable.not_not.1 e2
  refine sq (rga [pt wb (wlA db ob W.first (.slice aL W.recs.length cL) (.slice aO W.old.length cO) W.next W.code) 146] 22 [0, 2, 4, 6, 8, 10, 12, 14, 16, 18, 20, 22, 24, 26, 28, 30, 32, 34, 36, 38, 40, 42] (by simp) (by kernel_rfl) (by kernel_rfl) ?_)
  refine dldp hT (by kernel_rfl) 4 0 rfl rfl rfl ?_
  refine dcmp hT (by kernel_rfl) 0 (i < W.first) rfl (by simp) (fun h3 => ?_) (fun h3 => ?_)
  ·have e : W.truncate i D = (W, D, 51) := by unfold Wl.truncate; rw [if_neg e2, if_pos (.inl h3)]
   rw [e]
   refine dend hT (by kernel_rfl) 16 rfl (th (ifT rfl (sq (rg ?_))))
   refine fin hT 1 rfl (th (rt (rB (rT ?_))))
   exact ret1 rfl rfl ⟨Le.refl _, _, _, rfl, hW, hd, rfl⟩
  ·refine dldp hT (by kernel_rfl) 5 0 rfl rfl rfl ?_
   refine dar hT (by kernel_rfl) 0 rfl (v' := .int .u64 ((i - W.first : Nat) : Int)) (by rw [show ((i : Nat) : Int) - ((W.first : Nat) : Int) = ((i - W.first : Nat) : Int) from by omega]; exact u64w (by omega)) ?_
   refine dldp hT (by kernel_rfl) 3 0 rfl rfl rfl ?_
   refine dar hT (by kernel_rfl) 1 rfl (u64w (x := ((W.recs.length : Nat) : Int)) (by omega)) ?_
   refine dcbS hT (by kernel_rfl) 0 (W.recs.length < i - W.first) rfl (by simp) fun b35 h35 => ?_
   refine dend hT (by kernel_rfl) 2 rfl (th (ifP h35 rfl (fun e4 => ?_) (fun e4 => ?_)))
   ·have e : W.truncate i D = (W, D, 51) := by unfold Wl.truncate; rw [if_neg e2, if_pos (.inr e4)]
    rw [e]
    refine sq (rg ?_)
    refine fin hT 1 rfl (th (rt (rB (rT ?_))))
    exact ret1 rfl rfl ⟨Le.refl _, _, _, rfl, hW, hd, rfl⟩
   ·refine sq (rga [pt wb (wlA db ob W.first (.slice aL W.recs.length cL) (.slice aO W.old.length cO) W.next W.code) 146] 14 [0, 2, 4, 6, 8, 10, 12, 14, 16, 18, 20, 22, 24, 26] (by simp) (by kernel_rfl) (by kernel_rfl) ?_)
    refine dldp hT (by kernel_rfl) 4 0 rfl rfl rfl ?_
    refine dar hT (by kernel_rfl) 0 rfl (v' := .int .u64 ((i - W.first : Nat) : Int)) (by rw [show ((i : Nat) : Int) - ((W.first : Nat) : Int) = ((i - W.first : Nat) : Int) from by omega]; exact u64w (by omega)) ?_
    refine dldp hT (by kernel_rfl) 3 0 rfl rfl rfl ?_
    refine dar hT (by kernel_rfl) 1 rfl (u64w (x := ((W.recs.length : Nat) : Int)) (by omega)) ?_
    refine dcbS hT (by kernel_rfl) 0 (i - W.first = W.recs.length) rfl (by simp; omega) fun b50 h50 => ?_
    refine dend hT (by kernel_rfl) 1 rfl (th (ifP h50 rfl (fun e5 => ?_) (fun e5 => ?_)))
    ·have e : W.truncate i D = (W, D, 0) := by unfold Wl.truncate; rw [if_neg e2, if_neg (by omega), if_pos e5]
     rw [e]
     refine sq (rg ?_)
     refine fin hT 1 rfl (th (rt (rB (rT ?_))))
     exact ret1 rfl rfl ⟨Le.refl _, _, _, rfl, hW, hd, rfl⟩
    ·have e : W.truncate i D = (if (W.begin i D).1.code = 0 then { (W.begin i D).1 with recs := W.recs.take (i - W.first) } else (W.begin i D).1, (W.begin i D).2, (W.begin i D).1.code) := by
      unfold Wl.truncate; rw [if_neg e2, if_neg (by omega), if_neg e5]
     rw [e]
     refine sk (bl (th (sq (sq (rg ?_)))))
     refine cl hT 2 rfl (beginWC wb db W hW D c oD.ok (by omega) hb hd i hi) ?_
     rintro v53 K53 hs53 ⟨le, m', dh', rfl, hW', hd', rfl⟩
     have hr := begin_recs W i D
     obtain ⟨B, hB⟩ : ∃ B, B = W.begin i D := ⟨_, rfl⟩
     rw [<- hB] at hW' hd' hr ⊢
     refine cmpS hT 0 rfl fun b54 h54 => ?_
     refine fin hT 0 rfl (th (ifP h54 rfl (fun e7 => ?_) (fun e7 => ?_)))
     ·rw [if_pos e7]
      obtain ⟨ob2, aL2, cL2, aO2, cO2, oH2, rH2, gL2, gO2, rfl, hop2, hL2, hO2⟩ := hW'
      obtain ⟨⟨op, first, recs, old, next, code⟩, E⟩ := B
      dsimp only at *
      obtain ⟨rfl, rfl⟩ := hr
      have hcap := hL2.caps
      refine rga [pt wb (wlA db ob2 W.first (.slice aL2 W.recs.length cL2) (.slice aO2 old.length cO2) next code) 146] 14 [0, 2, 4, 6, 8, 10, 12, 14, 16, 18, 20, 22, 24, 26, 29] (by simp) (by kernel_rfl) (by kernel_rfl) ?_
      refine dldpw hT (by kernel_rfl) 4 0 rfl (by kernel_rfl) rfl rfl ?_
      refine dldpw hT (by kernel_rfl) 4 0 rfl (by kernel_rfl) rfl rfl ?_
      refine dar hT (by kernel_rfl) 0 rfl (v' := .int .u64 ((i - W.first : Nat) : Int)) (by rw [show ((i : Nat) : Int) - ((W.first : Nat) : Int) = ((i - W.first : Nat) : Int) from by omega]; exact u64w (by omega)) ?_
      refine dslx hT (by kernel_rfl) 0 0 (i - W.first) rfl rfl rfl (by show ((i - W.first : Nat) : Int) = ((0 + (i - W.first) : Nat) : Int); omega) (by omega) ?_
      refine dact hT (by kernel_rfl) 2 rfl ?_
      refine stp hT 0 0 rfl rfl rfl rfl ?_
      refine dnext (.inl (by kernel_rfl)) ?_
      obtain ⟨gL3, hg3, hL3⟩ := hL2.cut 0 (i - W.first) (by omega)
      refine dend hT (by kernel_rfl) 0 rfl (th (sq (WC.loss 3 gL3 rfl hg3 (rg ?_))))
      refine ldp hT 3 0 rfl rfl rfl ?_
      refine fin hT 1 rfl (th (rt ?_))
      have hlen : (W.recs.take (i - W.first)).length = i - W.first := by rw [List.length_take]; omega
      refine ret1 rfl rfl ⟨le, [_, _, _, _, _], dh', rfl, ⟨ob2, cutA aL2 cL2 0 1, cL2 - 0, aO2, cO2, oH2, rH2, gL3, gO2, ?_, hop2, ?_, hO2⟩, hd', rfl⟩
      ·dsimp only; rw [hlen]; rfl
      ·dsimp only; rw [hlen, <- List.drop_zero (l := W.recs)]; exact hL3
     ·rw [if_neg e7]
      obtain ⟨ob2, aL2, cL2, aO2, cO2, oH2, rH2, gL2, gO2, rfl, hop2, hL2, hO2⟩ := id hW'
      refine sk (th (sq (rg ?_)))
      refine ldp hT 3 0 rfl rfl rfl ?_
      refine fin hT 1 rfl (th (rt ?_))
      exact ret1 rfl rfl ⟨le, _, _, rfl, hW', hd', rfl⟩
end Go.Proofs.YtneeeblghijmgaaGreat
end
section
namespace Go.En
theorem SlZ.gets {α : Type} {R : List Value -> α -> Prop} {size e : Nat} {h : PH} {ao : Option Addr} {n cap : Nat} {xs : List α} (x : SlZ size e R h ao n cap xs) (hs : 0 < size) {i : Nat} {y : α} (hy : xs[i]? = some y) :
  ∃ c, R c y /\ c.length = size /\ ∃ g off cur, ao = some ⟨g, off, none⟩ /\ h = pt g cur e /\ ∀ (j : Nat) v, c[j]? = some v -> cur[off + i * size + j]? = some v := by
 obtain ⟨css, h1, h2, h3, h4⟩ := x
 obtain ⟨c, hc, hR⟩ := h3.get hy
 have hl := h4 c (List.mem_of_getElem? hc)
 have hi : i < n := by rw [h1]; exact (List.getElem?_eq_some_iff.1 hy).1
 refine ⟨c, hR, hl, ?_⟩
 rcases h2 with ⟨g1, g2, g3, ⟨g4, g5, g6⟩ | ⟨g, off, cur, g4, g5, g6, g7⟩⟩ | ⟨rfl, _⟩
 ·omega
 ·refine ⟨g, off, cur, g4, g5, fun j v hv => ?_⟩
  have hj : j < size := by rw [<- hl]; exact (List.getElem?_eq_some_iff.1 hv).1
  have hf := flat_get h4 hc j v hv
  have hlt : i * size + j < n * size := by
   have : (i + 1) * size <= n * size := Nat.mul_le_mul_right _ hi
   rw [Nat.add_mul] at this
   omega
  rw [<- g7, List.getElem?_take_of_lt hlt, List.getElem?_drop] at hf
  rw [Nat.add_assoc]
  simpa using hf
 ·omega
theorem wfree_step (i f : Nat) (old : List (Nat × Nat)) (D : Dk) : wfree i (f + 1) old D = if 1 < old.length /\ wfreed old i = true then
   (if (D.free (segA (old.headD (0, 0)).1)).2 ≠ 0 then (old, (D.free (segA (old.headD (0, 0)).1)).1, (D.free (segA (old.headD (0, 0)).1)).2)
    else wfree i f (old.drop 1) (D.free (segA (old.headD (0, 0)).1)).1)
  else (old, D, 0) := rfl
end Go.En
namespace Go.Proofs.YtneeeblghijmgaaGreat
open Go.En
attribute [local irreducible] Code.wp wpList Calls
theorem freedC {w0 : World} {K oH rH gL gO : PH} {hs : List PH} (wb db : Nat) (ob : Option Nat) (first : Nat) (lv : Value) (next : Nat) (code : Int) (aO : Option Addr) (cO : Nat) (old : List (Nat × Nat)) (hO : SlZ 2 173 segR gO aO old.length cO old) (h1 : 1 < old.length) (hl : old.length <= 1099511627776) (i : Nat) :
  Ct Tryz.prog w0 130 [.pointer (some ⟨wb, 0, none⟩), .int .u64 ((i : Nat) : Int)] K (pt wb (wlA db ob first lv (.slice aO old.length cO) next code) 146 :: oH :: rH :: gL :: gO :: hs)
   (fun v K' hs' => K' = K /\ hs' = pt wb (wlA db ob first lv (.slice aO old.length cO) next code) 146 :: oH :: rH :: gL :: gO :: hs /\ v = .bool (wfreed old i)) := by
 have hcap := hO.caps
 have hS := hO.slS.cut 1 (by omega)
 obtain ⟨a, ha⟩ := hS.addr (by omega) (by decide)
 rw [ha] at hS
 obtain ⟨vs, xs⟩ := hS.isS
 refine enter Tryz.func130 (by kernel_rfl) rfl rfl rfl ?_
 refine sq (rg ?_)
 refine fin hT 1 rfl (th (sq (sq (rg ?_))))
 refine ldp hT 3 0 rfl rfl rfl ?_
 refine slx hT 0 1 (old.length - 1) rfl rfl (by show ((old.length : Nat) : Int) = _; omega) (by omega) ?_
 rw [show cutA aO cO 1 2 = some a from ha]
 refine fin hT 2 rfl (th (bk ?_))
 refine loop (σ := Nat) (fun j => [(1, .int .u64 ((i : Nat) : Int)), (11, .slice (some a) (old.length - 1) (cO - 1)), (12, .int .i64 ((old.length - 1 : Nat) : Int)), (13, .int .i64 ((j : Nat) : Int))]) (fun _ => K) (fun _ => pt wb (wlA db ob first lv (.slice aO old.length cO) next code) 146 :: oH :: rH :: gL :: gO :: hs)
  (fun j => j <= old.length - 1 /\ ((old.drop 1).take j).any (fun s => decide (s.2 <= i)) = false) (fun j => old.length - 1 - j) 0 ⟨Nat.zero_le _, rfl⟩ ⟨rfl, rfl, rfl, rfl, trivial⟩ rfl rfl ?_
 rintro j ⟨hj, hno⟩
 refine sq (rg ?_)
 refine cmpS hT 0 rfl fun b14 h14 => ?_
 refine fin hT 0 rfl (th (sq (ifP h14 rfl (fun e2 => ?_) (fun e2 => ?_))))
 ·have hjl : j < (old.drop 1).length := by rw [List.length_drop]; omega
  obtain ⟨cs, hc, hcl, hcell⟩ := hS.cells (i := j) (x := (old.drop 1)[j]) (List.getElem?_eq_getElem hjl)
  obtain ⟨s, hs0⟩ : ∃ s, s = (old.drop 1)[j] := ⟨_, rfl⟩
  rw [<- hs0] at hc
  have hc : cs = [.int .u64 ((s.1 : Nat) : Int), .int .u64 ((s.2 : Nat) : Int)] := hc
  subst hc
  refine sk (th (sq (bk (sq (rg ?_)))))
  refine ixs hT 0 j rfl rfl xs (by omega) (by decide) fun a15 h15 => ?_
  cases h15
  refine lds hT 0 [.int .u64 ((s.1 : Nat) : Int), .int .u64 ((s.2 : Nat) : Int)] rfl (by kernel_rfl) (.inr ⟨4, rfl⟩) hcell ?_
  refine al hT 0 (.agg #[.int .u64 0, .int .u64 0]) rfl (by kernel_rfl) fun b6 => ?_
  refine stS hT 0 0 rfl rfl (by kernel_rfl) rfl rfl ?_
  refine fin hT 0 rfl (th (sq (rg ?_)))
  refine ldp hT 1 0 rfl rfl rfl ?_
  refine cmpS hT 1 rfl fun b20 h20 => ?_
  have htk : ((old.drop 1).take (j + 1)) = ((old.drop 1).take j) ++ [s] := by rw [List.take_add_one, List.getElem?_eq_getElem hjl, hs0]; rfl
  refine fin hT 0 rfl (th (ifP h20 rfl (fun e4 => ?_) (fun e4 => ?_)))
  ·have he : wfreed old i = true := by
    unfold wfreed
    rw [List.any_eq_true]
    exact ⟨s, by rw [hs0]; exact List.getElem_mem _, decide_eq_true (by omega)⟩
   rw [he]
   refine sq (rg ?_)
   refine fin hT 1 rfl (th (rt (rB (rT (rT (rB (rT (WQ.drop ?_))))))))
   exact ret1 rfl rfl ⟨rfl, rfl, rfl⟩
  ·refine sk (bl (th (rg ?_)))
   refine ar hT 0 rfl (i64w (x := ((j + 1 : Nat) : Int)) (by omega)) ?_
   refine fin hT 1 rfl (WQ.drop ?_)
   refine again (x := j) (j + 1) ⟨rfl, rfl, rfl, rfl, trivial⟩ rfl rfl ⟨by omega, ?_⟩ (by omega)
   rw [htk, List.any_append, hno]
   simp only [List.any_cons, List.any_nil, Bool.or_false, Bool.false_or, decide_eq_false_iff_not]
   omega
 ·have he : wfreed old i = false := by
   unfold wfreed
   rw [List.take_of_length_le (by rw [List.length_drop]; omega)] at hno
   exact hno
  rw [he]
  refine ex (xt (xt (xb (th (sq (rg ?_))))))
  refine fin hT 1 rfl (th (rt ?_))
  exact ret1 rfl rfl ⟨rfl, rfl, rfl⟩
theorem compactWC {w0 : World} {K dh : PH} {m hs : List PH} (wb db : Nat) (W : Wl) (hW : WalM K wb db W m) (D : Dk) (c : Nat) (oD : DOk c D) (hc : c <= 499999000) (hb : WBd c W) (hol : W.old.length <= c) (hd : DskH K db D dh) (i : Nat) (hi : i < 18446744073709551616) :
  Ct Tryz.prog w0 83 [.pointer (some ⟨wb, 0, none⟩), .int .u64 ((i : Nat) : Int)] K (m ++ dh :: hs)
   (fun v K' hs' => Le K K' /\ ∃ m' dh', hs' = m' ++ dh' :: hs /\ WalM K' wb db (W.compact i D).1 m' /\ DskH K' db (W.compact i D).2.1 dh' /\ v = .int .i64 (W.compact i D).2.2) := by
 obtain ⟨ob, aL, cL, aO, cO, oH, rH, gL, gO, rfl, hop, hL, hO⟩ := id hW
 have hlast := hb.last
 have hlast0 := hb.last
 have hrl := hb.recs
 unfold wTop at hlast
 refine enter Tryz.func83 (by kernel_rfl) rfl rfl rfl ?_
 refine sq (rg ?_)
 refine fin hT 1 rfl (th (sq (bk (sq (rg ?_)))))
 refine ldp hT 3 0 rfl rfl rfl ?_
 refine cmpS hT 0 rfl fun b10 h10 => ?_
 refine fin hT 1 rfl (th (ifP h10 rfl (fun e2 => ?_) (fun e2 => ?_)))
 ·have e : W.compact i D = (W, D, W.code) := by unfold Wl.compact; rw [if_pos e2]
  rw [e]
  refine sq (rg ?_)
  refine ldp hT 3 0 rfl rfl rfl ?_
  refine fin hT 1 rfl (th (rt (rB (rT ?_))))
  exact ret1 rfl rfl ⟨Le.refl _, _, _, rfl, hW, hd, rfl⟩
 ·have hcode : W.code = 0 := Decidable.not_not.1 e2
  refine sq (rg ?_)
  refine ldp hT 4 0 rfl rfl rfl ?_
  refine cmpS hT 0 rfl fun b21 h21 => ?_
  refine fin hT 1 rfl (th (ifP h21 rfl (fun e4 => ?_) (fun e4 => ?_)))
  ·have e : W.compact i D = (W, D, 0) := by unfold Wl.compact; rw [if_neg e2, if_pos (by omega)]
   rw [e]
   refine sq (rg ?_)
   refine fin hT 1 rfl (th (rt (rB (rT ?_))))
   exact ret1 rfl rfl ⟨Le.refl _, _, _, rfl, hW, hd, rfl⟩
  ·refine sq (rga [pt wb (wlA db ob W.first (.slice aL W.recs.length cL) (.slice aO W.old.length cO) W.next W.code) 146] 14 [0, 2, 4, 6, 8, 10, 12, 14, 16, 18, 20, 22, 24, 26] (by simp) (by kernel_rfl) (by kernel_rfl) ?_)
   refine dldp hT (by kernel_rfl) 4 0 rfl rfl rfl ?_
   refine dar hT (by kernel_rfl) 0 rfl (v' := .int .u64 ((i - W.first : Nat) : Int)) (by rw [show ((i : Nat) : Int) - ((W.first : Nat) : Int) = ((i - W.first : Nat) : Int) from by omega]; exact u64w (by omega)) ?_
   refine dldp hT (by kernel_rfl) 3 0 rfl rfl rfl ?_
   refine dar hT (by kernel_rfl) 1 rfl (u64w (x := ((W.recs.length : Nat) : Int)) (by omega)) ?_
   refine dcbS hT (by kernel_rfl) 0 (W.recs.length < i - W.first) rfl (by simp) fun b35 h35 => ?_
   refine dend hT (by kernel_rfl) 1 rfl (th (ifP h35 rfl (fun e5 => ?_) (fun e5 => ?_)))
   ·have e : W.compact i D = (W, D, 51) := by unfold Wl.compact; rw [if_neg e2, if_neg (by omega), if_pos e5]
    rw [e]
    refine sq (rg ?_)
    refine fin hT 1 rfl (th (rt (rB (rT ?_))))
    exact ret1 rfl rfl ⟨Le.refl _, _, _, rfl, hW, hd, rfl⟩
   ·refine sk (bl (th (jnK (σ := (List PH × PH) × PH) (fun _ => [(0, .pointer (some ⟨wb, 0, none⟩)), (1, .int .u64 ((i : Nat) : Int))]) (fun s => s.2) (fun s => s.1.1 ++ s.1.2 :: hs)
     (fun s => Le K s.2 /\ WalM s.2 wb db (W.compact1 i D).1 s.1.1 /\ DskH s.2 db (W.compact1 i D).2 s.1.2) ?_ ?_)))
    ·refine sq (rg ?_)
     refine cl hT 2 rfl (lastWC wb db W hW hlast0) ?_
     rintro v38 K38 hs38 ⟨rfl, rfl, rfl⟩
     refine ar hT 0 rfl (u64back _ (by omega)) ?_
     refine cmpS hT 0 rfl fun b40 h40 => ?_
     refine fin hT 0 rfl (th (ifP h40 rfl (fun e7 => ?_) (fun e7 => ?_)))
     ·have e : W.compact1 i D = W.begin i D := by unfold Wl.compact1; rw [if_pos (by omega)]
      rw [e]
      refine rg ?_
      refine cl hT 2 rfl (beginWC wb db W hW D c oD.ok (by omega) hb hd i hi) ?_
      rintro v43 K43 hs43 ⟨le, m', dh', rfl, hW', hd', rfl⟩
      refine fin hT 0 rfl ?_
      exact jxK ((m', dh'), K43) ⟨le, hW', hd'⟩ ⟨rfl, rfl, trivial⟩ rfl rfl
     ·have e : W.compact1 i D = (W, D) := by unfold Wl.compact1; rw [if_neg (by omega)]
      rw [e]
      refine sk ?_
      exact jxK (([_, _, _, _, _], dh), K38) ⟨Le.refl _, hW, hd⟩ ⟨rfl, rfl, trivial⟩ rfl rfl
    ·rintro ⟨⟨m1, eh⟩, K1⟩ ⟨le, hV, hE⟩
     dsimp only at *
     have o1 := oD.compact1 hb (by omega) i hi
     have b1 := hb.compact1 i D
     have o2 := oD.compact2 hb (by omega) i hi
     have b2 := hb.compact2 i D
     have r2 := compact2_recs W i D
     have hol2 : (W.compact2 i D).1.old.length <= c + 1 := by
      unfold Wl.compact2
      rw [Wl.sync_eq]
      unfold Wl.compact1
      split
      ·unfold Wl.begin
       split
       ·rw [Wl.sync_eq]; dsimp only; omega
       ·rw [Wl.sync_eq]; dsimp only; rw [List.length_append]; simp only [List.length_cons, List.length_nil]; omega
      ·dsimp only; omega
     refine sq (sq (rg ?_))
     refine cl hT 1 rfl (syncWC wb db (W.compact1 i D).1 hV (W.compact1 i D).2 (c + 2) o1.ok (by omega) (b1.up (by omega)) hE) ?_
     rintro v45 K45 hs45 ⟨rfl, m2, eh2, rfl, hV2, hE2, rfl⟩
     have hc2 : ((W.compact1 i D).1.sync (W.compact1 i D).2) = W.compact2 i D := rfl
     rw [hc2] at hV2 hE2 ⊢
     have e0 : W.compact i D = if (W.compact2 i D).1.code ≠ 0 then ((W.compact2 i D).1, (W.compact2 i D).2, (W.compact2 i D).1.code)
      else if (wfree i ((W.compact2 i D).1.old.length + 1) (W.compact2 i D).1.old (W.compact2 i D).2).2.2 ≠ 0 then
       ({ (W.compact2 i D).1 with old := (wfree i ((W.compact2 i D).1.old.length + 1) (W.compact2 i D).1.old (W.compact2 i D).2).1, code := (wfree i ((W.compact2 i D).1.old.length + 1) (W.compact2 i D).1.old (W.compact2 i D).2).2.2 }, (wfree i ((W.compact2 i D).1.old.length + 1) (W.compact2 i D).1.old (W.compact2 i D).2).2.1, (wfree i ((W.compact2 i D).1.old.length + 1) (W.compact2 i D).1.old (W.compact2 i D).2).2.2)
      else ({ (W.compact2 i D).1 with old := (wfree i ((W.compact2 i D).1.old.length + 1) (W.compact2 i D).1.old (W.compact2 i D).2).1, recs := W.recs.drop (i - W.first), first := i }, (wfree i ((W.compact2 i D).1.old.length + 1) (W.compact2 i D).1.old (W.compact2 i D).2).2.1, 0) := by
      unfold Wl.compact; rw [if_neg e2, if_neg (by omega), if_neg e5]
     rw [e0]
     clear e0 hc2
     obtain ⟨Z, hZ⟩ : ∃ Z, Z = W.compact2 i D := ⟨_, rfl⟩
     rw [<- hZ] at hV2 hE2 r2 o2 b2 hol2 ⊢
     clear hZ hV hE o1 b1
     obtain ⟨⟨op, first, recs, old, next, code⟩, E⟩ := Z
     dsimp only at *
     obtain ⟨rfl, rfl⟩ := r2
     refine cmpS hT 0 rfl fun b46 h46 => ?_
     refine fin hT 0 rfl (th (ifP h46 rfl (fun e9 => ?_) (fun e9 => ?_)))
     ·rw [if_pos e9]
      obtain ⟨ob2, aL2, cL2, aO2, cO2, oH2, rH2, gL2, gO2, rfl, hop2, hL2, hO2⟩ := id hV2
      refine sq (rg ?_)
      refine ldp hT 3 0 rfl rfl rfl ?_
      refine fin hT 1 rfl (th (rt (rT ?_)))
      exact ret1 rfl rfl ⟨le, _, _, rfl, hV2, hE2, rfl⟩
     ·obtain rfl : code = 0 := Decidable.not_not.1 e9
      rw [if_neg (by simp)]
      obtain ⟨ob2, aL2, cL2, aO2, cO2, oH2, rH2, gL2, gO2, rfl, hop2, hL2, hO2⟩ := hV2
      dsimp only at *
      have hcapL := hL2.caps
      obtain ⟨R, hR⟩ : ∃ R, R = wfree i (old.length + 1) old E := ⟨_, rfl⟩
      rw [<- hR]
      refine sk (th (sq (bk ?_)))
      refine loop (σ := (Nat × List (Nat × Nat) × Dk) × (Option Addr × Nat × PH × PH)) (fun _ => [(0, .pointer (some ⟨wb, 0, none⟩)), (1, .int .u64 ((i : Nat) : Int))]) (fun _ => K45)
       (fun s => pt wb (wlA db ob2 W.first (.slice aL2 W.recs.length cL2) (.slice s.2.1 s.1.2.1.length s.2.2.1) next 0) 146 :: oH2 :: rH2 :: gL2 :: s.2.2.2.1 :: s.2.2.2.2 :: hs)
       (fun s => wfree i s.1.1 s.1.2.1 s.1.2.2 = R /\ s.1.2.1.length < s.1.1 /\ s.1.2.1.length <= old.length /\ (∀ x ∈ s.1.2.1, x.1 <= wMany + (c + 1)) /\ DOk (c + 3 + (old.length - s.1.2.1.length)) s.1.2.2 /\ DskH K45 db s.1.2.2 s.2.2.2.2 /\ SlZ 2 173 segR s.2.2.2.1 s.2.1 s.1.2.1.length s.2.2.1 s.1.2.1)
       (fun s => s.1.1) ((old.length + 1, old, E), (aO2, cO2, gO2, eh2)) ⟨hR.symm, by dsimp only; omega, Nat.le_refl _, fun x hx => (b2.olds x hx).1, by dsimp only; exact o2.up (by omega), hE2, hO2⟩ ⟨rfl, rfl, trivial⟩ rfl rfl ?_
      rintro ⟨⟨f, old1, E1⟩, ⟨aO1, cO1, gO1, eh1⟩⟩ ⟨hw, hlf, hlo, hmany, oE, hE1, hO1⟩
      dsimp only at *
      obtain ⟨f, rfl⟩ : ∃ g, f = g + 1 := ⟨f - 1, by omega⟩
      rw [wfree_step] at hw
      refine sq (sq (rg ?_))
      refine ldp hT 3 0 rfl rfl rfl ?_
      refine cmpS hT 1 rfl fun b56 h56 => ?_
      refine' bja (q := wfreed old1 i = true) hT 1 4 61 [56, 57] h56 rfl rfl rfl rfl rfl rfl rfl (fun hp1 => ?x11) (fun b61 h61 => ?_)
      case x11 =>
       refine cl hT 2 rfl (freedC wb db ob2 W.first _ next 0 aO1 cO1 old1 hO1 (by omega) (by omega) i) ?_
       rintro v60 K60 hs60 ⟨rfl, rfl, rfl⟩
       refine nmS fun b60 h60 => ?_
       exact fin hT 1 rfl (bjx h60 rfl rfl rfl)
      refine fin hT 0 rfl (th (ifP h61 rfl (fun e12 => ?_) (fun e12 => ?_)))
      ·rw [if_pos ⟨by omega, e12.2⟩] at hw
       have hl1 : 1 < old1.length := by omega
       obtain ⟨s, hs0⟩ : ∃ s, old1[0]? = some s := ⟨old1[0]'(by omega), List.getElem?_eq_getElem (by omega)⟩
       have hhd : old1.headD (0, 0) = s := by
        cases old1 with
        | nil => simp at hl1
        | cons a l => simpa using hs0
       rw [hhd] at hw
       have hs1 := hmany s (List.mem_of_getElem? hs0)
       unfold wMany at hs1
       obtain ⟨cs, hcs, hcl, g, off, cur, rfl, rfl, hcur⟩ := hO1.gets (by decide) hs0
       have hcs : cs = [.int .u64 ((s.1 : Nat) : Int), .int .u64 ((s.2 : Nat) : Int)] := hcs
       subst hcs
       have hcap1 := hO1.caps
       refine sk (th (bk (sq (sq (rga [pt wb (wlA db ob2 W.first (.slice aL2 W.recs.length cL2) (.slice (some ⟨g, off, none⟩) old1.length cO1) next 0) 146, pt g cur 173] 14 [0, 2, 4, 6, 8, 10, 12, 14, 16, 18, 20, 22, 25, 27, 29, 30] (by simp) (by kernel_rfl) (by kernel_rfl) ?_)))))
       refine dldtp [13] hT (by kernel_rfl) 4 0 rfl (by kernel_rfl) rfl rfl ?_
       refine dldtp [13, 12, 11, 10, 9] hT (by kernel_rfl) 3 0 rfl (by kernel_rfl) rfl rfl ?_
       refine dixs hT (by kernel_rfl) 0 0 rfl rfl (by omega) ?_
       simp only [add_mk, Nat.zero_mul, Nat.add_zero]
       refine dldtp [13, 12] hT (by kernel_rfl) 1 1 rfl (by kernel_rfl) rfl (by simpa using hcur 0 _ rfl) ?_
       refine dact hT (by kernel_rfl) 0 rfl ?_
       refine cl hT 0 rfl (areaC s.1 (by omega)) ?_
       rintro v74 K74 hs74 ⟨rfl, rfl, rfl⟩
       refine dnex [pt wb (wlA db ob2 W.first (.slice aL2 W.recs.length cL2) (.slice (some ⟨g, off, none⟩) old1.length cO1) next 0) 146, pt g cur 173] (by simp) (by simp) rfl ?_
       refine dact hT (by kernel_rfl) 0 rfl ?_
       refine cl hT 0 rfl (Ct.at 5 rfl (freeH db E1 _ oE.ok (by omega) hE1 (segA s.1))) ?_
       rintro v75 K75 hs75 ⟨eh3, rfl, rfl, hE3, rfl⟩
       refine dnex [pt wb (wlA db ob2 W.first (.slice aL2 W.recs.length cL2) (.slice (some ⟨g, off, none⟩) old1.length cO1) next 0) 146, pt g cur 173] (by simp) (by simp) rfl ?_
       refine dact hT (by kernel_rfl) 0 rfl ?_
       refine cl hT 0 rfl (didC wb db ob2 W.first _ _ next 0 _) ?_
       rintro v76 K76 hs76 ⟨_, rfl, rfl, rfl, rfl⟩
       rw [if_pos rfl]
       refine dnext (.inl (by kernel_rfl)) ?_
       refine dcbS hT (by kernel_rfl) 0 ((E1.free (segA s.1)).2 ≠ 0) rfl (by simp) fun b77 h77 => ?_
       refine dend hT (by kernel_rfl) 0 rfl (th (ifP h77 rfl (fun e13 => ?_) (fun e13 => ?_)))
       ·rw [if_pos e13] at hw
        rw [<- hw, if_pos e13]
        refine sq (rg ?_)
        refine ldp hT 3 0 rfl rfl rfl ?_
        refine fin hT 1 rfl (th (rt (rT (rB (rT (rB (rT ?_)))))))
        exact ret1 rfl rfl ⟨le, [_, _, _, _, _], eh3, rfl, ⟨ob2, aL2, cL2, some ⟨g, off, none⟩, cO1, oH2, rH2, gL2, _, rfl, hop2, hL2, hO1⟩, hE3, rfl⟩
       ·rw [if_neg e13] at hw
        rw [Decidable.not_not.1 e13]
        obtain ⟨gO3, hg3, hO3⟩ := hO1.cut 1 (old1.length - 1) (by omega)
        refine sk (th (rg ?_))
        refine ldp hT 4 0 rfl rfl rfl ?_
        refine slx hT 0 1 (old1.length - 1) rfl rfl (by show ((old1.length : Nat) : Int) = _; omega) (by omega) ?_
        refine stp hT 2 0 rfl rfl rfl rfl ?_
        refine fin hT 0 rfl (bl (WQ.loss 4 gO3 rfl hg3 ?_))
        have hdl : (old1.drop 1).length = old1.length - 1 := by rw [List.length_drop]
        refine again (x := ((f + 1, old1, E1), (some ⟨g, off, none⟩, cO1, pt g cur 173, eh1))) ((f, old1.drop 1, (E1.free (segA s.1)).1), (cutA (some ⟨g, off, none⟩) cO1 1 2, cO1 - 1, gO3, eh3)) ⟨rfl, rfl, trivial⟩ rfl ?_ ⟨hw, by dsimp only; omega, by dsimp only; omega, fun x hx => hmany x (List.mem_of_mem_drop hx), by dsimp only; exact (oE.free _).up (by omega), hE3, ?_⟩ (by dsimp only; omega)
        ·dsimp only; rw [hdl]; rfl
        ·dsimp only; rw [hdl]; rw [List.take_of_length_le (by omega)] at hO3; exact hO3
      ·rw [if_neg (by rintro ⟨g1, g2⟩; exact e12 ⟨by omega, g2⟩)] at hw
       rw [<- hw, if_neg (by simp)]
       dsimp only
       refine ex (xt (xt (xb (th (sq (rga [pt wb (wlA db ob2 W.first (.slice aL2 W.recs.length cL2) (.slice aO1 old1.length cO1) next 0) 146] 14 [0, 2, 4, 6, 8, 10, 12, 14, 16, 18, 20, 22, 24, 26, 29] (by simp) (by kernel_rfl) (by kernel_rfl) ?_))))))
       refine dldpw hT (by kernel_rfl) 4 0 rfl (by kernel_rfl) rfl rfl ?_
       refine dldpw hT (by kernel_rfl) 4 0 rfl (by kernel_rfl) rfl rfl ?_
       refine dar hT (by kernel_rfl) 0 rfl (v' := .int .u64 ((i - W.first : Nat) : Int)) (by rw [show ((i : Nat) : Int) - ((W.first : Nat) : Int) = ((i - W.first : Nat) : Int) from by omega]; exact u64w (by omega)) ?_
       refine dslx hT (by kernel_rfl) 0 (i - W.first) (W.recs.length - (i - W.first)) rfl rfl rfl (by show ((W.recs.length : Nat) : Int) = _; omega) (by omega) ?_
       refine dact hT (by kernel_rfl) 2 rfl ?_
       refine stp hT 0 0 rfl rfl rfl rfl ?_
       refine dnext (.inl (by kernel_rfl)) ?_
       obtain ⟨gL3, hg3, hL3⟩ := hL2.cut (i - W.first) (W.recs.length - (i - W.first)) (by omega)
       refine dend hT (by kernel_rfl) 0 rfl (th (sq (WC.loss 3 gL3 rfl hg3 (rg ?_))))
       refine stp hT 4 0 rfl rfl rfl rfl ?_
       refine fin hT 0 rfl (th (sq (rg ?_)))
       refine fin hT 1 rfl (th (rt ?_))
       have hlen : (W.recs.drop (i - W.first)).length = W.recs.length - (i - W.first) := by rw [List.length_drop]
       refine ret1 rfl rfl ⟨le, [_, _, _, _, _], eh1, rfl, ⟨ob2, cutA aL2 cL2 (i - W.first) 1, cL2 - (i - W.first), aO1, cO1, oH2, rH2, gL3, gO1, ?_, hop2, ?_, hO1⟩, hE1, rfl⟩
       ·dsimp only; rw [hlen]; rfl
       ·dsimp only; rw [hlen]; rw [List.take_of_length_le (by rw [List.length_drop]; omega)] at hL3; exact hL3
end Go.Proofs.YtneeeblghijmgaaGreat
end
section
namespace Go.En
theorem areasL_bd {c : Nat} {D : Dk} (o : DOk c D) : ∀ k ∈ areasL D, 0 <= k /\ k <= 18446744073709551615 := fun k hk => o.ar k ((srtI_perm _).mem_iff.1 hk)
theorem areasL_len {c : Nat} {D : Dk} (o : DOk c D) : (areasL D).length <= c := by
 unfold areasL
 rw [(srtI_perm _).length_eq, List.length_map]
 exact o.len
theorem ivu_get {l : List Int} {j : Nat} {a : Int} (h : l[j]? = some a) : (ivu l)[j]? = some (.int .u64 a) := by simp [ivu, h]
end Go.En
namespace Go.Proofs.YtneeeblghijmgaaGreat
open Go.En
attribute [local irreducible] Code.wp wpList Calls
theorem resetWC {w0 : World} {K dh : PH} {m hs : List PH} (wb db : Nat) (W : Wl) (hW : WalM K wb db W m) (D : Dk) (c : Nat) (oD : DOk c D) (hc : c <= 499999000) (hb : WBd c W) (hd : DskH K db D dh) (first : Nat) (hfi : first < 18446744073709551616) :
  Ct Tryz.prog w0 85 [.pointer (some ⟨wb, 0, none⟩), .int .u64 ((first : Nat) : Int)] K (m ++ dh :: hs)
   (fun v K' hs' => Le K K' /\ ∃ m' dh', hs' = m' ++ dh' :: hs /\ WalM K' wb db (W.reset first D).1 m' /\ DskH K' db (W.reset first D).2.1 dh' /\ v = .int .i64 (W.reset first D).2.2) := by
 obtain ⟨ob, aL, cL, aO, cO, oH, rH, gL, gO, rfl, hop, hL, hO⟩ := id hW
 refine enter Tryz.func85 (by kernel_rfl) rfl rfl rfl ?_
 refine sq (rg ?_)
 refine fin hT 1 rfl (th (sq (bk (sq (rg ?_)))))
 refine ldp hT 3 0 rfl rfl rfl ?_
 refine cmpS hT 0 rfl fun b12 h12 => ?_
 refine fin hT 1 rfl (th (ifP h12 rfl (fun e2 => ?_) (fun e2 => ?_)))
 ·have e : W.reset first D = (W, D, W.code) := by unfold Wl.reset; rw [if_pos e2]
  rw [e]
  refine sq (rg ?_)
  refine ldp hT 3 0 rfl rfl rfl ?_
  refine fin hT 1 rfl (th (rt (rB (rT ?_))))
  exact ret1 rfl rfl ⟨Le.refl _, _, _, rfl, hW, hd, rfl⟩
 ·have hcode : W.code = 0 := Decidable.not_not.1 e2
  refine sq (rg ?_)
  refine cmpS hT 1 rfl fun b19 h19 => ?_
  refine fin hT 1 rfl (th (ifP h19 rfl (fun e4 => ?_) (fun e4 => ?_)))
  ·have e : W.reset first D = (W, D, 51) := by unfold Wl.reset; rw [if_neg e2, if_pos (by unfold wTop; omega)]
   rw [e]
   refine sq (rg ?_)
   refine fin hT 1 rfl (th (rt (rB (rT ?_))))
   exact ret1 rfl rfl ⟨Le.refl _, _, _, rfl, hW, hd, rfl⟩
  ·have e0 : W.reset first D = if (wreset (areasL D) D).2 ≠ 0 then ({ W with code := (wreset (areasL D) D).2 }, wreset (areasL D) D)
     else ({ W with op := none, old := [], recs := [], first := first }, (wreset (areasL D) D).1, 0) := by unfold Wl.reset; rw [if_neg e2, if_neg (by unfold wTop; omega)]
   rw [e0]
   clear e0
   obtain ⟨R, hR⟩ : ∃ R, R = wreset (areasL D) D := ⟨_, rfl⟩
   rw [<- hR]
   have hbd := areasL_bd oD
   have hal := areasL_len oD
   obtain ⟨l, hl⟩ : ∃ l, l = areasL D := ⟨_, rfl⟩
   rw [<- hl] at hbd hal hR
   obtain ⟨op, first0, recs, old, next, code⟩ := W
   dsimp only at *
   subst hcode
   refine sk (bl (th (sq (sq (rg ?_)))))
   refine ldp hT 3 0 rfl rfl rfl ?_
   refine cl hT 0 rfl (Ct.at 5 rfl (areasH db D c oD (by omega) hd)) ?_
   rintro v24 K24 hs24 ⟨_, rfl, rfl, le, ao, cc, rfl, xA⟩
   rw [<- hl] at xA ⊢
   refine fin hT 2 rfl (th (bk ?_))
   refine loop (σ := Nat × Dk × PH) (fun s => [(0, .pointer (some ⟨wb, 0, none⟩)), (1, .int .u64 ((first : Nat) : Int)), (24, .slice ao l.length cc), (25, .int .i64 ((l.length : Nat) : Int)), (26, .int .i64 ((s.1 : Nat) : Int))]) (fun _ => K24)
    (fun s => pt wb (wlA db ob first0 (.slice aL recs.length cL) (.slice aO old.length cO) next 0) 146 :: oH :: rH :: gL :: gO :: s.2.2 :: hs)
    (fun s => s.1 <= l.length /\ wreset (l.drop s.1) s.2.1 = R /\ DOk (c + s.1) s.2.1 /\ DskH K24 db s.2.1 s.2.2) (fun s => l.length - s.1) (0, D, _) ⟨Nat.zero_le _, hR.symm, oD, hd.le le⟩ ⟨rfl, rfl, rfl, rfl, rfl, trivial⟩ rfl rfl ?_
   rintro ⟨j, E, eh⟩ ⟨hj, hw, oE, hE⟩
   dsimp only at *
   refine sq (rg ?_)
   refine cmpS hT 0 rfl fun b27 h27 => ?_
   refine fin hT 0 rfl (th (sq (ifP h27 rfl (fun e6 => ?_) (fun e6 => ?_))))
   ·have hjl : j < l.length := by omega
    obtain ⟨a, ha⟩ : ∃ a, l[j]? = some a := ⟨l[j], List.getElem?_eq_getElem hjl⟩
    have hab := hbd a (List.mem_of_getElem? ha)
    obtain ⟨n, rfl⟩ := Int.eq_ofNat_of_zero_le hab.1
    rw [List.drop_eq_getElem_cons hjl, show l[j] = ((n : Nat) : Int) from by rw [List.getElem?_eq_getElem hjl] at ha; exact Option.some.inj ha] at hw
    unfold wreset at hw
    refine sk (th (sq (bk (sq (rg ?_)))))
    refine ix1 hT 0 j rfl rfl rfl xA (ivu_get ha) fun a28 hc28 => ?_
    refine ld hT 0 rfl (.inl rfl) hc28 ?_
    refine fin hT 1 rfl (th (sq (rg ?_)))
    refine ar hT 1 rfl (u_rem .u64 n 4) ?_
    refine cmp hT 0 rfl (fun h32 => ?_) (fun h32 => ?_)
    ·rw [if_pos (by omega)] at hw
     refine ldp hT 5 0 rfl rfl rfl ?_
     refine cl hT 1 rfl (Ct.at 5 rfl (freeH db E _ oE.ok (by omega) hE ((n : Nat) : Int))) ?_
     rintro v40 K40 hs40 ⟨eh2, rfl, rfl, hE2, rfl⟩
     refine cl hT 0 rfl (didC wb db ob first0 _ _ next 0 _) ?_
     rintro v41 K41 hs41 ⟨_, rfl, rfl, rfl, rfl⟩
     rw [if_pos rfl]
     refine cmpS hT 0 rfl fun b42 h42 => ?_
     refine fin hT 1 rfl (th (ifP h42 rfl (fun e10 => ?_) (fun e10 => ?_)))
     ·rw [if_neg e10] at hw
      rw [<- hw, if_pos e10]
      refine sq (rg ?_)
      refine ldp hT 3 0 rfl rfl rfl ?_
      refine fin hT 1 rfl (th (rt (rB (rT (rT (rB (rT ?_)))))))
      exact ret1 rfl rfl ⟨le, [_, _, _, _, _], eh2, rfl, ⟨ob, aL, cL, aO, cO, oH, rH, gL, gO, rfl, hop, hL.imp fun _ _ h => h.le le, hO⟩, hE2, rfl⟩
     ·have e10 := Decidable.not_not.1 e10
      rw [if_pos e10] at hw
      rw [e10]
      refine sk (bl (th (rg ?_)))
      refine ar hT 0 rfl (i64w (x := ((j + 1 : Nat) : Int)) (by omega)) ?_
      refine fin hT 1 rfl ?_
      exact again (x := (j, E, eh)) (j + 1, (E.free ((n : Nat) : Int)).1, eh2) ⟨rfl, rfl, rfl, rfl, rfl, trivial⟩ rfl rfl ⟨by dsimp only; omega, hw, (oE.free _).up (by dsimp only; omega), hE2⟩ (by dsimp only; omega)
    ·rw [if_neg (by omega)] at hw
     refine fin hT 11 rfl (th (ifF rfl ?_))
     refine sk (bl (th (rg ?_)))
     refine ar hT 0 rfl (i64w (x := ((j + 1 : Nat) : Int)) (by omega)) ?_
     refine fin hT 1 rfl ?_
     exact again (x := (j, E, eh)) (j + 1, E, eh) ⟨rfl, rfl, rfl, rfl, rfl, trivial⟩ rfl rfl ⟨by dsimp only; omega, hw, oE.up (by dsimp only; omega), hE⟩ (by dsimp only; omega)
   ·obtain rfl : j = l.length := by omega
    rw [List.drop_length] at hw
    have hw : (E, (0 : Int)) = R := hw
    rw [<- hw, if_neg (by simp)]
    refine ex (xt (xt (xb (th (sq (rg ?_))))))
    refine stp hT 7 0 rfl rfl rfl rfl ?_
    refine stp hT 2 0 rfl rfl rfl rfl ?_
    refine stp hT 2 0 rfl rfl rfl rfl ?_
    refine stp hT 2 0 rfl rfl rfl rfl ?_
    refine fin hT 0 rfl (th (sq (rg ?_)))
    refine fin hT 1 rfl (th (rt (WQ.loss 1 em rfl (.inr rfl) (WQ.loss 2 em rfl (.inr rfl) (WQ.loss 3 em rfl (.inr rfl) (WQ.loss 4 em rfl (.inr rfl) ?_))))))
    exact ret1 rfl rfl ⟨le, [_, _, _, _, _], eh, rfl, ⟨none, none, 0, none, 0, em, em, em, em, rfl, ⟨rfl, rfl, rfl⟩, SlZ.nil _ _, SlZ.nil _ _⟩, hE, rfl⟩
end Go.Proofs.YtneeeblghijmgaaGreat
end
section
namespace Go.En
theorem wtx_step (D : Dk) (num f n : Nat) : wtx D num (f + 1) n = match D.read (segA num) n with
  | none => []
  | some s => (s.drop 1).take (usedB s) ++ (if usedB s < 63 then [] else wtx D num f (n + 1)) := rfl
theorem wtx_len (D : Dk) (num : Nat) : ∀ (f n : Nat), (wtx D num f n).length <= 63 * f
 | 0, n => by simp [wtx]
 | f + 1, n => by
  rw [wtx_step]
  have ih := wtx_len D num f (n + 1)
  split
  ·simp
  ·rename_i s _
   have : usedB s <= 63 := by unfold usedB; omega
   rw [List.length_append, List.length_take]
   split
   ·simp; omega
   ·omega
theorem wtext_len (D : Dk) (num : Nat) : (wtext D num).length <= 4128831 := wtx_len D num 65537 0
theorem Dk.Ok.noRead {c : Nat} {D : Dk} (o : D.Ok c) (a n : Int) (h : 65536 <= n) : D.read a n = none := by
 unfold Dk.read
 cases hs : D.sec a n with
 | none => rfl
 | some s =>
  have hm := mget_mem hs
  obtain ⟨l, h1, h2⟩ := Dk.ar_mem _ hm
  rw [h2] at hm
  have := o.at_ _ h1 _ hm
  dsimp only at this
  omega
end Go.En
namespace Go.Proofs.YtneeeblghijmgaaGreat
open Go.En
attribute [local irreducible] Code.wp wpList Calls
theorem textC {w0 : World} {K dh : PH} {hs : List PH} (db : Nat) (D : Dk) (c : Nat) (oD : D.Ok c) (hc : c <= 1000000000) (hd : DskH K db D dh) (num : Nat) (hn : num <= 2305843009213693952) :
  Ct Tryz.prog w0 139 [.pointer (some ⟨db, 0, none⟩), .int .u64 ((num : Nat) : Int)] K (dh :: hs)
   (fun v K' hs' => ∃ h', hs' = h' :: hs /\ h' = dh /\ Le K K' /\ ∃ ao k, v = .slice ao (wtext D num).length k /\ IsS K' ao (wtext D num).length k 1 (bv (wtext D num))) := by
 refine enter Tryz.func139 (by kernel_rfl) rfl rfl rfl ?_
 refine sq (rg ?_)
 refine fin hT 1 rfl (th (sq (rg ?_)))
 refine fin hT 1 rfl (th (sq (rg ?_)))
 refine fin hT 1 rfl (th (bk (WC.em ?_)))
 refine loop (σ := (Nat × List UInt8) × (Option Addr × Nat × PH) × PH) (fun s => [(0, .pointer (some ⟨db, 0, none⟩)), (1, .int .u64 ((num : Nat) : Int)), (5, .slice s.2.1.1 s.1.2.length s.2.1.2.1), (6, .int .i64 ((s.1.1 : Nat) : Int))]) (fun s => s.2.2) (fun s => s.2.1.2.2 :: dh :: hs)
  (fun s => s.1.2 ++ wtx D num (65537 - s.1.1) s.1.1 = wtext D num /\ s.1.1 <= 65536 /\ Le K s.2.2 /\ Own s.2.1.2.2 s.2.1.1 s.1.2.length s.2.1.2.1 5 1 (bv s.1.2)) (fun s => 65537 - s.1.1) ((0, []), (none, 0, em), K) ⟨by dsimp only; rw [List.nil_append, Nat.sub_zero, wtext], by dsimp only; omega, Le.refl _, Own.nil _ _⟩ ⟨rfl, rfl, rfl, rfl, trivial⟩ rfl rfl ?_
 rintro ⟨⟨n, b⟩, ⟨ao, k, g⟩, K1⟩ ⟨hw, hn2, le, o⟩
 dsimp only at *
 rw [show 65537 - n = (65536 - n) + 1 from by omega, wtx_step] at hw
 have hlen := wtext_len D num
 have hbl : b.length <= 4128831 := by
  have := congrArg List.length hw
  rw [List.length_append] at this
  omega
 refine sq (bk (sq (rg ?_)))
 refine cl hT 2 rfl (areaC num hn) ?_
 rintro v15 K15 hs15 ⟨rfl, rfl, rfl⟩
 refine cl hT 1 rfl (Ct.at 1 rfl (readH db D c oD (by omega) (hd.le le) (segA num) ((n : Nat) : Int))) ?_
 rintro v17 K17 hs17 ⟨_, rfl, rfl, le2, ⟨hr, rfl⟩ | ⟨s, as', cs, hr, hsl, rfl, xs⟩⟩
 ·rw [hr] at hw
  simp only [List.append_nil] at hw
  refine fin hT 5 rfl (th (sq (sq (rg ?_))))
  refine fin hT 2 rfl (th (ifT rfl ?_))
  refine sq (rg ?_)
  refine fin hT 2 rfl (th (rt (rT (rB (rT (rT (rB (WQ.frz fun K2 l1 l2 => ?_))))))))
  refine ret1 rfl rfl ⟨_, rfl, rfl, (le.trans le2).trans l1, ao, k, by rw [<- hw], ?_⟩
  rw [<- hw]
  exact o.isS.le l2
 ·rw [hr] at hw
  dsimp only at hw
  have hn3 : n < 65536 := by
   rcases Nat.lt_or_ge n 65536 with h | h
   ·exact h
   ·rw [oD.noRead _ _ (by omega)] at hr; cases hr
  obtain ⟨c0, hc0⟩ : ∃ c0, s[0]? = some c0 := ⟨s[0]'(by omega), List.getElem?_eq_getElem (by omega)⟩
  have hg0 : s.getD 0 0 = c0 := by rw [List.getD_eq_getElem?_getD, hc0]; rfl
  have hx0 : (bv s)[0]? = some (.int .u8 ((c0.toNat : Nat) : Int)) := by simp [bv, hc0]
  have hcl := c0.toNat_lt
  have hu : usedB s = min c0.toNat 63 := by unfold usedB; rw [hg0]
  obtain ⟨u, hu0⟩ : ∃ u, u = usedB s := ⟨_, rfl⟩
  have hu63 : u <= 63 := by omega
  rw [<- hu0] at hw hu
  obtain ⟨t, ht⟩ : ∃ t, t = (s.drop 1).take u := ⟨_, rfl⟩
  have htl : t.length = u := by rw [ht, List.length_take, List.length_drop]; omega
  rw [<- ht] at hw
  refine fin hT 5 rfl (th (sq (sq (rg ?_))))
  refine fin hT 2 rfl (th (ifF rfl ?_))
  refine sk (th (sq (rg ?_)))
  refine ix1 hT 1 0 rfl rfl rfl xs hx0 fun a24 hc24 => ?_
  refine ld hT 0 rfl (.inl rfl) hc24 ?_
  refine ar hT 0 rfl (i64w (by omega)) ?_
  refine ar hT 0 rfl (v' := .int .i64 ((u : Nat) : Int)) (by
   congr 1
   rw [hu]
   split <;> omega) ?_
  refine fin hT 1 rfl (th (sq (rg ?_)))
  refine ar hT 3 rfl (i64w (x := ((1 + u : Nat) : Int)) (by omega)) ?_
  refine sl hT 0 1 u rfl xs rfl rfl (by omega) (ys := bv t) (by
   show ((bv s).drop (1 * 1)).take (u * 1) = _
   rw [ht]
   simp [bv]) fun ao32 c32 x32 => ?_
  refine app hT 0 0 rfl rfl o (.inl rfl) x32 rfl (by decide) (bv_one _) (by show (b.length + u) * 1 <= _; omega) (by simp only [maxLen]; omega) fun ao33 c33 g33 o33 => ?_
  refine fin hT 1 rfl (th (sq (rg ?_)))
  have o33' : Own g33 ao33 (b ++ t).length c33 5 1 (bv (b ++ t)) := own_of o33 (by rw [List.length_append, htl]) (by rw [bv_append])
  refine cmpS hT 1 rfl fun b35 h35 => ?_
  refine fin hT 0 rfl (th (ifP h35 rfl (fun e3 => ?_) (fun e3 => ?_)))
  ·rw [if_pos (by omega), List.append_nil] at hw
   refine sq (rg ?_)
   refine fin hT 2 rfl (th (rt (rB (rT (rT (rB (WQ.frz fun K2 l1 l2 => ?_)))))))
   refine ret1 rfl rfl ⟨_, rfl, rfl, (le.trans le2).trans l1, ao33, c33, by rw [<- hw, List.length_append, htl], ?_⟩
   rw [<- hw]
   exact o33'.isS.le l2
  ·rw [if_neg (by omega), <- List.append_assoc] at hw
   refine sk (bl (th (rg ?_)))
   refine ar hT 1 rfl (i64w (x := ((n + 1 : Nat) : Int)) (by omega)) ?_
   refine fin hT 1 rfl ?_
   refine again (x := ((n, b), (ao, k, g), K15)) ((n + 1, b ++ t), (ao33, c33, g33), K17) ⟨rfl, rfl, ?_, rfl, trivial⟩ rfl rfl ⟨by dsimp only; rw [show 65537 - (n + 1) = 65536 - n from by omega]; exact hw, by dsimp only; omega, le.trans le2, o33'⟩ (by dsimp only; omega)
   dsimp only
   rw [List.length_append, htl]
   rfl
theorem errC {w0 : World} {K h hb : PH} {R : List PH} (rb : Nat) (s : Rd) (r : IsRd rb hb s h) : Ct Tryz.prog w0 140 [.pointer (some ⟨rb, 0, none⟩)] K (h :: R) (fun v K' hs' => K' = K /\ hs' = h :: R /\ v = .int .i64 s.2) := by
 obtain ⟨ao, cap, rfl, x⟩ := r
 refine enter Tryz.func140 (by kernel_rfl) rfl rfl rfl ?_
 refine sq (rg ?_)
 refine fin hT 1 rfl (th (sq (rg ?_)))
 refine ldp hT 3 0 rfl rfl rfl ?_
 refine fin hT 1 rfl (th (rt ?_))
 exact ret1 rfl rfl ⟨rfl, rfl, rfl⟩
theorem followsC {w0 : World} {K : PH} {m hs : List PH} (wb db : Nat) (W : Wl) (hW : WalM K wb db W m) (hb : W.first + W.recs.length <= wTop) (hr : W.recs.length <= 1000000000000) (hol : W.old.length <= 10000000000) (n idx : Nat) (hi : idx <= wTop) :
  Ct Tryz.prog w0 106 [.pointer (some ⟨wb, 0, none⟩), .agg #[.int .u64 ((n : Nat) : Int), .int .u64 ((idx : Nat) : Int)]] K (m ++ hs)
   (fun v K' hs' => K' = K /\ ∃ m', hs' = m' ++ hs /\ WalM K wb db (W.follows n idx).1 m' /\ v = .bool (W.follows n idx).2) := by
 obtain ⟨ob, aL, cL, aO, cO, oH, rH, gL, gO, rfl, hop, hL, hO⟩ := hW
 obtain ⟨op, first, recs, old, next, code⟩ := W
 dsimp only at *
 unfold wTop at hb hi
 refine enter Tryz.func106 (by kernel_rfl) rfl rfl rfl ?_
 refine sq (rg ?_)
 refine bx hT 0 rfl fun b3 => ?_
 refine WL.hs (pt b3 #[.int .u64 ((n : Nat) : Int), .int .u64 ((idx : Nat) : Int)] 173 :: pt wb (wlA db ob first (.slice aL recs.length cL) (.slice aO old.length cO) next code) 146 :: oH :: rH :: gL :: gO :: hs) rfl ?_
 refine fin hT 1 rfl (th ?_)
 refine jn (σ := Nat × List (List UInt8) × (Option Addr × Nat × PH)) (fun _ => [(0, .pointer (some ⟨wb, 0, none⟩)), (3, .pointer (some ⟨b3, 0, none⟩))])
  (fun s => pt b3 #[.int .u64 ((n : Nat) : Int), .int .u64 ((idx : Nat) : Int)] 173 :: pt wb (wlA db ob s.1 (.slice s.2.2.1 s.2.1.length s.2.2.2.1) (.slice aO old.length cO) next code) 146 :: oH :: rH :: s.2.2.2.2 :: gO :: hs)
  (fun s => SlZ 1 30 (recR K) s.2.2.2.2 s.2.2.1 s.2.1.length s.2.2.2.1 s.2.1 /\ s.1 <= idx /\ idx - s.1 <= s.2.1.length /\ (Wl.follows ⟨op, first, recs, old, next, code⟩ n idx) = (⟨op, s.1, s.2.1.take (idx - s.1), old ++ [(n, idx)], next, code⟩, true)) ?_ ?_
 ·refine bk (sq (rga [pt b3 #[.int .u64 ((n : Nat) : Int), .int .u64 ((idx : Nat) : Int)] 173, pt wb (wlA db ob first (.slice aL recs.length cL) (.slice aO old.length cO) next code) 146] 16 [0, 2, 4, 6, 8, 10, 12, 14, 16, 18, 20, 22, 24, 26, 28, 30] (by simp) (by kernel_rfl) (by kernel_rfl) ?_))
  refine dldp hT (by kernel_rfl) 3 1 rfl rfl rfl ?_
  refine dcmp hT (by kernel_rfl) 1 (old.length = 0) rfl (by simp) (fun h1 => ?_) (fun h1 => ?_)
  ·have e : (Wl.follows ⟨op, first, recs, old, next, code⟩ n idx) = (⟨op, idx, [], old ++ [(n, idx)], next, code⟩, true) := by unfold Wl.follows; rw [if_pos (.inl h1)]
   refine dend hT (by kernel_rfl) 10 rfl (th (ifT rfl (rg ?_)))
   refine ldp hT 3 0 rfl rfl rfl ?_
   refine stp hT 2 1 rfl rfl rfl rfl ?_
   refine stp hT 2 1 rfl rfl rfl rfl ?_
   refine fin hT 0 rfl (bl (WQ.loss 4 em rfl (.inr rfl) ?_))
   exact jx (idx, [], (none, 0, em)) ⟨SlZ.nil _ _, Nat.le_refl _, by dsimp only; omega, by rw [e]; simp⟩ ⟨rfl, rfl, trivial⟩ rfl rfl
  ·refine dldp hT (by kernel_rfl) 2 0 rfl rfl rfl ?_
   refine dldp hT (by kernel_rfl) 3 1 rfl rfl rfl ?_
   refine dcbS hT (by kernel_rfl) 0 (idx < first) rfl (by simp) fun b19 h19 => ?_
   refine dend hT (by kernel_rfl) 2 rfl (th (ifP h19 rfl (fun e2 => ?_) (fun e2 => ?_)))
   ·have e : (Wl.follows ⟨op, first, recs, old, next, code⟩ n idx) = (⟨op, idx, [], old ++ [(n, idx)], next, code⟩, true) := by unfold Wl.follows; rw [if_pos (.inr e2)]
    refine rg ?_
    refine ldp hT 3 0 rfl rfl rfl ?_
    refine stp hT 2 1 rfl rfl rfl rfl ?_
    refine stp hT 2 1 rfl rfl rfl rfl ?_
    refine fin hT 0 rfl (bl (WQ.loss 4 em rfl (.inr rfl) ?_))
    exact jx (idx, [], (none, 0, em)) ⟨SlZ.nil _ _, Nat.le_refl _, by dsimp only; omega, by rw [e]; simp⟩ ⟨rfl, rfl, trivial⟩ rfl rfl
   ·refine sq (rga [pt b3 #[.int .u64 ((n : Nat) : Int), .int .u64 ((idx : Nat) : Int)] 173, pt wb (wlA db ob first (.slice aL recs.length cL) (.slice aO old.length cO) next code) 146] 15 [0, 2, 4, 6, 8, 10, 12, 14, 16, 18, 20, 22, 24, 26, 28] (by simp) (by kernel_rfl) (by kernel_rfl) ?_)
    refine dldp hT (by kernel_rfl) 1 0 rfl rfl rfl ?_
    refine dldp hT (by kernel_rfl) 3 1 rfl rfl rfl ?_
    refine dar hT (by kernel_rfl) 0 rfl (v' := .int .u64 ((idx - first : Nat) : Int)) (by rw [show ((idx : Nat) : Int) - ((first : Nat) : Int) = ((idx - first : Nat) : Int) from by omega]; exact u64w (by omega)) ?_
    refine dldp hT (by kernel_rfl) 3 1 rfl rfl rfl ?_
    refine dar hT (by kernel_rfl) 1 rfl (u64w (x := ((recs.length : Nat) : Int)) (by omega)) ?_
    refine dcbS hT (by kernel_rfl) 0 (recs.length < idx - first) rfl (by simp) fun b43 h43 => ?_
    refine dend hT (by kernel_rfl) 1 rfl (th (ifP h43 rfl (fun e3 => ?_) (fun e3 => ?_)))
    ·have e : (Wl.follows ⟨op, first, recs, old, next, code⟩ n idx) = (⟨op, first, recs, old, next, code⟩, false) := by unfold Wl.follows; rw [if_neg (by rintro (g | g); exact h1 g; exact e2 g), if_pos e3]
     rw [e]
     refine sq (rg ?_)
     refine fin hT 1 rfl (th (rt (rB (jr (WQ.drop ?_)))))
     exact ret1 rfl rfl ⟨rfl, [_, _, _, _, _], rfl, ⟨ob, aL, cL, aO, cO, oH, rH, gL, gO, rfl, hop, hL, hO⟩, rfl⟩
    ·have e : (Wl.follows ⟨op, first, recs, old, next, code⟩ n idx) = (⟨op, first, recs.take (idx - first), old ++ [(n, idx)], next, code⟩, true) := by unfold Wl.follows; rw [if_neg (by rintro (g | g); exact h1 g; exact e2 g), if_neg e3]
     refine sk (bl ?_)
     exact jx (first, recs, (aL, cL, gL)) ⟨hL, by dsimp only; omega, by dsimp only; omega, e⟩ ⟨rfl, rfl, trivial⟩ rfl rfl
 ·clear hL
  rintro ⟨fi, rs, ⟨aR, cR, gR⟩⟩ ⟨hL, h1, h2, e⟩
  dsimp only at *
  rw [e]
  have hcap := hL.caps
  refine sq (rga [pt b3 #[.int .u64 ((n : Nat) : Int), .int .u64 ((idx : Nat) : Int)] 173, pt wb (wlA db ob fi (.slice aR rs.length cR) (.slice aO old.length cO) next code) 146] 15 [0, 2, 4, 6, 8, 10, 12, 14, 16, 18, 20, 22, 24, 26, 28, 31] (by simp) (by kernel_rfl) (by kernel_rfl) ?_)
  refine dldpw hT (by kernel_rfl) 4 1 rfl (by kernel_rfl) rfl rfl ?_
  refine dldpw hT (by kernel_rfl) 1 0 rfl (by kernel_rfl) rfl rfl ?_
  refine dldpw hT (by kernel_rfl) 3 1 rfl (by kernel_rfl) rfl rfl ?_
  refine dar hT (by kernel_rfl) 0 rfl (v' := .int .u64 ((idx - fi : Nat) : Int)) (by rw [show ((idx : Nat) : Int) - ((fi : Nat) : Int) = ((idx - fi : Nat) : Int) from by omega]; exact u64w (by omega)) ?_
  refine dslx hT (by kernel_rfl) 0 0 (idx - fi) rfl rfl rfl (by show ((idx - fi : Nat) : Int) = ((0 + (idx - fi) : Nat) : Int); omega) (by omega) ?_
  refine dact hT (by kernel_rfl) 2 rfl ?_
  refine stp hT 0 1 rfl rfl rfl rfl ?_
  refine dnext (.inl (by kernel_rfl)) ?_
  obtain ⟨gR2, hg2, hL2⟩ := hL.cut 0 (idx - fi) (by omega)
  have hlen : (rs.take (idx - fi)).length = idx - fi := by rw [List.length_take]; omega
  refine dend hT (by kernel_rfl) 0 rfl (th (WC.loss 4 gR2 rfl hg2 (sq (rga [pt wb (wlA db ob fi (.slice (cutA aR cR 0 1) (idx - fi) (cR - 0)) (.slice aO old.length cO) next code) 146, pt b3 #[.int .u64 ((n : Nat) : Int), .int .u64 ((idx : Nat) : Int)] 173] 10 [0, 2, 4, 6, 8, 10, 13, 15, 16, 18, 21] (by intro h hm; simp at hm; rcases hm with rfl | rfl; exact List.mem_cons_of_mem _ (List.mem_cons_self ..); exact List.mem_cons_self ..) (by kernel_rfl) (by kernel_rfl) ?_))))
  refine dldpw hT (by kernel_rfl) 4 0 rfl (by kernel_rfl) rfl rfl ?_
  refine dldS hT (by kernel_rfl) 0 1 rfl (by kernel_rfl) rfl (by kernel_rfl) ?_
  refine dact hT (by kernel_rfl) 0 rfl ?_
  refine lit hT 0 #[.int .u64 ((n : Nat) : Int), .int .u64 ((idx : Nat) : Int)] rfl (by decide) (by kernel_rfl) fun b65 => ?_
  have hA : ∀ h ∈ [pt wb (wlA db ob fi (.slice (cutA aR cR 0 1) (idx - fi) (cR - 0)) (.slice aO old.length cO) next code) 146, pt b3 #[.int .u64 ((n : Nat) : Int), .int .u64 ((idx : Nat) : Int)] 173], ∀ x : PH, ∀ t : List PH, h ∈ x :: pt b3 #[.int .u64 ((n : Nat) : Int), .int .u64 ((idx : Nat) : Int)] 173 :: pt wb (wlA db ob fi (.slice (cutA aR cR 0 1) (idx - fi) (cR - 0)) (.slice aO old.length cO) next code) 146 :: t := by
   intro h hm x t
   simp at hm
   rcases hm with rfl | rfl
   ·exact List.mem_cons_of_mem _ (List.mem_cons_of_mem _ (List.mem_cons_self ..))
   ·exact List.mem_cons_of_mem _ (List.mem_cons_self ..)
  refine dnex [pt wb (wlA db ob fi (.slice (cutA aR cR 0 1) (idx - fi) (cR - 0)) (.slice aO old.length cO) next code) 146, pt b3 #[.int .u64 ((n : Nat) : Int), .int .u64 ((idx : Nat) : Int)] 173] (fun h hm => hA h hm _ _) (by simp) rfl ?_
  refine dact hT (by kernel_rfl) 0 rfl ?_
  refine appSq hT 0 6 [.int .u64 ((n : Nat) : Int), .int .u64 ((idx : Nat) : Int)] (n, idx) rfl rfl rfl hO rfl rfl (by simp [Value.oneCell']) rfl (by decide) (by show (old.length + 1) * 16 <= _; omega) (by simp only [maxLen]; omega) fun ao66 c66 g66 o66 => ?_
  refine dnex [pt wb (wlA db ob fi (.slice (cutA aR cR 0 1) (idx - fi) (cR - 0)) (.slice aO old.length cO) next code) 146, pt b3 #[.int .u64 ((n : Nat) : Int), .int .u64 ((idx : Nat) : Int)] 173] (fun h hm => hA h hm _ _) (by simp) rfl ?_
  refine dact hT (by kernel_rfl) 2 rfl ?_
  refine stp hT 0 2 rfl rfl rfl rfl ?_
  refine dnext (.inl (by kernel_rfl)) ?_
  refine dend hT (by kernel_rfl) 0 rfl (th (WC.drop (WC.drop (sq (rg ?_)))))
  refine fin hT 1 rfl (th (rt ?_))
  refine ret1 rfl rfl ⟨rfl, [_, _, _, _, _], rfl, ⟨ob, cutA aR cR 0 1, cR - 0, ao66, c66, oH, rH, gR2, g66, ?_, hop, ?_, ?_⟩, rfl⟩
  ·dsimp only; rw [hlen, List.length_append]; rfl
  ·dsimp only; rw [hlen, <- List.drop_zero (l := rs)]; exact hL2
  ·dsimp only; rw [List.length_append]; exact o66
theorem open1C {w0 : World} {K rd : PH} {m hs : List PH} (wb db b8 b12 : Nat) (W : Wl) (hW : WalM K wb db W m) (hb : W.first + W.recs.length <= wTop) (hr : W.recs.length <= 1000000000000) (hol : W.old.length <= 10000000000) (n idx : Nat) (hi : idx <= wTop) :
  Ct Tryz.prog w0 105 [.int .u64 ((idx : Nat) : Int), .pointer (some ⟨b8, 0, none⟩), .pointer (some ⟨b12, 0, none⟩)] K (m ++ (rd :: pt b12 #[.int .u64 ((n : Nat) : Int)] 23 :: pt b8 #[.pointer (some ⟨wb, 0, none⟩)] 88 :: hs))
   (fun v K' hs' => K' = K /\ ∃ m', hs' = m' ++ (rd :: pt b12 #[.int .u64 ((n : Nat) : Int)] 23 :: pt b8 #[.pointer (some ⟨wb, 0, none⟩)] 88 :: hs) /\ WalM K wb db (W.follows n idx).1 m' /\ v = .bool (W.follows n idx).2) := by
 obtain ⟨ob, aL, cL, aO, cO, oH, rH, gL, gO, rfl, hop, hL, hO⟩ := id hW
 refine enter Tryz.func105 (by kernel_rfl) rfl rfl rfl ?_
 refine sq (rg ?_)
 refine fin hT 1 rfl (th (sq (rg ?_)))
 refine ldp hT 0 7 rfl rfl rfl ?_
 refine ldp hT 0 6 rfl rfl rfl ?_
 refine bd hT 1 (.agg #[.int .u64 ((n : Nat) : Int), .int .u64 ((idx : Nat) : Int)]) rfl (fun w => by kernel_rfl) ?_
 refine cl hT 0 rfl (followsC wb db W hW hb hr hol n idx hi) ?_
 rintro v9 K9 hs9 ⟨rfl, m', rfl, hW', rfl⟩
 refine fin hT 1 rfl (th (rt ?_))
 exact ret1 rfl rfl ⟨rfl, m', rfl, hW', rfl⟩
theorem open2C {w0 : World} {K rd b12 : PH} {m hs : List PH} (wb db b8 : Nat) (W : Wl) (hW : WalM K wb db W m) (hr : W.recs.length <= 1000000000000) (r : List UInt8) (ao : Option Addr) (k : Nat) (x : IsS K ao r.length k 1 (bv r)) :
  Ct Tryz.prog w0 107 [.slice ao r.length k, .pointer (some ⟨b8, 0, none⟩)] K (m ++ (rd :: b12 :: pt b8 #[.pointer (some ⟨wb, 0, none⟩)] 88 :: hs))
   (fun v K' hs' => K' = K /\ ∃ m', hs' = m' ++ (rd :: b12 :: pt b8 #[.pointer (some ⟨wb, 0, none⟩)] 88 :: hs) /\ WalM K wb db { W with recs := W.recs ++ [r] } m') := by
 obtain ⟨ob, aL, cL, aO, cO, oH, rH, gL, gO, rfl, hop, hL, hO⟩ := id hW
 refine enter Tryz.func107 (by kernel_rfl) rfl rfl rfl ?_
 refine rga [pt wb (wlA db ob W.first (.slice aL W.recs.length cL) (.slice aO W.old.length cO) W.next W.code) 146, pt b8 #[.pointer (some ⟨wb, 0, none⟩)] 88] 10 [0, 2, 4, 6, 8, 10, 13, 15, 16, 18, 21] (by simp) (by kernel_rfl) (by kernel_rfl) ?_
 refine dldpw hT (by kernel_rfl) 0 1 rfl (by kernel_rfl) rfl rfl ?_
 refine dldpw hT (by kernel_rfl) 0 1 rfl (by kernel_rfl) rfl rfl ?_
 refine dldpw hT (by kernel_rfl) 2 0 rfl (by kernel_rfl) rfl rfl ?_
 refine dact hT (by kernel_rfl) 1 rfl ?_
 refine lit hT 0 #[.slice ao r.length k] rfl (by decide) (by kernel_rfl) fun b9 => ?_
 refine dnex [pt wb (wlA db ob W.first (.slice aL W.recs.length cL) (.slice aO W.old.length cO) W.next W.code) 146, pt b8 #[.pointer (some ⟨wb, 0, none⟩)] 88] (by simp) (by simp) rfl ?_
 refine dact hT (by kernel_rfl) 0 rfl ?_
 refine appSq hT 0 4 [.slice ao r.length k] r rfl rfl rfl hL ⟨ao, k, rfl, x⟩ rfl (by simp [Value.oneCell']) rfl (by decide) (by show (W.recs.length + 1) * 24 <= _; omega) (by simp only [maxLen]; omega) fun ao10 c10 g10 o10 => ?_
 refine dnex [pt wb (wlA db ob W.first (.slice aL W.recs.length cL) (.slice aO W.old.length cO) W.next W.code) 146, pt b8 #[.pointer (some ⟨wb, 0, none⟩)] 88] (by simp) (by simp) rfl ?_
 refine dact hT (by kernel_rfl) 2 rfl ?_
 refine stp hT 0 1 rfl rfl rfl rfl ?_
 refine dnext (.inl (by kernel_rfl)) ?_
 refine dend hT (by kernel_rfl) 0 rfl (WQ.drop ?_)
 refine end0 rfl ⟨rfl, [_, _, _, _, _], rfl, ⟨ob, ao10, c10, aO, cO, oH, rH, g10, gO, ?_, hop, ?_, hO⟩⟩
 ·dsimp only; rw [List.length_append]; rfl
 ·dsimp only; rw [List.length_append]; exact o10
end Go.Proofs.YtneeeblghijmgaaGreat
end
section
namespace Go.En
theorem rBytes_dec {m : Int} {b : List UInt8} (h : (rBytes m (b, 0)).2.2 = 0) : (rBytes m (b, 0)).2.1.length < b.length /\ ((rBytes m (b, 0)).1.length : Int) <= m.toNat := by
 unfold rBytes at h ⊢
 dsimp only at h ⊢
 by_cases h1 : (rUint m.toNat (b, 0)).2.2 = 0
 ·rw [if_pos h1] at h ⊢
  obtain ⟨g1, g2⟩ := rUint_ok h1
  have hp : 0 < (uint (rUint m.toNat (b, 0)).1).length := by rw [uint]; split <;> simp
  have hl := congrArg List.length g1
  rw [List.length_append] at hl
  by_cases h2 : (rUint m.toNat (b, 0)).2.1.length < (rUint m.toNat (b, 0)).1
  ·rw [if_pos h2] at h; simp at h
  ·rw [if_neg h2]
   dsimp only
   rw [List.length_drop, List.length_take]
   omega
 ·rw [if_neg h1] at h; exact absurd h h1
theorem wrecs_step (f : Nat) (r : Rd) : wrecs (f + 1) r = if (rBytes 512 r).2.2 = 0 then (rBytes 512 r).1 :: wrecs f (rBytes 512 r).2 else [] := rfl
theorem uvv_get {l : List Nat} {j n : Nat} (h : l[j]? = some n) : (uvv l)[j]? = some (.int .u64 ((n : Nat) : Int)) := by simp [uvv, h]
theorem uvv_app (a b : List Nat) : uvv (a ++ b) = uvv a ++ uvv b := by simp [uvv]
theorem wnums_app (a b : List Int) : wnums (a ++ b) = wnums a ++ wnums b := by simp [wnums]
theorem wnext_snoc (a : List Int) (x : Int) : wnext (a ++ [x]) = if x % 4 = 1 then x.toNat / 4 + 1 else wnext a := by
 unfold wnext
 rw [wnums_app, List.foldl_append]
 unfold wnums
 by_cases h : x % 4 = 1
 ·simp [h]
 ·simp [h]
theorem wnums_len (a : List Int) : (wnums a).length <= a.length := by
 unfold wnums
 rw [List.length_map]
 exact List.length_filter_le _ _
theorem wsettle_step (g : List Nat) (n : Nat) (r : List Nat) (D : Dk) : wsettle g (n :: r) D = if (wset1 D g n).2 = 0 then wsettle g r (wset1 D g n).1 else wset1 D g n := rfl
theorem DOk.set1 {c : Nat} {D : Dk} (o : DOk c D) (g : List Nat) (n : Nat) : DOk (c + 1) (wset1 D g n).1 := by
 unfold wset1
 split
 ·exact o.free _
 ·exact o.sync _
theorem DOk.settle : ∀ (l : List Nat) (g : List Nat) (D : Dk) (c : Nat), DOk c D -> DOk (c + l.length) (wsettle g l D).1
 | [], g, D, c, o => o.up (by omega)
 | n :: r, g, D, c, o => by
  rw [wsettle_step]
  split
  ·exact (DOk.settle r g _ _ (o.set1 g n)).up (by simp only [List.length_cons]; omega)
  ·exact (o.set1 g n).up (by simp only [List.length_cons]; omega)
end Go.En
namespace Go.Proofs.YtneeeblghijmgaaGreat
open Go.En
attribute [local irreducible] Code.wp wpList Calls
theorem IsRd.up {rb : Nat} {hb hb' : PH} {s : Rd} {h : PH} (l : Le hb hb') (r : IsRd rb hb s h) : IsRd rb hb' s h := let ⟨a, c, h1, h2⟩ := r; ⟨a, c, h1, h2.le l⟩
theorem readWC {w0 : World} {K dh : PH} {m hs : List PH} (wb db b8 b12 : Nat) (W : Wl) (hW : WalM K wb db W m) (hb : W.first + W.recs.length <= wTop) (hr : W.recs.length <= 900000000000) (hol : W.old.length <= 10000000000) (D : Dk) (c : Nat) (oD : D.Ok c) (hc : c <= 1000000000) (hd : DskH K db D dh) (n : Nat) (hn : n <= 2305843009213693952) :
  Ct Tryz.prog w0 104 [.pointer (some ⟨db, 0, none⟩), .int .u64 ((n : Nat) : Int), .func (.func 105) #[] #[.pointer (some ⟨b8, 0, none⟩), .pointer (some ⟨b12, 0, none⟩)], .func (.func 107) #[] #[.pointer (some ⟨b8, 0, none⟩)]] K
   (m ++ (pt b12 #[.int .u64 ((n : Nat) : Int)] 23 :: pt b8 #[.pointer (some ⟨wb, 0, none⟩)] 88 :: dh :: hs))
   (fun v K' hs' => Le K K' /\ ∃ m', hs' = m' ++ (pt b12 #[.int .u64 ((n : Nat) : Int)] 23 :: pt b8 #[.pointer (some ⟨wb, 0, none⟩)] 88 :: dh :: hs) /\ WalM K' wb db (wread D n W).1 m' /\ v = .tuple #[.bool (wread D n W).2.1, .bool (wread D n W).2.2]) := by
 obtain ⟨ob, aL, cL, aO, cO, oH, rH, gL, gO, rfl, hop, hL, hO⟩ := id hW
 obtain ⟨X, hX⟩ : ∃ X, X = wtext D n := ⟨_, rfl⟩
 have hXl := wtext_len D n
 rw [<- hX] at hXl
 have e0 : wread D n W = if (rUint wTop (X, 0)).2.2 ≠ 0 then (W, true, true)
  else if (W.follows n (rUint wTop (X, 0)).1).2 = false then ((W.follows n (rUint wTop (X, 0)).1).1, false, false)
  else ({ (W.follows n (rUint wTop (X, 0)).1).1 with recs := (W.follows n (rUint wTop (X, 0)).1).1.recs ++ wrecs (X.length + 1) (rUint wTop (X, 0)).2 }, true, false) := by rw [hX]; rfl
 rw [e0]
 clear e0
 refine enter Tryz.func104 (by kernel_rfl) rfl rfl rfl ?_
 refine sq (rg ?_)
 refine fin hT 2 rfl (th (sq (rg ?_)))
 refine cl hT 2 rfl (Ct.at 7 rfl (textC db D c oD hc hd n hn)) ?_
 rintro v15 K15 hs15 ⟨dh, rfl, rfl, le, ao, k, rfl, xX⟩
 rw [<- hX] at xX ⊢
 refine cl hT 0 rfl (readC ao k X (.inl rfl) xX (by omega)) ?_
 rintro v16 K16 hs16 ⟨rfl, rb, rd, hbb, rfl, rfl, ir⟩
 refine WL.perm (List.Perm.swap _ _ _) (WL.frz fun K1 l1 l2 => ?_)
 replace ir := ir.up l2
 refine WL.perm (hs' := [_, _, _, _, _] ++ (rd :: _ :: _ :: _ :: hs)) (List.perm_middle (l₁ := [_, _, _, _, _])).symm ?_
 have le1 := le.trans l1
 have hW1 : WalM K1 wb db W [pt wb (wlA db ob W.first (.slice aL W.recs.length cL) (.slice aO W.old.length cO) W.next W.code) 146, oH, rH, gL, gO] := hW.le le1
 refine fin hT 1 rfl (th (sq (rg ?_)))
 refine cl hT 1 rfl (Ct.at 5 rfl (uintC (.inl rfl) wTop (X, 0) (by dsimp only; omega) ir)) ?_
 rintro v18 K18 hs18 ⟨rd2, rfl, rfl, rfl, ir2⟩
 obtain ⟨U, hU⟩ : ∃ U, U = rUint wTop (X, 0) := ⟨_, rfl⟩
 have hUl := (rUint_bd wTop X 0).2
 have hU0 : U.2.2 = 0 -> U.1 <= wTop := by rw [hU]; exact fun h => (rUint_ok h).2
 rw [<- hU] at ir2 hUl ⊢
 refine fin hT 1 rfl (th (sq (sq (rg ?_))))
 refine cl hT 1 rfl (Ct.keep 5 rfl (errC rb U.2 ir2)) ?_
 rintro v20 K20 hs20 ⟨rfl, rfl, rfl⟩
 refine cmpS hT 0 rfl fun b21 h21 => ?_
 refine fin hT 0 rfl (th (ifP h21 rfl (fun e2 => ?_) (fun e2 => ?_)))
 ·rw [if_pos e2]
  refine sq (rg ?_)
  refine fin hT 2 rfl (th (rt (rT (WQ.del 5 rfl ?_))))
  exact ret2 rfl rfl rfl ⟨le1, [_, _, _, _, _], rfl, hW1, rfl⟩
 ·have e2 := Decidable.not_not.1 e2
  have hUt := hU0 e2
  rw [if_neg (by rw [e2]; simp)]
  refine sk (th (sq (sq (rg ?_))))
  refine cl hT 2 rfl (open1C wb db b8 b12 W hW1 hb (by omega) hol n U.1 hUt) ?_
  rintro v24 K24 hs24 ⟨rfl, m2, rfl, hW2, rfl⟩
  obtain ⟨V, hV⟩ : ∃ V, V = W.follows n U.1 := ⟨_, rfl⟩
  have hVr : V.1.recs.length <= W.recs.length := by
   rw [hV]
   unfold Wl.follows
   split
   ·simp
   ·split
    ·exact Nat.le_refl _
    ·dsimp only; rw [List.length_take]; omega
  rw [<- hV] at hW2 ⊢
  refine nmS fun b24 h24 => ?_
  refine cbS hT 0 _ rfl (bnot h24) fun b25 h25 => ?_
  refine fin hT 0 rfl (th (ifP h25 rfl (fun e3 => ?_) (fun e3 => ?_)))
  ·have e3 : V.2 = false := by cases h : V.2 with | false => rfl | true => exact absurd h e3
   rw [if_pos e3]
   obtain ⟨ob2, aL2, cL2, aO2, cO2, oH2, rH2, gL2, gO2, rfl, _⟩ := id hW2
   refine sq (rg ?_)
   refine fin hT 2 rfl (th (rt (rT (WQ.del 5 rfl ?_))))
   exact ret2 rfl rfl rfl ⟨le1, [_, _, _, _, _], rfl, hW2, rfl⟩
  ·have e3 : V.2 = true := Decidable.not_not.1 e3
   rw [if_neg (by rw [e3]; simp)]
   refine sk (th (bk ?_))
   refine loop (σ := (Wl × Rd × Nat) × (List PH × PH) × PH) (fun _ => [(3, .func (.func 107) #[] #[.pointer (some ⟨b8, 0, none⟩)]), (10, .pointer (some ⟨rb, 0, none⟩))]) (fun s => s.2.2) (fun s => s.2.1.1 ++ (s.2.1.2 :: pt b12 #[.int .u64 ((n : Nat) : Int)] 23 :: pt b8 #[.pointer (some ⟨wb, 0, none⟩)] 88 :: dh :: hs))
    (fun s => { s.1.1 with recs := s.1.1.recs ++ wrecs s.1.2.2 s.1.2.1 } = { V.1 with recs := V.1.recs ++ wrecs (X.length + 1) U.2 } /\ s.1.2.1.1.length < s.1.2.2 /\ s.1.2.1.2 = 0 /\ s.1.1.recs.length + s.1.2.1.1.length <= 999000000000 /\ s.1.2.1.1.length <= 4128831 /\ Le K s.2.2 /\ WalM s.2.2 wb db s.1.1 s.2.1.1 /\ IsRd rb s.2.2 s.1.2.1 s.2.1.2) (fun s => s.1.2.2)
    ((V.1, U.2, X.length + 1), (m2, rd2), K24) ⟨rfl, by dsimp only; omega, e2, by dsimp only; omega, by dsimp only; omega, le1, hW2, ir2⟩ ⟨rfl, rfl, trivial⟩ rfl rfl ?_
   clear hW2 hVr
   clear m2
   rintro ⟨⟨Y, ⟨rs, re⟩, f⟩, ⟨m2, rd3⟩, K2⟩ ⟨hw, hlf, rfl, hbd, hrs, le2, hW2, ir3⟩
   dsimp only at *
   obtain ⟨f, rfl⟩ : ∃ g, f = g + 1 := ⟨f - 1, by omega⟩
   rw [wrecs_step] at hw
   obtain ⟨G, hG⟩ : ∃ G, G = rBytes 512 (rs, 0) := ⟨_, rfl⟩
   have hGd : G.2.2 = 0 -> G.2.1.length < rs.length := by rw [hG]; exact fun h => (rBytes_dec h).1
   rw [<- hG] at hw
   obtain ⟨ob2, aL2, cL2, aO2, cO2, oH2, rH2, gL2, gO2, rfl, hop2, hL2, hO2⟩ := id hW2
   refine bk (sq (rg ?_))
   refine cl hT 1 rfl (Ct.atN 5 rfl (bytesC (.inl rfl) 512 (by decide) (rs, 0) (by dsimp only; omega) ir3)) ?_
   rintro v27 K27 hs27 ⟨rd4, _, rfl, rfl, hx, ao', c', rfl, rfl, ox, ir4⟩
   rw [<- hG] at ox ir4 ⊢
   refine WL.frz fun K3 l3 l4 => ?_
   refine fin hT 1 rfl (th (sq (sq (rg ?_))))
   refine cl hT 1 rfl (Ct.keep 5 rfl (errC rb G.2 (ir4.up l3))) ?_
   rintro v29 K29 hs29 ⟨rfl, rfl, rfl⟩
   refine cmpS hT 0 rfl fun b30 h30 => ?_
   refine fin hT 0 rfl (th (ifP h30 rfl (fun e5 => ?_) (fun e5 => ?_)))
   ·rw [if_neg e5, List.append_nil] at hw
    refine sq (rg ?_)
    refine fin hT 2 rfl (th (rt (rT (rB (rT (rB (WQ.del 5 rfl ?_)))))))
    rw [<- hw]
    exact ret2 rfl rfl rfl ⟨le2.trans l3, [_, _, _, _, _], rfl, hW2.le l3, rfl⟩
   ·have e5 := Decidable.not_not.1 e5
    have hgd := hGd e5
    rw [if_pos e5] at hw
    refine sk (th (rg ?_))
    have hW3 : WalM K29 wb db Y [pt wb (wlA db ob2 Y.first (.slice aL2 Y.recs.length cL2) (.slice aO2 Y.old.length cO2) Y.next Y.code) 146, oH2, rH2, gL2, gO2] := hW2.le l3
    refine cl hT 2 rfl (open2C wb db b8 Y hW3 (by omega) G.1 ao' c' (ox.isS.le l4)) ?_
    rintro v33 K33 hs33 ⟨rfl, m5, rfl, hW5⟩
    refine fin hT 0 rfl (bl ?_)
    refine again (x := ((Y, (rs, 0), f + 1), (m5, rd4), K33)) (({ Y with recs := Y.recs ++ [G.1] }, G.2, f), (m5, rd4), K33) ⟨rfl, rfl, trivial⟩ rfl rfl ⟨by dsimp only; rw [List.append_assoc]; exact hw, by dsimp only; omega, e5, by dsimp only; rw [List.length_append]; simp only [List.length_cons, List.length_nil]; omega, by dsimp only; omega, le2.trans l3, hW5, ir4.up l3⟩ (by dsimp only; omega)
theorem numbersC {w0 : World} {K dh x : PH} {m hs : List PH} (wb db : Nat) (W : Wl) (hW : WalM K wb db W m) (D : Dk) (c : Nat) (oD : DOk c D) (hc : c <= 1000000000) (hd : DskH K db D dh) (h0 : W.next = 0) :
  Ct Tryz.prog w0 103 [.pointer (some ⟨wb, 0, none⟩)] K (m ++ (x :: dh :: hs))
   (fun v K' hs' => Le K K' /\ ∃ m', hs' = m' ++ (x :: dh :: hs) /\ WalM K' wb db { W with next := wnext (areasL D) } m' /\ ∃ ao k, v = .slice ao (wnums (areasL D)).length k /\ IsS K' ao (wnums (areasL D)).length k 1 (uvv (wnums (areasL D)))) := by
 obtain ⟨ob, aL, cL, aO, cO, oH, rH, gL, gO, rfl, hop, hL, hO⟩ := hW
 obtain ⟨op, first, recs, old, next, code⟩ := W
 dsimp only at *
 subst h0
 have hbd := areasL_bd oD
 have hal := areasL_len oD
 obtain ⟨l, hl⟩ : ∃ l, l = areasL D := ⟨_, rfl⟩
 rw [<- hl] at hbd hal ⊢
 refine enter Tryz.func103 (by kernel_rfl) rfl rfl rfl ?_
 refine sq (rg ?_)
 refine fin hT 1 rfl (th (sq (rg ?_)))
 refine fin hT 1 rfl (th (sq (sq (rg ?_))))
 refine ldp hT 3 0 rfl rfl rfl ?_
 refine cl hT 0 rfl (Ct.at 6 rfl (areasH db D c oD (by omega) hd)) ?_
 rintro v10 K10 hs10 ⟨dh, rfl, rfl, le, ao, cc, rfl, xA⟩
 rw [<- hl] at xA ⊢
 refine fin hT 2 rfl (th (bk (WC.em ?_)))
 refine loop (σ := Nat × (Option Addr × Nat × PH)) (fun s => [(0, .pointer (some ⟨wb, 0, none⟩)), (3, .slice s.2.1 (wnums (l.take s.1)).length s.2.2.1), (10, .slice ao l.length cc), (11, .int .i64 ((l.length : Nat) : Int)), (12, .int .i64 ((s.1 : Nat) : Int))]) (fun _ => K10)
  (fun s => s.2.2.2 :: pt wb (wlA db ob first (.slice aL recs.length cL) (.slice aO old.length cO) (wnext (l.take s.1)) code) 146 :: oH :: rH :: gL :: gO :: x :: dh :: hs)
  (fun s => s.1 <= l.length /\ Own s.2.2.2 s.2.1 (wnums (l.take s.1)).length s.2.2.1 23 1 (uvv (wnums (l.take s.1)))) (fun s => l.length - s.1) (0, (none, 0, em)) ⟨Nat.zero_le _, Own.nil _ _⟩ ⟨rfl, rfl, rfl, rfl, rfl, trivial⟩ rfl rfl ?_
 rintro ⟨j, ⟨an, cn, gn⟩⟩ ⟨hj, o⟩
 dsimp only at *
 refine sq (rg ?_)
 refine cmpS hT 0 rfl fun b13 h13 => ?_
 refine fin hT 0 rfl (th (sq (ifP h13 rfl (fun e2 => ?_) (fun e2 => ?_))))
 ·have hjl : j < l.length := by omega
  obtain ⟨a, ha⟩ : ∃ a, l[j]? = some a := ⟨l[j], List.getElem?_eq_getElem hjl⟩
  have hab := hbd a (List.mem_of_getElem? ha)
  obtain ⟨n, rfl⟩ := Int.eq_ofNat_of_zero_le hab.1
  have htk : l.take (j + 1) = l.take j ++ [((n : Nat) : Int)] := by rw [List.take_add_one, ha]; rfl
  have hnl := wnums_len (l.take j)
  rw [List.length_take] at hnl
  refine sk (th (sq (bk (sq (rg ?_)))))
  refine ix1 hT 0 j rfl rfl rfl xA (ivu_get ha) fun a14 hc14 => ?_
  refine ld hT 0 rfl (.inl rfl) hc14 ?_
  refine fin hT 1 rfl (th (sq (rg ?_)))
  refine ar hT 1 rfl (u_rem .u64 n 4) ?_
  refine cmpS hT 0 rfl fun b18 h18 => ?_
  refine fin hT 0 rfl (th (ifP h18 rfl (fun e4 => ?_) (fun e4 => ?_)))
  ·have en : wnums [((n : Nat) : Int)] = [n / 4] := by
    unfold wnums
    have : ((n : Nat) : Int) % 4 = 1 := by omega
    simp [this]
   have en1 : wnums (l.take (j + 1)) = wnums (l.take j) ++ [n / 4] := by rw [htk, wnums_app, en]
   have en2 : wnext (l.take (j + 1)) = n / 4 + 1 := by rw [htk, wnext_snoc, if_pos (by omega)]; rfl
   refine sq (rg ?_)
   refine ar hT 2 rfl (u64quo n 4 (by omega)) ?_
   refine lit hT 0 #[.int .u64 ((n / 4 : Nat) : Int)] rfl (by decide) (by kernel_rfl) fun b22 => ?_
   refine app hT 0 1 rfl rfl o (.inr ⟨0, rfl⟩) (Own.ofPt (n := 1) (size := 1) rfl (by decide)).isS rfl (by decide) (by simp [Value.oneCell']) (by show ((wnums (l.take j)).length + 1) * 8 <= _; omega) (by simp only [maxLen]; omega) fun ao23 c23 g23 o23 => ?_
   refine fin hT 1 rfl (th (rg ?_))
   refine ar hT 2 rfl (u64quo n 4 (by omega)) ?_
   refine ar hT 0 rfl (u64w (x := ((n / 4 + 1 : Nat) : Int)) (by omega)) ?_
   refine stp hT 2 2 rfl rfl rfl rfl ?_
   refine fin hT 0 rfl (bl (th (rg (WL.drop ?_))))
   refine ar hT 0 rfl (i64w (x := ((j + 1 : Nat) : Int)) (by omega)) ?_
   refine fin hT 1 rfl ?_
   refine again (x := (j, (an, cn, gn))) (j + 1, (ao23, c23, g23)) ⟨rfl, ?_, rfl, rfl, rfl, trivial⟩ rfl ?_ ⟨by dsimp only; omega, ?_⟩ (by dsimp only; omega)
   ·dsimp only; rw [en1, List.length_append]; rfl
   ·dsimp only; rw [en2]; rfl
   ·dsimp only; rw [en1, List.length_append, uvv_app]; exact o23
  ·have en : wnums [((n : Nat) : Int)] = [] := by
    unfold wnums
    have : ¬ ((n : Nat) : Int) % 4 = 1 := by omega
    simp [this]
   have en1 : wnums (l.take (j + 1)) = wnums (l.take j) := by rw [htk, wnums_app, en, List.append_nil]
   have en2 : wnext (l.take (j + 1)) = wnext (l.take j) := by rw [htk, wnext_snoc, if_neg (by omega)]
   refine sk (bl (th (rg ?_)))
   refine ar hT 0 rfl (i64w (x := ((j + 1 : Nat) : Int)) (by omega)) ?_
   refine fin hT 1 rfl ?_
   refine again (x := (j, (an, cn, gn))) (j + 1, (an, cn, gn)) ⟨rfl, by dsimp only; rw [en1]; rfl, rfl, rfl, rfl, trivial⟩ rfl (by dsimp only; rw [en2]) ⟨by dsimp only; omega, by dsimp only; rw [en1]; exact o⟩ (by dsimp only; omega)
 ·obtain rfl : j = l.length := by omega
  rw [List.take_length] at o ⊢
  refine ex (xt (xt (xb (th (sq (rg ?_))))))
  refine fin hT 2 rfl (th (rt (WQ.frz fun K2 l1 l2 => ?_)))
  exact ret1 rfl rfl ⟨le.trans l1, [_, _, _, _, _], rfl, ⟨ob, aL, cL, aO, cO, oH, rH, gL, gO, rfl, hop, hL.imp fun _ _ h => h.le (le.trans l1), hO⟩, an, cn, rfl, o.isS.le l2⟩
theorem containsC {w0 : World} {K : PH} {hs : List PH} (ao : Option Addr) (k : Nat) (l : List Nat) (x : IsS K ao l.length k 1 (uvv l)) (hl : l.length <= 1099511627776) (n : Nat) :
  Ct Tryz.prog w0 142 [.slice ao l.length k, .int .u64 ((n : Nat) : Int)] K hs (fun v K' hs' => K' = K /\ hs' = hs /\ ∃ t : Bool, v = .bool t /\ (t = true ↔ n ∈ l)) := by
 have hidx : Ct Tryz.prog w0 163 [.slice ao l.length k, .int .u64 ((n : Nat) : Int)] K hs (fun v K' hs' => K' = K /\ hs' = hs /\ ∃ i : Int, v = .int .i64 i /\ (0 <= i ↔ n ∈ l)) := by
  refine enter Tryz.func163 (by kernel_rfl) rfl rfl rfl ?_
  refine sq (rg ?_)
  refine fin hT 1 rfl (th (sq (sq (rg ?_))))
  refine fin hT 3 rfl (th (bk ?_))
  refine loop (σ := Nat) (fun j => [(0, .slice ao l.length k), (1, .int .u64 ((n : Nat) : Int)), (7, .int .i64 ((l.length : Nat) : Int)), (8, .int .i64 ((j : Nat) : Int))]) (fun _ => K) (fun _ => hs) (fun j => j <= l.length /\ n ∉ l.take j) (fun j => l.length - j) 0 ⟨Nat.zero_le _, by simp⟩ ⟨rfl, rfl, rfl, rfl, trivial⟩ rfl rfl ?_
  rintro j ⟨hj, hno⟩
  refine sq (rg ?_)
  refine cmpS hT 0 rfl fun b9 h9 => ?_
  refine fin hT 0 rfl (th (sq (ifP h9 rfl (fun e2 => ?_) (fun e2 => ?_))))
  ·have hjl : j < l.length := by omega
   obtain ⟨a, ha⟩ : ∃ a, l[j]? = some a := ⟨l[j], List.getElem?_eq_getElem hjl⟩
   refine sk (th (sq (bk (sq (rg ?_)))))
   refine fin hT 2 rfl (th (sq (rg ?_)))
   refine ix1 hT 3 j rfl rfl rfl x (uvv_get ha) fun a14 hc14 => ?_
   refine ld hT 0 rfl (.inl rfl) hc14 ?_
   refine cmpS hT 0 rfl fun b16 h16 => ?_
   refine fin hT 0 rfl (th (ifP h16 rfl (fun e4 => ?_) (fun e4 => ?_)))
   ·refine sq (rg ?_)
    refine fin hT 2 rfl (th (rt (rB (rT (rT (rB (rT ?_)))))))
    refine ret1 rfl rfl ⟨rfl, rfl, ((j : Nat) : Int), rfl, fun _ => ?_, fun _ => by omega⟩
    have : n = a := by omega
    rw [this]
    exact List.mem_of_getElem? ha
   ·refine sk (bl (th (rg ?_)))
    refine ar hT 0 rfl (i64w (x := ((j + 1 : Nat) : Int)) (by omega)) ?_
    refine fin hT 1 rfl ?_
    refine again (x := j) (j + 1) ⟨rfl, rfl, rfl, rfl, trivial⟩ rfl rfl ⟨by omega, ?_⟩ (by omega)
    rw [List.take_add_one, ha]
    simp only [Option.toList_some, List.mem_append, List.mem_singleton, not_or]
    exact ⟨hno, by omega⟩
  ·rw [List.take_of_length_le (by omega)] at hno
   refine ex (xt (xt (xb (th (sq (rg ?_))))))
   refine fin hT 1 rfl (th (rt ?_))
   exact ret1 rfl rfl ⟨rfl, rfl, -1, rfl, fun h => absurd h (by decide), fun h => absurd h hno⟩
 refine enter Tryz.func142 (by kernel_rfl) rfl rfl rfl ?_
 refine sq (rg ?_)
 refine fin hT 1 rfl (th (sq (rg ?_)))
 refine cl hT 2 rfl hidx ?_
 rintro v7 K7 hs7 ⟨rfl, rfl, i, rfl, hi⟩
 refine cmpS hT 0 rfl fun b8 h8 => ?_
 refine fin hT 1 rfl (th (rt ?_))
 exact ret1 rfl rfl ⟨rfl, rfl, b8, rfl, h8.trans hi⟩
theorem settleC {w0 : World} {K dh x : PH} {m hs : List PH} (wb db : Nat) (W : Wl) (hW : WalM K wb db W m) (D : Dk) (c : Nat) (oD : DOk c D) (hc : c <= 499000000) (hd : DskH K db D dh) (l g : List Nat) (al : Option Addr) (kl : Nat) (xl : IsS K al l.length kl 1 (uvv l)) (ag : Option Addr) (kg : Nat) (xg : IsS K ag g.length kg 1 (uvv g)) (hll : l.length <= c) (hgl : g.length <= c) (hbd : ∀ n ∈ l, n <= 2305843009213693952) :
  Ct Tryz.prog w0 108 [.pointer (some ⟨wb, 0, none⟩), .slice al l.length kl, .slice ag g.length kg] K (m ++ (x :: dh :: hs))
   (fun v K' hs' => K' = K /\ ∃ dh', hs' = m ++ (x :: dh' :: hs) /\ DskH K db (wsettle g l D).1 dh' /\ v = .int .i64 (wsettle g l D).2) := by
 obtain ⟨ob, aL, cL, aO, cO, oH, rH, gL, gO, rfl, hop, hL, hO⟩ := hW
 obtain ⟨R, hR⟩ : ∃ R, R = wsettle g l D := ⟨_, rfl⟩
 rw [<- hR]
 obtain ⟨S, hS⟩ : ∃ S, S = wlA db ob W.first (.slice aL W.recs.length cL) (.slice aO W.old.length cO) W.next W.code := ⟨_, rfl⟩
 have hS1 : S[1]? = some (.pointer (some ⟨db, 0, none⟩)) := by rw [hS]; rfl
 rw [<- hS]
 refine enter Tryz.func108 (by kernel_rfl) rfl rfl rfl ?_
 refine sq (rg ?_)
 refine fin hT 1 rfl (th (sq (sq (rg ?_))))
 refine fin hT 3 rfl (th (bk ?_))
 refine loop (σ := Nat × Dk × PH) (fun s => [(0, .pointer (some ⟨wb, 0, none⟩)), (2, .slice ag g.length kg), (10, .slice al l.length kl), (11, .int .i64 ((l.length : Nat) : Int)), (12, .int .i64 ((s.1 : Nat) : Int))]) (fun _ => K)
  (fun s => pt wb S 146 :: oH :: rH :: gL :: gO :: x :: s.2.2 :: hs)
  (fun s => s.1 <= l.length /\ wsettle g (l.drop s.1) s.2.1 = R /\ DOk (c + s.1) s.2.1 /\ DskH K db s.2.1 s.2.2) (fun s => l.length - s.1) (0, D, dh) ⟨Nat.zero_le _, hR.symm, oD, hd⟩ ⟨rfl, rfl, rfl, rfl, rfl, trivial⟩ rfl rfl ?_
 rintro ⟨j, E, eh⟩ ⟨hj, hw, oE, hE⟩
 dsimp only at *
 refine sq (rg ?_)
 refine cmpS hT 0 rfl fun b13 h13 => ?_
 refine fin hT 0 rfl (th (sq (ifP h13 rfl (fun e2 => ?_) (fun e2 => ?_))))
 ·have hjl : j < l.length := by omega
  obtain ⟨n, ha⟩ : ∃ a, l[j]? = some a := ⟨l[j], List.getElem?_eq_getElem hjl⟩
  have hnb := hbd n (List.mem_of_getElem? ha)
  rw [List.drop_eq_getElem_cons hjl, show l[j] = n from by rw [List.getElem?_eq_getElem hjl] at ha; exact Option.some.inj ha, wsettle_step] at hw
  refine sk (th (sq (bk (sq (rg ?_)))))
  refine ix1 hT 0 j rfl rfl rfl xl (uvv_get ha) fun a14 hc14 => ?_
  refine ld hT 0 rfl (.inl rfl) hc14 ?_
  refine fin hT 1 rfl (th (sq (rg ?_)))
  refine fin hT 1 rfl (th ?_)
  refine jn (σ := PH) (fun _ => [(0, .pointer (some ⟨wb, 0, none⟩)), (2, .slice ag g.length kg), (9, .int .i64 (wset1 E g n).2), (10, .slice al l.length kl), (11, .int .i64 ((l.length : Nat) : Int)), (12, .int .i64 ((j : Nat) : Int))])
   (fun s => pt wb S 146 :: oH :: rH :: gL :: gO :: x :: s :: hs) (fun s => DskH K db (wset1 E g n).1 s) ?_ ?_
  ·refine sq (rg ?_)
   refine cl hT 2 rfl (containsC ag kg g xg (by omega) n) ?_
   rintro v18 K18 hs18 ⟨rfl, rfl, t18, rfl, h18⟩
   refine fin hT 0 rfl (th (ifP h18 rfl (fun e3 => ?_) (fun e3 => ?_)))
   ·have e : wset1 E g n = E.free (segA n) := by unfold wset1; rw [if_pos e3]
    rw [e]
    refine rga [pt wb S 146] 8 [0, 2, 4, 6, 8, 11, 13, 14] (by simp) (by kernel_rfl) (by kernel_rfl) ?_
    refine dldp hT (by kernel_rfl) 3 0 rfl rfl hS1 ?_
    refine dact hT (by kernel_rfl) 1 rfl ?_
    refine cl hT 0 rfl (areaC n hnb) ?_
    rintro v24 K24 hs24 ⟨rfl, rfl, rfl⟩
    refine dnex [pt wb S 146] (by simp) (by simp) rfl ?_
    refine dact hT (by kernel_rfl) 0 rfl ?_
    refine cl hT 0 rfl (Ct.at 6 rfl (freeH db E _ oE.ok (by omega) hE (segA n))) ?_
    rintro v25 K25 hs25 ⟨eh2, rfl, rfl, hE2, rfl⟩
    refine dnex [pt wb S 146] (by simp) (by simp) rfl ?_
    refine dend hT (by kernel_rfl) 1 rfl ?_
    exact jx eh2 hE2 ⟨rfl, rfl, rfl, rfl, rfl, rfl, trivial⟩ rfl rfl
   ·have e : wset1 E g n = E.sync (segA n) := by unfold wset1; rw [if_neg e3]
    rw [e]
    refine rga [pt wb S 146] 8 [0, 2, 4, 6, 8, 11, 13, 14] (by simp) (by kernel_rfl) (by kernel_rfl) ?_
    refine dldp hT (by kernel_rfl) 3 0 rfl rfl hS1 ?_
    refine dact hT (by kernel_rfl) 1 rfl ?_
    refine cl hT 0 rfl (areaC n hnb) ?_
    rintro v24 K24 hs24 ⟨rfl, rfl, rfl⟩
    refine dnex [pt wb S 146] (by simp) (by simp) rfl ?_
    refine dact hT (by kernel_rfl) 0 rfl ?_
    refine cl hT 0 rfl (Ct.at 6 rfl (syncH db E _ oE.ok (by omega) hE (segA n))) ?_
    rintro v25 K25 hs25 ⟨eh2, rfl, rfl, hE2, rfl⟩
    refine dnex [pt wb S 146] (by simp) (by simp) rfl ?_
    refine dend hT (by kernel_rfl) 1 rfl ?_
    exact jx eh2 hE2 ⟨rfl, rfl, rfl, rfl, rfl, rfl, trivial⟩ rfl rfl
  ·rintro eh2 hE2
   refine sq (rg ?_)
   refine cmpS hT 1 rfl fun b34 h34 => ?_
   refine fin hT 0 rfl (th (ifP h34 rfl (fun e5 => ?_) (fun e5 => ?_)))
   ·rw [if_neg e5] at hw
    refine sq (rg ?_)
    refine fin hT 2 rfl (th (rt (rB (rT (rT (rB (rT ?_)))))))
    rw [<- hw]
    exact ret1 rfl rfl ⟨rfl, eh2, rfl, hE2, rfl⟩
   ·rw [if_pos (Decidable.not_not.1 e5)] at hw
    refine sk (bl (th (rg ?_)))
    refine ar hT 0 rfl (i64w (x := ((j + 1 : Nat) : Int)) (by omega)) ?_
    refine fin hT 1 rfl ?_
    exact again (x := (j, E, eh)) (j + 1, (wset1 E g n).1, eh2) ⟨rfl, rfl, rfl, rfl, rfl, trivial⟩ rfl rfl ⟨by dsimp only; omega, hw, (oE.set1 g n).up (by dsimp only; omega), hE2⟩ (by dsimp only; omega)
 ·obtain rfl : j = l.length := by omega
  rw [List.drop_length] at hw
  have hw : (E, (0 : Int)) = R := hw
  rw [<- hw]
  refine ex (xt (xt (xb (th (sq (rg ?_))))))
  refine fin hT 1 rfl (th (rt ?_))
  exact ret1 rfl rfl ⟨rfl, eh, rfl, hE, rfl⟩
end Go.Proofs.YtneeeblghijmgaaGreat
end
section
namespace Go.En
theorem wtx_run (D : Dk) (num : Nat) : ∀ (f n : Nat), ∃ m, (wtx D num f n).length <= 63 * m /\ ∀ i, i < m -> (((n + i : Nat) : Int)) ∈ (D.ar (segA num)).map (·.1)
 | 0, n => ⟨0, by simp [wtx], fun i h => by omega⟩
 | f + 1, n => by
  obtain ⟨m, h1, h2⟩ := wtx_run D num f (n + 1)
  rw [wtx_step]
  cases hr : D.read (segA num) n with
  | none => exact ⟨0, by simp, fun i h => by omega⟩
  | some s =>
   refine ⟨m + 1, ?_, fun i hi => ?_⟩
   ·have : usedB s <= 63 := by unfold usedB; omega
    dsimp only
    rw [List.length_append, List.length_take]
    split
    ·simp; omega
    ·omega
   ·by_cases e : i = 0
    ·subst e
     unfold Dk.read Dk.sec at hr
     cases hg : mget ((n : Nat) : Int) (D.ar (segA num)) with
     | none => rw [hg] at hr; cases hr
     | some x => exact List.mem_map.2 ⟨_, mget_mem hg, rfl⟩
    ·have := h2 (i - 1) (by omega)
     rwa [show n + 1 + (i - 1) = n + i from by omega] at this
theorem wtext_ar {c : Nat} {D : Dk} (o : D.Ok c) (num : Nat) : (wtext D num).length <= 63 * (D.ar (segA num)).length := by
 obtain ⟨m, h1, h2⟩ := wtx_run D num 65537 0
 have hm : m <= (D.ar (segA num)).length := by
  have hnd : ((List.range m).map fun i => ((i : Nat) : Int)).Nodup := by
   rw [List.nodup_iff_pairwise_ne, List.pairwise_map]
   exact (List.nodup_iff_pairwise_ne.1 List.nodup_range).imp fun h e => h (by omega)
  have := hnd.length_le_of_subset (l₂ := (D.ar (segA num)).map (·.1)) (fun x hx => by
   obtain ⟨i, hi, rfl⟩ := List.mem_map.1 hx
   have := h2 i (List.mem_range.1 hi)
   rwa [Nat.zero_add] at this)
  simpa using this
 have : (wtext D num).length <= 63 * m := by unfold wtext; exact h1
 omega
def sumK (m : List (Int × Ar)) (ks : List Int) : Nat := (ks.map fun k => ((mget k m).getD []).length).sum
theorem sumK_cons (k0 : Int) (u : Ar) (m : List (Int × Ar)) : ∀ ks : List Int, ks.Nodup -> sumK ((k0, u) :: m) ks <= (if k0 ∈ ks then u.length else 0) + sumK m ks
 | [], _ => by simp [sumK]
 | k :: ks, h => by
  simp only [List.nodup_cons] at h
  have ih := sumK_cons k0 u m ks h.2
  have e0 : ∀ mm, sumK mm (k :: ks) = ((mget k mm).getD []).length + sumK mm ks := fun mm => rfl
  have e1 : mget k ((k0, u) :: m) = if k = k0 then some u else mget k m := rfl
  rw [e0, e0, e1]
  by_cases e : k = k0
  ·subst e
   rw [if_neg h.1] at ih
   simp only [if_true, Option.getD_some, List.mem_cons, true_or]
   omega
  ·simp only [if_neg e, List.mem_cons]
   by_cases e2 : k0 ∈ ks
   ·rw [if_pos e2] at ih; rw [if_pos (.inr e2)]; omega
   ·rw [if_neg e2] at ih; rw [if_neg (by rintro (g | g); exact e g.symm; exact e2 g)]; omega
theorem sumK_le : ∀ (m : List (Int × Ar)) (ks : List Int), ks.Nodup -> sumK m ks <= totA m
 | [], ks, _ => by
  have : ∀ ks : List Int, sumK [] ks = 0 := fun ks => by
   induction ks with
   | nil => rfl
   | cons k ks ih =>
    have e0 : sumK [] (k :: ks) = 0 + sumK [] ks := rfl
    rw [e0, ih]
  rw [this]; exact Nat.zero_le _
 | (k0, u) :: m, ks, h => by
  have h1 := sumK_cons k0 u m ks h
  have h2 := sumK_le m ks h
  have h3 : totA ((k0, u) :: m) = u.length + totA m := by simp [totA]
  rw [h3]
  split at h1 <;> omega
def sumSeg (D : Dk) (l : List Nat) : Nat := (l.map fun n => (D.ar (segA n)).length).sum
theorem sumSeg_eq (D : Dk) (l : List Nat) : sumSeg D l = sumK D.areas (l.map segA) := by
 unfold sumSeg sumK
 rw [List.map_map]
 rfl
theorem segA_inj {a b : Nat} (h : segA a = segA b) : a = b := by unfold segA at h; omega
theorem sumSeg_le {D : Dk} {l : List Nat} (h : l.Nodup) : sumSeg D l <= totA D.areas := by
 rw [sumSeg_eq]
 refine sumK_le _ _ ?_
 rw [List.nodup_iff_pairwise_ne, List.pairwise_map]
 exact (List.nodup_iff_pairwise_ne.1 h).imp fun h e => h (segA_inj e)
theorem sumSeg_app (D : Dk) (a b : List Nat) : sumSeg D (a ++ b) = sumSeg D a + sumSeg D b := by simp [sumSeg]
theorem areasL_nodup {c : Nat} {D : Dk} (o : D.Ok c) : (areasL D).Nodup := (srtI_perm _).symm.nodup o.keys
theorem wnums_nodup {l : List Int} (h : l.Nodup) (h0 : ∀ k ∈ l, 0 <= k) : (wnums l).Nodup := by
 unfold wnums
 rw [List.nodup_iff_pairwise_ne, List.pairwise_map]
 have h1 := (List.nodup_iff_pairwise_ne.1 h).filter (fun a => decide (a % 4 = 1))
 refine List.Pairwise.imp_of_mem ?_ h1
 intro a b ha hb hne e
 rw [List.mem_filter] at ha hb
 have ha1 := h0 a ha.1
 have hb1 := h0 b hb.1
 have ha2 := of_decide_eq_true ha.2
 have hb2 := of_decide_eq_true hb.2
 exact hne (by omega)
theorem wnums_mem {l : List Int} {n : Nat} (h : n ∈ wnums l) : ∃ a ∈ l, a % 4 = 1 /\ a.toNat / 4 = n := by
 unfold wnums at h
 obtain ⟨a, ha, rfl⟩ := List.mem_map.1 h
 rw [List.mem_filter] at ha
 exact ⟨a, ha.1, of_decide_eq_true ha.2, rfl⟩
theorem last_lt : ∀ (l : List Nat) (z : Nat), l.Pairwise (· <= ·) -> (∀ n ∈ l, n < l.foldl (fun _ n => n + 1) z) /\ ∀ y, (∀ n ∈ l, y <= n) -> y < z -> y < l.foldl (fun _ n => n + 1) z
 | [], z, _ => ⟨fun n h => by simp at h, fun y _ h => h⟩
 | a :: t, z, h => by
  have h1 := List.pairwise_cons.1 h
  obtain ⟨g1, g2⟩ := last_lt t (a + 1) h1.2
  simp only [List.foldl_cons]
  refine ⟨fun n hn => ?_, fun y hy hz => ?_⟩
  ·rcases List.mem_cons.1 hn with rfl | hn
   ·exact g2 n h1.1 (Nat.lt_succ_self n)
   ·exact g1 n hn
  ·have := hy a (by simp)
   exact g2 y (fun n hn => hy n (by simp [hn])) (by omega)
theorem wnums_lt {l : List Int} (h : l.Pairwise (· <= ·)) : ∀ n ∈ wnums l, n < wnext l := by
 refine (last_lt (wnums l) 0 ?_).1
 unfold wnums
 rw [List.pairwise_map]
 refine (h.filter _).imp fun {a b} hab => ?_
 exact Nat.div_le_div_right (by omega)
structure SInv (D : Dk) (mx : Nat) (don : List Nat) (W : Wl) : Prop where
 op : W.op = none
 code : W.code = 0
 next : W.next = mx
 recs : W.recs.length <= 63 * sumSeg D don
 last : W.first + W.recs.length <= wTop
 old : W.old.length <= don.length
 olds : ∀ s ∈ W.old, s.1 ∈ don /\ s.2 <= wTop
 recl : ∀ r ∈ W.recs, r.length <= 512
theorem follows_facts (W : Wl) (n idx : Nat) : (W.follows n idx).1.recs.length <= W.recs.length /\ (∀ r ∈ (W.follows n idx).1.recs, r ∈ W.recs) /\ (W.follows n idx).1.op = W.op /\ (W.follows n idx).1.code = W.code /\ (W.follows n idx).1.next = W.next /\
  (W.follows n idx).1.old.length <= W.old.length + 1 /\ ∀ s ∈ (W.follows n idx).1.old, s ∈ W.old \/ s = (n, idx) := by
 unfold Wl.follows
 split
 ·exact ⟨by simp, by simp, rfl, rfl, rfl, by simp, fun s hs => by simpa using hs⟩
 ·split
  ·exact ⟨Nat.le_refl _, fun _ h => h, rfl, rfl, rfl, Nat.le_succ _, fun s hs => .inl hs⟩
  ·exact ⟨by dsimp only; rw [List.length_take]; omega, fun r hr => List.mem_of_mem_take hr, rfl, rfl, rfl, by simp, fun s hs => by simpa using hs⟩
theorem wrecs_len : ∀ (f : Nat) (r : Rd), r.2 = 0 -> (wrecs f r).length <= r.1.length /\ ∀ x ∈ wrecs f r, x.length <= 512
 | 0, r, _ => ⟨by simp [wrecs], by simp [wrecs]⟩
 | f + 1, (b, e), he => by
  have he : e = 0 := he
  subst he
  rw [wrecs_step]
  split
  ·rename_i h
   obtain ⟨g1, g2⟩ := rBytes_dec h
   obtain ⟨g3, g4⟩ := wrecs_len f (rBytes 512 (b, 0)).2 h
   refine ⟨by simp only [List.length_cons]; omega, fun x hx => ?_⟩
   rcases List.mem_cons.1 hx with rfl | hx
   ·have : ((512 : Int)).toNat = 512 := rfl
    omega
   ·exact g4 x hx
  ·exact ⟨by simp, by simp⟩
theorem SInv.step {c : Nat} {D : Dk} (o : D.Ok c) {mx fr n : Nat} {don : List Nat} {W : Wl} (h : SInv D mx don W) (hchk : (wstep D fr n W).1.first + (wstep D fr n W).1.recs.length <= wTop) : SInv D mx (don ++ [n]) (wstep D fr n W).1 := by
 have hsum := sumSeg_app D don [n]
 have hs1 : sumSeg D [n] = (D.ar (segA n)).length := by simp [sumSeg]
 have keep : SInv D mx (don ++ [n]) W := ⟨h.op, h.code, h.next, by have := h.recs; omega, h.last, by have := h.old; simp; omega, fun s hs => ⟨by simp [(h.olds s hs).1], (h.olds s hs).2⟩, h.recl⟩
 unfold wstep at hchk ⊢
 split
 ·exact keep
 ·rename_i hfr
  rw [if_neg hfr] at hchk
  have hx := wtext_ar o n
  unfold wread at hchk ⊢
  split
  ·exact keep
  ·rename_i h1
   rw [if_neg h1] at hchk
   have h1 := Decidable.not_not.1 h1
   have hU := (rUint_ok h1).2
   have hUl := (rUint_bd wTop (wtext D n) 0).2
   obtain ⟨f1, f2, f3, f4, f5, f6, f7⟩ := follows_facts W n (rUint wTop (wtext D n, 0)).1
   have holds : ∀ s ∈ (W.follows n (rUint wTop (wtext D n, 0)).1).1.old, s.1 ∈ don ++ [n] /\ s.2 <= wTop := fun s hs => by
    rcases f7 s hs with g | rfl
    ·exact ⟨by simp [(h.olds s g).1], (h.olds s g).2⟩
    ·exact ⟨by simp, hU⟩
   split
   ·rename_i h2
    rw [if_pos h2] at hchk
    exact ⟨f3.trans h.op, f4.trans h.code, f5.trans h.next, by have := h.recs; dsimp only; omega, hchk, by have := h.old; simp only [List.length_append, List.length_cons, List.length_nil]; omega, holds, fun r hr => h.recl r (f2 r hr)⟩
   ·rename_i h2
    rw [if_neg h2] at hchk
    obtain ⟨g1, g2⟩ := wrecs_len ((wtext D n).length + 1) (rUint wTop (wtext D n, 0)).2 h1
    refine ⟨f3.trans h.op, f4.trans h.code, f5.trans h.next, ?_, hchk, ?_, holds, ?_⟩
    ·have := h.recs
     dsimp only
     rw [List.length_append]
     omega
    ·have := h.old; simp only [List.length_append, List.length_cons, List.length_nil]; omega
    ·intro r hr
     rcases List.mem_append.1 hr with hr | hr
     ·exact h.recl r (f2 r hr)
     ·exact g2 r hr
theorem SInv.scan {c : Nat} {D : Dk} (o : D.Ok c) {mx fr : Nat} : ∀ (l don : List Nat) (W : Wl) (g : List Nat), SInv D mx don W -> (wscan D fr l W g).2.2 = true -> SInv D mx (don ++ l) (wscan D fr l W g).1
 | [], don, W, g, h, _ => by simpa [wscan] using h
 | n :: r, don, W, g, h, hok => by
  unfold wscan at hok ⊢
  split
  ·rename_i h1; rw [if_pos h1] at hok; cases hok
  ·rename_i h1
   rw [if_neg h1] at hok
   have hs := SInv.step o h (fr := fr) (n := n) (by rcases Nat.lt_or_ge wTop ((wstep D fr n W).1.first + (wstep D fr n W).1.recs.length) with g | g; exact absurd (.inr g) h1; exact g)
   have := SInv.scan o r (don ++ [n]) _ _ hs hok
   rwa [List.append_assoc] at this
theorem WBd.opened {c : Nat} {D : Dk} (o : DOk c D) {fr first : Nat} {W : Wl} {E : Dk} (h : wOpen D fr first = (some W, E, 0)) : WBd c W /\ W.op = none /\ W.code = 0 /\ W.old.length <= c := by
 unfold wOpen at h
 split at h
 ·cases h
 ·split at h
  ·cases h
  ·rename_i h1
   split at h
   ·cases h
   ·rename_i h2
    split at h
    ·cases h
    ·rename_i h3
     split at h
     ·cases h
     ·simp only [Prod.mk.injEq, Option.some.injEq] at h
      obtain ⟨rfl, _⟩ := h
      have h3 : (wscan D fr (wnums (areasL D)) (wl0 fr first (areasL D)) []).2.2 = true := by
       cases hh : (wscan D fr (wnums (areasL D)) (wl0 fr first (areasL D)) []).2.2 with
       | false => exact absurd hh h3
       | true => rfl
      have h0 : SInv D (wl0 fr first (areasL D)).next [] (wl0 fr first (areasL D)) := ⟨rfl, rfl, rfl, by simp [wl0], by simp [wl0]; omega, by simp [wl0], by simp [wl0], by simp [wl0]⟩
      have hS := SInv.scan o.ok _ _ _ _ h0 h3
      rw [List.nil_append] at hS
      have hnd := wnums_nodup (areasL_nodup o.ok) (fun k hk => (areasL_bd o k hk).1)
      have hsum := sumSeg_le (D := D) hnd
      have hcap := o.cap
      have hroom := o.ok.room
      have hlen := areasL_len o
      have hnl := wnums_len (areasL D)
      have hol := hS.old
      have hre := hS.recs
      have hnx := hS.next
      refine ⟨⟨hS.last, by omega, by omega, by omega, fun q hq => (by rw [hS.op] at hq; cases hq), fun q hq => (by rw [hS.op] at hq; cases hq), fun s hs => ?_, hS.recl⟩, hS.op, hS.code, by omega⟩
      obtain ⟨g1, g2⟩ := hS.olds s hs
      have := wnums_lt (l := areasL D) (srtI_srt _) s.1 g1
      have hle : wnext (areasL D) <= (wl0 fr first (areasL D)).next := by unfold wl0; exact Nat.le_max_left _ _
      refine ⟨?_, g2⟩
      have : s.1 < wnext (areasL D) := this
      omega
theorem DOk.opened {c : Nat} {D : Dk} (o : DOk c D) (fr first : Nat) : DOk (c + D.areas.length) (wOpen D fr first).2.1 := by
 have hs := DOk.settle (wnums (areasL D)) (wscan D fr (wnums (areasL D)) (wl0 fr first (areasL D)) []).2.1 D c o
 have hlen : (areasL D).length = D.areas.length := by unfold areasL; rw [(srtI_perm _).length_eq, List.length_map]
 have hnl := wnums_len (areasL D)
 have hs := hs.up (d := c + D.areas.length) (by omega)
 unfold wOpen
 split
 ·exact o.up (by omega)
 ·split
  ·exact o.up (by omega)
  ·split
   ·exact o.up (by omega)
   ·split
    ·exact o.up (by omega)
    ·split
     ·exact hs
     ·exact hs
end Go.En
end
section
namespace Go.En
theorem wscan_step (D : Dk) (fr n : Nat) (r : List Nat) (W : Wl) (g : List Nat) : wscan D fr (n :: r) W g =
  if (wstep D fr n W).2.1 = false \/ wTop < (wstep D fr n W).1.first + (wstep D fr n W).1.recs.length then ((wstep D fr n W).1, if (wstep D fr n W).2.2 then g ++ [n] else g, false)
  else wscan D fr r (wstep D fr n W).1 (if (wstep D fr n W).2.2 then g ++ [n] else g) := rfl
theorem wstep_bd {D : Dk} {fr n : Nat} {W : Wl} (h : W.first <= wTop) : (wstep D fr n W).1.first <= wTop /\ (wstep D fr n W).1.recs.length <= W.recs.length + 4128831 := by
 unfold wstep
 split
 ·exact ⟨h, Nat.le_add_right _ _⟩
 ·unfold wread
  split
  ·exact ⟨h, Nat.le_add_right _ _⟩
  ·rename_i h1
   have h1 := Decidable.not_not.1 h1
   have hU := (rUint_ok h1).2
   have hUl := (rUint_bd wTop (wtext D n) 0).2
   have hx := wtext_len D n
   have hf : (W.follows n (rUint wTop (wtext D n, 0)).1).1.first <= wTop := by
    unfold Wl.follows
    split
    ·exact hU
    ·split
     ·exact h
     ·exact h
   obtain ⟨f1, _⟩ := follows_facts W n (rUint wTop (wtext D n, 0)).1
   split
   ·exact ⟨hf, by dsimp only; omega⟩
   ·obtain ⟨g1, g2⟩ := wrecs_len ((wtext D n).length + 1) (rUint wTop (wtext D n, 0)).2 h1
    refine ⟨hf, ?_⟩
    dsimp only
    rw [List.length_append]
    omega
end Go.En
namespace Go.Proofs.YtneeeblghijmgaaGreat
open Go.En
attribute [local irreducible] Code.wp wpList Calls
theorem openWC {w0 : World} {K dh : PH} {hs : List PH} (db : Nat) (D : Dk) (c : Nat) (oD : DOk c D) (hc : c <= 400000000) (hd : DskH K db D dh) (fr first : Nat) (hfr : fr < 18446744073709551616) (hfi : first < 18446744073709551616) :
  Ct Tryz.prog w0 63 [.pointer (some ⟨db, 0, none⟩), .int .u64 ((fr : Nat) : Int), .int .u64 ((first : Nat) : Int)] K (dh :: hs)
   (fun v K' hs' => Le K K' /\ ∃ m' dh', hs' = m' ++ (dh' :: hs) /\ DskH K' db (wOpen D fr first).2.1 dh' /\ match (wOpen D fr first).1 with
    | none => m' = [] /\ v = .tuple #[.pointer none, .int .i64 (wOpen D fr first).2.2]
    | some W => ∃ wb, WalM K' wb db W m' /\ v = .tuple #[.pointer (some ⟨wb, 0, none⟩), .int .i64 (wOpen D fr first).2.2]) := by
 have hbd := areasL_bd oD
 have hal := areasL_len oD
 have hnl := wnums_len (areasL D)
 have hsrt : (areasL D).Pairwise (· <= ·) := srtI_srt _
 have hlt := wnums_lt hsrt
 have hnd := wnums_nodup (areasL_nodup oD.ok) (fun k hk => (hbd k hk).1)
 have htot := oD.cap
 have hroom := oD.ok.room
 have hn0 : ∀ n ∈ wnums (areasL D), n < 18446744073709551616 := fun n hn => by
  obtain ⟨a, ha, _, rfl⟩ := wnums_mem hn
  have := hbd a ha
  omega
 have hnx0 : wnext (areasL D) < 18446744073709551617 := by
  unfold wnext
  rcases List.eq_nil_or_concat (wnums (areasL D)) with h | ⟨l', b, h⟩
  ·rw [h]; decide
  ·have := hn0 b (by rw [h]; simp)
   rw [h]
   simp only [List.concat_eq_append, List.foldl_append, List.foldl_cons, List.foldl_nil]
   omega
 obtain ⟨R, hR⟩ : ∃ R, R = wOpen D fr first := ⟨_, rfl⟩
 rw [<- hR]
 refine enter Tryz.func63 (by kernel_rfl) rfl rfl rfl ?_
 refine sq (rg ?_)
 refine fin hT 2 rfl (th (sq (sq (rg ?_))))
 refine cl hT 1 rfl (deadH db D hd) ?_
 rintro v17 K17 hs17 ⟨rfl, rfl, rfl⟩
 unfold wOpen at hR
 cases hdead : D.dead with
 | true =>
  rw [if_pos hdead] at hR
  refine fin hT 0 rfl (th (ifT rfl ?_))
  refine sq (rg ?_)
  refine fin hT 2 rfl (th (rt (rT ?_)))
  rw [hR]
  exact ret2 rfl rfl rfl ⟨Le.refl _, [], dh, rfl, hd, rfl, rfl⟩
 | false =>
  rw [if_neg (by rw [hdead]; simp)] at hR
  refine fin hT 0 rfl (th (ifF rfl ?_))
  refine sk (th (sq (sq (rg ?_))))
  refine cmpS hT 1 rfl fun b19 h19 => ?_
  refine fin hT 0 rfl (th (ifP h19 rfl (fun e3 => ?_) (fun e3 => ?_)))
  ·rw [if_pos (by unfold wTop; omega)] at hR
   refine sq (rg ?_)
   refine fin hT 2 rfl (th (rt (rT ?_)))
   rw [hR]
   exact ret2 rfl rfl rfl ⟨Le.refl _, [], dh, rfl, hd, rfl, rfl⟩
  ·have hft : first <= wTop := by unfold wTop; omega
   rw [if_neg (by omega)] at hR
   refine sk (th ?_)
   refine WC.em (WC.perm (List.Perm.swap _ _ _) ?_)
   refine WC.em (WC.em (WC.em (WC.em ?_)))
   refine sq (rg ?_)
   refine bd hT 2 (.agg (wlA db none first (.slice none 0 0) (.slice none 0 0) 0 0)) rfl (fun w => by kernel_rfl) ?_
   refine bx hT 0 rfl fun wb => ?_
   refine al hT 0 (.pointer none) rfl (by kernel_rfl) fun b8 => ?_
   refine stp hT 0 0 rfl rfl rfl rfl ?_
   refine WL.perm (hs' := [_, _, _, _, _] ++ (_ :: dh :: em :: hs)) (List.perm_middle (l₁ := [_, _, _, _, _])).symm ?_
   have hW0 : WalM K17 wb db ⟨none, first, [], [], 0, 0⟩ [pt wb (wlA db none first (.slice none 0 0) (.slice none 0 0) 0 0) 146, em, em, em, em] :=
    ⟨none, none, 0, none, 0, em, em, em, em, rfl, ⟨rfl, rfl, rfl⟩, SlZ.nil _ _, SlZ.nil _ _⟩
   refine fin hT 0 rfl (th (sq (rg ?_)))
   refine ldp hT 0 5 rfl rfl rfl ?_
   refine cl hT 0 rfl (numbersC wb db _ hW0 D c oD (by omega) hd rfl) ?_
   rintro v25 K25 hs25 ⟨le, m2, rfl, hW2, an, kn, rfl, xN⟩
   obtain ⟨l, hl⟩ : ∃ l, l = wnums (areasL D) := ⟨_, rfl⟩
   rw [<- hl] at xN hlt hnd hnl hR hn0 ⊢
   obtain ⟨ob, aL, cL, aO, cO, oH, rH, gL, gO, rfl, hop, hL, hO⟩ := hW2
   dsimp only at hop hL hO
   refine WL.hs (pt wb (wlA db ob first (.slice aL 0 cL) (.slice aO 0 cO) (wnext (areasL D)) 0) 146 :: oH :: rH :: gL :: gO :: pt b8 #[.pointer (some ⟨wb, 0, none⟩)] 88 :: dh :: em :: hs) rfl ?_
   refine fin hT 1 rfl (th (sq (rga [pt b8 #[.pointer (some ⟨wb, 0, none⟩)] 88, pt wb (wlA db ob first (.slice aL 0 cL) (.slice aO 0 cO) (wnext (areasL D)) 0) 146] 9 [0, 2, 4, 6, 8, 10, 12, 14, 16, 19] (by simp) (by kernel_rfl) (by kernel_rfl) ?_)))
   refine dldpw hT (by kernel_rfl) 0 0 rfl (by kernel_rfl) rfl rfl ?_
   refine dldpw hT (by kernel_rfl) 0 0 rfl (by kernel_rfl) rfl rfl ?_
   refine dldpw hT (by kernel_rfl) 2 1 rfl (by kernel_rfl) rfl rfl ?_
   refine dact hT (by kernel_rfl) 4 rfl ?_
   refine stp hT 0 0 rfl rfl rfl rfl ?_
   refine dnext (.inl (by kernel_rfl)) ?_
   obtain ⟨mx, hmx⟩ : ∃ mx, mx = max (wnext (areasL D)) fr := ⟨_, rfl⟩
   have hmx2 : (if ((fr : Nat) : Int) > ((wnext (areasL D) : Nat) : Int) then ((fr : Nat) : Int) else ((wnext (areasL D) : Nat) : Int)) = ((mx : Nat) : Int) := by split <;> omega
   have hmx3 : (wl0 fr first (areasL D)).next = mx := hmx.symm
   have hW0 : wl0 fr first (areasL D) = ⟨none, first, [], [], mx, 0⟩ := by rw [hmx]; rfl
   rw [hmx2]
   refine dend hT (by kernel_rfl) 0 rfl (th (sq (sq (rg ?_))))
   refine ldp hT 0 5 rfl rfl rfl ?_
   refine ldp hT 2 0 rfl rfl rfl ?_
   refine cmpS hT 0 rfl fun b39 h39 => ?_
   refine fin hT 0 rfl (th (ifP h39 rfl (fun e5 => ?_) (fun e5 => ?_)))
   ·rw [if_pos (by rw [hmx3]; unfold wMany; omega)] at hR
    refine sq (rg ?_)
    refine fin hT 2 rfl (th (rt (rT (WQ.del 0 rfl (WQ.del 0 rfl (WQ.del 0 rfl (WQ.del 0 rfl (WQ.del 0 rfl (WQ.del 0 rfl (WQ.del 1 rfl ?_))))))))))
    rw [hR]
    exact ret2 rfl rfl rfl ⟨le, [], dh, rfl, hd.le le, rfl, rfl⟩
   ·have hmxt : mx <= 1152921504606846976 := by omega
    rw [if_neg (by rw [hmx3]; unfold wMany; omega)] at hR
    have hlm : ∀ n ∈ l, n <= 2305843009213693952 := fun n hn => by have := hlt n hn; omega
    have hsum : ∀ j, sumSeg D (l.take j) <= 1073741824 := fun j => by
     have := sumSeg_le (D := D) (hnd.sublist (List.take_sublist j l))
     omega
    have hS0 : SInv D mx [] ⟨none, first, [], [], mx, 0⟩ := ⟨rfl, rfl, rfl, by simp, by simpa using hft, by simp, by simp, by simp⟩
    rw [hW0] at hR
    obtain ⟨Z, hZ⟩ : ∃ Z, Z = wscan D fr l ⟨none, first, [], [], mx, 0⟩ [] := ⟨_, rfl⟩
    rw [<- hZ] at hR
    have hW1 : WalM K25 wb db ⟨none, first, [], [], mx, 0⟩ [pt wb (wlA db ob first (.slice aL 0 cL) (.slice aO 0 cO) mx 0) 146, oH, rH, gL, gO] :=
     ⟨ob, aL, cL, aO, cO, oH, rH, gL, gO, rfl, hop, hL, hO⟩
    refine sk (th (sq (rg ?_)))
    refine fin hT 1 rfl (th (sq (sq (rg ?_))))
    refine fin hT 3 rfl (th (bk ?_))
    refine loop (σ := (Nat × Wl × List Nat) × (List PH × (Option Addr × Nat × PH)) × PH) (fun s => [(0, .pointer (some ⟨db, 0, none⟩)), (1, .int .u64 ((fr : Nat) : Int)), (8, .pointer (some ⟨b8, 0, none⟩)), (9, .slice an l.length kn), (10, .slice s.2.1.2.1 s.1.2.2.length s.2.1.2.2.1), (40, .slice an l.length kn), (41, .int .i64 ((l.length : Nat) : Int)), (42, .int .i64 ((s.1.1 : Nat) : Int))]) (fun s => s.2.2)
     (fun s => s.2.1.1 ++ (pt b8 #[.pointer (some ⟨wb, 0, none⟩)] 88 :: dh :: s.2.1.2.2.2 :: hs))
     (fun s => s.1.1 <= l.length /\ wscan D fr (l.drop s.1.1) s.1.2.1 s.1.2.2 = Z /\ SInv D mx (l.take s.1.1) s.1.2.1 /\ s.1.2.2.length <= s.1.1 /\ Le K25 s.2.2 /\ WalM s.2.2 wb db s.1.2.1 s.2.1.1 /\ Own s.2.1.2.2.2 s.2.1.2.1 s.1.2.2.length s.2.1.2.2.1 23 1 (uvv s.1.2.2)) (fun s => l.length - s.1.1)
     ((0, ⟨none, first, [], [], mx, 0⟩, []), ([_, _, _, _, _], (none, 0, em)), K25) ⟨Nat.zero_le _, hZ.symm, hS0, Nat.le_refl _, Le.refl _, hW1, Own.nil _ _⟩ ⟨rfl, rfl, rfl, rfl, rfl, rfl, rfl, rfl, trivial⟩ rfl rfl ?_
    clear hS0 hW0 hW1 hop hL hO
    clear oH rH gL gO
    rintro ⟨⟨j, W, g⟩, ⟨m, ⟨ag, cg, gh⟩⟩, K1⟩ ⟨hj, hw, hS, hgl, le1, hW, og⟩
    dsimp only at *
    obtain ⟨ob, aL, cL, aO, cO, oH, rH, gL, gO, rfl, hop, hL, hO⟩ := id hW
    have hsj := hsum j
    have hr := hS.recs
    have ho := hS.old
    have hla := hS.last
    rw [List.length_take] at ho
    refine sq (rg ?_)
    refine cmpS hT 0 rfl fun b43 h43 => ?_
    refine fin hT 0 rfl (th (sq (ifP h43 rfl (fun e7 => ?_) (fun e7 => ?_))))
    ·have hjl : j < l.length := by omega
     obtain ⟨n, ha⟩ : ∃ a, l[j]? = some a := ⟨l[j], List.getElem?_eq_getElem hjl⟩
     have hnb := hlm n (List.mem_of_getElem? ha)
     have htk : l.take (j + 1) = l.take j ++ [n] := by rw [List.take_add_one, ha]; rfl
     rw [List.drop_eq_getElem_cons hjl, show l[j] = n from by rw [List.getElem?_eq_getElem hjl] at ha; exact Option.some.inj ha, wscan_step] at hw
     obtain ⟨V, hV⟩ : ∃ V, V = wstep D fr n W := ⟨_, rfl⟩
     have hVb := wstep_bd (D := D) (fr := fr) (n := n) (W := W) (by omega)
     have hVs := SInv.step oD.ok hS (fr := fr) (n := n)
     rw [<- hV] at hw hVb hVs
     refine sk (th (sq (bk (sq (rg ?_)))))
     refine ix1 hT 0 j rfl rfl rfl (xN.le le1) (uvv_get ha) fun a44 hc44 => ?_
     refine ld hT 0 rfl (.inl rfl) hc44 ?_
     refine al hT 0 (.int .u64 0) rfl (by kernel_rfl) fun b12 => ?_
     refine stp hT 0 0 rfl rfl rfl rfl ?_
     refine WL.hs (pt b12 #[.int .u64 ((n : Nat) : Int)] 23 :: _) rfl ?_
     refine fin hT 0 rfl (th (sq (rga [pt b12 #[.int .u64 ((n : Nat) : Int)] 23] 5 [0, 2, 4, 6, 8] (by simp) (by kernel_rfl) (by kernel_rfl) ?_)))
     refine dldp hT (by kernel_rfl) 0 0 rfl rfl rfl ?_
     refine dcbS hT (by kernel_rfl) 1 (n < fr) rfl (by simp) fun b48 h48 => ?_
     refine dend hT (by kernel_rfl) 2 rfl (th ?_)
     refine WC.perm (hs' := [_, _, _, _, _] ++ (pt b12 #[.int .u64 ((n : Nat) : Int)] 23 :: pt b8 #[.pointer (some ⟨wb, 0, none⟩)] 88 :: dh :: gh :: hs)) (List.perm_middle (l₁ := [_, _, _, _, _])).symm ?_
     refine jnK (σ := List PH × PH) (fun _ => [(0, .pointer (some ⟨db, 0, none⟩)), (1, .int .u64 ((fr : Nat) : Int)), (8, .pointer (some ⟨b8, 0, none⟩)), (9, .slice an l.length kn), (10, .slice ag g.length cg), (12, .pointer (some ⟨b12, 0, none⟩)), (13, .bool V.2.1), (14, .bool V.2.2), (40, .slice an l.length kn), (41, .int .i64 ((l.length : Nat) : Int)), (42, .int .i64 ((j : Nat) : Int))]) (fun s => s.2)
      (fun s => s.1 ++ (pt b12 #[.int .u64 ((n : Nat) : Int)] 23 :: pt b8 #[.pointer (some ⟨wb, 0, none⟩)] 88 :: dh :: gh :: hs)) (fun s => Le K1 s.2 /\ WalM s.2 wb db V.1 s.1) ?_ ?_
     ·refine sq (rg ?_)
      refine cbS hT 1 _ rfl (bnot h48) fun b50 h50 => ?_
      refine fin hT 0 rfl (th (ifP h50 rfl (fun e8 => ?_) (fun e8 => ?_)))
      ·have hVr : V = wread D n W := by rw [hV]; unfold wstep; rw [if_neg e8]
       refine rg ?_
       refine ldp hT 1 5 rfl rfl rfl ?_
       refine cl hT 2 rfl (readWC wb db b8 b12 W hW hla (by omega) (by omega) D c oD.ok (by omega) (hd.le (le.trans le1)) n hnb) ?_
       rintro v56 K56 hs56 ⟨le2, m5, rfl, hW5, rfl⟩
       rw [<- hVr] at hW5 ⊢
       refine fin hT 5 rfl ?_
       exact jxK (m5, K56) ⟨le2, hW5⟩ ⟨rfl, rfl, rfl, rfl, rfl, rfl, rfl, rfl, rfl, rfl, rfl, trivial⟩ rfl rfl
      ·have e8 : n < fr := Decidable.not_not.1 e8
       have hVr : V = (W, true, true) := by rw [hV]; unfold wstep; rw [if_pos e8]
       obtain rfl : b48 = true := h48.2 e8
       rw [hVr]
       refine sk ?_
       exact jxK ([_, _, _, _, _], K1) ⟨Le.refl _, hW⟩ ⟨rfl, rfl, rfl, rfl, rfl, rfl, rfl, rfl, rfl, rfl, rfl, trivial⟩ rfl rfl
     ·clear hW hop hL hO
      clear oH rH gL gO
      rintro ⟨m, K2⟩ ⟨le2, hW⟩
      dsimp only at *
      obtain ⟨ob, aL, cL, aO, cO, oH, rH, gL, gO, rfl, hop, hL, hO⟩ := id hW
      obtain ⟨g', hg'⟩ : ∃ g', g' = if V.2.2 = true then g ++ [n] else g := ⟨_, rfl⟩
      rw [<- hg'] at hw
      have hgl' : g'.length <= j + 1 := by rw [hg']; split <;> (try simp) <;> omega
      refine jn (σ := Option Addr × Nat × PH) (fun s => [(0, .pointer (some ⟨db, 0, none⟩)), (1, .int .u64 ((fr : Nat) : Int)), (8, .pointer (some ⟨b8, 0, none⟩)), (9, .slice an l.length kn), (10, .slice s.1 g'.length s.2.1), (13, .bool V.2.1), (40, .slice an l.length kn), (41, .int .i64 ((l.length : Nat) : Int)), (42, .int .i64 ((j : Nat) : Int))])
       (fun s => pt wb (wlA db ob V.1.first (.slice aL V.1.recs.length cL) (.slice aO V.1.old.length cO) V.1.next V.1.code) 146 :: oH :: rH :: gL :: gO :: pt b12 #[.int .u64 ((n : Nat) : Int)] 23 :: pt b8 #[.pointer (some ⟨wb, 0, none⟩)] 88 :: dh :: s.2.2 :: hs)
       (fun s => Own s.2.2 s.1 g'.length s.2.1 23 1 (uvv g')) ?_ ?_
      ·refine sq (rg ?_)
       cases hv : V.2.2 with
       | true =>
        rw [if_pos hv] at hg'
        refine fin hT 1 rfl (th (ifT rfl ?_))
        refine rg ?_
        refine ldp hT 1 5 rfl rfl rfl ?_
        refine lit hT 0 #[.int .u64 ((n : Nat) : Int)] rfl (by decide) (by kernel_rfl) fun b62 => ?_
        refine app hT 0 9 rfl rfl og (.inr ⟨0, rfl⟩) (Own.ofPt (n := 1) (size := 1) rfl (by decide)).isS rfl (by decide) (by simp [Value.oneCell']) (by show (g.length + 1) * 8 <= _; omega) (by simp only [maxLen]; omega) fun ao63 c63 g63 o63 => ?_
        refine fin hT 1 rfl (WQ.drop ?_)
        refine jx (ao63, c63, g63) (own_of o63 (by rw [hg']; simp) (by rw [hg', uvv_app]; rfl)) ⟨rfl, rfl, rfl, rfl, by dsimp only; rw [hg', List.length_append]; rfl, rfl, rfl, rfl, rfl, trivial⟩ rfl rfl
       | false =>
        rw [if_neg (by rw [hv]; simp)] at hg'
        refine fin hT 1 rfl (th (ifF rfl ?_))
        refine sk ?_
        refine jx (ag, cg, gh) (by dsimp only; rw [hg']; exact og) ⟨rfl, rfl, rfl, rfl, by dsimp only; rw [hg']; rfl, rfl, rfl, rfl, rfl, trivial⟩ rfl rfl
      ·rintro ⟨ag, cg, gh⟩ og
       dsimp only at *
       cases hv : V.2.1 with
       | false =>
        rw [if_pos (.inl hv)] at hw
        rw [<- hw] at hR
        dsimp only at hR
        rw [if_pos rfl] at hR
        refine sq (rga [pt b8 #[.pointer (some ⟨wb, 0, none⟩)] 88, pt wb (wlA db ob V.1.first (.slice aL V.1.recs.length cL) (.slice aO V.1.old.length cO) V.1.next V.1.code) 146] 16 [0, 2, 4, 6, 8, 10, 12, 14, 16, 18, 20, 22, 24, 26, 28, 30] (by simp) (by kernel_rfl) (by kernel_rfl) ?_)
        refine dend hT (by kernel_rfl) 16 rfl (th (ifT rfl ?_))
        refine sq (rg ?_)
        refine fin hT 2 rfl (th (rt (rB (rT (rT (rB (rT (WQ.del 0 rfl (WQ.del 0 rfl (WQ.del 0 rfl (WQ.del 0 rfl (WQ.del 0 rfl (WQ.del 0 rfl (WQ.del 0 rfl (WQ.del 1 rfl ?_)))))))))))))))
        rw [hR]
        exact ret2 rfl rfl rfl ⟨le.trans (le1.trans le2), [], dh, rfl, hd.le (le.trans (le1.trans le2)), rfl, rfl⟩
       | true =>
        refine sq (rga [pt b8 #[.pointer (some ⟨wb, 0, none⟩)] 88, pt wb (wlA db ob V.1.first (.slice aL V.1.recs.length cL) (.slice aO V.1.old.length cO) V.1.next V.1.code) 146] 16 [0, 2, 4, 6, 8, 10, 12, 14, 16, 18, 20, 22, 24, 26, 28, 30] (by simp) (by kernel_rfl) (by kernel_rfl) ?_)
        refine dldp hT (by kernel_rfl) 3 0 rfl rfl rfl ?_
        refine dldp hT (by kernel_rfl) 2 1 rfl rfl rfl ?_
        refine dldp hT (by kernel_rfl) 0 0 rfl rfl rfl ?_
        refine dldp hT (by kernel_rfl) 2 1 rfl rfl rfl ?_
        refine dar hT (by kernel_rfl) 1 rfl (u64w (x := ((V.1.recs.length : Nat) : Int)) (by omega)) ?_
        refine dar hT (by kernel_rfl) 0 rfl (u64w (x := ((V.1.first + V.1.recs.length : Nat) : Int)) (by unfold wTop at *; omega)) ?_
        refine dcbS hT (by kernel_rfl) 0 (wTop < V.1.first + V.1.recs.length) rfl (by unfold wTop; simp; omega) fun b78 h78 => ?_
        refine dend hT (by kernel_rfl) 1 rfl (th (ifP h78 rfl (fun e10 => ?_) (fun e10 => ?_)))
        ·rw [if_pos (.inr e10)] at hw
         rw [<- hw] at hR
         dsimp only at hR
         rw [if_pos rfl] at hR
         refine sq (rg ?_)
         refine fin hT 2 rfl (th (rt (rB (rT (rT (rB (rT (WQ.del 0 rfl (WQ.del 0 rfl (WQ.del 0 rfl (WQ.del 0 rfl (WQ.del 0 rfl (WQ.del 0 rfl (WQ.del 0 rfl (WQ.del 1 rfl ?_)))))))))))))))
         rw [hR]
         exact ret2 rfl rfl rfl ⟨le.trans (le1.trans le2), [], dh, rfl, hd.le (le.trans (le1.trans le2)), rfl, rfl⟩
        ·rw [if_neg (by rw [hv]; simp; omega)] at hw
         refine sk (bl (th (rg (WL.del 5 rfl ?_))))
         refine ar hT 0 rfl (i64w (x := ((j + 1 : Nat) : Int)) (by omega)) ?_
         refine fin hT 1 rfl ?_
         exact again (x := ((j, W, g), ([], (ag, cg, gh)), K1)) ((j + 1, V.1, g'), ([_, _, _, _, _], (ag, cg, gh)), K2) ⟨rfl, rfl, rfl, rfl, rfl, rfl, rfl, rfl, trivial⟩ rfl rfl ⟨by dsimp only; omega, hw, by dsimp only; rw [htk]; exact hVs (by omega), hgl', le1.trans le2, hW, og⟩ (by dsimp only; omega)
    ·obtain rfl : j = l.length := by omega
     rw [List.drop_length] at hw
     have hw : (W, g, true) = Z := hw
     rw [<- hw] at hR
     dsimp only at hR
     rw [if_neg (by simp)] at hR
     refine ex (xt (xt (xb (th (sq (rg ?_))))))
     refine ldp hT 0 5 rfl rfl rfl ?_
     refine WL.perm (hs' := gh :: ([_, _, _, _, _, _, _] ++ hs)) (List.perm_middle (l₁ := [_, _, _, _, _, _, _])) (WL.frz fun K3 l1 l2 => ?_)
     have hW3 : WalM K3 wb db W [pt wb (wlA db ob W.first (.slice aL W.recs.length cL) (.slice aO W.old.length cO) W.next W.code) 146, oH, rH, gL, gO] := hW.le l1
     refine cl hT 2 rfl (settleC wb db W hW3 D c oD (by omega) (hd.le (le.trans (le1.trans l1))) l g an kn (xN.le (le1.trans l1)) ag cg (og.isS.le l2) (by omega) (by omega) hlm) ?_
     rintro v84 K84 hs84 ⟨rfl, dh, rfl, hE, rfl⟩
     obtain ⟨Y, hY⟩ : ∃ Y, Y = wsettle g l D := ⟨_, rfl⟩
     rw [<- hY] at hE hR ⊢
     refine fin hT 1 rfl (th (sq (sq (rg ?_))))
     refine cmpS hT 1 rfl fun b86 h86 => ?_
     refine fin hT 0 rfl (th (ifP h86 rfl (fun e16 => ?_) (fun e16 => ?_)))
     ·rw [if_pos e16] at hR
      refine sq (rg ?_)
      refine fin hT 3 rfl (th (rt (rT (WQ.del 0 rfl (WQ.del 0 rfl (WQ.del 0 rfl (WQ.del 0 rfl (WQ.del 0 rfl (WQ.del 0 rfl ?_)))))))))
      rw [hR]
      exact ret2 rfl rfl rfl ⟨le.trans (le1.trans l1), [], dh, rfl, hE, rfl, rfl⟩
     ·rw [if_neg e16] at hR
      refine sk (th (sq (rg ?_)))
      refine ldp hT 0 5 rfl rfl rfl ?_
      refine fin hT 2 rfl (th (rt (WQ.del 5 rfl ?_)))
      rw [hR]
      exact ret2 rfl rfl rfl ⟨le.trans (le1.trans l1), [_, _, _, _, _], dh, rfl, hE, wb, hW3, rfl⟩
end Go.Proofs.YtneeeblghijmgaaGreat
end
section
namespace Go.En
def lgTop : Nat := 1152921504606846976
structure Snp where
 idx : Nat
 term : Nat
 vot : List Int
 data : List UInt8
def trm (s : Snp) (l : List Ent) (i : Nat) : Nat × Bool :=
 if i = s.idx then (s.term, true) else if i < s.idx \/ s.idx + l.length < i then (0, false) else (((l[i - s.idx - 1]?).getD Ent.zero).term, true)
def lgAt (s : Snp) (l : List Ent) (i : Nat) : Option Nat := if i <= s.idx \/ s.idx + l.length < i then none else some (i - s.idx - 1)
def folR : Nat -> Nat -> List Ent -> Int
 | _, _, [] => 0
 | i, t, e :: r => if e.idx ≠ i + 1 \/ e.term < t then 180 else folR e.idx e.term r
def fol (i t : Nat) (x : List Ent) : Int := if (x.all fun e => (putEnt e).isSome) = true then folR i t x else 181
def bckL (s : Snp) (l : List Ent) (t : Nat) : Nat -> Nat
 | 0 => 0
 | i + 1 => if s.idx < i + 1 then (if (trm s l i).1 ≠ t then i else bckL s l t i) else i + 1
def bck (s : Snp) (l : List Ent) (i : Nat) : Nat := if s.idx + l.length < i then s.idx + l.length else bckL s l (trm s l i).1 i
def skp (s : Snp) (l : List Ent) : List Ent -> Bool -> List Ent × Bool
 | [], b => ([], b)
 | e :: r, _ => if (trm s l e.idx).2 = false \/ (trm s l e.idx).1 ≠ e.term then (e :: r, (trm s l e.idx).2) else skp s l r true
def cfgAt (s : Snp) (l : List Ent) (up : Nat) : List Int × Nat :=
 match l.reverse.find? fun e => decide (e.kind = 2 /\ e.idx <= up) with
 | some e => ((getConf e.data).getD [], e.idx)
 | none => (s.vot, s.idx)
def lgHas (s : Snp) (l : List Ent) (t : Snp) : Bool := (trm s l t.idx).2 && decide ((trm s l t.idx).1 = t.term)
structure Lg where
 w : Wl
 hard : Slt
 head : Slt
 kt : Nat
 kv : Int
 sn : Snp
 place : Nat
 fr : Nat
 l : List Ent
 code : Int
def Lg.last (L : Lg) : Nat := L.sn.idx + L.l.length
def didV (code e : Int) : Int := if code = 0 then e else code
def Lg.setHard (L : Lg) (D : Dk) (t : Nat) (v : Int) : Lg × Dk × Int :=
 if L.code ≠ 0 then (L, D, L.code)
 else if v < -1 \/ 7 <= v then (L, D, 181)
 else if t < L.kt then (L, D, 180)
 else if (L.hard.save 0 D (uint t ++ uint (v + 1).toNat)).2.2 = 0 then ({ L with hard := (L.hard.save 0 D (uint t ++ uint (v + 1).toNat)).1, kt := t, kv := v }, (L.hard.save 0 D (uint t ++ uint (v + 1).toNat)).2.1, 0)
 else ({ L with hard := (L.hard.save 0 D (uint t ++ uint (v + 1).toNat)).1, code := (L.hard.save 0 D (uint t ++ uint (v + 1).toNat)).2.2 }, (L.hard.save 0 D (uint t ++ uint (v + 1).toNat)).2.1, (L.hard.save 0 D (uint t ++ uint (v + 1).toNat)).2.2)
def Lg.app1 : List Ent -> Lg -> Dk -> Lg × Dk × Int
 | [], L, D => (L, D, 0)
 | e :: r, L, D =>
  if (L.w.append e.bytes D).2.2 ≠ 0 then ({ L with w := (L.w.append e.bytes D).1, code := (L.w.append e.bytes D).2.2 }, (L.w.append e.bytes D).2.1, (L.w.append e.bytes D).2.2)
  else app1 r { L with w := (L.w.append e.bytes D).1, l := L.l ++ [e] } (L.w.append e.bytes D).2.1
def Lg.append (L : Lg) (x : List Ent) (D : Dk) : Lg × Dk × Int :=
 if L.code ≠ 0 then (L, D, L.code)
 else if fol L.last (trm L.sn L.l L.last).1 x ≠ 0 then (L, D, fol L.last (trm L.sn L.l L.last).1 x)
 else L.app1 x D
def Lg.sync (L : Lg) (D : Dk) : Lg × Dk × Int :=
 if L.code ≠ 0 then (L, D, L.code) else ({ L with w := (L.w.sync D).1, code := (L.w.sync D).1.code }, (L.w.sync D).2, (L.w.sync D).1.code)
def Lg.merge3 (L : Lg) (x : List Ent) (last : Nat) (D : Dk) : Lg × Dk × Nat × Bool × Int :=
 if (L.append x D).2.2 ≠ 0 then ((L.append x D).1, (L.append x D).2.1, 0, false, (L.append x D).2.2) else ((L.append x D).1, (L.append x D).2.1, last, true, 0)
def Lg.cutAt (L : Lg) (i : Nat) (W : Wl) : Lg := { L with w := W, l := L.l.take ((lgAt L.sn L.l i).getD 0) }
def Lg.merge2 (L : Lg) (x : List Ent) (last : Nat) (D : Dk) : Lg × Dk × Nat × Bool × Int :=
 match (skp L.sn L.l x true).1 with
 | [] => L.merge3 [] last D
 | e :: r =>
  if (skp L.sn L.l x true).2 = true then
   (if (L.w.truncate e.idx D).2.2 ≠ 0 then ({ L with w := (L.w.truncate e.idx D).1, code := (L.w.truncate e.idx D).2.2 }, (L.w.truncate e.idx D).2.1, 0, false, (L.w.truncate e.idx D).2.2)
    else (L.cutAt e.idx (L.w.truncate e.idx D).1).merge3 (e :: r) last (L.w.truncate e.idx D).2.1)
  else L.merge3 (e :: r) last D
def Lg.merge1 (L : Lg) (i t : Nat) (x : List Ent) (last : Nat) (D : Dk) : Lg × Dk × Nat × Bool × Int :=
 if (trm L.sn L.l i).2 = false \/ (trm L.sn L.l i).1 ≠ t then (L, D, bck L.sn L.l i, false, 0) else L.merge2 x last D
def Lg.merge (L : Lg) (i t : Nat) (x : List Ent) (D : Dk) : Lg × Dk × Nat × Bool × Int :=
 if L.code ≠ 0 then (L, D, 0, false, L.code)
 else if fol i t x ≠ 0 then (L, D, 0, false, fol i t x)
 else if i < L.sn.idx then
  (if i + x.length < L.sn.idx then (L, D, i + x.length, true, 0)
   else if ((x.drop (L.sn.idx - i)).head?.map fun e => decide (e.term < L.sn.term)) = some true then (L, D, 0, false, 180)
   else L.merge1 L.sn.idx L.sn.term (x.drop (L.sn.idx - i)) (i + x.length) D)
 else L.merge1 i t x (i + x.length) D
def Lg.fits (L : Lg) (s : Snp) : Int :=
 if L.code ≠ 0 then L.code
 else if (putConf s.vot).isSome = false \/ 2097152 < s.data.length then 181
 else if s.idx <= L.sn.idx \/ lgTop <= s.idx then 180
 else 0
def lgA4 (place : Nat) : Nat := 4 * place + 2
def lgW (place : Nat) : Nat -> Nat -> List UInt8 -> Dk -> Dk × Int
 | 0, _, _, D => (D, 0)
 | f + 1, n, b, D =>
  if b = [] then (D, 0)
  else if (D.write (lgA4 place) n (b.take 64)).2 ≠ 0 then D.write (lgA4 place) n (b.take 64)
  else lgW place f (n + 1) (b.drop 64) (D.write (lgA4 place) n (b.take 64)).1
def Lg.say (s : Snp) (place fr : Nat) : List UInt8 := uint s.idx ++ (uint s.term ++ (uint place ++ (uint s.data.length ++ (uint fr ++ ob (putConf s.vot)))))
def Lg.laid (L : Lg) (s : Snp) (fr : Nat) (H : Slt) : Lg :=
 { L with head := H, l := if lgHas L.sn L.l s = true then L.l.drop ((lgAt L.sn L.l s.idx).getD 0 + 1) else [], place := L.place + 1, fr := fr, sn := s }
def Lg.lay3 (L : Lg) (s : Snp) (fr : Nat) (H : Slt) (D : Dk) : Lg × Dk × Int :=
 ({ L.laid s fr H with code := (D.free (lgA4 L.place)).2 }, (D.free (lgA4 L.place)).1, (D.free (lgA4 L.place)).2)
def Lg.lay2 (L : Lg) (s : Snp) (fr : Nat) (D : Dk) : Lg × Dk × Int :=
 if (L.head.save 4 D (Lg.say s (L.place + 1) fr)).2.2 ≠ 0 then ({ L with head := (L.head.save 4 D (Lg.say s (L.place + 1) fr)).1, code := (L.head.save 4 D (Lg.say s (L.place + 1) fr)).2.2 }, (L.head.save 4 D (Lg.say s (L.place + 1) fr)).2.1, (L.head.save 4 D (Lg.say s (L.place + 1) fr)).2.2)
 else L.lay3 s fr (L.head.save 4 D (Lg.say s (L.place + 1) fr)).1 (L.head.save 4 D (Lg.say s (L.place + 1) fr)).2.1
def Lg.lay1 (L : Lg) (s : Snp) (fr : Nat) (D : Dk) : Lg × Dk × Int :=
 if (D.sync (lgA4 (L.place + 1))).2 ≠ 0 then ({ L with code := (D.sync (lgA4 (L.place + 1))).2 }, (D.sync (lgA4 (L.place + 1))).1, (D.sync (lgA4 (L.place + 1))).2)
 else L.lay2 s fr (D.sync (lgA4 (L.place + 1))).1
def Lg.lay (L : Lg) (s : Snp) (fr : Nat) (D : Dk) : Lg × Dk × Int :=
 if (lgW (L.place + 1) (s.data.length + 1) 0 s.data D).2 ≠ 0 then ({ L with code := (lgW (L.place + 1) (s.data.length + 1) 0 s.data D).2 }, (lgW (L.place + 1) (s.data.length + 1) 0 s.data D).1, (lgW (L.place + 1) (s.data.length + 1) 0 s.data D).2)
 else L.lay1 s fr (lgW (L.place + 1) (s.data.length + 1) 0 s.data D).1
def Lg.save2 (L : Lg) (s : Snp) (D : Dk) : Lg × Dk × Int :=
 if (L.lay s L.fr D).2.2 ≠ 0 then L.lay s L.fr D
 else ({ (L.lay s L.fr D).1 with w := ((L.lay s L.fr D).1.w.compact (s.idx + 1) (L.lay s L.fr D).2.1).1, code := ((L.lay s L.fr D).1.w.compact (s.idx + 1) (L.lay s L.fr D).2.1).2.2 }, ((L.lay s L.fr D).1.w.compact (s.idx + 1) (L.lay s L.fr D).2.1).2.1, ((L.lay s L.fr D).1.w.compact (s.idx + 1) (L.lay s L.fr D).2.1).2.2)
def Lg.save1 (L : Lg) (s : Snp) (D : Dk) : Lg × Dk × Int := if (L.sync D).2.2 ≠ 0 then L.sync D else (L.sync D).1.save2 s (L.sync D).2.1
def Lg.save (L : Lg) (s : Snp) (D : Dk) : Lg × Dk × Int :=
 if L.fits s ≠ 0 then (L, D, L.fits s) else if lgHas L.sn L.l s = false then (L, D, 180) else L.save1 s D
def Lg.inst1 (L : Lg) (s : Snp) (D : Dk) : Lg × Dk × Int :=
 if (L.lay s L.w.next D).2.2 ≠ 0 then L.lay s L.w.next D
 else ({ (L.lay s L.w.next D).1 with w := ((L.lay s L.w.next D).1.w.reset (s.idx + 1) (L.lay s L.w.next D).2.1).1, code := ((L.lay s L.w.next D).1.w.reset (s.idx + 1) (L.lay s L.w.next D).2.1).2.2 }, ((L.lay s L.w.next D).1.w.reset (s.idx + 1) (L.lay s L.w.next D).2.1).2.1, ((L.lay s L.w.next D).1.w.reset (s.idx + 1) (L.lay s L.w.next D).2.1).2.2)
def Lg.install (L : Lg) (s : Snp) (D : Dk) : Lg × Dk × Int :=
 if L.fits s ≠ 0 then (L, D, L.fits s) else if lgHas L.sn L.l s = true then L.save s D else L.inst1 s D
end Go.En
end
section
namespace Go.En
theorem Ct.at2 {P : Program} {w0 : World} {f : FuncId} {args : List Value} {K : PH} {hs : List PH} {a b : PH} {S : Value -> PH -> PH -> PH -> Prop} (i j : Nat) (hi : hs[i]? = some a) (hj : (hs.eraseIdx i)[j]? = some b)
  (c : Ct P w0 f args K (a :: b :: (hs.eraseIdx i).eraseIdx j) (fun v K' hs' => ∃ a' b', hs' = a' :: b' :: (hs.eraseIdx i).eraseIdx j /\ S v K' a' b')) :
  Ct P w0 f args K hs (fun v K' hs' => ∃ a' b', hs' = ((hs.eraseIdx i).set j b').insertIdx i a' /\ S v K' a' b') := by
 have p1 := perm_front hs i a hi
 have p2 := perm_front (hs.eraseIdx i) j b hj
 refine ⟨c.1, fun w hw => (c.2 w (hw.perm (p1.trans (p2.cons a)))).mono ?_⟩
 rintro e w' ⟨v, K', hs', rfl, ⟨a', b', rfl, hS⟩, hw'⟩
 refine ⟨v, K', _, rfl, ⟨a', b', rfl, hS⟩, hw'.perm ?_⟩
 refine ((perm_set (hs.eraseIdx i) j b b' hj).cons a').trans (List.perm_insertIdx _ _ ?_).symm
 rw [List.length_set, List.length_eraseIdx]
 have := (List.getElem?_eq_some_iff.1 hi).1
 split <;> omega
theorem cells_sub {b off : Nat} {c : Array Value} {ty : Nat} {fr : Nat × Nat} (cs : List Value) (h : (c.toList.drop off).take cs.length = cs) : ∀ (j : Nat) v, cs[j]? = some v -> Cell (pt b c ty fr) ((⟨b, off, none⟩ : Addr).add j) v := by
 refine cells_pt cs fun j v hv => ?_
 have hj := (List.getElem?_eq_some_iff.1 hv).1
 rw [<- h, List.getElem?_take_of_lt hj, List.getElem?_drop] at hv
 simpa using hv
structure LBd (c : Nat) (L : Lg) : Prop where
 w : WBd c L.w
 hard : L.hard.bd
 head : L.head.bd
 kt : L.kt <= mxU
 kv : -1 <= L.kv /\ L.kv <= 6
 idx : L.sn.idx <= lgTop
 st : L.sn.term <= mxU
 vot : L.sn.vot.length <= 7
 data : L.sn.data.length <= 2097152
 place : L.place <= lgTop + c
 fr : L.fr <= wMany + c
 len : L.l.length <= 70000000000 + c
 ents : ∀ e ∈ L.l, e.ok /\ e.idx <= mxU /\ e.term <= mxU
theorem LBd.up {c d : Nat} {L : Lg} (o : LBd c L) (h : c <= d) : LBd d L :=
 ⟨o.w.up h, o.hard, o.head, o.kt, o.kv, o.idx, o.st, o.vot, o.data, by have := o.place; omega, by have := o.fr; omega, by have := o.len; omega, o.ents⟩
def lgA (wb db hb eb : Nat) (L : Lg) (vS dS lS : Value) : Array Value :=
 #[.pointer (some ⟨wb, 0, none⟩), .pointer (some ⟨db, 0, none⟩), .pointer (some ⟨hb, 0, none⟩), .pointer (some ⟨eb, 0, none⟩), .int .u64 ((L.kt : Nat) : Int), .int .i64 L.kv,
  .int .u64 ((L.sn.idx : Nat) : Int), .int .u64 ((L.sn.term : Nat) : Int), vS, dS, .int .u64 ((L.place : Nat) : Int), .int .u64 ((L.fr : Nat) : Int), lS, .int .i64 L.code]
end Go.En
namespace Go.Proofs.YtneeeblghijmgaaGreat
open Go.En
attribute [local irreducible] Code.wp wpList Calls
def WalH (K : PH) (wb db : Nat) (W : Wl) (h : PH) : Prop := ∃ m, h = uns m /\ Djs m /\ WalM K wb db W m
theorem WalH.le {K K' : PH} (l : Le K K') {wb db : Nat} {W : Wl} {h : PH} (x : WalH K wb db W h) : WalH K' wb db W h := let ⟨m, h1, h2, h3⟩ := x; ⟨m, h1, h2, h3.le l⟩
theorem firstWH {w0 : World} {K h : PH} {hs : List PH} (wb db : Nat) (W : Wl) (hW : WalH K wb db W h) : Ct Tryz.prog w0 109 [.pointer (some ⟨wb, 0, none⟩)] K (h :: hs)
  (fun v K' hs' => K' = K /\ hs' = h :: hs /\ v = .int .u64 ((W.first : Nat) : Int)) := by
 obtain ⟨m, rfl, d, hm⟩ := hW
 refine Ct.bun2 d (firstWC wb db W hm) ?_
 rintro v K' hs' ⟨rfl, rfl, rfl⟩
 exact ⟨m, hs, rfl, fun _ => ⟨rfl, rfl, rfl⟩⟩
theorem nextWH {w0 : World} {K h : PH} {hs : List PH} (wb db : Nat) (W : Wl) (hW : WalH K wb db W h) : Ct Tryz.prog w0 84 [.pointer (some ⟨wb, 0, none⟩)] K (h :: hs)
  (fun v K' hs' => K' = K /\ hs' = h :: hs /\ v = .int .u64 ((W.next : Nat) : Int)) := by
 obtain ⟨m, rfl, d, hm⟩ := hW
 refine Ct.bun2 d (nextWC wb db W hm) ?_
 rintro v K' hs' ⟨rfl, rfl, rfl⟩
 exact ⟨m, hs, rfl, fun _ => ⟨rfl, rfl, rfl⟩⟩
theorem lastWH {w0 : World} {K h : PH} {hs : List PH} (wb db : Nat) (W : Wl) (hW : WalH K wb db W h) (hb : W.first + W.recs.length <= wTop) : Ct Tryz.prog w0 110 [.pointer (some ⟨wb, 0, none⟩)] K (h :: hs)
  (fun v K' hs' => K' = K /\ hs' = h :: hs /\ v = .int .u64 (lastV (W.first + W.recs.length))) := by
 obtain ⟨m, rfl, d, hm⟩ := hW
 refine Ct.bun2 d (lastWC wb db W hm hb) ?_
 rintro v K' hs' ⟨rfl, rfl, rfl⟩
 exact ⟨m, hs, rfl, fun _ => ⟨rfl, rfl, rfl⟩⟩
theorem getWH {w0 : World} {K h : PH} {hs : List PH} (wb db : Nat) (W : Wl) (c : Nat) (hc : c <= 1000000000) (hb : WBd c W) (hW : WalH K wb db W h) (i : Nat) (hi : i < 18446744073709551616) : Ct Tryz.prog w0 111 [.pointer (some ⟨wb, 0, none⟩), .int .u64 ((i : Nat) : Int)] K (h :: hs)
  (fun v K' hs' => ∃ h', hs' = h' :: hs /\ h' = h /\ Le K K' /\ ((¬ (W.first <= i /\ i - W.first < W.recs.length) /\ v = .tuple #[.slice none 0 0, .bool false]) \/
   ∃ r ao k, W.first <= i /\ W.recs[i - W.first]? = some r /\ v = .tuple #[.slice ao r.length k, .bool true] /\ IsS K' ao r.length k 1 (bv r))) := by
 obtain ⟨m, rfl, d, hm⟩ := hW
 refine Ct.bun2 d (getWC wb db W c hc hb hm i hi hb.recl) ?_
 rintro v K' hs' ⟨le, rfl, hv⟩
 exact ⟨m, hs, rfl, fun _ => ⟨_, rfl, rfl, le, hv⟩⟩
theorem syncWH {w0 : World} {K h dh : PH} {hs : List PH} (wb db : Nat) (W : Wl) (hW : WalH K wb db W h) (D : Dk) (c : Nat) (oD : D.Ok c) (hc : c <= 1000000000) (hb : WBd c W) (hd : DskH K db D dh) :
  Ct Tryz.prog w0 77 [.pointer (some ⟨wb, 0, none⟩)] K (h :: dh :: hs)
   (fun v K' hs' => ∃ h' dh', hs' = h' :: dh' :: hs /\ K' = K /\ WalH K wb db (W.sync D).1 h' /\ DskH K db (W.sync D).2 dh' /\ v = .int .i64 (W.sync D).1.code) := by
 obtain ⟨m, rfl, d, hm⟩ := hW
 refine Ct.bun2 d (syncWC wb db W hm D c oD hc hb hd) ?_
 rintro v K' hs' ⟨rfl, m', dh', rfl, hW', hd', rfl⟩
 exact ⟨m', _, rfl, fun d' => ⟨_, dh', rfl, rfl, ⟨m', rfl, d', hW'⟩, hd', rfl⟩⟩
theorem appendWH {w0 : World} {K h dh hv : PH} {hs : List PH} (wb db : Nat) (W : Wl) (hW : WalH K wb db W h) (D : Dk) (c : Nat) (oD : DOk c D) (hc : c <= 999999000) (hb : WBd c W) (hd : DskH K db D dh) (ab : Option Addr) (cb : Nat) (b : List UInt8) (hbl : b.length < 1099511627776) (hin : In K hs hv) (x : IsS hv ab b.length cb 1 (bv b)) :
  Ct Tryz.prog w0 74 [.pointer (some ⟨wb, 0, none⟩), .slice ab b.length cb] K (h :: dh :: hs)
   (fun v K' hs' => ∃ h' dh', hs' = h' :: dh' :: hs /\ Le K K' /\ WalH K' wb db (W.append b D).1 h' /\ DskH K' db (W.append b D).2.1 dh' /\ v = .int .i64 (W.append b D).2.2) := by
 obtain ⟨m, rfl, d, hm⟩ := hW
 refine Ct.bun2 d (appendWC wb db W hm D c oD hc hb hd ab cb b hbl hin x) ?_
 rintro v K' hs' ⟨le, m', dh', rfl, hW', hd', rfl⟩
 exact ⟨m', _, rfl, fun d' => ⟨_, dh', rfl, le, ⟨m', rfl, d', hW'⟩, hd', rfl⟩⟩
theorem truncWH {w0 : World} {K h dh : PH} {hs : List PH} (wb db : Nat) (W : Wl) (hW : WalH K wb db W h) (D : Dk) (c : Nat) (oD : DOk c D) (hc : c <= 999999000) (hb : WBd c W) (hd : DskH K db D dh) (i : Nat) (hi : i < 18446744073709551616) :
  Ct Tryz.prog w0 40 [.pointer (some ⟨wb, 0, none⟩), .int .u64 ((i : Nat) : Int)] K (h :: dh :: hs)
   (fun v K' hs' => ∃ h' dh', hs' = h' :: dh' :: hs /\ Le K K' /\ WalH K' wb db (W.truncate i D).1 h' /\ DskH K' db (W.truncate i D).2.1 dh' /\ v = .int .i64 (W.truncate i D).2.2) := by
 obtain ⟨m, rfl, d, hm⟩ := hW
 refine Ct.bun2 d (truncWC wb db W hm D c oD hc hb hd i hi) ?_
 rintro v K' hs' ⟨le, m', dh', rfl, hW', hd', rfl⟩
 exact ⟨m', _, rfl, fun d' => ⟨_, dh', rfl, le, ⟨m', rfl, d', hW'⟩, hd', rfl⟩⟩
theorem compactWH {w0 : World} {K h dh : PH} {hs : List PH} (wb db : Nat) (W : Wl) (hW : WalH K wb db W h) (D : Dk) (c : Nat) (oD : DOk c D) (hc : c <= 499999000) (hb : WBd c W) (hol : W.old.length <= c) (hd : DskH K db D dh) (i : Nat) (hi : i < 18446744073709551616) :
  Ct Tryz.prog w0 83 [.pointer (some ⟨wb, 0, none⟩), .int .u64 ((i : Nat) : Int)] K (h :: dh :: hs)
   (fun v K' hs' => ∃ h' dh', hs' = h' :: dh' :: hs /\ Le K K' /\ WalH K' wb db (W.compact i D).1 h' /\ DskH K' db (W.compact i D).2.1 dh' /\ v = .int .i64 (W.compact i D).2.2) := by
 obtain ⟨m, rfl, d, hm⟩ := hW
 refine Ct.bun2 d (compactWC wb db W hm D c oD hc hb hol hd i hi) ?_
 rintro v K' hs' ⟨le, m', dh', rfl, hW', hd', rfl⟩
 exact ⟨m', _, rfl, fun d' => ⟨_, dh', rfl, le, ⟨m', rfl, d', hW'⟩, hd', rfl⟩⟩
theorem resetWH {w0 : World} {K h dh : PH} {hs : List PH} (wb db : Nat) (W : Wl) (hW : WalH K wb db W h) (D : Dk) (c : Nat) (oD : DOk c D) (hc : c <= 499999000) (hb : WBd c W) (hd : DskH K db D dh) (first : Nat) (hfi : first < 18446744073709551616) :
  Ct Tryz.prog w0 85 [.pointer (some ⟨wb, 0, none⟩), .int .u64 ((first : Nat) : Int)] K (h :: dh :: hs)
   (fun v K' hs' => ∃ h' dh', hs' = h' :: dh' :: hs /\ Le K K' /\ WalH K' wb db (W.reset first D).1 h' /\ DskH K' db (W.reset first D).2.1 dh' /\ v = .int .i64 (W.reset first D).2.2) := by
 obtain ⟨m, rfl, d, hm⟩ := hW
 refine Ct.bun2 d (resetWC wb db W hm D c oD hc hb hd first hfi) ?_
 rintro v K' hs' ⟨le, m', dh', rfl, hW', hd', rfl⟩
 exact ⟨m', _, rfl, fun d' => ⟨_, dh', rfl, le, ⟨m', rfl, d', hW'⟩, hd', rfl⟩⟩
def LgM (K : PH) (lb db : Nat) (L : Lg) (D : Dk) (m : List PH) : Prop :=
 ∃ wb hb eb aV cV aD cD aL cL wh hh eh gl dh, m = [pt lb (lgA wb db hb eb L (.slice aV L.sn.vot.length cV) (.slice aD L.sn.data.length cD) (.slice aL L.l.length cL)) 91, wh, hh, eh, gl, dh] /\
  WalH K wb db L.w wh /\ SltH K hb db 0 L.hard hh /\ SltH K eb db 4 L.head eh /\ SlZ 4 46 (EntC K) gl aL L.l.length cL L.l /\ DskH K db D dh /\ IsS K aV L.sn.vot.length cV 1 (iv L.sn.vot) /\ IsS K aD L.sn.data.length cD 1 (bv L.sn.data)
theorem LgM.le {K K' : PH} (l : Le K K') {lb db : Nat} {L : Lg} {D : Dk} {m : List PH} (h : LgM K lb db L D m) : LgM K' lb db L D m := by
 obtain ⟨wb, hb, eb, aV, cV, aD, cD, aL, cL, wh, hh, eh, gl, dh, h1, h2, h3, h4, h5, h6, h7, h8⟩ := h
 exact ⟨wb, hb, eb, aV, cV, aD, cD, aL, cL, wh, hh, eh, gl, dh, h1, h2.le l, h3.le l, h4.le l, h5.imp fun _ _ h => h.le l, h6.le l, h7.le l, h8.le l⟩
theorem rightC {w0 : World} {K hv : PH} {hs : List PH} (ao : Option Addr) (cap : Nat) (l : List Int) (hm : In K hs hv) (x : IsS hv ao l.length cap 1 (iv l)) (hl : l.length < 1099511627776) :
  Ct Tryz.prog w0 56 [.agg #[.slice ao l.length cap]] K hs (fun v K' hs' => K' = K /\ hs' = hs /\ v = .bool (putConf l).isSome) := by
 refine enter Tryz.func56 (by kernel_rfl) rfl rfl rfl ?_
 refine sq (rg ?_)
 refine bx hT 0 rfl fun b1 => ?_
 refine fin hT 1 rfl (th (sq (rg ?_)))
 refine WL.hs (pt b1 #[.slice ao l.length cap] 29 :: hs) rfl ?_
 refine ldS hT 0 0 rfl rfl (by kernel_rfl) ?_
 refine cl hT 0 rfl (putConfC ao cap l (In.cons hm) x hl) ?_
 rintro v7 K7 hs7 ⟨rfl, h7, ao7, c7, rfl, rfl, o7⟩
 refine fin hT 5 rfl (th (sq (rg ?_)))
 refine cmpS hT 1 rfl fun b11 h11 => ?_
 refine fin hT 1 rfl (th (rt (WQ.drop (WQ.drop ?_))))
 have e : b11 = (putConf l).isSome := by
  rw [Bool.eq_iff_iff, h11, ec_zero]
 exact ret1 rfl rfl ⟨rfl, rfl, by rw [e]⟩
theorem areaLC {w0 : World} {K : PH} {hs : List PH} (n : Nat) (hn : n <= 2305843009213693952) : Ct Tryz.prog w0 61 [.int .u64 ((n : Nat) : Int)] K hs (fun v K' hs' => K' = K /\ hs' = hs /\ v = .int .u64 ((lgA4 n : Nat) : Int)) := by
 refine enter Tryz.func61 (by kernel_rfl) rfl rfl rfl ?_
 refine sq (rg ?_)
 refine fin hT 1 rfl (th (sq (rg ?_)))
 refine ar hT 1 rfl (u64w (x := ((4 * n : Nat) : Int)) (by omega)) ?_
 refine ar hT 0 rfl (u64w (x := ((4 * n + 2 : Nat) : Int)) (by omega)) ?_
 refine fin hT 1 rfl (th (rt ?_))
 exact ret1 rfl rfl ⟨rfl, rfl, rfl⟩
theorem didLC {w0 : World} {K : PH} {hs : List PH} (lb wb db hb eb : Nat) (L : Lg) (vS dS lS : Value) (e : Int) :
  Ct Tryz.prog w0 39 [.pointer (some ⟨lb, 0, none⟩), .int .i64 e] K (pt lb (lgA wb db hb eb L vS dS lS) 91 :: hs)
   (fun v K' hs' => ∃ h', hs' = h' :: hs /\ K' = K /\ h' = pt lb (lgA wb db hb eb { L with code := didV L.code e } vS dS lS) 91 /\ v = .int .i64 (didV L.code e)) := by
 unfold didV
 refine enter Tryz.func39 (by kernel_rfl) rfl rfl rfl ?_
 refine sq (rg ?_)
 refine fin hT 1 rfl (th (sq (sq (rg ?_))))
 refine ldp hT 3 0 rfl rfl rfl ?_
 refine cmpS hT 0 rfl fun b9 h9 => ?_
 refine fin hT 0 rfl (th (ifP h9 rfl (fun e2 => ?_) (fun e2 => ?_)))
 ·rw [if_pos e2]
  refine rg ?_
  refine stp hT 4 0 rfl rfl rfl rfl ?_
  refine fin hT 0 rfl (th (sq (rg ?_)))
  refine ldp hT 3 0 rfl rfl rfl ?_
  refine fin hT 1 rfl (th (rt ?_))
  exact ret1 rfl rfl ⟨_, rfl, rfl, rfl, rfl⟩
 ·rw [if_neg e2]
  refine sk (th (sq (rg ?_)))
  refine ldp hT 3 0 rfl rfl rfl ?_
  refine fin hT 1 rfl (th (rt ?_))
  exact ret1 rfl rfl ⟨_, rfl, rfl, rfl, rfl⟩
theorem hardLC {w0 : World} {K : PH} {m hs : List PH} (lb db : Nat) (L : Lg) (D : Dk) (hm : LgM K lb db L D m) :
  Ct Tryz.prog w0 36 [.pointer (some ⟨lb, 0, none⟩)] K (m ++ hs) (fun v K' hs' => K' = K /\ hs' = m ++ hs /\ v = .agg #[.int .u64 ((L.kt : Nat) : Int), .int .i64 L.kv]) := by
 obtain ⟨wb, hb, eb, aV, cV, aD, cD, aL, cL, wh, hh, eh, gl, dh, rfl, hW, hH, hE, hG, hD, xV, xD⟩ := hm
 refine enter Tryz.func36 (by kernel_rfl) rfl rfl rfl ?_
 refine sq (rg ?_)
 refine al hT 0 (.agg #[.int .u64 0, .int .i64 0]) rfl (by kernel_rfl) fun b2 => ?_
 refine fin hT 0 rfl (th (sq (rg ?_)))
 refine lds hT 3 [.int .u64 ((L.kt : Nat) : Int), .int .i64 L.kv] rfl (by kernel_rfl) (.inr ⟨1, rfl⟩) (fun j v hv => ?_) ?_
 ·exact cells_sub _ rfl j v hv
 refine stS hT 0 0 rfl rfl (by kernel_rfl) rfl rfl ?_
 refine fin hT 0 rfl (th (rt ?_))
 exact retcA 0 1 rfl rfl rfl (by kernel_rfl) ⟨rfl, rfl, rfl⟩
end Go.Proofs.YtneeeblghijmgaaGreat
end
section
namespace Go.En
theorem u64s {a b : Nat} (h : b <= a) (ha : a < 18446744073709551616) : Value.int .u64 (IntKind.u64.wrap (((a : Nat) : Int) - ((b : Nat) : Int))) = .int .u64 ((a - b : Nat) : Int) := by
 rw [show ((a : Nat) : Int) - ((b : Nat) : Int) = ((a - b : Nat) : Int) from by omega]
 exact u64w (by omega)
theorem u64s1 {a : Nat} (h : 1 <= a) (ha : a < 18446744073709551616) : Value.int .u64 (IntKind.u64.wrap (((a : Nat) : Int) - 1)) = .int .u64 ((a - 1 : Nat) : Int) := by
 rw [show ((a : Nat) : Int) - 1 = ((a - 1 : Nat) : Int) from by omega]
 exact u64w (by omega)
def okV (o : Option Nat) : Value := .tuple #[.int .i64 (((o.getD 0 : Nat)) : Int), .bool o.isSome]
theorem trm_at (s : Snp) (l : List Ent) (i : Nat) : trm s l i = if i = s.idx then (s.term, true) else match lgAt s l i with
  | none => (0, false)
  | some k => (((l[k]?).getD Ent.zero).term, true) := by
 unfold trm lgAt
 by_cases h : i = s.idx
 ·rw [if_pos h, if_pos h]
 ·rw [if_neg h, if_neg h]
  by_cases h2 : i < s.idx \/ s.idx + l.length < i
  ·rw [if_pos h2, if_pos (by omega)]
  ·rw [if_neg h2, if_neg (by omega)]
theorem lgAt_some {s : Snp} {l : List Ent} {i k : Nat} (h : lgAt s l i = some k) : s.idx < i /\ i <= s.idx + l.length /\ k = i - s.idx - 1 /\ k < l.length := by
 unfold lgAt at h
 split at h
 ·cases h
 ·cases h; omega
end Go.En
namespace Go.Proofs.YtneeeblghijmgaaGreat
open Go.En
attribute [local irreducible] Code.wp wpList Calls
theorem cloneIC {w0 : World} {K hv : PH} {hs : List PH} (ao : Option Addr) (cap : Nat) (b : List Int) (hm : In K hs hv) (x : IsS hv ao b.length cap 1 (iv b)) (hl : b.length < 1099511627776) :
  Ct Tryz.prog w0 57 [.slice ao b.length cap] K hs
   (fun v K' hs' => Le K K' /\ hs' = hs /\ ∃ ao' c', v = .slice ao' b.length c' /\ IsS K' ao' b.length c' 1 (iv b)) := by
 refine enter Tryz.func57 (by kernel_rfl) rfl rfl rfl ?_
 refine sq (rg ?_)
 refine fin hT 1 rfl (th (sq (sq (rg ?_))))
 refine cb hT 1 rfl (fun h1 => ?_) (fun h1 => ?_)
 ·have hao : ao = none := by simpa using h1
  subst hao
  have hb0 : b = [] := by
   cases b with
   | nil => rfl
   | cons c r => obtain ⟨a, ha, _⟩ := x.2.2 0 _ (by simp [iv]; rfl); cases ha
  subst hb0
  refine fin hT 0 rfl (th (ifT rfl (sq (rg ?_))))
  refine fin hT 1 rfl (th (rt (rT ?_)))
  exact ret1 rfl rfl ⟨Le.refl _, rfl, none, 0, rfl, IsS.nil _ _ _ _⟩
 ·refine fin hT 0 rfl (th (ifF rfl (sk (th (sq (rg ?_))))))
  refine lit hT 0 #[] rfl (by decide) (by kernel_rfl) fun b5 => ?_
  refine app hT 1 0 rfl rfl (Own.ofPt (c := #[]) (n := 0) (by simp) (by simp [maxLen])) (In.cons hm) x rfl (by decide) (iv_one _) (by show (0 + b.length) * 8 <= _; omega) (by simp [maxLen]; omega) fun ao7 c7 g7 o7 => ?_
  refine fin hT 1 rfl (th (rt (WQ.frz fun K2 l1 l2 => ?_)))
  have e : 0 + b.length = b.length := Nat.zero_add _
  rw [e] at o7
  exact ret1 rfl (by rw [e]; rfl) ⟨l1, rfl, ao7, c7, rfl, o7.isS.le l2⟩
theorem copiedC {w0 : World} {K hb : PH} {hs : List PH} (e : Ent) (ao : Option Addr) (cap : Nat) (hm : In K hs hb) (x : IsS hb ao e.data.length cap 1 (bv e.data)) (hl : e.data.length < 1099511627776) :
  Ct Tryz.prog w0 42 [.agg (e.v ao cap)] K hs (fun v K' hs' => Le K K' /\ hs' = hs /\ ∃ ao' c', v = .agg (e.v ao' c') /\ IsS K' ao' e.data.length c' 1 (bv e.data)) := by
 refine enter Tryz.func42 (by kernel_rfl) rfl rfl rfl ?_
 refine sq (rg ?_)
 refine bx hT 0 rfl fun b1 => ?_
 refine al hT 0 (.agg #[.int .u64 0, .int .u64 0, .int .i64 0, .slice none 0 0]) rfl (by kernel_rfl) fun b2 => ?_
 refine fin hT 0 rfl (th (sq (rg ?_)))
 refine WL.hs (pt b2 #[.int .u64 0, .int .u64 0, .int .i64 0, .slice none 0 0] 46 :: pt b1 (e.v ao cap) 46 :: hs) rfl ?_
 refine ldp hT 1 1 rfl rfl rfl ?_
 refine cl hT 0 rfl (cloneB ao cap e.data (In.cons (In.cons hm)) x hl) ?_
 rintro v5 K5 hs5 ⟨rfl, h5, ao5, c5, rfl, rfl, o5⟩
 refine stp hT 1 2 rfl rfl rfl rfl ?_
 refine WL.hs (h5 :: pt b2 #[.int .u64 0, .int .u64 0, .int .i64 0, .slice none 0 0] 46 :: pt b1 (e.v ao5 c5) 46 :: hs) rfl ?_
 refine fin hT 0 rfl (th (sq (rg ?_)))
 refine ldS hT 0 2 rfl rfl (by kernel_rfl) ?_
 refine stS hT 0 1 rfl rfl (by kernel_rfl) rfl rfl ?_
 refine fin hT 0 rfl (th (rt (WQ.frz fun K2 l1 l2 => ?_)))
 exact retcA 0 2 rfl rfl rfl (by kernel_rfl) ⟨l1, rfl, ao5, c5, rfl, o5.isS.le l2⟩
def snV (s : Snp) (aV : Option Addr) (cV : Nat) (aD : Option Addr) (cD : Nat) : Array Value := #[.int .u64 ((s.idx : Nat) : Int), .int .u64 ((s.term : Nat) : Int), .slice aV s.vot.length cV, .slice aD s.data.length cD]
def SnpS (K : PH) (s : Snp) (v : Value) : Prop := ∃ aV cV aD cD, v = .agg (snV s aV cV aD cD) /\ IsS K aV s.vot.length cV 1 (iv s.vot) /\ IsS K aD s.data.length cD 1 (bv s.data)
theorem snapLC {w0 : World} {K : PH} {m hs : List PH} (lb db : Nat) (L : Lg) (D : Dk) (c : Nat) (hb : LBd c L) (hm : LgM K lb db L D m) :
  Ct Tryz.prog w0 43 [.pointer (some ⟨lb, 0, none⟩)] K (m ++ hs) (fun v K' hs' => Le K K' /\ hs' = m ++ hs /\ SnpS K' L.sn v) := by
 obtain ⟨wb, hb', eb, aV, cV, aD, cD, aL, cL, wh, hh, eh, gl, dh, rfl, hW, hH, hE, hG, hD, xV, xD⟩ := hm
 have hv7 := hb.vot
 have hd2 := hb.data
 refine enter Tryz.func43 (by kernel_rfl) rfl rfl rfl ?_
 refine sq (rg ?_)
 refine al hT 0 (.agg #[.int .u64 0, .int .u64 0, .slice none 0 0, .slice none 0 0]) rfl (by kernel_rfl) fun b2 => ?_
 refine fin hT 0 rfl (th (sq (rg ?_)))
 refine lds hT 3 (snV L.sn aV cV aD cD).toList rfl (by kernel_rfl) (.inr ⟨1, rfl⟩) (cells_sub _ rfl) ?_
 refine al hT 0 (.agg #[.int .u64 0, .int .u64 0, .slice none 0 0, .slice none 0 0]) rfl (by kernel_rfl) fun b3 => ?_
 refine stS hT 0 0 rfl rfl (by kernel_rfl) rfl rfl ?_
 refine fin hT 0 rfl (th (sq (rg ?_)))
 refine ldp hT 2 0 rfl rfl rfl ?_
 refine cl hT 0 rfl (cloneIC aV cV L.sn.vot (.inl rfl) xV (by omega)) ?_
 rintro v11 K11 hs11 ⟨le1, rfl, aV2, cV2, rfl, xV2⟩
 refine stp hT 2 0 rfl rfl rfl rfl ?_
 refine fin hT 0 rfl (th (sq (rg ?_)))
 refine ldp hT 1 0 rfl rfl rfl ?_
 refine cl hT 0 rfl (cloneB aD cD L.sn.data (.inl rfl) (xD.le le1) (by omega)) ?_
 rintro v16 K16 hs16 ⟨rfl, h16, aD2, cD2, rfl, rfl, oD2⟩
 refine stp hT 1 1 rfl rfl rfl rfl ?_
 refine WL.hs (h16 :: pt b3 (snV L.sn aV2 cV2 aD2 cD2) 32 :: pt b2 #[.int .u64 0, .int .u64 0, .slice none 0 0, .slice none 0 0] 32 :: _) rfl ?_
 refine fin hT 0 rfl (th (sq (rg ?_)))
 refine ldS hT 0 1 rfl rfl (by kernel_rfl) ?_
 refine stS hT 0 2 rfl rfl (by kernel_rfl) rfl rfl ?_
 refine fin hT 0 rfl (th (rt (WQ.frz fun K2 l1 l2 => ?_)))
 exact retcA 1 2 rfl rfl rfl (by kernel_rfl) ⟨le1.trans l1, rfl, aV2, cV2, aD2, cD2, rfl, xV2.le l1, oD2.isS.le l2⟩
theorem lastLC {w0 : World} {K : PH} {m hs : List PH} (lb db : Nat) (L : Lg) (D : Dk) (c : Nat) (hb : LBd c L) (hc : c <= 1000000000) (hm : LgM K lb db L D m) :
  Ct Tryz.prog w0 72 [.pointer (some ⟨lb, 0, none⟩)] K (m ++ hs) (fun v K' hs' => K' = K /\ hs' = m ++ hs /\ v = .int .u64 ((L.sn.idx + L.l.length : Nat) : Int)) := by
 obtain ⟨wb, hb', eb, aV, cV, aD, cD, aL, cL, wh, hh, eh, gl, dh, rfl, hW, hH, hE, hG, hD, xV, xD⟩ := hm
 have h1 := hb.idx
 have h2 := hb.len
 unfold lgTop at h1
 refine enter Tryz.func72 (by kernel_rfl) rfl rfl rfl ?_
 refine sq (rg ?_)
 refine fin hT 1 rfl (th (sq (rga [pt lb (lgA wb db hb' eb L (.slice aV L.sn.vot.length cV) (.slice aD L.sn.data.length cD) (.slice aL L.l.length cL)) 91] 13 [0, 2, 4, 6, 8, 10, 12, 14, 16, 18, 20, 22, 24] (by simp) (by kernel_rfl) (by kernel_rfl) ?_)))
 refine dldp hT (by kernel_rfl) 4 0 rfl rfl rfl ?_
 refine dldp hT (by kernel_rfl) 3 0 rfl rfl rfl ?_
 refine dar hT (by kernel_rfl) 1 rfl (u64w (x := ((L.l.length : Nat) : Int)) (by omega)) ?_
 refine dar hT (by kernel_rfl) 0 rfl (u64w (x := ((L.sn.idx + L.l.length : Nat) : Int)) (by omega)) ?_
 refine dend hT (by kernel_rfl) 1 rfl (th (rt ?_))
 exact ret1 rfl rfl ⟨rfl, rfl, rfl⟩
theorem atLC {w0 : World} {K : PH} {m hs : List PH} (lb db : Nat) (L : Lg) (D : Dk) (c : Nat) (hb : LBd c L) (hc : c <= 1000000000) (hm : LgM K lb db L D m) (i : Nat) (hi : i < 18446744073709551616) :
  Ct Tryz.prog w0 41 [.pointer (some ⟨lb, 0, none⟩), .int .u64 ((i : Nat) : Int)] K (m ++ hs) (fun v K' hs' => K' = K /\ hs' = m ++ hs /\ v = okV (lgAt L.sn L.l i)) := by
 have hm0 := hm
 obtain ⟨wb, hb', eb, aV, cV, aD, cD, aL, cL, wh, hh, eh, gl, dh, rfl, hW, hH, hE, hG, hD, xV, xD⟩ := hm
 have h2 := hb.len
 refine enter Tryz.func41 (by kernel_rfl) rfl rfl rfl ?_
 refine sq (rg ?_)
 refine fin hT 2 rfl (th (sq (sq (rg ?_))))
 refine ldp hT 5 0 rfl rfl rfl ?_
 refine cmpS hT 0 rfl fun b12 h12 => ?_
 refine' bjo (q := L.sn.idx + L.l.length < i) hT 1 5 18 [12, 13] h12 rfl rfl rfl rfl rfl rfl rfl (fun _ => ?x2) (fun b18 h18 => ?_)
 case x2 =>
  refine cl hT 2 rfl (lastLC lb db L D c hb hc hm0) ?_
  rintro v16 K16 hs16 ⟨rfl, rfl, rfl⟩
  refine cmpS hT 0 rfl fun b17 h17 => ?_
  exact fin hT 1 rfl (bjx (h17.trans (by omega)) rfl rfl rfl)
 refine fin hT 0 rfl (th (ifP h18 rfl (fun e4 => ?_) (fun e4 => ?_)))
 ·refine sq (rg ?_)
  refine fin hT 2 rfl (th (rt (rT ?_)))
  refine ret2 rfl rfl rfl ⟨rfl, rfl, ?_⟩
  unfold lgAt
  rw [if_pos (by omega)]
  rfl
 ·refine sk (th (sq (rg ?_)))
  refine ldp hT 5 0 rfl rfl rfl ?_
  refine ar hT 0 rfl (u64s (by omega) hi) ?_
  refine ar hT 0 rfl (u64s1 (by omega) (by omega)) ?_
  refine ar hT 0 rfl (i64w (by omega)) ?_
  refine fin hT 2 rfl (th (rt ?_))
  refine ret2 rfl rfl rfl ⟨rfl, rfl, ?_⟩
  unfold lgAt
  rw [if_neg (by omega)]
  rfl
end Go.Proofs.YtneeeblghijmgaaGreat
end
section
namespace Go.En
def okT (o : Nat × Bool) : Value := .tuple #[.int .u64 ((o.1 : Nat) : Int), .bool o.2]
end Go.En
namespace Go.Proofs.YtneeeblghijmgaaGreat
open Go.En
attribute [local irreducible] Code.wp wpList Calls
theorem ent_cells {K gl : PH} {aL : Option Addr} {cL : Nat} {l : List Ent} (hG : SlZ 4 46 (EntC K) gl aL l.length cL l) {k : Nat} {e : Ent} (hk : l[k]? = some e) :
  ∃ a ao cap, aL = some a /\ IsS K ao e.data.length cap 1 (bv e.data) /\ ∀ (j : Nat) v, (e.v ao cap).toList[j]? = some v -> Cell gl ((a.add (k * 4)).add j) v := by
 have hkl : k < l.length := (List.getElem?_eq_some_iff.1 hk).1
 obtain ⟨a, rfl⟩ := hG.slS.addr (by omega) (by decide)
 obtain ⟨c, ⟨ao, cap, rfl, x⟩, _, hc⟩ := hG.slS.cells hk
 exact ⟨a, ao, cap, rfl, x, hc⟩
theorem termLC {w0 : World} {K : PH} {m hs : List PH} (lb db : Nat) (L : Lg) (D : Dk) (c : Nat) (hb : LBd c L) (hc : c <= 1000000000) (hm : LgM K lb db L D m) (i : Nat) (hi : i < 18446744073709551616) :
  Ct Tryz.prog w0 13 [.pointer (some ⟨lb, 0, none⟩), .int .u64 ((i : Nat) : Int)] K (m ++ hs) (fun v K' hs' => K' = K /\ hs' = m ++ hs /\ v = okT (trm L.sn L.l i)) := by
 have hm0 := hm
 obtain ⟨wb, hb', eb, aV, cV, aD, cD, aL, cL, wh, hh, eh, gl, dh, rfl, hW, hH, hE, hG, hD, xV, xD⟩ := hm
 have h2 := hb.len
 rw [trm_at]
 refine enter Tryz.func13 (by kernel_rfl) rfl rfl rfl ?_
 refine sq (rg ?_)
 refine fin hT 2 rfl (th (sq (rg ?_)))
 refine cl hT 2 rfl (atLC lb db L D c hb hc hm0 i hi) ?_
 rintro v11 K11 hs11 ⟨rfl, rfl, rfl⟩
 refine fin hT 5 rfl (th (sq (bk (sq (rg ?_)))))
 refine ldp hT 5 0 rfl rfl rfl ?_
 refine cmpS hT 0 rfl fun b21 h21 => ?_
 refine fin hT 1 rfl (th (ifP h21 rfl (fun e2 => ?_) (fun e2 => ?_)))
 ·rw [if_pos (by omega)]
  refine sq (rg ?_)
  refine ldp hT 4 0 rfl rfl rfl ?_
  refine fin hT 2 rfl (th (rt (rB (rT ?_))))
  exact ret2 rfl rfl rfl ⟨rfl, rfl, rfl⟩
 ·rw [if_neg (by omega)]
  cases hk : lgAt L.sn L.l i with
  | none =>
   refine sq (rg ?_)
   refine fin hT 3 rfl (th (ifT rfl ?_))
   refine sq (rg ?_)
   refine fin hT 2 rfl (th (rt (rB (rT ?_))))
   exact ret2 rfl rfl rfl ⟨rfl, rfl, rfl⟩
  | some k =>
   obtain ⟨g1, g2, g3, g4⟩ := lgAt_some hk
   obtain ⟨e, he⟩ : ∃ e, L.l[k]? = some e := ⟨L.l[k], List.getElem?_eq_getElem g4⟩
   obtain ⟨a, ao, cap, rfl, x, hcell⟩ := ent_cells hG he
   refine sq (rg ?_)
   refine fin hT 3 rfl (th (ifF rfl ?_))
   refine sk (bl (th (sq (rg ?_))))
   refine ldp hT 3 0 rfl rfl rfl ?_
   obtain ⟨xs, hxs⟩ := hG.slS.isS
   refine ixs hT 1 k rfl rfl hxs g4 (by decide) fun a35 h35 => ?_
   cases h35
   refine ld hT 1 rfl (.inr ⟨4, rfl⟩) (hcell 1 _ rfl) ?_
   refine fin hT 2 rfl (th (rt ?_))
   refine ret2 rfl rfl rfl ⟨rfl, rfl, ?_⟩
   dsimp only
   rw [he]
   rfl
theorem hasLC {w0 : World} {K hv : PH} {m hs : List PH} (lb db : Nat) (L : Lg) (D : Dk) (c : Nat) (hb : LBd c L) (hc : c <= 1000000000) (hm : LgM K lb db L D m) (s : Snp) (hi : s.idx < 18446744073709551616) (aV : Option Addr) (cV : Nat) (aD : Option Addr) (cD : Nat) :
  Ct Tryz.prog w0 81 [.pointer (some ⟨lb, 0, none⟩), .agg (snV s aV cV aD cD)] K (m ++ hs) (fun v K' hs' => K' = K /\ hs' = m ++ hs /\ v = .bool (lgHas L.sn L.l s)) := by
 have hm0 := hm
 obtain ⟨wb, hb', eb, aV', cV', aD', cD', aL, cL, wh, hh, eh, gl, dh, rfl, hW, hH, hE, hG, hD, xV, xD⟩ := hm
 refine enter Tryz.func81 (by kernel_rfl) rfl rfl rfl ?_
 refine sq (rg ?_)
 refine bx hT 0 rfl fun b3 => ?_
 refine WL.hs (pt b3 (snV s aV cV aD cD) 32 :: ([_, _, _, _, _, _] ++ hs)) rfl ?_
 refine fin hT 1 rfl (th (sq (rg ?_)))
 refine ldp hT 2 0 rfl rfl rfl ?_
 refine WL.perm (List.perm_middle (l₁ := [_, _, _, _, _, _])).symm ?_
 refine cl hT 0 rfl (termLC lb db L D c hb hc hm0 s.idx hi) ?_
 rintro v11 K11 hs11 ⟨rfl, rfl, rfl⟩
 refine WL.perm (List.perm_middle (l₁ := [_, _, _, _, _, _])) ?_
 unfold lgHas
 obtain ⟨T, hT'⟩ : ∃ T, T = trm L.sn L.l s.idx := ⟨_, rfl⟩
 rw [<- hT']
 obtain ⟨t, b⟩ := T
 refine fin hT 5 rfl (th (sq (rg ?_)))
 cases b with
 | false =>
  refine fin hT 8 rfl (th (rt (WQ.drop ?_)))
  exact ret1 rfl rfl ⟨rfl, rfl, rfl⟩
 | true =>
  refine ldp hT 4 0 rfl rfl rfl ?_
  refine cmpS hT 0 rfl fun b19 h19 => ?_
  refine fin hT 2 rfl (th (rt (WQ.drop ?_)))
  refine ret1 rfl rfl ⟨rfl, rfl, ?_⟩
  have : b19 = decide (t = s.term) := by rw [Bool.eq_iff_iff, h19]; simp; omega
  rw [this]
  rfl
theorem backLC {w0 : World} {K : PH} {m hs : List PH} (lb db : Nat) (L : Lg) (D : Dk) (c : Nat) (hb : LBd c L) (hc : c <= 1000000000) (hm : LgM K lb db L D m) (i : Nat) (hi : i < 18446744073709551616) :
  Ct Tryz.prog w0 38 [.pointer (some ⟨lb, 0, none⟩), .int .u64 ((i : Nat) : Int)] K (m ++ hs) (fun v K' hs' => K' = K /\ hs' = m ++ hs /\ v = .int .u64 ((bck L.sn L.l i : Nat) : Int)) := by
 have hm0 := hm
 obtain ⟨wb, hb', eb, aV, cV, aD, cD, aL, cL, wh, hh, eh, gl, dh, rfl, hW, hH, hE, hG, hD, xV, xD⟩ := hm
 have h2 := hb.len
 unfold bck
 refine enter Tryz.func38 (by kernel_rfl) rfl rfl rfl ?_
 refine sq (rg ?_)
 refine fin hT 1 rfl (th (sq (sq (rg ?_))))
 refine cl hT 2 rfl (lastLC lb db L D c hb hc hm0) ?_
 rintro v11 K11 hs11 ⟨rfl, rfl, rfl⟩
 refine cmpS hT 0 rfl fun b12 h12 => ?_
 refine fin hT 0 rfl (th (ifP h12 rfl (fun e2 => ?_) (fun e2 => ?_)))
 ·rw [if_pos (by omega)]
  refine sq (rg ?_)
  refine cl hT 1 rfl (lastLC lb db L D c hb hc hm0) ?_
  rintro v14 K14 hs14 ⟨rfl, rfl, rfl⟩
  refine fin hT 1 rfl (th (rt (rT ?_)))
  exact ret1 rfl rfl ⟨rfl, rfl, rfl⟩
 ·rw [if_neg (by omega)]
  refine sk (th (sq (rg ?_)))
  refine cl hT 2 rfl (termLC lb db L D c hb hc hm0 i hi) ?_
  rintro v18 K18 hs18 ⟨rfl, rfl, rfl⟩
  obtain ⟨T, hT'⟩ : ∃ T, T = trm L.sn L.l i := ⟨_, rfl⟩
  rw [<- hT']
  obtain ⟨t, b⟩ := T
  obtain ⟨R, hR⟩ : ∃ R, R = bckL L.sn L.l t i := ⟨_, rfl⟩
  dsimp only
  rw [<- hR]
  refine fin hT 5 rfl (th (sq (bk ?_)))
  refine loop (σ := Nat) (fun j => [(0, .pointer (some ⟨lb, 0, none⟩)), (1, .int .u64 ((j : Nat) : Int)), (5, .int .u64 ((t : Nat) : Int))]) (fun _ => K18)
   (fun _ => [pt lb (lgA wb db hb' eb L (.slice aV L.sn.vot.length cV) (.slice aD L.sn.data.length cD) (.slice aL L.l.length cL)) 91, wh, hh, eh, gl, dh] ++ hs) (fun j => j <= i /\ bckL L.sn L.l t j = R) (fun j => j) i ⟨Nat.le_refl _, hR.symm⟩ ⟨rfl, rfl, rfl, trivial⟩ rfl rfl ?_
  rintro j ⟨hj, hw⟩
  refine sq (sq (rg ?_))
  refine ldp hT 5 0 rfl rfl rfl ?_
  refine cmpS hT 0 rfl fun b27 h27 => ?_
  refine fin hT 0 rfl (th (ifP h27 rfl (fun e4 => ?_) (fun e4 => ?_)))
  ·obtain ⟨j, rfl⟩ : ∃ k, j = k + 1 := ⟨j - 1, by omega⟩
   have hw0 : bckL L.sn L.l t (j + 1) = if (trm L.sn L.l j).1 ≠ t then j else bckL L.sn L.l t j := by rw [bckL, if_pos (by omega)]
   rw [hw0] at hw
   refine sk (th (bk (sq (rg ?_))))
   refine ar hT 1 rfl (u64s1 (a := j + 1) (by omega) (by omega)) ?_
   rw [show j + 1 - 1 = j from rfl]
   refine fin hT 1 rfl (th (sq (rg ?_)))
   refine cl hT 2 rfl (termLC lb db L D c hb hc hm0 j (by omega)) ?_
   rintro v33 K33 hs33 ⟨rfl, rfl, rfl⟩
   obtain ⟨U, hU⟩ : ∃ U, U = trm L.sn L.l j := ⟨_, rfl⟩
   rw [<- hU] at hw ⊢
   obtain ⟨u, b'⟩ := U
   dsimp only at hw
   refine fin hT 5 rfl (th (sq (rg ?_)))
   refine cmpS hT 2 rfl fun b38 h38 => ?_
   refine fin hT 0 rfl (th (ifP h38 rfl (fun e6 => ?_) (fun e6 => ?_)))
   ·rw [if_pos (by omega)] at hw
    subst hw
    refine ex (xn rfl (xt (xb (th (sq (rg ?_))))))
    refine fin hT 2 rfl (th (rt ?_))
    exact ret1 rfl rfl ⟨rfl, rfl, rfl⟩
   ·rw [if_neg (by omega)] at hw
    refine sk (bl ?_)
    exact again (x := j + 1) j ⟨rfl, rfl, rfl, trivial⟩ rfl rfl ⟨by omega, hw⟩ (by omega)
  ·have hw0 : bckL L.sn L.l t j = j := by
    cases j with
    | zero => rfl
    | succ j => rw [bckL, if_neg (by omega)]
   rw [hw0] at hw
   subst hw
   refine ex (xt (xt (xb (th (sq (rg ?_))))))
   refine fin hT 2 rfl (th (rt ?_))
   exact ret1 rfl rfl ⟨rfl, rfl, rfl⟩
end Go.Proofs.YtneeeblghijmgaaGreat
end
section
namespace Go.En
def entB (e : Ent) : Prop := e.idx <= mxU /\ e.term <= mxU /\ e.data.length < 1099511627776
theorem putEnt_ok {e : Ent} : (putEnt e).isSome = true ↔ e.ok := by unfold putEnt; split <;> simp_all
theorem LBd.setHard {c : Nat} {L : Lg} (o : LBd c L) (D : Dk) (t : Nat) (v : Int) (ht : t <= mxU) : LBd c (L.setHard D t v).1 := by
 unfold Lg.setHard
 split
 ·exact o
 ·split
  ·exact o
  ·split
   ·exact o
   ·have hs := Slt.save_bd o.hard 0 D (uint t ++ uint (v + 1).toNat)
    split
    ·exact ⟨o.w, hs, o.head, ht, by dsimp only; omega, o.idx, o.st, o.vot, o.data, o.place, o.fr, o.len, o.ents⟩
    ·exact ⟨o.w, hs, o.head, o.kt, o.kv, o.idx, o.st, o.vot, o.data, o.place, o.fr, o.len, o.ents⟩
theorem LBd.sync {c : Nat} {L : Lg} (o : LBd c L) (D : Dk) : LBd c (L.sync D).1 := by
 unfold Lg.sync
 split
 ·exact o
 ·exact ⟨o.w.sync D, o.hard, o.head, o.kt, o.kv, o.idx, o.st, o.vot, o.data, o.place, o.fr, o.len, o.ents⟩
end Go.En
namespace Go.Proofs.YtneeeblghijmgaaGreat
open Go.En
attribute [local irreducible] Code.wp wpList Calls
theorem followLC {w0 : World} {K : PH} {hs : List PH} (i t : Nat) (hi : i <= mxU) (ht : t <= mxU) (ao : Option Addr) (cap : Nat) (x : List Ent) (xs : SlS 4 (EntC K) K ao x.length cap x) (hx : ∀ e ∈ x, entB e) (hxl : x.length <= 1099511627776) :
  Ct Tryz.prog w0 37 [.int .u64 ((i : Nat) : Int), .int .u64 ((t : Nat) : Int), .slice ao x.length cap] K hs (fun v K' hs' => K' = K /\ hs' = hs /\ v = .int .i64 (fol i t x)) := by
 obtain ⟨ys, hys⟩ := xs.isS
 refine enter Tryz.func37 (by kernel_rfl) rfl rfl rfl ?_
 refine sq (rg ?_)
 refine fin hT 1 rfl (th (sq (sq (rg ?_))))
 refine fin hT 3 rfl (th (bk ?_))
 refine loop (σ := Nat) (fun j => [(0, .int .u64 ((i : Nat) : Int)), (1, .int .u64 ((t : Nat) : Int)), (2, .slice ao x.length cap), (13, .slice ao x.length cap), (14, .int .i64 ((x.length : Nat) : Int)), (15, .int .i64 ((j : Nat) : Int))]) (fun _ => K) (fun _ => hs) (fun j => j <= x.length /\ ∀ e ∈ x.take j, e.ok) (fun j => x.length - j) 0 ⟨Nat.zero_le _, by simp⟩ ⟨rfl, rfl, rfl, rfl, rfl, rfl, trivial⟩ rfl rfl ?_
 rintro j ⟨hj, hok⟩
 refine sq (rg ?_)
 refine cmpS hT 0 rfl fun b16 h16 => ?_
 refine fin hT 0 rfl (th (sq (ifP h16 rfl (fun e2 => ?_) (fun e2 => ?_))))
 ·have hjx : j < x.length := by omega
  obtain ⟨e, he⟩ : ∃ e, x[j]? = some e := ⟨x[j], List.getElem?_eq_getElem hjx⟩
  have hem := List.mem_of_getElem? he
  obtain ⟨q1, q2, q3⟩ := hx e hem
  obtain ⟨a, rfl⟩ := xs.addr (by omega) (by decide)
  obtain ⟨c, ⟨ae, ce, rfl, xe⟩, _, hcell⟩ := xs.cells he
  refine sk (th (sq (bk (sq (rg ?_)))))
  refine ixs hT 0 j rfl rfl hys hjx (by decide) fun a17 h17 => ?_
  cases h17
  refine lds hT 0 (e.v ae ce).toList rfl (by kernel_rfl) (.inl rfl) hcell ?_
  refine al hT 0 (.agg #[.int .u64 0, .int .u64 0, .int .i64 0, .slice none 0 0]) rfl (by kernel_rfl) fun b8 => ?_
  refine stS hT 0 0 rfl rfl (by kernel_rfl) rfl rfl ?_
  refine fin hT 0 rfl (th (sq (rg ?_)))
  refine ldS hT 0 0 rfl rfl (by kernel_rfl) ?_
  refine cl hT 0 rfl (putEntC e ae ce q1 q2 (.inl rfl) xe q3) ?_
  rintro v21 K21 hs21 ⟨rfl, h21, ao21, c21, rfl, rfl, o21⟩
  refine fin hT 5 rfl (th (sq (rg (WL.drop (WL.drop ?_)))))
  refine cmpS hT 1 rfl fun b25 h25 => ?_
  refine fin hT 0 rfl (th (ifP h25 rfl (fun e4 => ?_) (fun e4 => ?_)))
  ·have hno : ¬ e.ok := fun h => e4 (ec_zero.2 (putEnt_ok.2 h))
   refine sq (rg ?_)
   refine fin hT 1 rfl (th (rt (rB (rT (rT (rB (rT ?_)))))))
   refine ret1 rfl rfl ⟨rfl, rfl, ?_⟩
   unfold fol
   rw [if_neg]
   simp only [List.all_eq_true, putEnt_ok]
   exact fun h => hno (h e hem)
  ·have hyes : e.ok := putEnt_ok.1 (ec_zero.1 (Decidable.not_not.1 e4))
   refine sk (bl (th (rg ?_)))
   refine ar hT 0 rfl (i64w (x := ((j + 1 : Nat) : Int)) (by omega)) ?_
   refine fin hT 1 rfl ?_
   refine again (x := j) (j + 1) ⟨rfl, rfl, rfl, rfl, rfl, rfl, trivial⟩ rfl rfl ⟨by omega, ?_⟩ (by omega)
   rw [List.take_add_one, he]
   intro y hy
   rcases List.mem_append.1 hy with hy | hy
   ·exact hok y hy
   ·simp at hy; rw [hy]; exact hyes
 ·obtain rfl : j = x.length := by omega
  rw [List.take_length] at hok
  have e0 : fol i t x = folR i t x := by unfold fol; rw [if_pos (by simp only [List.all_eq_true, putEnt_ok]; exact hok)]
  rw [e0]
  refine ex (xt (xt (xb (th (sq (sq (rg ?_)))))))
  refine fin hT 3 rfl (th (bk ?_))
  obtain ⟨R, hR⟩ : ∃ R, R = folR i t x := ⟨_, rfl⟩
  rw [<- hR]
  refine loop (σ := Nat × Nat × Nat) (fun s => [(0, .int .u64 ((s.2.1 : Nat) : Int)), (1, .int .u64 ((s.2.2 : Nat) : Int)), (2, .slice ao x.length cap), (27, .slice ao x.length cap), (28, .int .i64 ((x.length : Nat) : Int)), (29, .int .i64 ((s.1 : Nat) : Int))]) (fun _ => K) (fun _ => hs) (fun s => s.1 <= x.length /\ s.2.1 <= mxU /\ s.2.2 <= mxU /\ folR s.2.1 s.2.2 (x.drop s.1) = R) (fun s => x.length - s.1) (0, i, t) ⟨Nat.zero_le _, hi, ht, hR.symm⟩ ⟨rfl, rfl, rfl, rfl, rfl, rfl, trivial⟩ rfl rfl ?_
  clear hi ht e0 hR
  clear i t
  rintro ⟨j, i, t⟩ ⟨hj, hi, ht, hw⟩
  dsimp only at *
  refine sq (rg ?_)
  refine cmpS hT 0 rfl fun b30 h30 => ?_
  refine fin hT 0 rfl (th (sq (ifP h30 rfl (fun e6 => ?_) (fun e6 => ?_))))
  ·have hjx : j < x.length := by omega
   obtain ⟨e, he⟩ : ∃ e, x[j]? = some e := ⟨x[j], List.getElem?_eq_getElem hjx⟩
   have hem := List.mem_of_getElem? he
   obtain ⟨q1, q2, q3⟩ := hx e hem
   have hne := (hok e hem).1
   obtain ⟨a, rfl⟩ := xs.addr (by omega) (by decide)
   obtain ⟨c, ⟨ae, ce, rfl, xe⟩, _, hcell⟩ := xs.cells he
   rw [List.drop_eq_getElem_cons hjx, show x[j] = e from by rw [List.getElem?_eq_getElem hjx] at he; exact Option.some.inj he, folR] at hw
   refine sk (th (sq (bk (sq (rg ?_)))))
   refine ixs hT 0 j rfl rfl hys hjx (by decide) fun a31 h31 => ?_
   cases h31
   refine lds hT 0 (e.v ae ce).toList rfl (by kernel_rfl) (.inl rfl) hcell ?_
   refine al hT 0 (.agg #[.int .u64 0, .int .u64 0, .int .i64 0, .slice none 0 0]) rfl (by kernel_rfl) fun b12 => ?_
   refine stS hT 0 0 rfl rfl (by kernel_rfl) rfl rfl ?_
   refine WL.hs (pt b12 (e.v ae ce) 46 :: hs) rfl ?_
   refine fin hT 0 rfl (th (sq (sq (rg ?_))))
   refine ldp hT 1 0 rfl rfl rfl ?_
   refine ar hT 1 rfl (v' := .int .u64 (((i + 1) % 18446744073709551616 : Nat) : Int)) (by rw [<- u64m]; rfl) ?_
   refine cmpS hT 0 rfl fun b37 h37 => ?_
   unfold mxU at hi ht q1 q2
   refine' bjo (q := e.term < t) hT 1 5 43 [37, 38] (h37.trans (show _ ↔ e.idx ≠ i + 1 by omega)) rfl rfl rfl rfl rfl rfl rfl (fun _ => ?x8) (fun b43 h43 => ?_)
   case x8 =>
    refine ldp hT 1 0 rfl rfl rfl ?_
    refine cmpS hT 1 rfl fun b42 h42 => ?_
    exact fin hT 1 rfl (bjx (h42.trans (by omega)) rfl rfl rfl)
   refine fin hT 0 rfl (th (ifP h43 rfl (fun e10 => ?_) (fun e10 => ?_)))
   ·rw [if_pos e10] at hw
    refine sq (rg (WL.drop ?_))
    refine fin hT 1 rfl (th (rt (rT (rB (rT (rT (rB (rT ?_))))))))
    rw [<- hw]
    exact ret1 rfl rfl ⟨rfl, rfl, rfl⟩
   ·rw [if_neg e10] at hw
    refine sk (th (rga [pt b12 (e.v ae ce) 46] 6 [0, 2, 4, 6, 8, 10] (by simp) (by kernel_rfl) (by kernel_rfl) ?_))
    refine dldp hT (by kernel_rfl) 1 0 rfl rfl rfl ?_
    refine dldp hT (by kernel_rfl) 1 0 rfl rfl rfl ?_
    refine dend hT (by kernel_rfl) 2 rfl (bl (th (rg (WL.drop ?_))))
    refine ar hT 0 rfl (i64w (x := ((j + 1 : Nat) : Int)) (by omega)) ?_
    refine fin hT 1 rfl ?_
    exact again (x := (j, i, t)) (j + 1, e.idx, e.term) ⟨rfl, rfl, rfl, rfl, rfl, rfl, trivial⟩ rfl rfl ⟨by dsimp only; omega, q1, q2, hw⟩ (by dsimp only; omega)
  ·obtain rfl : j = x.length := by omega
   rw [List.drop_length] at hw
   refine ex (xt (xt (xb (th (sq (rg ?_))))))
   refine fin hT 1 rfl (th (rt ?_))
   rw [<- hw]
   exact ret1 rfl rfl ⟨rfl, rfl, rfl⟩
end Go.Proofs.YtneeeblghijmgaaGreat
end
section
namespace Go.Proofs.YtneeeblghijmgaaGreat
open Go.En
attribute [local irreducible] Code.wp wpList Calls
theorem saveSH {w0 : World} {K s h hv : PH} {hs : List PH} (sb b area : Nat) (S : Slt) (hS : SltH K sb b area S s) (hbd : S.bd) (D : Dk) (c : Nat) (o : D.Ok c) (hc : c <= 1099511626) (hm : DskH K b D h) (ha : area <= 18446744073709551615)
  (v : List UInt8) (ao : Option Addr) (cap : Nat) (hl : v.length < 1099511627776) (hin : In K hs hv) (x : IsS hv ao v.length cap 1 (bv v)) :
  Ct Tryz.prog w0 76 [.pointer (some ⟨sb, 0, none⟩), .slice ao v.length cap] K (s :: h :: hs)
   (fun u K' hs' => ∃ s' h', hs' = s' :: h' :: hs /\ Le K K' /\ SltH K' sb b area (S.save area D v).1 s' /\ DskH K' b (S.save area D v).2.1 h' /\ u = .int .i64 (S.save area D v).2.2) :=
 (saveSC sb b area S hS hbd D c o hc hm ha v ao cap hl hin x).mono fun u K' hs' ⟨le, s', h', e, h1, h2, h3⟩ => ⟨s', h', e, le, h1, h2, h3⟩
theorem fitsLC {w0 : World} {K hv hd' : PH} {m hs : List PH} (lb db : Nat) (L : Lg) (D : Dk) (c : Nat) (hb : LBd c L) (hc : c <= 1000000000) (hm : LgM K lb db L D m) (s : Snp) (hi : s.idx < 18446744073709551616) (aV : Option Addr) (cV : Nat) (aD : Option Addr) (cD : Nat) (xv : IsS K aV s.vot.length cV 1 (iv s.vot)) (hvl : s.vot.length < 1099511627776) (hdl : s.data.length < 1099511627776) :
  Ct Tryz.prog w0 80 [.pointer (some ⟨lb, 0, none⟩), .agg (snV s aV cV aD cD)] K (m ++ hs) (fun v K' hs' => K' = K /\ hs' = m ++ hs /\ v = .int .i64 (L.fits s)) := by
 have hm0 := hm
 obtain ⟨wb, hb', eb, aV', cV', aD', cD', aL, cL, wh, hh, eh, gl, dh, rfl, hW, hH, hE, hG, hD, xV, xD⟩ := hm
 unfold Lg.fits
 refine enter Tryz.func80 (by kernel_rfl) rfl rfl rfl ?_
 refine sq (rg ?_)
 refine bx hT 0 rfl fun b3 => ?_
 refine WL.hs (pt b3 (snV s aV cV aD cD) 32 :: ([_, _, _, _, _, _] ++ hs)) rfl ?_
 refine fin hT 1 rfl (th (sq (bk (sq (rg ?_)))))
 refine ldp hT 3 1 rfl rfl rfl ?_
 refine cmpS hT 0 rfl fun b10 h10 => ?_
 refine fin hT 1 rfl (th (ifP h10 rfl (fun e2 => ?_) (fun e2 => ?_)))
 ·rw [if_pos e2]
  refine sq (rg ?_)
  refine ldp hT 3 1 rfl rfl rfl ?_
  refine fin hT 1 rfl (th (rt (rB (rT (WQ.drop ?_)))))
  exact ret1 rfl rfl ⟨rfl, rfl, rfl⟩
 ·rw [if_neg e2]
  refine sq (rg ?_)
  refine lds hT 1 [.slice aV s.vot.length cV] rfl (by kernel_rfl) (.inr ⟨0, rfl⟩) (cells_sub _ rfl) ?_
  refine cl hT 0 rfl (rightC aV cV s.vot (.inl rfl) xv hvl) ?_
  rintro v18 K18 hs18 ⟨rfl, rfl, rfl⟩
  refine cbS hT 0 ((putConf s.vot).isSome = false) rfl (by cases (putConf s.vot).isSome <;> simp) fun b19 h19 => ?_
  refine' bjo (q := 2097152 < s.data.length) hT 1 5 25 [19, 20] h19 rfl rfl rfl rfl rfl rfl rfl (fun _ => ?x3) (fun b25 h25 => ?_)
  case x3 =>
   refine ldp hT 1 0 rfl rfl rfl ?_
   refine cmpS hT 1 rfl fun b24 h24 => ?_
   exact fin hT 1 rfl (bjx (h24.trans (by omega)) rfl rfl rfl)
  refine fin hT 1 rfl (th (ifP h25 rfl (fun e5 => ?_) (fun e5 => ?_)))
  ·rw [if_pos e5]
   refine sq (rg ?_)
   refine fin hT 1 rfl (th (rt (rB (rT (WQ.drop ?_)))))
   exact ret1 rfl rfl ⟨rfl, rfl, rfl⟩
  ·rw [if_neg e5]
   refine sq (rga [pt b3 (snV s aV cV aD cD) 32, pt lb (lgA wb db hb' eb L (.slice aV' L.sn.vot.length cV') (.slice aD' L.sn.data.length cD') (.slice aL L.l.length cL)) 91] 14 [0, 2, 4, 6, 8, 10, 12, 14, 16, 18, 20, 22, 24, 26] (by simp) (by kernel_rfl) (by kernel_rfl) ?_)
   refine dldp hT (by kernel_rfl) 1 0 rfl rfl rfl ?_
   refine dldp hT (by kernel_rfl) 4 1 rfl rfl rfl ?_
   refine dcmp hT (by kernel_rfl) 0 (s.idx <= L.sn.idx) rfl (by simp) (fun h6 => ?_) (fun h6 => ?_)
   ·rw [if_pos (.inl h6)]
    refine dend hT (by kernel_rfl) 6 rfl (th (ifT rfl (sq (rg ?_))))
    refine fin hT 1 rfl (th (rt (rB (rT (WQ.drop ?_)))))
    exact ret1 rfl rfl ⟨rfl, rfl, rfl⟩
   ·refine dldp hT (by kernel_rfl) 2 0 rfl rfl rfl ?_
    refine dcbS hT (by kernel_rfl) 0 (lgTop <= s.idx) rfl (by unfold lgTop; simp; omega) fun b38 h38 => ?_
    refine dend hT (by kernel_rfl) 2 rfl (th (ifP h38 rfl (fun e7 => ?_) (fun e7 => ?_)))
    ·rw [if_pos (.inr e7)]
     refine sq (rg ?_)
     refine fin hT 1 rfl (th (rt (rB (rT (WQ.drop ?_)))))
     exact ret1 rfl rfl ⟨rfl, rfl, rfl⟩
    ·rw [if_neg (by omega)]
     refine sk (bl (th (sq (rg ?_))))
     refine fin hT 1 rfl (th (rt (WQ.drop ?_)))
     exact ret1 rfl rfl ⟨rfl, rfl, rfl⟩
theorem syncLC {w0 : World} {K : PH} {m hs : List PH} (lb db : Nat) (L : Lg) (D : Dk) (c : Nat) (hb : LBd c L) (hc : c <= 1000000000) (oD : DOk c D) (hm : LgM K lb db L D m) :
  Ct Tryz.prog w0 35 [.pointer (some ⟨lb, 0, none⟩)] K (m ++ hs) (fun v K' hs' => K' = K /\ ∃ m', hs' = m' ++ hs /\ LgM K lb db (L.sync D).1 (L.sync D).2.1 m' /\ v = .int .i64 (L.sync D).2.2) := by
 have hm0 := hm
 obtain ⟨wb, hb', eb, aV, cV, aD, cD, aL, cL, wh, hh, eh, gl, dh, rfl, hW, hH, hE, hG, hD, xV, xD⟩ := hm
 unfold Lg.sync
 refine enter Tryz.func35 (by kernel_rfl) rfl rfl rfl ?_
 refine sq (rg ?_)
 refine fin hT 1 rfl (th (sq (sq (rg ?_))))
 refine ldp hT 3 0 rfl rfl rfl ?_
 refine cmpS hT 0 rfl fun b7 h7 => ?_
 refine fin hT 0 rfl (th (ifP h7 rfl (fun e2 => ?_) (fun e2 => ?_)))
 ·rw [if_pos e2]
  refine sq (rg ?_)
  refine ldp hT 3 0 rfl rfl rfl ?_
  refine fin hT 1 rfl (th (rt (rT ?_)))
  exact ret1 rfl rfl ⟨rfl, _, rfl, hm0, rfl⟩
 ·rw [if_neg e2]
  have e2 := Decidable.not_not.1 e2
  refine sk (th (sq (rg ?_)))
  refine ldp hT 4 0 rfl rfl rfl ?_
  refine cl hT 0 rfl (Ct.at2 1 4 rfl rfl (syncWH wb db L.w hW D c oD.ok hc hb.w hD)) ?_
  rintro v17 K17 hs17 ⟨wh', dh', rfl, rfl, hW', hD', rfl⟩
  refine cl hT 0 rfl (didLC lb wb db hb' eb L _ _ _ _) ?_
  rintro v18 K18 hs18 ⟨_, rfl, rfl, rfl, rfl⟩
  have ed : didV L.code (L.w.sync D).1.code = (L.w.sync D).1.code := by unfold didV; rw [if_pos e2]
  rw [ed]
  refine fin hT 1 rfl (th (rt ?_))
  exact ret1 rfl rfl ⟨rfl, [_, _, _, _, _, _], rfl, ⟨wb, hb', eb, aV, cV, aD, cD, aL, cL, wh', hh, eh, gl, dh', rfl, hW', hH, hE, hG, hD', xV, xD⟩, rfl⟩
theorem setHardLC {w0 : World} {K : PH} {m hs : List PH} (lb db : Nat) (L : Lg) (D : Dk) (c : Nat) (hb : LBd c L) (hc : c <= 1000000000) (oD : DOk c D) (hm : LgM K lb db L D m) (t : Nat) (v : Int) (ht : t <= mxU) (hv : -9223372036854775808 <= v /\ v <= 9223372036854775807) :
  Ct Tryz.prog w0 34 [.pointer (some ⟨lb, 0, none⟩), .agg #[.int .u64 ((t : Nat) : Int), .int .i64 v]] K (m ++ hs) (fun u K' hs' => Le K K' /\ ∃ m', hs' = m' ++ hs /\ LgM K' lb db (L.setHard D t v).1 (L.setHard D t v).2.1 m' /\ u = .int .i64 (L.setHard D t v).2.2) := by
 have hm0 := hm
 obtain ⟨wb, hb', eb, aV, cV, aD, cD, aL, cL, wh, hh, eh, gl, dh, rfl, hW, hH, hE, hG, hD, xV, xD⟩ := hm
 unfold Lg.setHard
 refine enter Tryz.func34 (by kernel_rfl) rfl rfl rfl ?_
 refine sq (rg ?_)
 refine bx hT 0 rfl fun b3 => ?_
 refine WL.hs (pt b3 #[.int .u64 ((t : Nat) : Int), .int .i64 v] 25 :: ([_, _, _, _, _, _] ++ hs)) rfl ?_
 refine fin hT 1 rfl (th (sq (bk (sq (rg ?_)))))
 refine ldp hT 3 1 rfl rfl rfl ?_
 refine cmpS hT 0 rfl fun b11 h11 => ?_
 refine fin hT 1 rfl (th (ifP h11 rfl (fun e2 => ?_) (fun e2 => ?_)))
 ·rw [if_pos e2]
  refine sq (rg ?_)
  refine ldp hT 3 1 rfl rfl rfl ?_
  refine fin hT 1 rfl (th (rt (rB (rT (WQ.drop ?_)))))
  exact ret1 rfl rfl ⟨Le.refl _, _, rfl, hm0, rfl⟩
 ·rw [if_neg e2]
  have e2 := Decidable.not_not.1 e2
  refine sq (rg ?_)
  refine ldp hT 1 0 rfl rfl rfl ?_
  refine cmpS hT 0 rfl fun b19 h19 => ?_
  refine' bjo (q := 7 <= v) hT 1 4 24 [19, 20] h19 rfl rfl rfl rfl rfl rfl rfl (fun _ => ?x4) (fun b24 h24 => ?_)
  case x4 =>
   refine ldp hT 1 0 rfl rfl rfl ?_
   refine cmpS hT 0 rfl fun b23 h23 => ?_
   exact fin hT 1 rfl (bjx (h23.trans (by omega)) rfl rfl rfl)
  refine fin hT 1 rfl (th (ifP h24 rfl (fun e6 => ?_) (fun e6 => ?_)))
  ·rw [if_pos e6]
   refine sq (rg ?_)
   refine fin hT 1 rfl (th (rt (rB (rT (WQ.drop ?_)))))
   exact ret1 rfl rfl ⟨Le.refl _, _, rfl, hm0, rfl⟩
  ·rw [if_neg e6]
   refine sq (rga [pt b3 #[.int .u64 ((t : Nat) : Int), .int .i64 v] 25, pt lb (lgA wb db hb' eb L (.slice aV L.sn.vot.length cV) (.slice aD L.sn.data.length cD) (.slice aL L.l.length cL)) 91] 9 [0, 2, 4, 6, 8, 10, 12, 14, 16] (by simp) (by kernel_rfl) (by kernel_rfl) ?_)
   refine dldp hT (by kernel_rfl) 1 0 rfl rfl rfl ?_
   refine dldp hT (by kernel_rfl) 4 1 rfl rfl rfl ?_
   refine dcbS hT (by kernel_rfl) 0 (t < L.kt) rfl (by simp) fun b33 h33 => ?_
   refine dend hT (by kernel_rfl) 1 rfl (th (ifP h33 rfl (fun e7 => ?_) (fun e7 => ?_)))
   ·rw [if_pos e7]
    refine sq (rg ?_)
    refine fin hT 1 rfl (th (rt (rB (rT (WQ.drop ?_)))))
    exact ret1 rfl rfl ⟨Le.refl _, _, rfl, hm0, rfl⟩
   ·rw [if_neg e7]
    obtain ⟨u, rfl⟩ : ∃ u : Nat, v = ((u : Nat) : Int) - 1 := ⟨(v + 1).toNat, by omega⟩
    have eu : (((u : Nat) : Int) - 1 + 1).toNat = u := by omega
    rw [eu]
    have hul : (uint t ++ uint u).length <= 20 := by
     unfold mxU at ht
     have h1 := uint_le10 (n := t) (by omega)
     have h2 := uint_le10 (n := u) (by omega)
     rw [List.length_append]; omega
    obtain ⟨R, hR⟩ : ∃ R, R = L.hard.save 0 D (uint t ++ uint u) := ⟨_, rfl⟩
    unfold mxU at ht
    refine sk (bl (th (WC.em (sq (rga [pt b3 #[.int .u64 ((t : Nat) : Int), .int .i64 (((u : Nat) : Int) - 1)] 25] 9 [0, 2, 6, 8, 10, 12, 5, 15, 16] (by simp) (by kernel_rfl) (by kernel_rfl) ?_)))))
    refine dldp hT (by kernel_rfl) 1 0 rfl rfl rfl ?_
    refine dldp hT (by kernel_rfl) 1 0 rfl rfl rfl ?_
    refine dar hT (by kernel_rfl) 0 rfl (v' := .int .i64 ((u : Nat) : Int)) (by rw [show ((u : Nat) : Int) - 1 + 1 = ((u : Nat) : Int) from by omega]; exact i64w (by omega)) ?_
    refine dar hT (by kernel_rfl) 0 rfl (u64w (by omega)) ?_
    refine dact hT (by kernel_rfl) 0 rfl ?_
    refine cl hT 0 rfl (putUint none 0 [] t (Own.nil _ _) (by omega) (by decide)) ?_
    rintro v36 K36 hs36 ⟨h36, rfl, rfl, ao36, c36, rfl, o36⟩
    rw [List.nil_append] at o36 ⊢
    refine dnex [pt b3 #[.int .u64 ((t : Nat) : Int), .int .i64 (((u : Nat) : Int) - 1)] 25] (by simp) (by simp) rfl ?_
    refine dact hT (by kernel_rfl) 0 rfl ?_
    refine cl hT 0 rfl (putUint ao36 c36 (uint t) u o36 (by omega) (by have := uint_le10 (n := t) (by omega); omega)) ?_
    rintro v41 K41 hs41 ⟨h41, rfl, rfl, ao41, c41, rfl, o41⟩
    refine dnex [pt b3 #[.int .u64 ((t : Nat) : Int), .int .i64 (((u : Nat) : Int) - 1)] 25] (by simp) (by simp) rfl ?_
    refine dend hT (by kernel_rfl) 1 rfl (th (sq (sq (rg ?_))))
    refine ldp hT 4 2 rfl rfl rfl ?_
    refine cl hT 1 rfl (Ct.at2 4 6 rfl rfl (saveSH hb' db 0 L.hard hH hb.hard D c oD.ok (by omega) hD (by omega) (uint t ++ uint u) ao41 c41 (by omega) (.inr ⟨0, rfl⟩) o41.isS)) ?_
    rintro v48 K48 hs48 ⟨hh', dh', rfl, le, hH', hD', rfl⟩
    rw [<- hR] at hH' hD' ⊢
    refine cl hT 0 rfl (Ct.at 2 rfl (didLC lb wb db hb' eb L _ _ _ _)) ?_
    rintro v49 K49 hs49 ⟨_, rfl, rfl, rfl, rfl⟩
    have ed : didV L.code R.2.2 = R.2.2 := by unfold didV; rw [if_pos e2]
    rw [ed]
    refine cmpS hT 0 rfl fun b50 h50 => ?_
    refine fin hT 0 rfl (th (ifP h50 rfl (fun e9 => ?_) (fun e9 => ?_)))
    ·rw [if_pos e9]
     refine rg ?_
     refine ldS hT 1 1 rfl rfl (by kernel_rfl) ?_
     refine sts hT 2 2 rfl rfl (by kernel_rfl) (by simp [lgA]) (fun v hv => by simp at hv; rcases hv with rfl | rfl <;> rfl) ?_
     refine fin hT 0 rfl (th (sq (rg ?_)))
     refine ldp hT 3 2 rfl rfl rfl ?_
     refine fin hT 1 rfl (th (rt (WQ.drop (WQ.drop ?_))))
     refine ret1 rfl rfl ⟨le, [_, _, _, _, _, _], rfl, ⟨wb, hb', eb, aV, cV, aD, cD, aL, cL, wh, hh', eh, gl, dh', ?_, hW.le le, hH', hE.le le, hG.imp fun _ _ h => h.le le, hD', xV.le le, xD.le le⟩, ?_⟩
     ·rw [e9, <- e2]; rfl
     ·show Value.int .i64 R.2.2 = _; rw [e9]
    ·rw [if_neg e9]
     refine sk (th (sq (rg ?_)))
     refine ldp hT 3 2 rfl rfl rfl ?_
     refine fin hT 1 rfl (th (rt (WQ.drop (WQ.drop ?_))))
     exact ret1 rfl rfl ⟨le, [_, _, _, _, _, _], rfl, ⟨wb, hb', eb, aV, cV, aD, cD, aL, cL, wh, hh', eh, gl, dh', rfl, hW.le le, hH', hE.le le, hG.imp fun _ _ h => h.le le, hD', xV.le le, xD.le le⟩, rfl⟩
end Go.Proofs.YtneeeblghijmgaaGreat
end
section
namespace Go.En
theorem fld_run {P : Program} {n : Nat} {l : Sl} {o : Oper} {t : Nat} {x : Operand} {i : Nat} {v u : Value} (hop : o.op = .field t x i) (hx : ev l x = some v) (hr : ∀ w, (Instr.field t v i).run P w = .ok u w) : ∀ A w, Ag n l A -> (execOp A.eval o).run P w = .ok (.value u) w := by
 intro A w ha
 simp only [execOp, hop, ha.ev hx]
 rw [Sem.run_bind, hr]
 rfl
section
variable {P : Program} {w0 : World} {fn : Func} {R : Value -> PH -> List PH -> Prop} {n : Nat} {l : Sl} {K : PH} {hs : List PH}
theorem res_cc {T : Tab} (hT : TabOK P T) (i j : Nat) {t ty b ty' u tu b2 ty2 : Nat} {k : UK} {x : Value} {c : Array Value} {fr fr2 : Nat × Nat} (hr : fn.results = #[.cell t ty, .cell u tu]) (hv : look l t = some (.pointer (some ⟨b, 0, none⟩))) (hu : look l u = some (.pointer (some ⟨b2, 0, none⟩))) (hi : hs[i]? = some (pt b c ty' fr)) (hj : hs[j]? = some (pt b2 #[x] ty2 fr2))
  (hm : aggOK P ty c.size = true) (hk : asc T.kinds tu = some k) (h1 : k.one = true) : ∀ a w, Ag n l a -> Sat w0 w K hs -> (results fn a.tmps).run P w = .ok (.tuple #[.agg c, x]) w := by
 intro a w ha hw
 have h2 := run_loadVarS (P := P) (w := w) (t := ty) (a := ⟨b, 0, none⟩) (cs := c.toList) (by simpa using hm) rfl (fun j v hv => hw.cell (.inr ⟨i, hi⟩) (cells_pt c.toList (fun j v h => by simpa using h) j v hv))
 have e : c.toList.toArray = c := by simp
 rw [e] at h2
 have h3 : (loadVar tu ⟨b2, 0, none⟩).run P w = .ok x w := by
  have := run_load1 (P := P) (w := w) hT hk h1 (a := ⟨b2, 0, none⟩) (v := x) (hw.cell (.inr ⟨j, hj⟩) (Cell.pt rfl))
  simpa [Instr.loadAt, Instr.sureAddr] using this
 simp [results, hr, ha.slot t _ hv, ha.slot u _ hu, asAddr, h2, h3]
end
section
variable {P : Program} {w0 : World} {fn : Func} {R : Value -> PH -> List PH -> Prop} {n : Nat} {l : Sl} {K : PH} {hs hs' : List PH} {v : Value}
theorem retmD {e : Exit} (D m : Nat) (hh : hs = hs' ++ [dfr D]) (he : e = .ret \/ e = .normal) (hres : ∀ a w, Ag n l a -> Sat w0 w K hs' -> (results fn a.tmps).run P w = .ok v w) (h : R v K (hs'.drop m)) : WQX [mkd D] w0 (bodyPostM (fz none) 0 P fn (endR w0 R)) e n l K hs := by
 subst hh
 intro a w ha hw
 have h1 : Sat w0 (w.putObj D (.deferred none)) K hs' := (hw.putLast (.deferred none)).dropLast
 have h2 := run_takeDeferred (P := P) (hw.last)
 rcases he with rfl | rfl <;> exact ⟨by simp, .inl ⟨D, _, rfl, h2, v, hres a _ ha h1, v, K, hs'.drop m, rfl, h, h1.dropN m⟩⟩
end
def backW (l : List (List Value)) : List (List Value) := (l.zipIdx.map fun x => [.int .i64 ((x.2 : Nat) : Int), .agg x.1.toArray]).reverse
theorem backW_len (l : List (List Value)) : (backW l).length = l.length := by simp [backW]
theorem backW_get {l : List (List Value)} {i : Nat} (h : i < l.length) : (backW l)[i]? = some [.int .i64 ((l.length - 1 - i : Nat) : Int), .agg (l[l.length - 1 - i]'(by omega)).toArray] := by
 unfold backW
 rw [List.getElem?_reverse (by simpa using h)]
 simp only [List.length_map, List.length_zipIdx]
 rw [List.getElem?_map, List.getElem?_zipIdx, List.getElem?_eq_getElem (show l.length - 1 - i < l.length by omega)]
 simp
def BackRe (size : Nat) (b : Nat) (ao : Option Addr) (c : Nat) (l : List (List Value)) (K : PH) (hs : List PH) : Prop :=
 (∃ h, In K hs h /\ Cell h ⟨b, 0, none⟩ (.slice ao l.length c)) /\ ∃ h, In K hs h /\ SlS size (fun c x => c = x) h ao l.length c l
theorem Al2.refl : ∀ l : List (List Value), Al2 (fun c x => c = x) l l
 | [] => trivial
 | _ :: r => ⟨rfl, Al2.refl r⟩
theorem find_take {α : Type} {p : α -> Bool} {l : List α} {i : Nat} {e : α} (h0 : (l.take i).find? p = none) (he : l[i]? = some e) (hp : p e = true) : l.find? p = some e := by
 have hi := (List.getElem?_eq_some_iff.1 he).1
 have : l = l.take i ++ (e :: l.drop (i + 1)) := by
  have h2 : l.drop i = e :: l.drop (i + 1) := by rw [List.drop_eq_getElem_cons hi, show l[i] = e from by rw [List.getElem?_eq_getElem hi] at he; exact Option.some.inj he]
  rw [<- h2, List.take_append_drop]
 rw [this, List.find?_append, h0]
 simp [hp]
end Go.En
namespace Go.Proofs.YtneeeblghijmgaaGreat
open Go.En
attribute [local irreducible] Code.wp wpList Calls
theorem backEC {w0 : World} {K : PH} {hs : List PH} (ao : Option Addr) (n c : Nat) : Ct Tryz.prog w0 46 [.slice ao n c] K hs
  (fun v K' hs' => K' = K /\ ∃ b, hs' = pt b #[.slice ao n c] 26 :: hs /\ v = .func (.func 86) #[] #[.pointer (some ⟨b, 0, none⟩)]) := by
 refine enter Tryz.func46 (by kernel_rfl) rfl rfl rfl ?_
 refine sq (rg ?_)
 refine bx hT 0 rfl fun b1 => ?_
 refine fin hT 1 rfl (th (sq (rg ?_)))
 refine fin hT 2 rfl (th (rt ?_))
 exact ret1 rfl rfl ⟨rfl, b1, rfl, rfl⟩
theorem backEI {w0 : World} (b : Nat) (ao : Option Addr) (c : Nat) (l : List (List Value)) (hl : l.length <= 1099511627776) : ItCt Tryz.prog w0 86 [.pointer (some ⟨b, 0, none⟩)] (backW l) (BackRe 4 b ao c l) := by
 intro L St Sp hRd hY K hs h0
 refine enterX Tryz.func86 (by kernel_rfl) rfl rfl rfl ?_
 obtain ⟨⟨h1, m1, c1⟩, _⟩ := hRd 0 K hs h0
 refine sqX (rgX ?_)
 refine ld hT 0 rfl m1 c1 ?_
 refine ar hT 1 rfl (v' := .int .i64 ((l.length : Int) - 1 - ((0 : Nat) : Int))) (by rw [i64w (by omega)]; simp) ?_
 refine fin hT 1 rfl (nxX (thX (bkX ?_)))
 refine loopX (σ := Nat × PH × List PH) (fun s => [(0, .func (.yield L) #[] #[]), (1, .pointer (some ⟨b, 0, none⟩)), (3, .int .i64 ((l.length : Int) - 1 - ((s.1 : Nat) : Int)))]) (fun s => s.2.1) (fun s => s.2.2) (fun s => s.1 <= l.length /\ St s.1 s.2.1 s.2.2) (fun s => l.length - s.1) (0, K, hs) ⟨Nat.zero_le _, h0⟩ ⟨rfl, rfl, rfl, trivial⟩ rfl rfl ?_
 rintro ⟨i, K, hs⟩ ⟨hi, hst⟩
 dsimp only at *
 obtain ⟨⟨h1, m1, c1⟩, h2, m2, c2⟩ := hRd i K hs hst
 refine sqX (sqX (rgX ?_))
 refine cmpS hT 1 rfl fun b8 h8 => ?_
 refine fin hT 0 rfl (nxX (thX (ifPX h8 rfl (fun e2 => ?_) (fun e2 => ?_))))
 ·have hil : i < l.length := by omega
  obtain ⟨a, rfl⟩ := c2.addr (by omega) (by decide)
  obtain ⟨vs, xs⟩ := c2.isS
  obtain ⟨cs, hc, hcl, hcell⟩ := c2.cells (i := l.length - 1 - i) (x := l[l.length - 1 - i]'(by omega)) (List.getElem?_eq_getElem _)
  refine skX (thX (sqX (bkX (sqX (rgI (WLI.cut 6 ?_))))))
  refine ld hT 2 rfl m1 c1 ?_
  refine ixs hT 1 (l.length - 1 - i) rfl (show _ = ((l.length - 1 - i : Nat) : Int) by omega) xs (by omega) (by decide) fun a15 ha => ?_
  cases ha
  refine lds hT 0 cs rfl (by rw [hcl]; kernel_rfl) m2 hcell ?_
  refine fin hT 0 rfl (cutX ?_)
  have hv : (backW l)[i]? = some [.int .i64 ((l.length : Int) - 1 - ((i : Nat) : Int)), .agg cs.toArray] := by
   rw [backW_get hil, hc, show ((l.length - 1 - i : Nat) : Int) = (l.length : Int) - 1 - ((i : Nat) : Int) from by omega]
  refine yld rfl (hY i _ K hs hv hst) ?_
  rintro v17 K17 hs17 (⟨rfl, hn⟩ | ⟨rfl, hp⟩)
  ·refine WLI.fin ?_
   refine fin hT 1 rfl (nxX (thX (ifFX rfl ?_)))
   refine skX (blX (thX (rgX ?_)))
   refine ar hT 1 rfl (v' := .int .i64 ((l.length : Int) - 1 - ((i + 1 : Nat) : Int))) (by rw [i64w (by omega)]; congr 1; omega) ?_
   refine fin hT 1 rfl (nxX ?_)
   exact againX (x := (i, K, hs)) (i + 1, K17, hs17) ⟨rfl, rfl, rfl, trivial⟩ rfl rfl ⟨by dsimp only; omega, hn⟩ (by dsimp only; omega)
  ·refine WLI.fin ?_
   refine fin hT 1 rfl (nxX (thX (ifTX rfl ?_)))
   refine rtX (rBX (rTX (rTX (rBX ?_))))
   exact ret0X rfl (.inr hp)
 ·refine exX (xtX (xtX (xbX ?_)))
  obtain rfl : i = l.length := by omega
  exact end0X rfl (.inl (by rw [backW_len]; exact hst))
def cfgP (up : Nat) (e : Ent) : Bool := decide (e.kind = 2 /\ e.idx <= up)
theorem configLC {w0 : World} {K : PH} {m hs : List PH} (lb db : Nat) (L : Lg) (D : Dk) (c : Nat) (hb : LBd c L) (hc : c <= 1000000000) (hm : LgM K lb db L D m) (up : Nat) (hup : up <= mxU) :
  Ct Tryz.prog w0 21 [.pointer (some ⟨lb, 0, none⟩), .int .u64 ((up : Nat) : Int)] K (m ++ hs)
   (fun v K' hs' => Le K K' /\ hs' = m ++ hs /\ ∃ ao cap, v = .tuple #[.agg #[.slice ao (cfgAt L.sn L.l up).1.length cap], .int .u64 (((cfgAt L.sn L.l up).2 : Nat) : Int)] /\ IsS K' ao (cfgAt L.sn L.l up).1.length cap 1 (iv (cfgAt L.sn L.l up).1)) := by
 have hm0 := hm
 obtain ⟨wb, hb', eb, aV, cV, aD, cD, aL, cL, wh, hh, eh, gl, dh, rfl, hW, hH, hE, hG, hD, xV, xD⟩ := hm
 have h2 := hb.len
 have hG0 := hG
 obtain ⟨css, hn, oz, hal, hlen⟩ := hG
 have hcl : css.length = L.l.length := hal.len
 have hSl : SlS 4 (fun c x => c = x) gl aL css.length cL css := ⟨css, rfl, by rw [hcl]; exact oz.isS, Al2.refl css, hlen⟩
 obtain ⟨A, hA⟩ : ∃ A, A = lgA wb db hb' eb L (.slice aV L.sn.vot.length cV) (.slice aD L.sn.data.length cD) (.slice aL L.l.length cL) := ⟨_, rfl⟩
 have hA8 : A[12]? = some (.slice aL css.length cL) := by rw [hA, hcl]; rfl
 have hA6 : A[6]? = some (.int .u64 ((L.sn.idx : Nat) : Int)) := by rw [hA]; rfl
 rw [<- hA] at hm0 ⊢
 refine enterX Tryz.func21 (by kernel_rfl) rfl rfl rfl ?_
 refine sqX (rgX ?_)
 refine bx hT 0 rfl fun b3 => ?_
 refine al hT 0 (.agg #[.slice none 0 0]) rfl (by kernel_rfl) fun b4 => ?_
 refine al hT 0 (.int .u64 0) rfl (by kernel_rfl) fun b5 => ?_
 refine fin hT 0 rfl (nxX (thX (sqX (sqX (rgX ?_)))))
 refine ldp hT 3 3 rfl rfl hA8 ?_
 refine cl hT 0 rfl (backEC aL css.length cL) ?_
 rintro v14 K14 hs14 ⟨rfl, b1, rfl, rfl⟩
 refine fin hT 0 rfl (nxX (thX (bkX (WX.frz fun K1 le1 l1 => ?_))))
 refine WX.perm (hs' := (pt b5 #[.int .u64 0] 23 :: pt b4 #[.slice none 0 0] 29 :: pt b3 #[.int .u64 ((up : Nat) : Int)] 23 :: pt lb A 91 :: wh :: hh :: eh :: gl :: dh :: hs)) (List.Perm.refl _) ?_
 refine rgf [.pointer (some ⟨b1, 0, none⟩)] (backW css) (BackRe 4 b1 aL cL css) rfl (backEI b1 aL cL css (by omega)) (by kernel_rfl) (fun vs hv => ?_) rfl
  (fun i K' hs' => K' = K1 /\ hs' = pt b5 #[.int .u64 0] 23 :: pt b4 #[.slice none 0 0] 29 :: pt b3 #[.int .u64 ((up : Nat) : Int)] 23 :: pt lb A 91 :: wh :: hh :: eh :: gl :: dh :: hs /\ (L.l.reverse.take i).find? (cfgP up) = none)
  (fun c K' hs' => c = .ret /\ Le K1 K' /\ ∃ ao cap x, hs' = pt b5 #[.int .u64 (((cfgAt L.sn L.l up).2 : Nat) : Int)] 23 :: pt b4 #[.slice ao (cfgAt L.sn L.l up).1.length cap] 29 :: x :: pt lb A 91 :: wh :: hh :: eh :: gl :: dh :: hs /\ IsS K' ao (cfgAt L.sn L.l up).1.length cap 1 (iv (cfgAt L.sn L.l up).1))
  ⟨rfl, rfl, by simp⟩ (fun i K' hs' t u h => by obtain ⟨rfl, rfl, _⟩ := h; exact ⟨⟨K', .inl rfl, (Cell.pt rfl).le l1⟩, gl, .inr ⟨7, rfl⟩, hSl⟩) ?_ ?_ ?_
 ·obtain ⟨y, _, rfl⟩ := List.mem_map.1 (List.mem_reverse.1 hv)
  rfl
 ·rintro LL i vs K' hs' t u hvs ⟨rfl, rfl, hno⟩
  have hi : i < css.length := by have := (List.getElem?_eq_some_iff.1 hvs).1; rw [backW_len] at this; exact this
  rw [backW_get hi] at hvs
  cases hvs
  have hi2 : css.length - 1 - i < L.l.length := by omega
  obtain ⟨e, he⟩ : ∃ e, L.l[css.length - 1 - i]? = some e := ⟨L.l[css.length - 1 - i], List.getElem?_eq_getElem hi2⟩
  obtain ⟨d, hd, ao, cap, hdv, xe⟩ := hal.get he
  have hcs : css[css.length - 1 - i]'(by omega) = (e.v ao cap).toList := by
   rw [List.getElem?_eq_getElem (by omega)] at hd
   rw [<- hdv]; exact Option.some.inj hd
  rw [hcs, Array.toArray_toList]
  have her : L.l.reverse[i]? = some e := by
   rw [List.getElem?_reverse (by omega), <- hcl]
   exact he
  have hem := hb.ents e (List.mem_of_getElem? he)
  have hel := held_len hem.1.2.2
  refine rgX ?_
  refine al hT 0 (.agg #[.int .u64 0, .int .u64 0, .int .i64 0, .slice none 0 0]) rfl (by kernel_rfl) fun b7 => ?_
  refine stS hT 0 0 rfl rfl (by kernel_rfl) rfl rfl ?_
  refine fin hT 0 rfl (nxX (asgX (hs' := pt b7 (e.v ao cap) 46 :: pt b5 #[.int .u64 0] 23 :: pt b4 #[.slice none 0 0] 29 :: pt b3 #[.int .u64 ((up : Nat) : Int)] 23 :: pt lb A 91 :: wh :: hh :: eh :: gl :: dh :: hs) rfl fun u => ?_))
  refine bkX (sqX (rgX ?_))
  refine ldp hT 1 0 rfl rfl rfl ?_
  refine cmpS hT 0 rfl fun b19 h19 => ?_
  refine' bja (q := e.idx <= up) hT 1 5 25 [19, 20] h19 rfl rfl rfl rfl rfl rfl rfl (fun _ => ?x2) (fun b25 h25 => ?_)
  case x2 =>
   refine ldp hT 1 0 rfl rfl rfl ?_
   refine ldp hT 0 3 rfl rfl rfl ?_
   refine cmpS hT 0 rfl fun b24 h24 => ?_
   exact fin hT 1 rfl (bjx (h24.trans (by omega)) rfl rfl rfl)
  refine fin hT 0 rfl (nxX (thX (ifPX h25 rfl (fun e4 => ?_) (fun e4 => ?_))))
  ·have hcfg : cfgAt L.sn L.l up = ((getConf e.data).getD [], e.idx) := by
    unfold cfgAt
    have : L.l.reverse.find? (fun e => decide (e.kind = 2 /\ e.idx <= up)) = some e := find_take hno her (by simp [cfgP, e4.1, e4.2])
    rw [this]
   refine sqX (rgX ?_)
   refine ldp hT 1 0 rfl rfl rfl ?_
   refine cl hT 0 rfl (getConfC ao cap e.data (.inl rfl) (xe.le le1) (by omega)) ?_
   rintro v29 K29 hs29 ⟨rfl, h29, ao29, c29, rfl, rfl, o29⟩
   refine WL.frz fun K2 le2 l2 => ?_
   refine al hT 3 (.agg #[.slice none 0 0]) rfl (by kernel_rfl) fun b8 => ?_
   refine stS hT 0 0 rfl rfl (by kernel_rfl) rfl rfl ?_
   refine WL.hs (pt b8 #[.slice ao29 ((getConf e.data).getD []).length c29] 29 :: pt b7 (e.v ao cap) 46 :: pt b5 #[.int .u64 0] 23 :: pt b4 #[.slice none 0 0] 29 :: pt b3 #[.int .u64 ((up : Nat) : Int)] 23 :: pt lb A 91 :: wh :: hh :: eh :: gl :: dh :: (hs ++ [t, u])) rfl ?_
   refine fin hT 1 rfl (nxX (thX (sqX (rgaX [pt b8 #[.slice ao29 ((getConf e.data).getD []).length c29] 29, pt b7 (e.v ao cap) 46] 5 [0, 2, 4, 7, 9] (by simp) (by kernel_rfl) (by kernel_rfl) ?_))))
   refine dldS hT (by kernel_rfl) 0 0 rfl (by kernel_rfl) rfl (by kernel_rfl) ?_
   refine dldp hT (by kernel_rfl) 1 1 rfl rfl rfl ?_
   refine dact hT (by kernel_rfl) 0 rfl ?_
   refine stS hT 0 3 rfl rfl (by kernel_rfl) rfl rfl ?_
   refine dnex [pt b8 #[.slice ao29 ((getConf e.data).getD []).length c29] 29, pt b7 (e.v ao cap) 46] (by simp) (by simp) rfl ?_
   refine dact hT (by kernel_rfl) 0 rfl ?_
   refine stp hT 0 2 rfl rfl rfl rfl ?_
   refine dnex [pt b8 #[.slice ao29 ((getConf e.data).getD []).length c29] 29, pt b7 (e.v ao cap) 46] (by simp) (by simp) rfl ?_
   refine dend hT (by kernel_rfl) 0 rfl (nxX (thX (rtX (rBX ?_))))
   refine WQX.drop (WQX.drop (jmpR (hs' := pt b5 #[.int .u64 ((e.idx : Nat) : Int)] 23 :: pt b4 #[.slice ao29 ((getConf e.data).getD []).length c29] 29 :: pt b3 #[.int .u64 ((up : Nat) : Int)] 23 :: pt lb A 91 :: wh :: hh :: eh :: gl :: dh :: hs) rfl ?_))
   rw [hcfg]
   exact ⟨rfl, le2, ao29, c29, _, rfl, o29.isS.le l2⟩
  ·refine skX (blX (WQX.drop (rndX (hs' := pt b5 #[.int .u64 0] 23 :: pt b4 #[.slice none 0 0] 29 :: pt b3 #[.int .u64 ((up : Nat) : Int)] 23 :: pt lb A 91 :: wh :: hh :: eh :: gl :: dh :: hs) rfl ?_)))
   refine ⟨rfl, rfl, ?_⟩
   rw [List.take_add_one, her, List.find?_append, hno]
   simp only [Option.toList_some, List.find?_cons, List.find?_nil, Option.none_or]
   rw [show cfgP up e = false from by unfold cfgP; simp only [decide_eq_false_iff_not]; omega]
 ·rintro DD K' hs' ⟨rfl, rfl, hno⟩
  rw [backW_len, List.take_of_length_le (by simp; omega)] at hno
  have hcfg : cfgAt L.sn L.l up = (L.sn.vot, L.sn.idx) := by
   unfold cfgAt
   have : L.l.reverse.find? (fun e => decide (e.kind = 2 /\ e.idx <= up)) = none := hno
   rw [this]
  refine blX (thX (sqX (rgaX [pt lb A 91] 10 [0, 6, 8, 10, 12, 14, 3, 4, 17, 19] (by simp) (by kernel_rfl) (by kernel_rfl) ?_)))
  refine dldp hT (by kernel_rfl) 5 0 rfl rfl hA6 ?_
  refine dact hT (by kernel_rfl) 0 rfl ?_
  refine WL.perm (hs' := [pt lb A 91, wh, hh, eh, gl, dh] ++ (pt b5 #[.int .u64 0] 23 :: pt b4 #[.slice none 0 0] 29 :: pt b3 #[.int .u64 ((up : Nat) : Int)] 23 :: (hs ++ [dfr DD]))) (List.perm_append_comm_assoc [_, _, _] [_, _, _, _, _, _] _) ?_
  refine cl hT 0 rfl (snapLC lb db L D c hb (hm0.le le1)) ?_
  rintro v36 K36 hs36 ⟨le3, rfl, aV2, cV2, aD2, cD2, rfl, xV2, xD2⟩
  refine WL.perm (hs' := pt b5 #[.int .u64 0] 23 :: pt b4 #[.slice none 0 0] 29 :: pt b3 #[.int .u64 ((up : Nat) : Int)] 23 :: pt lb A 91 :: wh :: hh :: eh :: gl :: dh :: (hs ++ [dfr DD])) (List.perm_append_comm_assoc [_, _, _, _, _, _] [_, _, _] _) ?_
  refine dnexL [pt lb A 91] (by simp) (by simp) le3 ?_
  refine dopr hT (by kernel_rfl) 0 (v := .agg #[.slice aV2 L.sn.vot.length cV2]) rfl (fun A' w ha _ => ?_) ?_
  ·exact fld_run (t := 32) (x := .tmp 36) (i := 2) (v := .agg (snV L.sn aV2 cV2 aD2 cD2)) rfl rfl (fun w => by kernel_rfl) A' w ha
  refine dact hT (by kernel_rfl) 0 rfl ?_
  refine stS hT 0 1 rfl rfl (by kernel_rfl) rfl rfl ?_
  refine dnex [pt lb A 91] (by simp) (by simp) rfl ?_
  refine dact hT (by kernel_rfl) 0 rfl ?_
  refine stp hT 0 0 rfl rfl rfl rfl ?_
  refine dnex [pt lb A 91] (by simp) (by simp) rfl ?_
  refine dend hT (by kernel_rfl) 0 rfl (nxX (thX (rtX ?_)))
  refine retmD DD 3 (hs' := pt b5 #[.int .u64 ((L.sn.idx : Nat) : Int)] 23 :: pt b4 #[.slice aV2 L.sn.vot.length cV2] 29 :: pt b3 #[.int .u64 ((up : Nat) : Int)] 23 :: pt lb A 91 :: wh :: hh :: eh :: gl :: dh :: hs) rfl (.inl rfl) (res_cc hT 1 0 rfl rfl rfl rfl rfl (by kernel_rfl) rfl rfl) ?_
  rw [hcfg]
  exact ⟨le1.trans le3, rfl, aV2, cV2, rfl, xV2⟩
 ·rintro DD c' K' hs' ⟨rfl, le2, ao, cap, x, rfl, xs⟩
  refine rtX (retmD DD 3 (hs' := pt b5 #[.int .u64 (((cfgAt L.sn L.l up).2 : Nat) : Int)] 23 :: pt b4 #[.slice ao (cfgAt L.sn L.l up).1.length cap] 29 :: x :: pt lb A 91 :: wh :: hh :: eh :: gl :: dh :: hs) rfl (.inl rfl) (res_cc hT 1 0 rfl rfl rfl rfl rfl (by kernel_rfl) rfl rfl) ?_)
  exact ⟨le1.trans le2, rfl, ao, cap, rfl, xs⟩
end Go.Proofs.YtneeeblghijmgaaGreat
end
