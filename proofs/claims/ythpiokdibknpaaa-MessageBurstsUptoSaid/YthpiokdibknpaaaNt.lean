/-
  The reference: a message's fields; Encode.
  The reference: Encode.
  The reference: entries read.
  The reference: Decode.
  The laws: bytes that the document fixes.
-/
import Derived.Test.YthpiokdibknpaaaNp
import Derived.Test.YthpiokdibknpaaaNl
import Derived.Test.YthpiokdibknpaaaMs
namespace Go.Proofs.Ythpiokdibknpaaa
open Go.En
set_option linter.unusedVariables false
attribute [local irreducible] Code.wp wpList Calls

def flagN (t : Bool) : Nat := if t then 1 else 0
theorem flagN_lt (t : Bool) : flagN t < 256 := by cases t <;> decide
theorem flagN_by (t : Bool) : [UInt8.ofNat (flagN t)] = [if t then (1 : UInt8) else 0] := by cases t <;> rfl
section drop1
variable {P : Program} {w0 : World} {ops : Array Oper} {Q : Exit → Act → World → Prop} {rest : List Oper} {n : Nat} {l : Sl} {K h x : PH} {hs : List PH} {c : Code} {e : Exit}
theorem drop1L (hk : WL P w0 ops Q rest n l K (h :: hs)) : WL P w0 ops Q rest n l K (h :: x :: hs) := WL.perm (List.Perm.swap _ _ _) (WL.drop hk)
theorem drop1C (hk : WC P w0 c Q n l K (h :: hs)) : WC P w0 c Q n l K (h :: x :: hs) := WC.perm (List.Perm.swap _ _ _) (WC.drop hk)
theorem drop1Q (hk : WQ w0 Q e n l K (h :: hs)) : WQ w0 Q e n l K (h :: x :: hs) := WQ.perm (List.Perm.swap _ _ _) (WQ.drop hk)
end drop1
theorem bodyQ {K g : PH} {R : List PH} {ao : Option Addr} {c : Nat} {bs X ys : List UInt8} (hp : X = ys) (o : Own g ao (bs ++ ys).length c 5 1 (bv (bs ++ ys))) :
    ∃ h', g :: R = h' :: R ∧ K = K ∧ ∃ ao' c', Value.slice ao (bs ++ ys).length c = .slice ao' (bs ++ X).length c' ∧ Own h' ao' (bs ++ X).length c' 5 1 (bv (bs ++ X)) := by
  subst hp; exact ⟨g, rfl, rfl, ao, c, rfl, o⟩
theorem flagRef {w0 : World} {K : PH} {hs : List PH} (t : Bool) : Ct Try.prog w0 81 [.bool t] K hs (fun v K' hs' => K' = K ∧ hs' = hs ∧ v = .int .u8 ((flagN t : Nat) : Int)) := by
  refine enter Try.func81 (by kernel_rfl) rfl rfl rfl ?_
  refine sq (rg (?_))
  refine fin hT 1 rfl (th (sq (sq (rg (?_)))))
  refine fin hT 1 rfl (th (ifB rfl (fun h1 => ?_) (fun h1 => ?_)))
  · refine sq (rg (?_))
    refine fin hT 1 rfl (th (rt (rT (?_))))
    exact ret1 rfl rfl ⟨rfl, rfl, by subst h1; rfl⟩
  · refine sk (th (sq (rg (?_))))
    refine fin hT 1 rfl (th (rt (?_)))
    exact ret1 rfl rfl ⟨rfl, rfl, by subst h1; rfl⟩
theorem bodyRef {w0 : World} {K h : PH} {R : List PH} (m : Msg) (p : MA) (ao : Option Addr) (c1 : Nat) (bs : List UInt8) (hS : MsgS K m p) (hbd : m.bd) (hok : m.ok) (o : Own h ao bs.length c1 5 1 (bv bs)) (hb : bs.length ≤ 1048576) :
    Ct Try.prog w0 56 [.slice ao bs.length c1, .agg (mv m p)] K (h :: R)
      (fun v K' hs' => ∃ h', hs' = h' :: R ∧ K' = K ∧ ∃ ao' c', v = .slice ao' (bs ++ pbyAll m (fieldsOf m.kind)).length c' ∧ Own h' ao' (bs ++ pbyAll m (fieldsOf m.kind)).length c' 5 1 (bv (bs ++ pbyAll m (fieldsOf m.kind)))) := by
  have hmx : mxU = 18446744073709551615 := rfl
  have hb1 := hbd.idx
  have hb2 := hbd.lt
  have hb3 := hbd.com
  have hb4 := hbd.rnd
  have hel := hbd.entsL
  have hvl := hbd.votL
  have hdl := hbd.dataL
  have hu1 := u64of_lt m.off
  have hu2 := u64of_lt m.whole
  have hk := fieldsOf_ne.1 hok.1.1
  refine enter Try.func56 (by kernel_rfl) rfl rfl rfl ?_
  refine sq (rg (?_))
  refine bx hT 0 rfl fun b3 => ?_   -- ref.go:250 t3
  refine fin hT 1 rfl (th (WC.perm (List.Perm.swap _ _ _) (sq (sq (rg (?_))))))
  refine ldp hT 1 1 rfl rfl rfl ?_   -- ref.go:251 t13 *t12
  refine fin hT 0 rfl (th (bk (sq (rg (?_)))))
  refine cmpS hT 0 rfl fun b15 h15 => ?_   -- ref.go:252 t15 t13 = 1
  refine fin hT 1 rfl (th (ifP h15 rfl (fun e2 => ?_) (fun e2 => ?_)))
  · refine sq (rg (?_))
    refine ldp hT 2 1 rfl rfl rfl ?_   -- ref.go:253 t18 *t17
    refine ldp hT 1 1 rfl rfl rfl ?_   -- ref.go:253 t20 *t19
    refine lit hT 0 #[.int .u64 (m.idx : Nat), .int .u64 (m.lt : Nat)] rfl (by decide) (by kernel_rfl) fun b21 => ?_   -- ref.go:253 t21
    refine WL.perm (List.Perm.swap _ _ _) ?_
    refine cl hT 0 rfl (uintsRef ao c1 bs _ _ [m.idx, m.lt] o (.inr ⟨0, rfl⟩) (isS_pt rfl rfl) (by simp; omega) (by omega) (by simp)) ?_   -- ref.go:253 t22
    rintro v22 K22 hs22 ⟨g, rfl, rfl, aog, cg, rfl, og⟩
    refine fin hT 1 rfl (th (rt (rB (rT (?_)))))
    refine drop1Q (drop1Q ?_)
    exact ret1 rfl rfl (bodyQ (by rw [show m.kind = 1 from e2]; simp [fieldsOf, pbyAll, Fld.pby, us]) og)
  · refine sq (rg (?_))
    refine cmpS hT 0 rfl fun b24 h24 => ?_   -- ref.go:254 t24 t13 = 2
    refine fin hT 1 rfl (th (ifP h24 rfl (fun e4 => ?_) (fun e4 => ?_)))
    · refine sq (rg (?_))
      refine ldp hT 2 1 rfl rfl rfl ?_   -- ref.go:255 t27 *t26
      refine cl hT 0 rfl (flagRef m.good) ?_   -- ref.go:255 t28
      rintro v28 K28 hs28 ⟨rfl, rfl, rfl⟩
      refine lit hT 0 #[.int .u8 ((flagN m.good : Nat) : Int)] rfl (by decide) (by kernel_rfl) fun b29 => ?_   -- ref.go:255 t29
      refine appB hT 0 1 bs [UInt8.ofNat (flagN m.good)] rfl rfl rfl o (.inr ⟨0, rfl⟩) (isS_byte b29 _ (flagN_lt _)) (by simp only [List.length_singleton]; omega) fun ao30 c30 g30 o30 => ?_
      refine fin hT 1 rfl (th (rt (rB (rT (?_)))))
      refine WQ.drop (drop1Q ?_)
      exact ret1 rfl rfl (bodyQ (by rw [show m.kind = 2 from e4, flagN_by]; simp [fieldsOf, pbyAll, Fld.pby]) o30)
    · refine sq (rg (?_))
      refine cmpS hT 0 rfl fun b32 h32 => ?_   -- ref.go:256 t32 t13 = 3
      refine fin hT 1 rfl (th (ifP h32 rfl (fun e6 => ?_) (fun e6 => ?_)))
      · refine sq (rg (?_))
        refine ldp hT 2 1 rfl rfl rfl ?_   -- ref.go:257 t35 *t34
        refine ldp hT 1 1 rfl rfl rfl ?_   -- ref.go:257 t37 *t36
        refine ldp hT 1 1 rfl rfl rfl ?_   -- ref.go:257 t39 *t38
        refine ldp hT 1 1 rfl rfl rfl ?_   -- ref.go:257 t41 *t40
        refine ldp hT 1 1 rfl rfl rfl ?_   -- ref.go:257 t43 *t42
        refine ar hT 1 rfl (u64w (by omega)) ?_   -- ref.go:257 t45 convert t44
        refine lit hT 0 #[.int .u64 (m.idx : Nat), .int .u64 (m.lt : Nat), .int .u64 (m.com : Nat), .int .u64 (m.rnd : Nat), .int .u64 (m.ents.length : Nat)] rfl (by decide) (by kernel_rfl) fun b46 => ?_   -- ref.go:257 t46
        refine WL.perm (List.Perm.swap _ _ _) ?_
        refine cl hT 0 rfl (uintsRef ao c1 bs _ _ [m.idx, m.lt, m.com, m.rnd, m.ents.length] o (.inr ⟨0, rfl⟩) (isS_pt rfl rfl) (by simp; omega) (by omega) (by simp)) ?_   -- ref.go:257 t47
        rintro v47 K47 hs47 ⟨g, rfl, rfl, aog, cg, rfl, og⟩
        obtain ⟨hEok, he8⟩ : entsOK m.idx 0 m.ents ∧ m.ents.length ≤ 8 := hok.2.1 .ents (by rw [show m.kind = 3 from e6]; simp [fieldsOf])
        have hus := us_len [m.idx, m.lt, m.com, m.rnd, m.ents.length] (by simp; omega)
        obtain ⟨ys, hys⟩ : ∃ ys, ys = us [m.idx, m.lt, m.com, m.rnd, m.ents.length] := ⟨_, rfl⟩
        rw [← hys] at og hus ⊢
        have hus' : ys.length ≤ 50 := hus
        obtain ⟨⟨css, xE, hE⟩, _⟩ := hS
        refine fin hT 1 rfl (th (drop1C (sq (sq (rg (?_))))))
        refine fin hT 1 rfl (th (bk (?_)))
        refine loop (σ := Nat × Option Addr × Nat × PH) (fun s => [(0, .slice s.2.1 (bs ++ ys ++ entsBytes (m.ents.take s.1)).length s.2.2.1), (3, Ptr b3), (5, .int .i64 (s.1 : Nat))]) (fun _ => K47) (fun s => s.2.2.2 :: pt b3 (mv m p) 51 :: R) (fun s => s.1 ≤ m.ents.length ∧ Own s.2.2.2 s.2.1 (bs ++ ys ++ entsBytes (m.ents.take s.1)).length s.2.2.1 5 1 (bv (bs ++ ys ++ entsBytes (m.ents.take s.1)))) (fun s => m.ents.length - s.1) (0, aog, cg, g) ⟨Nat.zero_le _, by simpa [entsBytes] using og⟩ (by simp only [entsBytes, List.take_zero, List.append_nil]; exact ⟨rfl, rfl, rfl, trivial⟩) rfl rfl ?_
        rintro ⟨i, ao', c1', h'⟩ ⟨hi, o'⟩
        dsimp only at hi o' ⊢
        refine sq (sq (rg (?_)))
        refine ldp hT 2 1 rfl rfl rfl ?_   -- ref.go:258 t50 *t49
        refine cmpS hT 1 rfl fun b52 h52 => ?_   -- ref.go:258 t52 t48 < t51
        refine fin hT 0 rfl (th (ifP h52 rfl (fun e8 => ?_) (fun e8 => ?_)))
        · have hin : i < m.ents.length := by omega
          obtain ⟨ae, ce, xd, hcell⟩ := EntsS.get (e0 := Ent.zero) hE hin
          have hge : m.ents.getD i Ent.zero ∈ m.ents := by simp [List.getD, hin]
          have hbe := hbd.ents _ hge
          have hat := (entsOK_at (a := m.idx) hin Ent.zero hEok).1
          have htk := getD_take_succ m.ents i hin Ent.zero
          have hlen := entsBytes_len m.idx (m.ents.take i) 0 ((entsOK_split m.idx (m.ents.take i) (m.ents.drop i) 0).1 (by rw [List.take_append_drop]; exact hEok)).1 (fun x hx => by have := hbd.ents x (List.mem_of_mem_take hx); exact ⟨this.1, this.2.1⟩)
          have htl : (m.ents.take i).length = i := by simp; omega
          generalize m.ents.getD i Ent.zero = e at xd hcell hge hbe hat htk
          have hpe : ob (putEnt e) = e.bytes := by rw [putEnt, if_pos hat]; rfl
          have hel2 := Ent.bytes_length e hat hbe.1 hbe.2.1
          have hpl := putBytes_length e.bytes
          have hu3 := uint_le10 (n := e.bytes.length) (by omega)
          refine sk (th (sq (bk (sq (rg (?_))))))
          refine ldp hT 1 1 rfl rfl rfl ?_   -- ref.go:259 t57 *t56
          refine ixs hT 1 i rfl rfl xE hin (by decide) fun a20 ha20 => ?_
          refine lds hT 0 [.int .u64 (e.idx : Nat), .int .u64 (e.term : Nat), .int .i64 e.kind, .slice ae e.data.length ce] rfl (by kernel_rfl) (.inl rfl) (fun j v hv => ?_) ?_
          · obtain ⟨a', q1, q2⟩ := xE.2.2 (i * 4 + j) v (hcell j v hv)
            rw [ha20] at q1
            cases q1
            rw [Deep.add_add]
            exact q2
          refine cl hT 0 rfl (putEntRef e ae ce hbe.1 hbe.2.1 (.inl rfl) xd (by omega)) ?_   -- ref.go:259 t61
          rintro v61 K61 hs61 ⟨rfl, g2, aog2, cg2, rfl, rfl, og2⟩
          rw [hpe] at og2 ⊢
          refine fin hT 5 rfl (th (sq (rg (?_))))
          refine cl hT 1 rfl (putRef aog2 cg2 e.bytes (.inr ⟨0, rfl⟩) og2.isS (by omega)) ?_   -- ref.go:260 t65
          rintro v65 K65 hs65 ⟨g3, rfl, rfl, ao3, c3, rfl, o3⟩
          refine fin hT 1 rfl (th (rg (?_)))
          refine appB hT 2 2 _ _ rfl rfl rfl o' (.inr ⟨0, rfl⟩) o3.isS (by simp only [List.length_append]; omega) fun ao68 c68 g68 o68 => ?_
          have ee : bs ++ ys ++ entsBytes (m.ents.take i) ++ putBytes e.bytes = bs ++ ys ++ entsBytes (m.ents.take (i + 1)) := by rw [htk, entsBytes_append]; simp [entsBytes]
          rw [ee] at o68 ⊢
          refine fin hT 1 rfl (bl (th (WC.drop (WC.drop (rg (?_))))))
          refine ar hT 1 rfl (i64w (by omega)) ?_   -- ref.go:258 t54 t53 add 1
          refine fin hT 1 rfl (?_)
          exact again (x := (i, ao', c1', h')) (i + 1, ao68, c68, g68) ⟨rfl, rfl, rfl, trivial⟩ rfl rfl ⟨by omega, o68⟩ (by (try dsimp only); omega)
        · obtain rfl : i = m.ents.length := by omega
          refine ex (xt (xt (xb (th (sq (rg (?_)))))))
          rw [List.take_of_length_le (Nat.le_refl _), List.append_assoc] at o' ⊢
          refine fin hT 2 rfl (th (rt (rB (rT (?_)))))
          refine drop1Q ?_
          exact ret1 rfl rfl (bodyQ (by rw [show m.kind = 3 from e6, hys]; simp [fieldsOf, pbyAll, Fld.pby, us]) o')
      · refine sq (rg (?_))
        refine cmpS hT 0 rfl fun b71 h71 => ?_   -- ref.go:264 t71 t13 = 4
        refine fin hT 1 rfl (th (ifP h71 rfl (fun e10 => ?_) (fun e10 => ?_)))
        · refine sq (rg (?_))
          refine ldp hT 2 1 rfl rfl rfl ?_   -- ref.go:265 t74 *t73
          refine cl hT 0 rfl (flagRef m.good) ?_   -- ref.go:265 t75
          rintro v75 K75 hs75 ⟨rfl, rfl, rfl⟩
          refine lit hT 0 #[.int .u8 ((flagN m.good : Nat) : Int)] rfl (by decide) (by kernel_rfl) fun b76 => ?_   -- ref.go:265 t76
          refine appB hT 0 1 bs [UInt8.ofNat (flagN m.good)] rfl rfl rfl o (.inr ⟨0, rfl⟩) (isS_byte b76 _ (flagN_lt _)) (by simp only [List.length_singleton]; omega) fun ao77 c77 g77 o77 => ?_
          refine fin hT 1 rfl (th (WC.drop (sq (rg (?_)))))
          refine ldp hT 2 1 rfl rfl rfl ?_   -- ref.go:266 t80 *t79
          refine ldp hT 1 1 rfl rfl rfl ?_   -- ref.go:266 t82 *t81
          refine lit hT 0 #[.int .u64 (m.idx : Nat), .int .u64 (m.rnd : Nat)] rfl (by decide) (by kernel_rfl) fun b83 => ?_   -- ref.go:266 t83
          refine WL.perm (List.Perm.swap _ _ _) ?_
          refine cl hT 0 rfl (uintsRef ao77 c77 _ _ _ [m.idx, m.rnd] o77 (.inr ⟨0, rfl⟩) (isS_pt rfl rfl) (by simp; omega) (by simp only [List.length_append, List.length_singleton]; omega) (by simp)) ?_   -- ref.go:266 t84
          rintro v84 K84 hs84 ⟨g, rfl, rfl, aog, cg, rfl, og⟩
          rw [List.append_assoc] at og ⊢
          refine fin hT 1 rfl (th (rt (rB (rT (?_)))))
          refine drop1Q (drop1Q ?_)
          exact ret1 rfl rfl (bodyQ (by rw [show m.kind = 4 from e10, flagN_by]; simp [fieldsOf, pbyAll, Fld.pby, us]) og)
        · refine sq (rg (?_))
          refine cmpS hT 0 rfl fun b86 h86 => ?_   -- ref.go:267 t86 t13 = 5
          refine fin hT 1 rfl (th (ifP h86 rfl (fun e12 => ?_) (fun e12 => ?_)))
          · refine sq (rg (?_))
            refine ldp hT 2 1 rfl rfl rfl ?_   -- ref.go:268 t89 *t88
            refine ldp hT 1 1 rfl rfl rfl ?_   -- ref.go:268 t91 *t90
            refine ldp hT 1 1 rfl rfl rfl ?_   -- ref.go:268 t93 *t92
            refine ar hT 0 rfl (u64of_wrap _) ?_
            refine ldp hT 1 1 rfl rfl rfl ?_   -- ref.go:268 t96 *t95
            refine ar hT 0 rfl (u64of_wrap _) ?_
            refine lit hT 0 #[.int .u64 (m.idx : Nat), .int .u64 (m.lt : Nat), .int .u64 (u64of m.off : Nat), .int .u64 (u64of m.whole : Nat)] rfl (by decide) (by kernel_rfl) fun b98 => ?_   -- ref.go:268 t98
            refine WL.perm (List.Perm.swap _ _ _) ?_
            refine cl hT 0 rfl (uintsRef ao c1 bs _ _ [m.idx, m.lt, u64of m.off, u64of m.whole] o (.inr ⟨0, rfl⟩) (isS_pt rfl rfl) (by simp; omega) (by omega) (by simp)) ?_   -- ref.go:268 t99
            rintro v99 K99 hs99 ⟨g, rfl, rfl, aog, cg, rfl, og⟩
            have hus := us_len [m.idx, m.lt, u64of m.off, u64of m.whole] (by simp; omega)
            obtain ⟨ys, hys⟩ : ∃ ys, ys = us [m.idx, m.lt, u64of m.off, u64of m.whole] := ⟨_, rfl⟩
            rw [← hys] at og hus ⊢
            have hus' : ys.length ≤ 40 := hus
            have hpc : (ob (putConf m.vot)).length ≤ 1 := by unfold putConf; split <;> simp [ob]
            have hpl := putBytes_length m.data
            have hu3 := uint_le10 (n := m.data.length) (by omega)
            refine fin hT 1 rfl (th (drop1C (sq (rg (?_)))))
            refine ldp hT 1 1 rfl rfl rfl ?_   -- ref.go:269 t102 *t101
            refine bd hT 0 (.agg #[.slice p.av m.vot.length p.cv]) rfl (fun w => by kernel_rfl) ?_   -- ref.go:269 t103
            refine cl hT 0 rfl (putConfRef p.av p.cv m.vot (.inl rfl) hS.2.1 (by omega) hbd.vot) ?_   -- ref.go:269 t104
            rintro v104 K104 hs104 ⟨rfl, gc, aoc, cc, rfl, rfl, oc⟩
            refine fin hT 5 rfl (th (sq (rg (?_))))
            refine appB hT 2 1 _ _ rfl rfl rfl og (.inr ⟨0, rfl⟩) oc.isS (by simp only [List.length_append]; omega) fun ao109 c109 g109 o109 => ?_
            refine fin hT 1 rfl (th (WC.drop (sq (rg (?_)))))
            refine ldp hT 1 1 rfl rfl rfl ?_   -- ref.go:271 t111 *t110
            refine cl hT 0 rfl (putRef p.ad p.cd m.data (.inl rfl) hS.2.2 (by omega)) ?_   -- ref.go:271 t112
            rintro v112 K112 hs112 ⟨gd, rfl, rfl, aod, cd, rfl, od⟩
            refine fin hT 1 rfl (th (sq (rg (?_))))
            refine appB hT 2 1 _ _ rfl rfl rfl o109 (.inr ⟨0, rfl⟩) od.isS (by simp only [List.length_append]; omega) fun ao115 c115 g115 o115 => ?_
            rw [List.append_assoc, List.append_assoc] at o115 ⊢
            refine fin hT 1 rfl (th (rt (rB (rT (?_)))))
            refine WQ.drop (drop1Q ?_)
            exact ret1 rfl rfl (bodyQ (by rw [show m.kind = 5 from e12, hys]; simp [fieldsOf, pbyAll, Fld.pby, us]) o115)
          · refine sk (bl (th (sq (rg (?_)))))
            refine ldp hT 2 1 rfl rfl rfl ?_   -- ref.go:274 t118 *t117
            refine ldp hT 1 1 rfl rfl rfl ?_   -- ref.go:274 t120 *t119
            refine ar hT 0 rfl (u64of_wrap _) ?_
            refine lit hT 0 #[.int .u64 (m.idx : Nat), .int .u64 (u64of m.off : Nat)] rfl (by decide) (by kernel_rfl) fun b122 => ?_   -- ref.go:274 t122
            refine WL.perm (List.Perm.swap _ _ _) ?_
            refine cl hT 0 rfl (uintsRef ao c1 bs _ _ [m.idx, u64of m.off] o (.inr ⟨0, rfl⟩) (isS_pt rfl rfl) (by simp; omega) (by omega) (by simp)) ?_   -- ref.go:274 t123
            rintro v123 K123 hs123 ⟨g, rfl, rfl, aog, cg, rfl, og⟩
            refine fin hT 1 rfl (th (rt (?_)))
            refine drop1Q (drop1Q ?_)
            exact ret1 rfl rfl (bodyQ (by rw [show m.kind = 6 from by omega]; simp [fieldsOf, pbyAll, Fld.pby, us]) og)
end Go.Proofs.Ythpiokdibknpaaa
namespace Go.Proofs.Ythpiokdibknpaaa
open Go.En
set_option linter.unusedVariables false
attribute [local irreducible] Code.wp wpList Calls

theorem own3 (b k f t : Nat) (hk : k < 256) (hf : f < 256) (ht : t < 256) : Own (pt b #[.int .u8 ((k : Nat) : Int), .int .u8 ((f : Nat) : Int), .int .u8 ((t : Nat) : Int)] 5) (some ⟨b, 0, none⟩) 3 3 5 1 (bv [UInt8.ofNat k, UInt8.ofNat f, UInt8.ofNat t]) := by
  have := Own.ofPt (b := b) (c := #[.int .u8 ((k : Nat) : Int), .int .u8 ((f : Nat) : Int), .int .u8 ((t : Nat) : Int)]) (e := 5) (n := 3) (size := 1) (by simp) (by simp [maxLen])
  simpa [bv, byteV hk, byteV hf, byteV ht] using this
theorem encodeRef {w0 : World} {K : PH} {hs : List PH} (m : Msg) (p : MA) (hS : MsgS K m p) (hbd : m.bd) :
    Ct Try.prog w0 30 [.agg (mv m p)] K hs (fun v K' hs' => K' = K ∧ OutB (enc m) hs v hs') := by
  have hmx : mxU = 18446744073709551615 := rfl
  have hte := hbd.term
  refine enter Try.func30 (by kernel_rfl) rfl rfl rfl ?_
  refine sq (rg (?_))
  refine bx hT 0 rfl fun b1 => ?_   -- ref.go:278 t1
  refine fin hT 2 rfl (th (sq (sq (rg (?_)))))
  refine ldS hT 0 0 rfl rfl (by kernel_rfl) ?_   -- ref.go:279 t5 t1
  refine cl hT 0 rfl (rightRef m p hS hbd) ?_   -- ref.go:279 t6
  rintro v6 K6 hs6 ⟨rfl, rfl, b6, rfl, h6⟩
  refine cbS hT 0 _ rfl (bnot h6) fun b7 h7 => ?_   -- not
  refine fin hT 0 rfl (th (ifP h7 rfl (fun e1 => ?_) (fun e1 => ?_)))
  · refine sq (rg (?_))
    refine fin hT 2 rfl (th (rt (rT (?_))))
    refine WQ.drop (WQ.em ?_)
    exact ret2 rfl rfl rfl ⟨rfl, outN (if_neg e1)⟩
  · refine sk (th (sq (rg (?_))))
    have hok : m.ok := Decidable.not_not.1 e1
    obtain ⟨k1, k2⟩ := fieldsOf_kind hok.1.1
    obtain ⟨⟨f1, f2⟩, ⟨t1, t2⟩⟩ := hok.1.2.1, hok.1.2.2.1
    obtain ⟨k, hk⟩ : ∃ k : Nat, m.kind = (k : Nat) := Int.eq_ofNat_of_zero_le (by omega)
    obtain ⟨f, hf⟩ : ∃ k : Nat, m.frm = (k : Nat) := Int.eq_ofNat_of_zero_le (by omega)
    obtain ⟨t, ht⟩ : ∃ k : Nat, m.to = (k : Nat) := Int.eq_ofNat_of_zero_le (by omega)
    refine ldp hT 1 0 rfl rfl rfl ?_   -- ref.go:282 t9 *t8
    refine ar hT 0 rfl (v' := .int .u8 ((k : Nat) : Int)) (by rw [hk, u8w (by omega)]) ?_
    refine ldp hT 1 0 rfl rfl rfl ?_   -- ref.go:282 t12 *t11
    refine ar hT 0 rfl (v' := .int .u8 ((f : Nat) : Int)) (by rw [hf, u8w (by omega)]) ?_
    refine ldp hT 1 0 rfl rfl rfl ?_   -- ref.go:282 t15 *t14
    refine ar hT 0 rfl (v' := .int .u8 ((t : Nat) : Int)) (by rw [ht, u8w (by omega)]) ?_
    refine lit hT 0 #[.int .u8 ((k : Nat) : Int), .int .u8 ((f : Nat) : Int), .int .u8 ((t : Nat) : Int)] rfl (by decide) (by kernel_rfl) fun b17 => ?_   -- ref.go:282 t17
    refine ldp hT 1 1 rfl rfl rfl ?_   -- ref.go:282 t19 *t18
    refine lit hT 0 #[.int .u64 (m.term : Nat)] rfl (by decide) (by kernel_rfl) fun b20 => ?_   -- ref.go:282 t20
    refine cl hT 0 rfl (Ct.at 1 rfl (uintsRef _ _ [UInt8.ofNat k, UInt8.ofNat f, UInt8.ofNat t] _ _ [m.term] (own3 b17 k f t (by omega) (by omega) (by omega)) (.inr ⟨0, rfl⟩) (isS_pt rfl rfl) (by simp; omega) (by simp) (by simp))) ?_   -- ref.go:282 t21
    rintro v21 K21 hs21 ⟨g21, rfl, rfl, ao21, c21, rfl, o21⟩
    have hh : [UInt8.ofNat k, UInt8.ofNat f, UInt8.ofNat t] ++ us [m.term] = hdr m := by simp [hdr, hk, hf, ht, us]
    rw [hh] at o21 ⊢
    have hhl := hdr_len m hbd
    have hbl := body_len hbd hok.2.1
    refine fin hT 1 rfl (th (WC.drop (sq (rg (?_)))))
    refine ldS hT 1 1 rfl rfl (by kernel_rfl) ?_   -- ref.go:283 t23 t1
    refine cl hT 0 rfl (bodyRef m p ao21 c21 _ hS hbd hok o21 (by omega)) ?_   -- ref.go:283 t24
    rintro v24 K24 hs24 ⟨g24, rfl, rfl, ao24, c24, rfl, o24⟩
    rw [show hdr m ++ pbyAll m (fieldsOf m.kind) = m.body from rfl] at o24 ⊢
    refine cl hT 0 rfl (sealRef ao24 c24 _ (.inr ⟨0, rfl⟩) o24.isS (by omega)) ?_   -- ref.go:283 t25
    rintro v25 K25 hs25 ⟨rfl, g25, rfl, (⟨hbig, rfl⟩ | ⟨hsm, ao25, c25, rfl, o25⟩)⟩
    · omega
    refine fin hT 4 rfl (th (rt (?_)))
    refine drop1Q (drop1Q ?_)
    exact ret2 rfl rfl rfl ⟨rfl, outS (if_pos hok) o25⟩
end Go.Proofs.Ythpiokdibknpaaa
namespace Go.Proofs.Ythpiokdibknpaaa
open Go.En
set_option linter.unusedVariables false
attribute [local irreducible] Code.wp wpList Calls

theorem entriesRef {w0 : World} {K : PH} {hs : List PH} (ao : Option Addr) (cap : Nat) (b : List UInt8) (x : IsS K ao b.length cap 1 (bv b)) (hl : b.length < 1099511627776) (p : Nat) (e : Int) (hp : p ≤ b.length) :
    Ct Try.prog w0 60 [rv ao b.length cap p e] K hs (fun v K' hs' => hs' = hs ∧ Le K K' ∧ ∃ p' ae ce, p' ≤ b.length ∧
      v = .tuple #[rv ao b.length cap p' (getEnts2 (rUint 8 (b.drop p, e)).1 (rUint 8 (b.drop p, e)).2 []).1.2, .slice ae (getEnts2 (rUint 8 (b.drop p, e)).1 (rUint 8 (b.drop p, e)).2 []).2.length ce] ∧
      (getEnts2 (rUint 8 (b.drop p, e)).1 (rUint 8 (b.drop p, e)).2 []).1.1 = b.drop p' ∧ EntsS K' ae ce (getEnts2 (rUint 8 (b.drop p, e)).1 (rUint 8 (b.drop p, e)).2 []).2) := by
  have hN := rUint_le 8 (b.drop p, e)
  refine enter Try.func60 (by kernel_rfl) rfl rfl rfl ?_
  refine sq (rg (?_))
  refine bx hT 0 rfl fun b1 => ?_   -- ref.go:287 t1
  refine al hT 0 (.agg #[.slice none 0 0, .int .i64 0, .int .i64 0]) rfl (by kernel_rfl) fun b2 => ?_   -- ref.go:287 t2
  refine fin hT 1 rfl (th (sq (rg (?_))))
  refine fin hT 1 rfl (th (sq (rg (?_))))
  refine ldS hT 0 1 rfl rfl (by kernel_rfl) ?_   -- ref.go:289 t12 t1
  refine cl hT 0 rfl (getUintRef ao cap b (.inl rfl) x hl p e hp 8) ?_   -- ref.go:289 t13
  rintro v13 K13 hs13 ⟨rfl, rfl, p1, hp1, rfl, hd1⟩
  refine stS hT 3 1 rfl rfl (by kernel_rfl) rfl rfl ?_   -- ref.go:289 tNone t1 := t14
  refine fin hT 1 rfl (th (sq (sq (rg (?_)))))
  generalize hs0 : rUint 8 (b.drop p, e) = s0 at hN hd1 ⊢
  obtain ⟨N, sb, se⟩ := s0
  dsimp only at hN hd1 ⊢
  subst hd1
  refine fin hT 1 rfl (th (bk (WC.em ?_)))
  refine loop (σ := Nat × Nat × Int × List Ent × PH × PH × Option Addr × Nat × List (List Value)) (fun s => [(1, Ptr b1), (2, Ptr b2), (4, .slice s.2.2.2.2.2.2.1 s.2.2.2.1.length s.2.2.2.2.2.2.2.1), (5, .int .u64 (N : Nat)), (6, .int .i64 (s.1 : Nat))]) (fun s => s.2.2.2.2.1)
    (fun s => s.2.2.2.2.2.1 :: pt b2 #[.slice none 0 0, .int .i64 0, .int .i64 0] 73 :: pt b1 #[.slice ao b.length cap, .int .i64 (s.2.1 : Nat), .int .i64 s.2.2.1] 73 :: hs)
    (fun s => Le K13 s.2.2.2.2.1 ∧ s.1 ≤ N ∧ s.2.1 ≤ b.length ∧ getEnts2 (N - s.1) (b.drop s.2.1, s.2.2.1) s.2.2.2.1 = getEnts2 N (b.drop p1, se) [] ∧ Own s.2.2.2.2.2.1 s.2.2.2.2.2.2.1 s.2.2.2.1.length s.2.2.2.2.2.2.2.1 43 4 s.2.2.2.2.2.2.2.2.flatten ∧ All2 (EntC s.2.2.2.2.1) s.2.2.2.2.2.2.2.2 s.2.2.2.1 ∧ s.2.2.2.1.length = s.1) (fun s => N - s.1)
    (0, p1, se, [], K13, em, none, 0, []) ⟨Le.refl _, Nat.zero_le _, hp1, rfl, Own.nil _ _, trivial, rfl⟩ ⟨rfl, rfl, rfl, rfl, rfl, trivial⟩ rfl rfl ?_
  rintro ⟨i, q, se', l, K', g, ae, ce, css⟩ ⟨hle, hi, hq, hge, o, hA, hll⟩
  dsimp only at hle hi hq hge o hA hll ⊢
  refine sq (sq (rg (?_)))
  refine ar hT 2 rfl (i64w (by omega)) ?_   -- ref.go:290 t18 convert t17
  refine cmpS hT 0 rfl fun b19 h19 => ?_   -- ref.go:290 t19 t16 < t18
  refine fin hT 0 rfl (th (ifP h19 rfl (fun e2 => ?_) (fun e2 => ?_)))
  · have hiN : i < N := by omega
    have hge2 : getEnts2 (N - (i + 1)) (rBytes 512 (b.drop q, se')).2 (l ++ [(getEnt (rBytes 512 (b.drop q, se')).1).getD Ent.zero]) = getEnts2 N (b.drop p1, se) [] := by
      rw [← hge, show N - i = (N - (i + 1)) + 1 from by omega]
      rfl
    have hbl := rBytes_len 512 (b.drop q, se')
    have hdl : (b.drop q).length ≤ b.length := by simp
    have hcl := All2.len hA
    refine sk (th (sq (bk (sq (rg (?_))))))
    refine ldS hT 0 2 rfl rfl (by kernel_rfl) ?_   -- ref.go:291 t23 t1
    refine cl hT 0 rfl (getBytesRef ao cap b (.inl rfl) (x.le hle) hl q se' hq 512 (by decide)) ?_   -- ref.go:291 t24
    rintro v24 K24 hs24 ⟨rfl, h4, rfl, q1, hq1, aox, cx, rfl, hd2, ox⟩
    refine al hT 3 (.agg #[.slice none 0 0, .int .i64 0, .int .i64 0]) rfl (by kernel_rfl) fun b7 => ?_   -- ref.go:291 t7
    refine stS hT 0 0 rfl rfl (by kernel_rfl) rfl rfl ?_   -- ref.go:291 tNone t7 := t25
    generalize hbb : rBytes 512 (b.drop q, se') = rb at hge2 hbl hd2 ox ⊢
    obtain ⟨xb, sb2, se2⟩ := rb
    dsimp only at hge2 hbl hd2 ox ⊢
    subst hd2
    refine fin hT 1 rfl (th (sq (rg (?_))))
    refine cl hT 1 rfl (getEntRef aox cx xb (.inr ⟨1, rfl⟩) ox.isS (by omega)) ?_   -- ref.go:292 t29
    rintro v29 K29 hs29 ⟨rfl, ge, aoe, ce', rfl, rfl, oe⟩
    generalize hee : (getEnt xb).getD Ent.zero = e' at oe hge2 ⊢
    refine al hT 3 (.agg #[.int .u64 0, .int .u64 0, .int .i64 0, .slice none 0 0]) rfl (by kernel_rfl) fun b9 => ?_   -- ref.go:292 t9
    refine stS hT 0 0 rfl rfl (by kernel_rfl) rfl rfl ?_   -- ref.go:292 tNone t9 := t30
    refine fin hT 1 rfl (th (sq (rg (?_))))
    refine ldS hT 1 0 rfl rfl (by kernel_rfl) ?_   -- ref.go:293 t33 t9
    refine lit hT 0 (e'.v aoe ce') rfl (by decide) (by kernel_rfl) fun b34 => ?_   -- ref.go:293 t34
    refine app hT 0 5 rfl rfl o (.inr ⟨0, rfl⟩) (Own.ofPt (b := b34) (c := e'.v aoe ce') (e := 43) (n := 1) (size := 4) rfl (by simp [maxLen])).isS rfl (by decide) (by simp [Ent.v]; exact ⟨rfl, rfl, rfl, rfl⟩) (by dsimp only; omega) (by simp only [maxLen]; omega) fun ao35 c35 g35 o35 => ?_
    have ecss : css.flatten ++ (e'.v aoe ce').toList = (css ++ [(e'.v aoe ce').toList]).flatten := by simp
    have elen : l.length + 1 = (l ++ [e']).length := by simp
    rw [ecss] at o35
    rw [elen] at o35 ⊢
    refine fin hT 1 rfl (th (WC.drop (WC.drop (WC.frz fun K2 le1 le2 => rg (?_)))))
    refine ldS hT 0 0 rfl rfl (by kernel_rfl) ?_   -- ref.go:294 t36 t7
    refine stS hT 0 4 rfl rfl (by kernel_rfl) rfl rfl ?_   -- ref.go:294 tNone t1 := t36
    refine fin hT 0 rfl (bl (th (WC.drop (WC.drop (rg (?_))))))
    refine ar hT 1 rfl (i64w (by omega)) ?_   -- ref.go:290 t21 t20 add 1
    refine fin hT 1 rfl (?_)
    exact again (x := (i, q, se', l, K29, g, ae, ce, css)) (i + 1, q1, se2, l ++ [e'], K2, g35, ao35, c35, css ++ [(e'.v aoe ce').toList]) ⟨rfl, rfl, rfl, rfl, rfl, trivial⟩ rfl rfl ⟨hle.trans le1, by omega, hq1, hge2, o35, All2.snoc ⟨aoe, ce', rfl, oe.isS.le le2⟩ (All2.imp (fun _ _ => EntC.le le1) hA), by simp; omega⟩ (by (try dsimp only); omega)
  · obtain rfl : i = N := by omega
    refine ex (xt (xt (xb (th (sq (rg (?_)))))))
    rw [Nat.sub_self] at hge
    have hfin : ((b.drop q, se'), l) = getEnts2 i (b.drop p1, se) [] := hge
    refine ldS hT 0 2 rfl rfl (by kernel_rfl) ?_   -- ref.go:296 t37 t1
    refine stS hT 1 1 rfl rfl (by kernel_rfl) rfl rfl ?_   -- ref.go:296 tNone t2 := t37
    refine fin hT 1 rfl (th (rt (?_)))
    refine WQ.frz fun K2 le1 le2 => ?_
    exact retcP 0 2 rfl rfl rfl rfl (by kernel_rfl) ⟨rfl, hle.trans le1, q, ae, ce, hq, by rw [← hfin]; rfl, by rw [← hfin], by rw [← hfin]; exact ⟨css, o.isS.le le2, All2.imp (fun _ _ => EntC.le le1) hA⟩⟩
end Go.Proofs.Ythpiokdibknpaaa
namespace Go.Proofs.Ythpiokdibknpaaa
open Go.En
set_option linter.unusedVariables false
attribute [local irreducible] Code.wp wpList Calls

section joink
variable {P : Program} {w0 : World} {Q : Exit → Act → World → Prop} {n : Nat} {l : Sl} {K : PH} {hs : List PH}
/-- branches that meet again, with more kept -/
def JK (w0 : World) {σ : Type} (F : σ → Sl) (HK : σ → PH) (H : σ → List PH) (J : σ → Prop) (n : Nat) (Q : Exit → Act → World → Prop) : Exit → Act → World → Prop
  | .normal, a, w => ∃ s, J s ∧ Ag n (F s) a ∧ Sat w0 w (HK s) (H s)
  | e, a, w => Q e a w
theorem jnk {σ : Type} {x y : Code} (F : σ → Sl) (HK : σ → PH) (H : σ → List PH) (J : σ → Prop) (h1 : WC P w0 x (JK w0 F HK H J n Q) n l K hs) (h2 : ∀ s, J s → WC P w0 y Q n (F s) (HK s) (H s)) : WC P w0 (.seq x y) Q n l K hs :=
  sq fun a w ha hw => Code.wp_mono (fun e a w h => by
    cases e with
    | normal => obtain ⟨s, hJ, ha, hw⟩ := h; exact h2 s hJ a w ha hw
    | _ => exact h) (h1 a w ha hw)
theorem jxk {σ : Type} {F : σ → Sl} {HK : σ → PH} {H : σ → List PH} {J : σ → Prop} (s : σ) (hJ : J s) (hF : Sub l (F s)) (hK : K = HK s) (hH : hs = H s) : WQ w0 (JK w0 F HK H J n Q) .normal n l K hs :=
  fun a w ha hw => ⟨s, hJ, ha.sub hF, by rw [← hK, ← hH]; exact hw⟩
end joink
theorem body_small : ∀ m : Msg, m.bd → m.ok → m.body.length ≤ 2097152 := fun m hbd hok => by have := body_len hbd hok.2.1; omega

theorem decodeRef {w0 : World} {K hb : PH} {hs : List PH} (ao : Option Addr) (cap : Nat) (b : List UInt8) (hm : In K hs hb) (x : IsS hb ao b.length cap 1 (bv b)) (hl : b.length < 1099511627776) :
    Ct Try.prog w0 32 [.slice ao b.length cap] K hs (fun v K' hs' => hs' = hs ∧ OutM (dec b) K v K') := by
  have hmx : mxU = 18446744073709551615 := rfl
  have hul := unsealed_len b
  rw [← decR_dec b body_small]
  have hde : decR b = if (unsealed b).2.2 = 0 ∧ (unsealed b).2.1 = b.length ∧ rEnd (rr8 (unsealed b).1).1 = 0 ∧ enc (rr8 (unsealed b).1).2 = some b then some (rr8 (unsealed b).1).2 else none := rfl
  have hrbd := rr_bd (unsealed b).1
  refine enter Try.func32 (by kernel_rfl) rfl rfl rfl ?_
  refine sq (rg (?_))
  refine al hT 0 (.agg #[.int .i64 0, .int .i64 0, .int .i64 0, .int .u64 0, .int .u64 0, .int .u64 0, .int .u64 0, .int .u64 0, .bool false, .slice none 0 0, .int .i64 0, .int .i64 0, .slice none 0 0, .slice none 0 0]) rfl (by kernel_rfl) fun b2 => ?_   -- ref.go:300 t2
  refine fin hT 1 rfl (th (sq (rg (?_))))
  refine cl hT 1 rfl (unsealRef ao cap b (In.cons hm) x hl) ?_   -- ref.go:301 t35
  rintro v35 K35 hs35 ⟨rfl, gx, rfl, aox, cx, rfl, ox⟩
  generalize hU : unsealed b = U at hul hde hrbd ox ⊢
  obtain ⟨xs, n, e⟩ := U
  dsimp only at hul hde hrbd ox ⊢
  refine fin hT 7 rfl (th (WC.frz fun K0 le1 le2 => sq (sq (rg (?_)))))
  refine cmpS hT 1 rfl fun b40 h40 => ?_   -- ref.go:302 t40 t39 ≠ 0
  refine' bjo hT 1 5 46 [40, 41] h40 rfl rfl rfl rfl rfl rfl rfl (fun _ => ?x2) (fun b46 h46 => ?_)   -- ref.go:302 t46
  case x2 =>
    refine cmpS hT 3 rfl fun b45 h45 => ?_   -- ref.go:302 t45 t42 ≠ t44
    exact fin hT 1 rfl (bjx h45 rfl rfl rfl)
  refine fin hT 0 rfl (th (ifP h46 rfl (fun e4 => ?_) (fun e4 => ?_)))
  · refine sq (rg (?_))
    refine bd hT 0 (.agg (mv Msg.zero p0)) rfl (fun w => by kernel_rfl) ?_   -- ref.go:303 t47
    refine stS hT 0 0 rfl rfl (by kernel_rfl) rfl rfl ?_   -- ref.go:303 tNone t2 := t47
    refine fin hT 1 rfl (th (rt (rT (?_))))
    exact retcP 0 1 rfl rfl rfl rfl (by kernel_rfl) ⟨rfl, outM_no (by rw [hde, if_neg]; rintro ⟨c1, c2, _⟩; omega) le1⟩
  · have x0 : IsS K0 aox xs.length cx 1 (bv xs) := ox.isS.le le2
    have hlx : xs.length < 1099511627776 := by omega
    refine sk (th (sq (rg (?_))))
    refine bd hT 1 (rv aox xs.length cx 0 0) rfl (fun w => by kernel_rfl) ?_   -- ref.go:305 t50
    refine cl hT 0 rfl (byteRef aox cx xs (.inl rfl) x0 hlx 0 0 (Nat.zero_le _)) ?_   -- ref.go:305 t51
    rintro v51 K51 hs51 ⟨rfl, rfl, q1, hq1, rfl, hd1⟩
    have hb1 := rByte_lt (xs, 0)
    rw [show xs.drop 0 = xs from rfl] at hd1 ⊢
    generalize hr1 : rByte (xs, 0) = r1 at hb1 hd1 ⊢
    obtain ⟨kk, sb1, e1⟩ := r1
    dsimp only at hb1 hd1 ⊢
    subst hd1
    refine al hT 3 (.agg #[.slice none 0 0, .int .i64 0, .int .i64 0]) rfl (by kernel_rfl) fun b7 => ?_   -- ref.go:305 t7
    refine stS hT 0 0 rfl rfl (by kernel_rfl) rfl rfl ?_   -- ref.go:305 tNone t7 := t52
    refine fin hT 1 rfl (th (sq (rg (?_))))
    refine ldS hT 0 0 rfl rfl (by kernel_rfl) ?_   -- ref.go:306 t55 t7
    refine cl hT 0 rfl (byteRef aox cx xs (.inl rfl) x0 hlx q1 e1 hq1) ?_   -- ref.go:306 t56
    rintro v56 K56 hs56 ⟨rfl, rfl, q2, hq2, rfl, hd2⟩
    have hb2 := rByte_lt (xs.drop q1, e1)
    generalize hr2 : rByte (xs.drop q1, e1) = r2 at hb2 hd2 ⊢
    obtain ⟨ff, sb2, e2⟩ := r2
    dsimp only at hb2 hd2 ⊢
    subst hd2
    refine stS hT 3 0 rfl rfl (by kernel_rfl) rfl rfl ?_   -- ref.go:306 tNone t7 := t57
    refine fin hT 1 rfl (th (sq (rg (?_))))
    refine ldS hT 0 0 rfl rfl (by kernel_rfl) ?_   -- ref.go:307 t60 t7
    refine cl hT 0 rfl (byteRef aox cx xs (.inl rfl) x0 hlx q2 e2 hq2) ?_   -- ref.go:307 t61
    rintro v61 K61 hs61 ⟨rfl, rfl, q3, hq3, rfl, hd3⟩
    have hb3 := rByte_lt (xs.drop q2, e2)
    generalize hr3 : rByte (xs.drop q2, e2) = r3 at hb3 hd3 ⊢
    obtain ⟨tt, sb3, e3⟩ := r3
    dsimp only at hb3 hd3 ⊢
    subst hd3
    refine stS hT 3 0 rfl rfl (by kernel_rfl) rfl rfl ?_   -- ref.go:307 tNone t7 := t62
    refine fin hT 1 rfl (th (sq (rg (?_))))
    refine ldS hT 0 0 rfl rfl (by kernel_rfl) ?_   -- ref.go:308 t65 t7
    refine cl hT 0 rfl (getUintRef aox cx xs (.inl rfl) x0 hlx q3 e3 hq3 mxU) ?_   -- ref.go:308 t66
    rintro v66 K66 hs66 ⟨rfl, rfl, q4, hq4, rfl, hd4⟩
    generalize hr4 : rUint mxU (xs.drop q3, e3) = r4 at hd4 ⊢
    obtain ⟨te, sb4, e4'⟩ := r4
    dsimp only at hd4 ⊢
    subst hd4
    refine stS hT 3 0 rfl rfl (by kernel_rfl) rfl rfl ?_   -- ref.go:308 tNone t7 := t67
    refine fin hT 1 rfl (th (sq (rg (?_))))
    refine ar hT 1 rfl (i64w (by omega)) ?_   -- ref.go:309 t70 convert t69
    refine ar hT 1 rfl (i64w (by omega)) ?_   -- ref.go:309 t72 convert t71
    refine ar hT 1 rfl (i64w (by omega)) ?_   -- ref.go:309 t74 convert t73
    refine bd hT 1 (.agg (mv { Msg.zero with kind := (kk : Nat), frm := (ff : Nat), to := (tt : Nat), term := te } p0)) rfl (fun w => by kernel_rfl) ?_   -- ref.go:309 t76
    refine al hT 0 (.agg #[.int .i64 0, .int .i64 0, .int .i64 0, .int .u64 0, .int .u64 0, .int .u64 0, .int .u64 0, .int .u64 0, .bool false, .slice none 0 0, .int .i64 0, .int .i64 0, .slice none 0 0, .slice none 0 0]) rfl (by kernel_rfl) fun b12 => ?_   -- ref.go:309 t12
    refine stS hT 0 0 rfl rfl (by kernel_rfl) rfl rfl ?_   -- ref.go:309 tNone t12 := t76
    have hX0 : hdrR xs = ((xs.drop q4, e4'), { Msg.zero with kind := (kk : Nat), frm := (ff : Nat), to := (tt : Nat), term := te }) := by unfold hdrR; simp only [hr1, hr2, hr3, hr4]
    obtain ⟨X1, hX1⟩ : ∃ X, X = rr1 xs := ⟨_, rfl⟩
    have g1 : X1 = gIf ((kk : Int) = 2 ∨ (kk : Int) = 4) [.good] ((xs.drop q4, e4'), { Msg.zero with kind := (kk : Nat), frm := (ff : Nat), to := (tt : Nat), term := te }) := by rw [hX1, rr1, hX0]
    obtain ⟨X2, hX2⟩ : ∃ X, X = rr2 xs := ⟨_, rfl⟩
    have g2 : X2 = gIf (¬ (kk : Int) = 2) [.idx] X1 := by rw [hX2, rr2, hX0, hX1]
    obtain ⟨X3, hX3⟩ : ∃ X, X = rr3 xs := ⟨_, rfl⟩
    have g3 : X3 = gIf (((kk : Int) = 1 ∨ (kk : Int) = 3) ∨ (kk : Int) = 5) [.lt] X2 := by rw [hX3, rr3, hX0, hX2]
    obtain ⟨X4, hX4⟩ : ∃ X, X = rr4 xs := ⟨_, rfl⟩
    have g4 : X4 = gIf ((kk : Int) = 3) [.com] X3 := by rw [hX4, rr4, hX0, hX3]
    obtain ⟨X5, hX5⟩ : ∃ X, X = rr5 xs := ⟨_, rfl⟩
    have g5 : X5 = gIf ((kk : Int) = 3 ∨ (kk : Int) = 4) [.rnd] X4 := by rw [hX5, rr5, hX0, hX4]
    obtain ⟨X6, hX6⟩ : ∃ X, X = rr6 xs := ⟨_, rfl⟩
    have g6 : X6 = gIf ((kk : Int) = 3) [.ents] X5 := by rw [hX6, rr6, hX0, hX5]
    obtain ⟨X7, hX7⟩ : ∃ X, X = rr7 xs := ⟨_, rfl⟩
    have g7 : X7 = gIf ((kk : Int) = 5 ∨ (kk : Int) = 6) [.off] X6 := by rw [hX7, rr7, hX0, hX6]
    obtain ⟨X8, hX8⟩ : ∃ X, X = rr8 xs := ⟨_, rfl⟩
    have g8 : X8 = gIf ((kk : Int) = 5) [.whole, .vot, .data] X7 := by rw [hX8, rr8, hX0, hX7]
    rw [← hX8] at hde hrbd
    refine fin hT 0 rfl (th (jnk (σ := Nat × MA × PH) (fun s => [(0, .slice ao b.length cap), (2, Ptr b2), (7, Ptr b7), (8, .int .u8 (kk : Nat)), (12, Ptr b12)]) (fun s => s.2.2) (fun s => pt b12 (mv X1.2 s.2.1) 51 :: pt b7 #[.slice aox xs.length cx, .int .i64 (s.1 : Nat), .int .i64 X1.1.2] 73 :: pt b2 (mv Msg.zero p0) 51 :: hs) (fun s => s.1 ≤ xs.length ∧ X1.1.1 = xs.drop s.1 ∧ Le K66 s.2.2 ∧ MsgS s.2.2 X1.2 s.2.1) ?_ ?_))
    · refine sq (rg (?_))
      refine cmpS hT 1 rfl fun b78 h78 => ?_   -- ref.go:310 t78 t77 = 2
      refine' bjo hT 1 3 82 [78, 79] h78 rfl rfl rfl rfl rfl rfl rfl (fun _ => ?x6) (fun b82 h82 => ?_)   -- ref.go:310 t82
      case x6 =>
        refine cmpS hT 1 rfl fun b81 h81 => ?_   -- ref.go:310 t81 t80 = 4
        exact fin hT 1 rfl (bjx h81 rfl rfl rfl)
      refine fin hT 0 rfl (th (ifP h82 rfl (fun e8 => ?_) (fun e8 => ?_)))
      · refine sq (rg (?_))
        refine ldS hT 0 1 rfl rfl (by kernel_rfl) ?_   -- ref.go:311 t84 t7
        refine cl hT 0 rfl (byteRef aox cx xs (.inl rfl) x0 hlx q4 e4' hq4) ?_   -- ref.go:311 t85
        rintro v85 K85 hs85 ⟨rfl, rfl, q5, hq5, rfl, hd5⟩
        refine al hT 3 (.agg #[.slice none 0 0, .int .i64 0, .int .i64 0]) rfl (by kernel_rfl) fun b13 => ?_   -- ref.go:311 t13
        refine stS hT 0 0 rfl rfl (by kernel_rfl) rfl rfl ?_   -- ref.go:311 tNone t13 := t86
        refine fin hT 1 rfl (th (sq (rg (?_))))
        refine cmpS hT 1 rfl fun b89 h89 => ?_   -- ref.go:312 t89 t88 = 1
        have hb89 : b89 = decide ((rByte (xs.drop q4, e4')).1 = 1) := by rw [Bool.eq_iff_iff, h89, decide_eq_true_iff]; omega
        subst hb89
        refine stp hT 1 1 rfl rfl rfl rfl ?_   -- ref.go:312 tNone t90 := t89
        refine fin hT 0 rfl (th (rg (?_)))
        refine ldS hT 0 0 rfl rfl (by kernel_rfl) ?_   -- ref.go:313 t91 t13
        refine stS hT 0 2 rfl rfl (by kernel_rfl) rfl rfl ?_   -- ref.go:313 tNone t7 := t91
        refine fin hT 0 rfl (WQ.drop ?_)
        obtain rfl : X1 = Fld.good.get2 (xs.drop q4, e4') { Msg.zero with kind := (kk : Nat), frm := (ff : Nat), to := (tt : Nat), term := te } := by rw [g1, gIf, if_pos e8]; rfl
        exact jxk (q5, p0, K85) ⟨hq5, hd5, Le.refl _, MsgS.zero _⟩ ⟨rfl, rfl, rfl, rfl, rfl, trivial⟩ rfl rfl
      · refine sk (?_)
        obtain rfl : X1 = ((xs.drop q4, e4'), { Msg.zero with kind := (kk : Nat), frm := (ff : Nat), to := (tt : Nat), term := te }) := by rw [g1, gIf, if_neg e8]
        exact jxk (q4, p0, K66) ⟨hq4, rfl, Le.refl _, MsgS.zero _⟩ ⟨rfl, rfl, rfl, rfl, rfl, trivial⟩ rfl rfl
    · rintro ⟨q, p, K'⟩ ⟨hq, hd, hle, hS⟩
      obtain ⟨⟨sb, se⟩, m⟩ := X1
      dsimp only at hq hd hle hS ⊢
      subst hd
      refine jnk (σ := Nat × MA × PH) (fun s => [(0, .slice ao b.length cap), (2, Ptr b2), (7, Ptr b7), (8, .int .u8 (kk : Nat)), (12, Ptr b12)]) (fun s => s.2.2) (fun s => pt b12 (mv X2.2 s.2.1) 51 :: pt b7 #[.slice aox xs.length cx, .int .i64 (s.1 : Nat), .int .i64 X2.1.2] 73 :: pt b2 (mv Msg.zero p0) 51 :: hs) (fun s => s.1 ≤ xs.length ∧ X2.1.1 = xs.drop s.1 ∧ Le K66 s.2.2 ∧ MsgS s.2.2 X2.2 s.2.1) ?_ ?_
      · refine sq (rg (?_))
        refine cmpS hT 1 rfl fun b93 h93 => ?_   -- ref.go:315 t93 t92 ≠ 2
        refine fin hT 0 rfl (th (ifP h93 rfl (fun e11 => ?_) (fun e11 => ?_)))
        · refine sq (rg (?_))
          refine ldS hT 0 1 rfl rfl (by kernel_rfl) ?_   -- ref.go:316 t95 t7
          refine cl hT 0 rfl (getUintRef aox cx xs (.inl rfl) (x0.le hle) hlx q se hq mxU) ?_   -- ref.go:316 t96
          rintro v96 K96 hs96 ⟨rfl, rfl, q', hq', rfl, hd'⟩
          refine al hT 3 (.agg #[.slice none 0 0, .int .i64 0, .int .i64 0]) rfl (by kernel_rfl) fun b15 => ?_   -- ref.go:316 t15
          refine stS hT 0 0 rfl rfl (by kernel_rfl) rfl rfl ?_   -- ref.go:316 tNone t15 := t97
          refine fin hT 1 rfl (th (sq (rg (?_))))
          refine stp hT 2 1 rfl rfl rfl rfl ?_   -- ref.go:317 tNone t100 := t99
          refine fin hT 0 rfl (th (rg (?_)))
          refine ldS hT 0 0 rfl rfl (by kernel_rfl) ?_   -- ref.go:318 t101 t15
          refine stS hT 0 2 rfl rfl (by kernel_rfl) rfl rfl ?_   -- ref.go:318 tNone t7 := t101
          refine fin hT 0 rfl (WQ.drop ?_)
          obtain rfl : X2 = Fld.idx.get2 (xs.drop q, se) m := by rw [g2, gIf, if_pos e11]; rfl
          exact jxk (q', p, K96) ⟨hq', hd', hle, hS⟩ ⟨rfl, rfl, rfl, rfl, rfl, trivial⟩ rfl rfl
        · refine sk (?_)
          obtain rfl : X2 = ((xs.drop q, se), m) := by rw [g2, gIf, if_neg e11]
          exact jxk (q, p, K') ⟨hq, rfl, hle, hS⟩ ⟨rfl, rfl, rfl, rfl, rfl, trivial⟩ rfl rfl
      · rintro ⟨q, p, K'⟩ ⟨hq, hd, hle, hS⟩
        obtain ⟨⟨sb, se⟩, m⟩ := X2
        dsimp only at hq hd hle hS ⊢
        subst hd
        refine jnk (σ := Nat × MA × PH) (fun s => [(0, .slice ao b.length cap), (2, Ptr b2), (7, Ptr b7), (8, .int .u8 (kk : Nat)), (12, Ptr b12)]) (fun s => s.2.2) (fun s => pt b12 (mv X3.2 s.2.1) 51 :: pt b7 #[.slice aox xs.length cx, .int .i64 (s.1 : Nat), .int .i64 X3.1.2] 73 :: pt b2 (mv Msg.zero p0) 51 :: hs) (fun s => s.1 ≤ xs.length ∧ X3.1.1 = xs.drop s.1 ∧ Le K66 s.2.2 ∧ MsgS s.2.2 X3.2 s.2.1) ?_ ?_
        · refine sq (rg (?_))
          refine cmpS hT 1 rfl fun b103 h103 => ?_   -- ref.go:320 t103 t102 = 1
          refine' bjo hT 1 3 107 [103, 104] h103 rfl rfl rfl rfl rfl rfl rfl (fun _ => ?x13) (fun b107 h107 => ?_)   -- ref.go:320 t107
          case x13 =>
            refine cmpS hT 1 rfl fun b106 h106 => ?_   -- ref.go:320 t106 t105 = 3
            exact fin hT 1 rfl (bjx h106 rfl rfl rfl)
          refine' bjo hT 1 3 111 [107, 108] h107 rfl rfl rfl rfl rfl rfl rfl (fun _ => ?x15) (fun b111 h111 => ?_)   -- ref.go:320 t111
          case x15 =>
            refine cmpS hT 1 rfl fun b110 h110 => ?_   -- ref.go:320 t110 t109 = 5
            exact fin hT 1 rfl (bjx h110 rfl rfl rfl)
          refine fin hT 0 rfl (th (ifP h111 rfl (fun e17 => ?_) (fun e17 => ?_)))
          · refine sq (rg (?_))
            refine ldS hT 0 1 rfl rfl (by kernel_rfl) ?_   -- ref.go:321 t113 t7
            refine cl hT 0 rfl (getUintRef aox cx xs (.inl rfl) (x0.le hle) hlx q se hq mxU) ?_   -- ref.go:321 t114
            rintro v114 K114 hs114 ⟨rfl, rfl, q', hq', rfl, hd'⟩
            refine al hT 3 (.agg #[.slice none 0 0, .int .i64 0, .int .i64 0]) rfl (by kernel_rfl) fun b17 => ?_   -- ref.go:321 t17
            refine stS hT 0 0 rfl rfl (by kernel_rfl) rfl rfl ?_   -- ref.go:321 tNone t17 := t115
            refine fin hT 1 rfl (th (sq (rg (?_))))
            refine stp hT 2 1 rfl rfl rfl rfl ?_   -- ref.go:322 tNone t118 := t117
            refine fin hT 0 rfl (th (rg (?_)))
            refine ldS hT 0 0 rfl rfl (by kernel_rfl) ?_   -- ref.go:323 t119 t17
            refine stS hT 0 2 rfl rfl (by kernel_rfl) rfl rfl ?_   -- ref.go:323 tNone t7 := t119
            refine fin hT 0 rfl (WQ.drop ?_)
            obtain rfl : X3 = Fld.lt.get2 (xs.drop q, se) m := by rw [g3, gIf, if_pos e17]; rfl
            exact jxk (q', p, K114) ⟨hq', hd', hle, hS⟩ ⟨rfl, rfl, rfl, rfl, rfl, trivial⟩ rfl rfl
          · refine sk (?_)
            obtain rfl : X3 = ((xs.drop q, se), m) := by rw [g3, gIf, if_neg e17]
            exact jxk (q, p, K') ⟨hq, rfl, hle, hS⟩ ⟨rfl, rfl, rfl, rfl, rfl, trivial⟩ rfl rfl
        · rintro ⟨q, p, K'⟩ ⟨hq, hd, hle, hS⟩
          obtain ⟨⟨sb, se⟩, m⟩ := X3
          dsimp only at hq hd hle hS ⊢
          subst hd
          refine jnk (σ := Nat × MA × PH) (fun s => [(0, .slice ao b.length cap), (2, Ptr b2), (7, Ptr b7), (8, .int .u8 (kk : Nat)), (12, Ptr b12)]) (fun s => s.2.2) (fun s => pt b12 (mv X4.2 s.2.1) 51 :: pt b7 #[.slice aox xs.length cx, .int .i64 (s.1 : Nat), .int .i64 X4.1.2] 73 :: pt b2 (mv Msg.zero p0) 51 :: hs) (fun s => s.1 ≤ xs.length ∧ X4.1.1 = xs.drop s.1 ∧ Le K66 s.2.2 ∧ MsgS s.2.2 X4.2 s.2.1) ?_ ?_
          · refine sq (rg (?_))
            refine cmpS hT 1 rfl fun b121 h121 => ?_   -- ref.go:325 t121 t120 = 3
            refine fin hT 0 rfl (th (ifP h121 rfl (fun e19 => ?_) (fun e19 => ?_)))
            · refine sq (rg (?_))
              refine ldS hT 0 1 rfl rfl (by kernel_rfl) ?_   -- ref.go:326 t123 t7
              refine cl hT 0 rfl (getUintRef aox cx xs (.inl rfl) (x0.le hle) hlx q se hq mxU) ?_   -- ref.go:326 t124
              rintro v124 K124 hs124 ⟨rfl, rfl, q', hq', rfl, hd'⟩
              refine al hT 3 (.agg #[.slice none 0 0, .int .i64 0, .int .i64 0]) rfl (by kernel_rfl) fun b19 => ?_   -- ref.go:326 t19
              refine stS hT 0 0 rfl rfl (by kernel_rfl) rfl rfl ?_   -- ref.go:326 tNone t19 := t125
              refine fin hT 1 rfl (th (sq (rg (?_))))
              refine stp hT 2 1 rfl rfl rfl rfl ?_   -- ref.go:327 tNone t128 := t127
              refine fin hT 0 rfl (th (rg (?_)))
              refine ldS hT 0 0 rfl rfl (by kernel_rfl) ?_   -- ref.go:328 t129 t19
              refine stS hT 0 2 rfl rfl (by kernel_rfl) rfl rfl ?_   -- ref.go:328 tNone t7 := t129
              refine fin hT 0 rfl (WQ.drop ?_)
              obtain rfl : X4 = Fld.com.get2 (xs.drop q, se) m := by rw [g4, gIf, if_pos e19]; rfl
              exact jxk (q', p, K124) ⟨hq', hd', hle, hS⟩ ⟨rfl, rfl, rfl, rfl, rfl, trivial⟩ rfl rfl
            · refine sk (?_)
              obtain rfl : X4 = ((xs.drop q, se), m) := by rw [g4, gIf, if_neg e19]
              exact jxk (q, p, K') ⟨hq, rfl, hle, hS⟩ ⟨rfl, rfl, rfl, rfl, rfl, trivial⟩ rfl rfl
          · rintro ⟨q, p, K'⟩ ⟨hq, hd, hle, hS⟩
            obtain ⟨⟨sb, se⟩, m⟩ := X4
            dsimp only at hq hd hle hS ⊢
            subst hd
            refine jnk (σ := Nat × MA × PH) (fun s => [(0, .slice ao b.length cap), (2, Ptr b2), (7, Ptr b7), (8, .int .u8 (kk : Nat)), (12, Ptr b12)]) (fun s => s.2.2) (fun s => pt b12 (mv X5.2 s.2.1) 51 :: pt b7 #[.slice aox xs.length cx, .int .i64 (s.1 : Nat), .int .i64 X5.1.2] 73 :: pt b2 (mv Msg.zero p0) 51 :: hs) (fun s => s.1 ≤ xs.length ∧ X5.1.1 = xs.drop s.1 ∧ Le K66 s.2.2 ∧ MsgS s.2.2 X5.2 s.2.1) ?_ ?_
            · refine sq (rg (?_))
              refine cmpS hT 1 rfl fun b131 h131 => ?_   -- ref.go:330 t131 t130 = 3
              refine' bjo hT 1 3 135 [131, 132] h131 rfl rfl rfl rfl rfl rfl rfl (fun _ => ?x21) (fun b135 h135 => ?_)   -- ref.go:330 t135
              case x21 =>
                refine cmpS hT 1 rfl fun b134 h134 => ?_   -- ref.go:330 t134 t133 = 4
                exact fin hT 1 rfl (bjx h134 rfl rfl rfl)
              refine fin hT 0 rfl (th (ifP h135 rfl (fun e23 => ?_) (fun e23 => ?_)))
              · refine sq (rg (?_))
                refine ldS hT 0 1 rfl rfl (by kernel_rfl) ?_   -- ref.go:331 t137 t7
                refine cl hT 0 rfl (getUintRef aox cx xs (.inl rfl) (x0.le hle) hlx q se hq mxU) ?_   -- ref.go:331 t138
                rintro v138 K138 hs138 ⟨rfl, rfl, q', hq', rfl, hd'⟩
                refine al hT 3 (.agg #[.slice none 0 0, .int .i64 0, .int .i64 0]) rfl (by kernel_rfl) fun b21 => ?_   -- ref.go:331 t21
                refine stS hT 0 0 rfl rfl (by kernel_rfl) rfl rfl ?_   -- ref.go:331 tNone t21 := t139
                refine fin hT 1 rfl (th (sq (rg (?_))))
                refine stp hT 2 1 rfl rfl rfl rfl ?_   -- ref.go:332 tNone t142 := t141
                refine fin hT 0 rfl (th (rg (?_)))
                refine ldS hT 0 0 rfl rfl (by kernel_rfl) ?_   -- ref.go:333 t143 t21
                refine stS hT 0 2 rfl rfl (by kernel_rfl) rfl rfl ?_   -- ref.go:333 tNone t7 := t143
                refine fin hT 0 rfl (WQ.drop ?_)
                obtain rfl : X5 = Fld.rnd.get2 (xs.drop q, se) m := by rw [g5, gIf, if_pos e23]; rfl
                exact jxk (q', p, K138) ⟨hq', hd', hle, hS⟩ ⟨rfl, rfl, rfl, rfl, rfl, trivial⟩ rfl rfl
              · refine sk (?_)
                obtain rfl : X5 = ((xs.drop q, se), m) := by rw [g5, gIf, if_neg e23]
                exact jxk (q, p, K') ⟨hq, rfl, hle, hS⟩ ⟨rfl, rfl, rfl, rfl, rfl, trivial⟩ rfl rfl
            · rintro ⟨q, p, K'⟩ ⟨hq, hd, hle, hS⟩
              obtain ⟨⟨sb, se⟩, m⟩ := X5
              dsimp only at hq hd hle hS ⊢
              subst hd
              refine jnk (σ := Nat × MA × PH) (fun s => [(0, .slice ao b.length cap), (2, Ptr b2), (7, Ptr b7), (8, .int .u8 (kk : Nat)), (12, Ptr b12)]) (fun s => s.2.2) (fun s => pt b12 (mv X6.2 s.2.1) 51 :: pt b7 #[.slice aox xs.length cx, .int .i64 (s.1 : Nat), .int .i64 X6.1.2] 73 :: pt b2 (mv Msg.zero p0) 51 :: hs) (fun s => s.1 ≤ xs.length ∧ X6.1.1 = xs.drop s.1 ∧ Le K66 s.2.2 ∧ MsgS s.2.2 X6.2 s.2.1) ?_ ?_
              · refine sq (rg (?_))
                refine cmpS hT 1 rfl fun b145 h145 => ?_   -- ref.go:335 t145 t144 = 3
                refine fin hT 0 rfl (th (ifP h145 rfl (fun e25 => ?_) (fun e25 => ?_)))
                · refine rg (?_)
                  refine ldS hT 0 1 rfl rfl (by kernel_rfl) ?_   -- ref.go:336 t147 t7
                  refine cl hT 0 rfl (entriesRef aox cx xs (x0.le hle) hlx q se hq) ?_   -- ref.go:336 t148
                  rintro v148 K148 hs148 ⟨rfl, le3, q', ae, ce, hq', rfl, hd', hE⟩
                  refine stS hT 3 1 rfl rfl (by kernel_rfl) rfl rfl ?_   -- ref.go:336 tNone t7 := t149
                  refine stp hT 1 0 rfl rfl rfl rfl ?_   -- ref.go:336 tNone t151 := t150
                  refine fin hT 0 rfl (?_)
                  obtain rfl : X6 = Fld.ents.get2 (xs.drop q, se) m := by rw [g6, gIf, if_pos e25]; rfl
                  exact jxk (q', { p with ae := ae, ce := ce }, K148) ⟨hq', hd', hle.trans le3, hE, (hS.le le3).2⟩ ⟨rfl, rfl, rfl, rfl, rfl, trivial⟩ rfl rfl
                · refine sk (?_)
                  obtain rfl : X6 = ((xs.drop q, se), m) := by rw [g6, gIf, if_neg e25]
                  exact jxk (q, p, K') ⟨hq, rfl, hle, hS⟩ ⟨rfl, rfl, rfl, rfl, rfl, trivial⟩ rfl rfl
              · rintro ⟨q, p, K'⟩ ⟨hq, hd, hle, hS⟩
                obtain ⟨⟨sb, se⟩, m⟩ := X6
                dsimp only at hq hd hle hS ⊢
                subst hd
                refine jnk (σ := Nat × MA × PH) (fun s => [(0, .slice ao b.length cap), (2, Ptr b2), (7, Ptr b7), (8, .int .u8 (kk : Nat)), (12, Ptr b12)]) (fun s => s.2.2) (fun s => pt b12 (mv X7.2 s.2.1) 51 :: pt b7 #[.slice aox xs.length cx, .int .i64 (s.1 : Nat), .int .i64 X7.1.2] 73 :: pt b2 (mv Msg.zero p0) 51 :: hs) (fun s => s.1 ≤ xs.length ∧ X7.1.1 = xs.drop s.1 ∧ Le K66 s.2.2 ∧ MsgS s.2.2 X7.2 s.2.1) ?_ ?_
                · refine sq (rg (?_))
                  refine cmpS hT 1 rfl fun b153 h153 => ?_   -- ref.go:338 t153 t152 = 5
                  refine' bjo hT 1 3 157 [153, 154] h153 rfl rfl rfl rfl rfl rfl rfl (fun _ => ?x27) (fun b157 h157 => ?_)   -- ref.go:338 t157
                  case x27 =>
                    refine cmpS hT 1 rfl fun b156 h156 => ?_   -- ref.go:338 t156 t155 = 6
                    exact fin hT 1 rfl (bjx h156 rfl rfl rfl)
                  refine fin hT 0 rfl (th (ifP h157 rfl (fun e29 => ?_) (fun e29 => ?_)))
                  · refine sq (rg (?_))
                    refine ldS hT 0 1 rfl rfl (by kernel_rfl) ?_   -- ref.go:339 t159 t7
                    refine cl hT 0 rfl (getUintRef aox cx xs (.inl rfl) (x0.le hle) hlx q se hq 2097152) ?_   -- ref.go:339 t160
                    rintro v160 K160 hs160 ⟨rfl, rfl, q', hq', rfl, hd'⟩
                    have hwl := rUint_le 2097152 (xs.drop q, se)
                    refine al hT 3 (.agg #[.slice none 0 0, .int .i64 0, .int .i64 0]) rfl (by kernel_rfl) fun b23 => ?_   -- ref.go:339 t23
                    refine stS hT 0 0 rfl rfl (by kernel_rfl) rfl rfl ?_   -- ref.go:339 tNone t23 := t161
                    refine fin hT 1 rfl (th (sq (rg (?_))))
                    refine ar hT 1 rfl (i64w (by omega)) ?_   -- ref.go:340 t164 convert t163
                    refine stp hT 1 1 rfl rfl rfl rfl ?_   -- ref.go:340 tNone t165 := t164
                    refine fin hT 0 rfl (th (rg (?_)))
                    refine ldS hT 0 0 rfl rfl (by kernel_rfl) ?_   -- ref.go:341 t166 t23
                    refine stS hT 0 2 rfl rfl (by kernel_rfl) rfl rfl ?_   -- ref.go:341 tNone t7 := t166
                    refine fin hT 0 rfl (WQ.drop ?_)
                    obtain rfl : X7 = Fld.off.get2 (xs.drop q, se) m := by rw [g7, gIf, if_pos e29]; rfl
                    exact jxk (q', p, K160) ⟨hq', hd', hle, hS⟩ ⟨rfl, rfl, rfl, rfl, rfl, trivial⟩ rfl rfl
                  · refine sk (?_)
                    obtain rfl : X7 = ((xs.drop q, se), m) := by rw [g7, gIf, if_neg e29]
                    exact jxk (q, p, K') ⟨hq, rfl, hle, hS⟩ ⟨rfl, rfl, rfl, rfl, rfl, trivial⟩ rfl rfl
                · rintro ⟨q, p, K'⟩ ⟨hq, hd, hle, hS⟩
                  obtain ⟨⟨sb, se⟩, m⟩ := X7
                  dsimp only at hq hd hle hS ⊢
                  subst hd
                  refine jnk (σ := Nat × MA × PH) (fun s => [(0, .slice ao b.length cap), (2, Ptr b2), (7, Ptr b7), (8, .int .u8 (kk : Nat)), (12, Ptr b12)]) (fun s => s.2.2) (fun s => pt b12 (mv X8.2 s.2.1) 51 :: pt b7 #[.slice aox xs.length cx, .int .i64 (s.1 : Nat), .int .i64 X8.1.2] 73 :: pt b2 (mv Msg.zero p0) 51 :: hs) (fun s => s.1 ≤ xs.length ∧ X8.1.1 = xs.drop s.1 ∧ Le K66 s.2.2 ∧ MsgS s.2.2 X8.2 s.2.1) ?_ ?_
                  · refine sq (rg (?_))
                    refine cmpS hT 1 rfl fun b168 h168 => ?_   -- ref.go:343 t168 t167 = 5
                    refine fin hT 0 rfl (th (ifP h168 rfl (fun e31 => ?_) (fun e31 => ?_)))
                    · refine sq (rg (?_))
                      refine ldS hT 0 1 rfl rfl (by kernel_rfl) ?_   -- ref.go:344 t170 t7
                      refine cl hT 0 rfl (getUintRef aox cx xs (.inl rfl) (x0.le hle) hlx q se hq 2097152) ?_   -- ref.go:344 t171
                      rintro v171 K171 hs171 ⟨rfl, rfl, q1', hq1', rfl, hd1'⟩
                      have hwl := rUint_le 2097152 (xs.drop q, se)
                      generalize hu1 : rUint 2097152 (xs.drop q, se) = u1 at hwl hd1' ⊢
                      obtain ⟨ww, wb, we⟩ := u1
                      dsimp only at hwl hd1' ⊢
                      subst hd1'
                      refine al hT 3 (.agg #[.slice none 0 0, .int .i64 0, .int .i64 0]) rfl (by kernel_rfl) fun b25 => ?_   -- ref.go:344 t25
                      refine stS hT 0 0 rfl rfl (by kernel_rfl) rfl rfl ?_   -- ref.go:344 tNone t25 := t172
                      refine fin hT 1 rfl (th (sq (rg (?_))))
                      refine ldS hT 0 0 rfl rfl (by kernel_rfl) ?_   -- ref.go:345 t175 t25
                      refine cl hT 0 rfl (byteRef aox cx xs (.inl rfl) (x0.le hle) hlx q1' we hq1') ?_   -- ref.go:345 t176
                      rintro v176 K176 hs176 ⟨rfl, rfl, q2', hq2', rfl, hd2'⟩
                      have hcl := rByte_lt (xs.drop q1', we)
                      generalize hu2 : rByte (xs.drop q1', we) = u2 at hcl hd2' ⊢
                      obtain ⟨cc, cb, cerr⟩ := u2
                      dsimp only at hcl hd2' ⊢
                      subst hd2'
                      refine stS hT 3 0 rfl rfl (by kernel_rfl) rfl rfl ?_   -- ref.go:345 tNone t25 := t177
                      refine fin hT 1 rfl (th (sq (rg (?_))))
                      refine ldS hT 0 0 rfl rfl (by kernel_rfl) ?_   -- ref.go:346 t180 t25
                      refine cl hT 0 rfl (getBytesRef aox cx xs (.inl rfl) (x0.le hle) hlx q2' cerr hq2' 256 (by decide)) ?_   -- ref.go:346 t181
                      rintro v181 K181 hs181 ⟨rfl, gd, rfl, q3', hq3', aod, cd, rfl, hd3', od⟩
                      generalize hu3 : rBytes 256 (xs.drop q2', cerr) = u3 at hd3' od ⊢
                      obtain ⟨dd, db, derr⟩ := u3
                      dsimp only at hd3' od ⊢
                      subst hd3'
                      refine stS hT 3 1 rfl rfl (by kernel_rfl) rfl rfl ?_   -- ref.go:346 tNone t25 := t182
                      refine fin hT 1 rfl (th (sq (rg (?_))))
                      refine lit hT 1 #[.int .u8 ((cc : Nat) : Int)] rfl (by decide) (by kernel_rfl) fun b186 => ?_   -- ref.go:347 t186
                      refine cl hT 0 rfl (getConfRef _ _ [UInt8.ofNat cc] (.inr ⟨0, rfl⟩) (isS_byte b186 cc hcl) (by simp)) ?_   -- ref.go:347 t187
                      rintro v187 K187 hs187 ⟨rfl, gv, aov, cv, rfl, rfl, ov⟩
                      refine al hT 3 (.agg #[.slice none 0 0]) rfl (by kernel_rfl) fun b29 => ?_   -- ref.go:347 t29
                      refine stS hT 0 0 rfl rfl (by kernel_rfl) rfl rfl ?_   -- ref.go:347 tNone t29 := t188
                      refine fin hT 1 rfl (th (sq (rg (?_))))
                      refine ar hT 1 rfl (i64w (by omega)) ?_   -- ref.go:348 t191 convert t190
                      refine stp hT 1 5 rfl rfl rfl rfl ?_   -- ref.go:348 tNone t192 := t191
                      refine fin hT 0 rfl (th (sq (rg (?_))))
                      refine ldp hT 1 0 rfl rfl rfl ?_   -- ref.go:349 t194 *t193
                      refine stp hT 1 5 rfl rfl rfl rfl ?_   -- ref.go:349 tNone t195 := t194
                      refine fin hT 0 rfl (th (sq (rg (?_))))
                      refine stp hT 2 5 rfl rfl rfl rfl ?_   -- ref.go:350 tNone t197 := t196
                      refine fin hT 0 rfl (th (rg (?_)))
                      refine ldS hT 0 4 rfl rfl (by kernel_rfl) ?_   -- ref.go:351 t198 t25
                      refine stS hT 0 6 rfl rfl (by kernel_rfl) rfl rfl ?_   -- ref.go:351 tNone t7 := t198
                      refine fin hT 0 rfl (WQ.drop (WQ.frz fun Ka la1 la2 => WQ.drop (WQ.frz fun Kb lb1 lb2 => WQ.drop ?_)))
                      obtain rfl : X8 = ((xs.drop q3', derr), { m with whole := (ww : Nat), vot := (getConf [UInt8.ofNat cc]).getD [], data := dd }) := by rw [g8, gIf, if_pos e31]; simp only [getAll2, Fld.get2, Fld.get, hu1, hu2, hu3]
                      exact jxk (q3', { p with av := aov, cv := cv, ad := aod, cd := cd }, Kb) ⟨hq3', rfl, hle.trans (la1.trans lb1), (hS.1.le la1).le lb1, (ov.isS.le la2).le lb1, od.isS.le lb2⟩ ⟨rfl, rfl, rfl, rfl, rfl, trivial⟩ rfl rfl
                    · refine sk (?_)
                      obtain rfl : X8 = ((xs.drop q, se), m) := by rw [g8, gIf, if_neg e31]
                      exact jxk (q, p, K') ⟨hq, rfl, hle, hS⟩ ⟨rfl, rfl, rfl, rfl, rfl, trivial⟩ rfl rfl
                  · rintro ⟨q, p, K'⟩ ⟨hq, hd, hle, hS⟩
                    obtain ⟨⟨sb, se⟩, m⟩ := X8
                    dsimp only at hq hd hle hS ⊢
                    subst hd
                    dsimp only at hrbd hde
                    obtain ⟨y, hmy, hly⟩ := In.le hm (le1.trans hle)
                    refine sq (rg (?_))
                    refine ldS hT 0 0 rfl rfl (by kernel_rfl) ?_   -- ref.go:353 t200 t12
                    refine cl hT 0 rfl (encodeRef m p hS hrbd) ?_   -- ref.go:353 t201
                    rintro v201 K201 hs201 ⟨rfl, g, aog, cg, rfl, rfl, og⟩
                    refine fin hT 5 rfl (th (sq (sq (rg (?_)))))
                    refine ldS hT 0 2 rfl rfl (by kernel_rfl) ?_   -- ref.go:354 t204 t7
                    refine cl hT 0 rfl (endRef aox cx xs q se hq) ?_   -- ref.go:354 t205
                    rintro v205 K205 hs205 ⟨rfl, rfl, rfl⟩
                    refine cmpS hT 0 rfl fun b206 h206 => ?_   -- ref.go:354 t206 t205 ≠ 0
                    refine' bjo hT 1 3 210 [206, 207] h206 rfl rfl rfl rfl rfl rfl rfl (fun _ => ?x33) (fun b210 h210 => ?_)   -- ref.go:354 t210
                    case x33 =>
                      refine cmpS hT 1 rfl fun b209 h209 => ?_   -- ref.go:354 t209 t208 ≠ 0
                      exact fin hT 1 rfl (bjx h209 rfl rfl rfl)
                    refine' bjo hT 1 6 217 [210, 211] h210 rfl rfl rfl rfl rfl rfl rfl (fun _ => ?x35) (fun b217 h217 => ?_)   -- ref.go:354 t217
                    case x35 =>
                      refine cvs hT 1 _ rfl (.inr ⟨0, rfl⟩) og.isS (by kernel_rfl) ?_   -- ref.go:354 t213 t212
                      refine cvs hT 1 b rfl (In.cons4 hmy) (x.le hly) (by kernel_rfl) ?_   -- ref.go:354 t215 t214
                      refine snS hT 0 rfl fun b216 h216 => ?_   -- ref.go:354 t216 t213 ≠ t215
                      exact fin hT 1 rfl (bjx h216 rfl rfl rfl)
                    refine fin hT 0 rfl (th (ifP h217 rfl (fun e37 => ?_) (fun e37 => ?_)))
                    · refine sq (rg (?_))
                      refine bd hT 0 (.agg (mv Msg.zero p0)) rfl (fun w => by kernel_rfl) ?_   -- ref.go:355 t218
                      refine stS hT 0 3 rfl rfl (by kernel_rfl) rfl rfl ?_   -- ref.go:355 tNone t2 := t218
                      refine fin hT 1 rfl (th (rt (rT (?_))))
                      exact retcP 3 4 rfl rfl rfl rfl (by kernel_rfl) ⟨rfl, outM_no (by rw [hde, if_neg]; rintro ⟨_, _, c3, c4⟩; rw [c3, c4] at e37; simp [ec, ob] at e37) (le1.trans hle)⟩
                    · have hdm : decR b = some m := by
                        simp only [not_or, Decidable.not_not] at e37 e4
                        rw [hde, if_pos ⟨e4.1, by omega, e37.1.1, ec_ob.1 ⟨e37.1.2, e37.2⟩⟩]
                      refine sk (th (sq (rg (?_))))
                      refine ldS hT 0 1 rfl rfl (by kernel_rfl) ?_   -- ref.go:357 t219 t12
                      refine stS hT 0 3 rfl rfl (by kernel_rfl) rfl rfl ?_   -- ref.go:357 tNone t2 := t219
                      refine fin hT 1 rfl (th (rt (?_)))
                      exact retcP 3 4 rfl rfl rfl rfl (by kernel_rfl) ⟨rfl, by rw [hdm]; exact ⟨le1.trans hle, p, rfl, hS⟩⟩
end Go.Proofs.Ythpiokdibknpaaa
namespace Go.Proofs.Ythpiokdibknpaaa
open Go.En
set_option linter.unusedVariables false
attribute [local irreducible] Code.wp wpList Calls

def acC : Cmd := ⟨2, 1, 2, [97, 98], 5⟩
def amM : Msg := { Msg.zero with kind := 2, to := 1, term := 3, good := true }
theorem acC_put : putCmd acC = some [2, 1, 2, 2, 97, 98, 5] := by decide +kernel
theorem acV_put : putConf [0, 2] = some [5] := by decide +kernel
theorem amM_bd : amM.bd where
  term := by decide
  idx := by decide
  lt := by decide
  com := by decide
  rnd := by decide
  off := by decide
  whole := by decide
  ents := fun e (he : e ∈ []) => by simp at he
  entsL := Nat.zero_le _
  vot := fun e (he : e ∈ []) => by simp at he
  votL := Nat.zero_le _
  dataL := Nat.zero_le _
theorem amM_ok : amM.ok := by decide +kernel
theorem amM_enc : enc amM = some (sealed amM.body) := if_pos amM_ok
theorem amM_dec : dec (ob (enc amM)) = some amM := (dec_iff _ _ body_small).2 ⟨by rw [amM_enc]; rfl, amM_bd⟩
theorem aliveMC {w0 : World} {K : PH} {hs : List PH} : Ct Try.prog w0 17 [] K hs (fun v K' hs' => K' = K ∧ hs' = hs ∧ ∃ t : Bool, v = .bool t ∧ (t = true ↔ True)) := by
  refine enter Try.func17 (by kernel_rfl) rfl rfl rfl ?_
  refine sq (rg (?_))
  refine fin hT 1 rfl (th (sq (rg (?_))))
  refine bd hT 0 (.agg acC.v) rfl (fun w => by kernel_rfl) ?_   -- law.go:12 t10
  refine cl hT 0 rfl (putCmdC acC (by decide) (by decide)) ?_   -- law.go:12 t11
  rintro v11 K11 hs11 ⟨rfl, g1, ao1, c1, rfl, rfl, o1⟩
  refine fin hT 5 rfl (th (sq (rg (?_))))
  refine lit hT 0 #[.int .i64 0, .int .i64 2] rfl (by decide) (by kernel_rfl) fun b15 => ?_   -- law.go:13 t15
  refine bd hT 0 (.agg #[.slice (some ⟨b15, 0, none⟩) 2 2]) rfl (fun w => by kernel_rfl) ?_   -- law.go:13 t16
  refine cl hT 0 rfl (putConfC (some ⟨b15, 0, none⟩) 2 [0, 2] (.inr ⟨0, rfl⟩) (isS_pt rfl rfl) (by decide)) ?_   -- law.go:13 t17
  rintro v17 K17 hs17 ⟨rfl, g2, ao2, c2, rfl, rfl, o2⟩
  refine fin hT 5 rfl (th (sq (rg (?_))))
  refine bd hT 0 (.agg (mv amM p0)) rfl (fun w => by kernel_rfl) ?_   -- law.go:14 t21
  refine cl hT 0 rfl (encodeC amM p0 (MsgS.zero _) amM_bd) ?_   -- law.go:14 t22
  rintro v22 K22 hs22 ⟨rfl, g3, ao3, c3, rfl, rfl, o3⟩
  have hel := enc_len amM amM_bd
  refine fin hT 5 rfl (th (sq (rg (?_))))
  refine cl hT 1 rfl (decodeC ao3 c3 (ob (enc amM)) (.inr ⟨0, rfl⟩) o3.isS (by omega)) ?_   -- law.go:15 t27
  rintro v27 K27 hs27 ⟨rfl, le, p, rfl, hS⟩
  rw [amM_dec] at hS ⊢
  simp only [Option.getD_some] at hS ⊢
  refine al hT 3 (.agg #[.int .i64 0, .int .i64 0, .int .i64 0, .int .u64 0, .int .u64 0, .int .u64 0, .int .u64 0, .int .u64 0, .bool false, .slice none 0 0, .int .i64 0, .int .i64 0, .slice none 0 0, .slice none 0 0]) rfl (by kernel_rfl) fun b7 => ?_   -- law.go:15 t7
  refine stS hT 0 0 rfl rfl (by kernel_rfl) rfl rfl ?_   -- law.go:15 tNone t7 := t28
  refine fin hT 1 rfl (th (sq (rg (?_))))
  refine cmpS hT 1 rfl fun b31 h31 => ?_   -- law.go:16 t31 t30 = 0
  refine' bja hT 1 4 36 [31, 32] h31 rfl rfl rfl rfl rfl rfl rfl (fun _ => ?x2) (fun b36 h36 => ?_)   -- law.go:16 t36
  case x2 =>
    refine cvs hT 1 _ rfl (.inr ⟨4, rfl⟩) o1.isS (by kernel_rfl) ?_   -- law.go:16 t34 t33
    refine seS hT 0 rfl fun b35 h35 => ?_   -- law.go:16 t35 t34 = c
    exact fin hT 1 rfl (bjx h35 rfl rfl rfl)
  refine' bja hT 1 3 40 [36, 37] h36 rfl rfl rfl rfl rfl rfl rfl (fun _ => ?x4) (fun b40 h40 => ?_)   -- law.go:16 t40
  case x4 =>
    refine cmpS hT 1 rfl fun b39 h39 => ?_   -- law.go:16 t39 t38 = 0
    exact fin hT 1 rfl (bjx h39 rfl rfl rfl)
  refine' bja hT 1 4 45 [40, 41] h40 rfl rfl rfl rfl rfl rfl rfl (fun _ => ?x6) (fun b45 h45 => ?_)   -- law.go:16 t45
  case x6 =>
    refine cvs hT 1 _ rfl (.inr ⟨2, rfl⟩) o2.isS (by kernel_rfl) ?_   -- law.go:16 t43 t42
    refine seS hT 0 rfl fun b44 h44 => ?_   -- law.go:16 t44 t43 = c
    exact fin hT 1 rfl (bjx h44 rfl rfl rfl)
  refine' bja hT 1 3 49 [45, 46] h45 rfl rfl rfl rfl rfl rfl rfl (fun _ => ?x8) (fun b49 h49 => ?_)   -- law.go:16 t49
  case x8 =>
    refine cmpS hT 1 rfl fun b48 h48 => ?_   -- law.go:16 t48 t47 = 0
    exact fin hT 1 rfl (bjx h48 rfl rfl rfl)
  refine' bja hT 1 3 53 [49, 50] h49 rfl rfl rfl rfl rfl rfl rfl (fun _ => ?x10) (fun b53 h53 => ?_)   -- law.go:16 t53
  case x10 =>
    refine cmpS hT 1 rfl fun b52 h52 => ?_   -- law.go:16 t52 t51 = 0
    exact fin hT 1 rfl (bjx h52 rfl rfl rfl)
  refine' bja hT 1 3 57 [53, 54] h53 rfl rfl rfl rfl rfl rfl rfl (fun _ => ?x12) (fun b57 h57 => ?_)   -- law.go:16 t57
  case x12 =>
    refine ldp hT 1 0 rfl rfl rfl ?_   -- law.go:16 t56 *t55
    refine nmS fun b56 h56 => ?_
    exact fin hT 1 rfl (bjx h56 rfl rfl rfl)
  refine' bja hT 1 4 62 [57, 58] h57 rfl rfl rfl rfl rfl rfl rfl (fun _ => ?x13) (fun b62 h62 => ?_)   -- law.go:16 t62
  case x13 =>
    refine ldp hT 1 0 rfl rfl rfl ?_   -- law.go:16 t60 *t59
    refine cmpS hT 0 rfl fun b61 h61 => ?_   -- law.go:16 t61 t60 = 3
    exact fin hT 1 rfl (bjx h61 rfl rfl rfl)
  refine fin hT 1 rfl (th (rt (?_)))
  refine WQ.drop (WQ.drop (WQ.drop (WQ.drop (WQ.drop (WQ.weak le ?_)))))
  exact ret1 rfl rfl ⟨rfl, rfl, b62, rfl, fun _ => trivial, fun _ => h62.2 ⟨⟨⟨⟨⟨⟨⟨by rw [acC_put]; rfl, by rw [acC_put]; rfl⟩, by rw [acV_put]; rfl⟩, by rw [acV_put]; rfl⟩, by rw [amM_enc]; rfl⟩, rfl⟩, rfl⟩, rfl⟩⟩
end Go.Proofs.Ythpiokdibknpaaa
