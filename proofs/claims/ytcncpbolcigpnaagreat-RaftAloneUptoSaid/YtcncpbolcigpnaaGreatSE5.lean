/-
  Part 5 of what the proof needs (texts Ia Ib Ic Id Ie If Ig Rh Qf Qg Qh Ih Ii).
-/
import Derived.Test.YtcncpbolcigpnaaGreatSE4
set_option linter.unusedSectionVars false
set_option linter.unusedSimpArgs false
set_option linter.unusedVariables false
section
namespace Go.En
structure Aln (n : Nat) (L : Lg) (D : Dk) : Prop where
 sim : Sim n n L
 liv : Liv (16777216 - 100 * n) D
 rn : Rn (100 * n) (10 * n) L D
 sn : L.sn = ⟨0, 0, [0], []⟩
 len : L.l.length <= n
 ents : ∀ e ∈ L.l, e.kind ≠ 2 /\ e.term = 1
theorem Aln.up {n m : Nat} {L : Lg} {D : Dk} (o : Aln n L D) (h : n <= m) : Aln m L D :=
 ⟨o.sim.up h h, o.liv.mono (by omega), o.rn.up (by omega) (by omega), o.sn, by have := o.len; omega, o.ents⟩
theorem Aln.cfg {n : Nat} {L : Lg} {D : Dk} (o : Aln n L D) (up : Nat) : cfgAt L.sn L.l up = ([0], 0) := by
 unfold cfgAt
 have h : (L.l.reverse.find? fun e => decide (e.kind = 2 /\ e.idx <= up)) = none := by
  rw [List.find?_eq_none]
  intro e he
  have := (o.ents e (List.mem_reverse.1 he)).1
  simp [this]
 rw [h, o.sn]
theorem Aln.last {n : Nat} {L : Lg} {D : Dk} (o : Aln n L D) : L.sn.idx + L.l.length = L.l.length := by rw [o.sn]; simp
theorem Aln.trm {n : Nat} {L : Lg} {D : Dk} (o : Aln n L D) : En.trm L.sn L.l L.l.length = (if L.l.length = 0 then 0 else 1, true) := by
 unfold En.trm
 rw [o.sn]
 by_cases h : L.l.length = 0
 ·rw [if_pos h, if_pos h]
 ·rw [if_neg h, if_neg h]
  dsimp only
  rw [if_neg (by omega)]
  obtain ⟨e, he⟩ : ∃ e, L.l[L.l.length - 0 - 1]? = some e := ⟨_, List.getElem?_eq_getElem (by omega)⟩
  rw [he]
  have := (o.ents e (List.mem_of_getElem? he)).2
  simp [this]
theorem Aln.setHard {n : Nat} {L : Lg} {D : Dk} (o : Aln n L D) (hn : n <= 10000) (t : Nat) (v : Int) (ht : t <= mxU) (hk : L.kt <= t) (hv : -1 <= v /\ v <= 6) :
  (L.setHard D t v).2.2 = 0 /\ Aln (n + 1) (L.setHard D t v).1 (L.setHard D t v).2.1 /\ (L.setHard D t v).1.kt = t /\ (L.setHard D t v).1.l = L.l := by
 have h1 := o.sim.setHard (n := 16777216 - 100 * (n + 1)) (o.liv.mono (by omega)) t v ht (by omega)
 have h2 := o.rn.setHard t v ht
 have h3 : L.rl.setHard t v = ({ L.rl with kt := t, kv := v }, 0) := by
  unfold Rl.setHard
  rw [if_neg (by omega), if_neg (show ¬ t < L.rl.kt from by show ¬ t < L.kt; omega)]
 rw [h3] at h1
 obtain ⟨g1, g2, g3, g4⟩ := h1
 have e1 : (L.setHard D t v).1.sn = L.sn := congrArg Rl.sn g4
 have e2 : (L.setHard D t v).1.l = L.l := congrArg Rl.l g4
 have e3 : (L.setHard D t v).1.kt = t := congrArg Rl.kt g4
 exact ⟨g1, ⟨g3.up (by omega) (by omega), g2, h2.up (by omega) (by omega), by rw [e1]; exact o.sn, by rw [e2]; have := o.len; omega, by rw [e2]; exact o.ents⟩, e3, e2⟩
theorem Aln.append {n : Nat} {L : Lg} {D : Dk} (o : Aln n L D) (hn : n <= 10000) (e : Ent) (hi : e.idx = L.l.length + 1) (ht : e.term = 1) (hk : e.kind ≠ 2) (hd : heldP e.kind e.data) :
  (L.append [e] D).2.2 = 0 /\ Aln (n + 1) (L.append [e] D).1 (L.append [e] D).2.1 /\ (L.append [e] D).1.kt = L.kt /\ (L.append [e] D).1.l = L.l ++ [e] := by
 have hlen := o.len
 have hx : ∀ x ∈ [e], x.idx <= mxU /\ x.term <= mxU := fun x hx => by
  rw [List.mem_singleton.1 hx, hi, ht]; unfold mxU; omega
 have h1 := o.sim.append (n := 16777216 - 100 * (n + 1)) [e] (o.liv.mono (by simp only [List.length_singleton]; omega)) hx (by rw [o.sn]; simp only [List.length_singleton]; unfold lgTop; omega)
 have h2 := o.rn.append [e] hx (by simp only [List.length_singleton]; omega)
 have hok : e.ok := ⟨by omega, by omega, hd⟩
 have h3 : L.rl.append [e] = ({ L.rl with l := L.l ++ [e] }, 0) := by
  have hf : fol (L.rl.sn.idx + L.rl.l.length) (En.trm L.rl.sn L.rl.l (L.rl.sn.idx + L.rl.l.length)).1 [e] = 0 := by
   show fol (L.sn.idx + L.l.length) (En.trm L.sn L.l (L.sn.idx + L.l.length)).1 [e] = 0
   rw [o.last, o.trm]
   unfold fol
   rw [if_pos (by simp [putEnt, hok])]
   unfold folR
   rw [if_neg (by dsimp only; split <;> omega)]
   rfl
  unfold Rl.append
  rw [if_neg (fun h => h hf)]
  rfl
 rw [h3] at h1
 obtain ⟨g1, g2, g3, g4⟩ := h1
 have e1 : (L.append [e] D).1.sn = L.sn := congrArg Rl.sn g4
 have e2 : (L.append [e] D).1.l = L.l ++ [e] := congrArg Rl.l g4
 have e3 : (L.append [e] D).1.kt = L.kt := congrArg Rl.kt g4
 refine ⟨g1, ⟨g3.up (by omega) (by simp), g2, h2.up (by simp only [List.length_singleton]; omega) (by simp only [List.length_singleton]; omega), by rw [e1]; exact o.sn, by rw [e2]; simp; omega, ?_⟩, e3, e2⟩
 rw [e2]
 intro x hx
 rcases List.mem_append.1 hx with h | h
 ·exact o.ents x h
 ·rw [List.mem_singleton.1 h]; exact ⟨hk, ht⟩
theorem Aln.sync {n : Nat} {L : Lg} {D : Dk} (o : Aln n L D) (hn : n <= 10000) :
  (L.sync D).2.2 = 0 /\ Aln (n + 1) (L.sync D).1 (L.sync D).2.1 /\ (L.sync D).1.kt = L.kt /\ (L.sync D).1.l = L.l := by
 have h1 := o.sim.sync o.liv
 have h2 := o.rn.sync
 obtain ⟨g1, g2, g3, g4, e1, e2⟩ := h1
 have e3 : (L.sync D).1.kt = L.kt := congrArg Rl.kt g4
 exact ⟨g1, ⟨g3.up (by omega) (by omega), g2.mono (by omega), h2.up (by omega) (by omega), by rw [e1]; exact o.sn, by rw [e2]; have := o.len; omega, by rw [e2]; exact o.ents⟩, e3, e2⟩
structure Rf where
 role : Int
 lead : Int
 com : Nat
 el : Int
 wt : Int
 rnd : Nat
 nx : Nat -> Nat
def rfA (lb : Nat) (S : Rf) (vY f0 f1 f2 : Value) : Array Value :=
 #[.int .i64 0, .pointer (some ⟨lb, 0, none⟩), .bool false, .int .i64 S.role, .int .i64 S.lead, .int .u64 ((S.com : Nat) : Int), .int .i64 S.el, .int .i64 S.wt, vY, .int .u64 ((S.rnd : Nat) : Int),
  .int .u64 0, .int .u64 ((S.nx 0 : Nat) : Int), .int .u64 0, .bool false, .int .i64 0,
  .int .u64 0, .int .u64 ((S.nx 1 : Nat) : Int), .int .u64 0, .bool false, .int .i64 0,
  .int .u64 0, .int .u64 ((S.nx 2 : Nat) : Int), .int .u64 0, .bool false, .int .i64 0,
  .int .u64 0, .int .u64 ((S.nx 3 : Nat) : Int), .int .u64 0, .bool false, .int .i64 0,
  .int .u64 0, .int .u64 ((S.nx 4 : Nat) : Int), .int .u64 0, .bool false, .int .i64 0,
  .int .u64 0, .int .u64 ((S.nx 5 : Nat) : Int), .int .u64 0, .bool false, .int .i64 0,
  .int .u64 0, .int .u64 ((S.nx 6 : Nat) : Int), .int .u64 0, .bool false, .int .i64 0,
  .int .i64 0, .int .u64 0, .int .u64 0, .slice none 0 0, .slice none 0 0, .slice none 0 0, f0, f1, f2]
end Go.En
end
section
namespace Go.En
theorem mkf_run {P : Program} {n : Nat} {l : Sl} {o : Oper} {f : Fn} {x : Operand} {v : Value} (hop : o.op = .makeFunc f #[x] #[]) (hx : ev l x = some v) (hr : ∀ w, (Instr.makeFunc f #[v] #[]).run P w = .ok (.func f #[v] #[]) w) : ∀ A w, Ag n l A -> (execOp A.eval o).run P w = .ok (.value (.func f #[v] #[])) w := by
 intro A w ha
 simp only [execOp, hop, Array.map_empty, List.map_toArray, List.map_cons, List.map_nil, ha.ev hx]
 rw [Sem.run_bind]
 have h := hr w
 simp [ha.ev hx, h, Result.andThen]
end Go.En
namespace Go.Proofs.YtcncpbolcigpnaaGreat
open Go.En
attribute [local irreducible] Code.wp wpList Calls
theorem containsIC {w0 : World} {K hv : PH} {hs : List PH} (hm : In K hs hv) (ao : Option Addr) (k : Nat) (l : List Int) (x : IsS hv ao l.length k 1 (iv l)) (hl : l.length <= 1099511627776) (n : Int) :
  Ct Tryz.prog w0 62 [.slice ao l.length k, .int .i64 n] K hs (fun v K' hs' => K' = K /\ hs' = hs /\ v = .bool (decide (n ∈ l))) := by
 have hidx : Ct Tryz.prog w0 99 [.slice ao l.length k, .int .i64 n] K hs (fun v K' hs' => K' = K /\ hs' = hs /\ ∃ i : Int, v = .int .i64 i /\ (0 <= i ↔ n ∈ l)) := by
  refine enter Tryz.func99 (by kernel_rfl) rfl rfl rfl ?_
  refine sq (rg ?_)
  refine fin hT 1 rfl (th (sq (sq (rg ?_))))
  refine fin hT 3 rfl (th (bk ?_))
  refine loop (σ := Nat) (fun j => [(0, .slice ao l.length k), (1, .int .i64 n), (7, .int .i64 ((l.length : Nat) : Int)), (8, .int .i64 ((j : Nat) : Int))]) (fun _ => K) (fun _ => hs) (fun j => j <= l.length /\ n ∉ l.take j) (fun j => l.length - j) 0 ⟨Nat.zero_le _, by simp⟩ ⟨rfl, rfl, rfl, rfl, trivial⟩ rfl rfl ?_
  rintro j ⟨hj, hno⟩
  refine sq (rg ?_)
  refine cmpS hT 0 rfl fun b9 h9 => ?_
  refine fin hT 0 rfl (th (sq (ifP h9 rfl (fun e2 => ?_) (fun e2 => ?_))))
  ·have hjl : j < l.length := by omega
   refine sk (th (sq (bk (sq (rg ?_)))))
   refine fin hT 2 rfl (th (sq (rg ?_)))
   refine ix1 hT 3 j rfl rfl rfl x (iv_get hjl) fun a14 hc14 => ?_
   refine ld hT 0 rfl hm hc14 ?_
   refine cmpS hT 0 rfl fun b16 h16 => ?_
   refine fin hT 0 rfl (th (ifP h16 rfl (fun e4 => ?_) (fun e4 => ?_)))
   ·refine sq (rg ?_)
    refine fin hT 2 rfl (th (rt (rB (rT (rT (rB (rT ?_)))))))
    refine ret1 rfl rfl ⟨rfl, rfl, ((j : Nat) : Int), rfl, fun _ => ?_, fun _ => by omega⟩
    rw [e4]
    exact List.getElem_mem hjl
   ·refine sk (bl (th (rg ?_)))
    refine ar hT 0 rfl (i64w (x := ((j + 1 : Nat) : Int)) (by omega)) ?_
    refine fin hT 1 rfl ?_
    refine again (x := j) (j + 1) ⟨rfl, rfl, rfl, rfl, trivial⟩ rfl rfl ⟨by omega, ?_⟩ (by omega)
    rw [List.take_add_one, List.getElem?_eq_getElem hjl]
    simp only [Option.toList_some, List.mem_append, List.mem_singleton, not_or]
    exact ⟨hno, e4⟩
  ·rw [List.take_of_length_le (by omega)] at hno
   refine ex (xt (xt (xb (th (sq (rg ?_))))))
   refine fin hT 1 rfl (th (rt ?_))
   exact ret1 rfl rfl ⟨rfl, rfl, -1, rfl, fun h => absurd h (by decide), fun h => absurd h hno⟩
 refine enter Tryz.func62 (by kernel_rfl) rfl rfl rfl ?_
 refine sq (rg ?_)
 refine fin hT 1 rfl (th (sq (rg ?_)))
 refine cl hT 2 rfl hidx ?_
 rintro v7 K7 hs7 ⟨rfl, rfl, i, rfl, hi⟩
 refine cmpS hT 0 rfl fun b8 h8 => ?_
 refine fin hT 1 rfl (th (rt ?_))
 exact ret1 rfl rfl ⟨rfl, rfl, by rw [show b8 = decide (n ∈ l) from by rw [Bool.eq_iff_iff, h8, decide_eq_true_iff]; exact hi]⟩
theorem timeoutC {w0 : World} {K : PH} {hs : List PH} (d : Nat) (hd : d < 18446744073709551616) :
  Ct Tryz.prog w0 83 [.int .u64 ((d : Nat) : Int)] K hs (fun v K' hs' => K' = K /\ hs' = hs /\ v = .int .i64 ((10 + d % 22 : Nat) : Int)) := by
 refine enter Tryz.func83 (by kernel_rfl) rfl rfl rfl ?_
 refine sq (rg ?_)
 refine fin hT 1 rfl (th (sq (rg ?_)))
 refine ar hT 1 rfl (u_rem .u64 d 22) ?_
 refine ar hT 0 rfl (i64w (by omega)) ?_
 refine ar hT 0 rfl (i64w (x := ((10 + d % 22 : Nat) : Int)) (by omega)) ?_
 refine fin hT 1 rfl (th (rt ?_))
 exact ret1 rfl rfl ⟨rfl, rfl, rfl⟩
theorem votesC {w0 : World} {K hv : PH} {hs : List PH} (hm : In K hs hv) (ao : Option Addr) (k : Nat) (l : List Int) (x : IsS hv ao l.length k 1 (iv l)) (hl : l.length <= 1099511627776) (n : Int) :
  Ct Tryz.prog w0 84 [.agg #[.slice ao l.length k], .int .i64 n] K hs (fun v K' hs' => K' = K /\ hs' = hs /\ v = .bool (decide (n ∈ l))) := by
 refine enter Tryz.func84 (by kernel_rfl) rfl rfl rfl ?_
 refine sq (rg ?_)
 refine bx hT 0 rfl fun b2 => ?_
 refine fin hT 1 rfl (th (sq (rg ?_)))
 refine WL.hs (pt b2 #[.slice ao l.length k] 59 :: hs) rfl ?_
 refine ldp hT 1 0 rfl rfl rfl ?_
 refine cl hT 1 rfl (containsIC (In.cons hm) ao k l x hl n) ?_
 rintro v8 K8 hs8 ⟨rfl, rfl, rfl⟩
 refine fin hT 1 rfl (th (rt (WQ.drop ?_)))
 exact ret1 rfl rfl ⟨rfl, rfl, rfl⟩
theorem quorumC {w0 : World} {K : PH} {hs : List PH} (ao : Option Addr) (k : Nat) (x : IsS K ao 1 k 1 (iv [0])) (hv : PH) (hm : In K hs hv) (ay : Option Addr) (ky : Nat) (xy : IsS hv ay 1 ky 1 (iv [0])) :
  Ct Tryz.prog w0 31 [.agg #[.slice ao 1 k], .slice ay 1 ky] K hs (fun v K' hs' => K' = K /\ hs' = hs /\ v = .bool true) := by
 refine enter Tryz.func31 (by kernel_rfl) rfl rfl rfl ?_
 refine sq (rg ?_)
 refine bx hT 0 rfl fun b2 => ?_
 refine WL.hs (pt b2 #[.slice ao 1 k] 59 :: hs) rfl ?_
 refine fin hT 1 rfl (th (sq (rg ?_)))
 refine fin hT 1 rfl (th (sq (sq (rg ?_))))
 refine ldp hT 1 0 rfl rfl rfl ?_
 refine fin hT 2 rfl (th (bk ?_))
 refine loop (σ := Nat) (fun j => [(1, .slice ay 1 ky), (2, .pointer (some ⟨b2, 0, none⟩)), (5, .int .i64 ((j : Nat) : Int)), (9, .slice ao 1 k), (10, .int .i64 1), (11, .int .i64 ((j : Nat) : Int))]) (fun _ => K) (fun _ => pt b2 #[.slice ao 1 k] 59 :: hs) (fun j => j <= 1) (fun j => 1 - j) 0 (by omega) ⟨rfl, rfl, rfl, rfl, rfl, rfl, trivial⟩ rfl rfl ?_
 rintro j hj
 refine sq (rg ?_)
 refine cmpS hT 0 rfl fun b12 h12 => ?_
 refine fin hT 0 rfl (th (sq (ifP h12 rfl (fun e2 => ?_) (fun e2 => ?_))))
 ·obtain rfl : j = 0 := by omega
  refine sk (th (sq (bk (sq (rg ?_)))))
  refine ix1 hT 0 0 rfl rfl rfl x (u := .int .i64 0) rfl fun a13 hc13 => ?_
  refine ld hT 0 rfl (.inl rfl) hc13 ?_
  refine fin hT 1 rfl (th (sq (rg ?_)))
  refine cl hT 2 rfl (containsIC (In.cons hm) ay ky [0] xy (by simp) 0) ?_
  rintro v17 K17 hs17 ⟨rfl, rfl, rfl⟩
  refine fin hT 0 rfl (th (ifT rfl ?_))
  refine rg ?_
  refine ar hT 1 rfl (i64w (x := ((1 : Nat) : Int)) (by omega)) ?_
  refine fin hT 1 rfl (bl (th (rg ?_)))
  refine ar hT 0 rfl (i64w (x := ((1 : Nat) : Int)) (by omega)) ?_
  refine fin hT 1 rfl ?_
  exact again (x := 0) 1 ⟨rfl, rfl, rfl, rfl, rfl, rfl, trivial⟩ rfl rfl (by omega) (by omega)
 ·obtain rfl : j = 1 := by omega
  refine ex (xt (xt (xb (th (sq (rg ?_))))))
  refine ldp hT 2 0 rfl rfl rfl ?_
  refine ar hT 1 rfl (v' := .int .i64 0) (by rfl) ?_
  refine cmpS hT 0 rfl fun b26 h26 => ?_
  refine fin hT 1 rfl (th (rt (WQ.drop ?_)))
  exact ret1 rfl rfl ⟨rfl, rfl, by rw [show b26 = true from h26.2 (by omega)]⟩
end Go.Proofs.YtcncpbolcigpnaaGreat
end
section
namespace Go.Proofs.YtcncpbolcigpnaaGreat
open Go.En
attribute [local irreducible] Code.wp wpList Calls
theorem cloneIO {w0 : World} {K hv : PH} {hs : List PH} (a : Addr) (cap : Nat) (b : List Int) (hm : In K hs hv) (x : IsS hv (some a) b.length cap 1 (iv b)) (hl : b.length < 1099511627776) :
  Ct Tryz.prog w0 33 [.slice (some a) b.length cap] K hs
   (fun v K' hs' => K' = K /\ ∃ h ao' c', hs' = h :: hs /\ v = .slice ao' b.length c' /\ Own h ao' b.length c' 3 1 (iv b)) := by
 refine enter Tryz.func33 (by kernel_rfl) rfl rfl rfl ?_
 refine sq (rg ?_)
 refine fin hT 1 rfl (th (sq (sq (rg ?_))))
 refine cb hT 1 rfl (fun h1 => absurd h1 (by simp)) (fun h1 => ?_)
 refine fin hT 0 rfl (th (ifF rfl (sk (th (sq (rg ?_))))))
 refine lit hT 0 #[] rfl (by decide) (by kernel_rfl) fun b5 => ?_
 refine app hT 1 0 rfl rfl (Own.ofPt (c := #[]) (n := 0) (by simp) (by simp [maxLen])) (In.cons hm) x rfl (by decide) (iv_one _) (by show (0 + b.length) * 8 <= _; omega) (by simp [maxLen]; omega) fun ao7 c7 g7 o7 => ?_
 refine fin hT 1 rfl (th (rt ?_))
 have e : 0 + b.length = b.length := Nat.zero_add _
 rw [e] at o7
 exact ret1 rfl (by rw [e]; rfl) ⟨rfl, g7, ao7, c7, rfl, rfl, o7⟩
theorem oth1C {w0 : World} {K : PH} {hs : List PH} (b1 rb ty1 ty2 : Nat) (A : Array Value) (h1 : In K hs (pt b1 #[.pointer (some ⟨rb, 0, none⟩)] ty1)) (h2 : In K hs (pt rb A ty2)) (hA : A[0]? = some (.int .i64 0)) (n : Int) :
  Ct Tryz.prog w0 61 [.int .i64 n, .pointer (some ⟨b1, 0, none⟩)] K hs (fun v K' hs' => K' = K /\ hs' = hs /\ v = .bool (decide (n = 0))) := by
 refine enter Tryz.func61 (by kernel_rfl) rfl rfl rfl ?_
 refine sq (rg ?_)
 refine fin hT 1 rfl (th (sq (rg ?_)))
 refine ld hT 1 rfl h1 (Cell.pt rfl) ?_
 refine ld hT 2 rfl h2 (Cell.pt hA) ?_
 refine cmpS hT 0 rfl fun b9 h9 => ?_
 refine fin hT 1 rfl (th (rt ?_))
 exact ret1 rfl rfl ⟨rfl, rfl, by rw [show b9 = decide (n = 0) from by rw [Bool.eq_iff_iff, h9, decide_eq_true_iff]]⟩
theorem idxFC {w0 : World} {K hv : PH} {hs : List PH} (hm : In K hs hv) (ao : Option Addr) (cap : Nat) (x : IsS hv ao 1 cap 1 (iv [0])) (b1 rb ty1 ty2 : Nat) (A : Array Value) (h1 : In K hs (pt b1 #[.pointer (some ⟨rb, 0, none⟩)] ty1)) (h2 : In K hs (pt rb A ty2)) (hA : A[0]? = some (.int .i64 0)) :
  Ct Tryz.prog w0 98 [.slice ao 1 cap, .func (.func 61) #[] #[.pointer (some ⟨b1, 0, none⟩)]] K hs (fun v K' hs' => K' = K /\ hs' = hs /\ v = .int .i64 0) := by
 refine enter Tryz.func98 (by kernel_rfl) rfl rfl rfl ?_
 refine sq (rg ?_)
 refine fin hT 1 rfl (th (sq (sq (rg ?_))))
 refine fin hT 3 rfl (th (bk ?_))
 refine loop (σ := Unit) (fun _ => [(0, .slice ao 1 cap), (1, .func (.func 61) #[] #[.pointer (some ⟨b1, 0, none⟩)]), (7, .int .i64 1), (8, .int .i64 0)]) (fun _ => K) (fun _ => hs) (fun _ => True) (fun _ => 0) () trivial ⟨rfl, rfl, rfl, rfl, trivial⟩ rfl rfl ?_
 rintro _ _
 refine sq (rg ?_)
 refine fin hT 1 rfl (th (sq (ifT rfl ?_)))
 refine sk (th (sq (bk (sq (rg ?_)))))
 refine fin hT 2 rfl (th (sq (rg ?_)))
 refine ix1 hT 3 0 rfl rfl rfl x (u := .int .i64 0) rfl fun a14 hc14 => ?_
 refine ld hT 0 rfl hm hc14 ?_
 refine cl hT 0 rfl (oth1C b1 rb ty1 ty2 A h1 h2 hA 0) ?_
 rintro v16 K16 hs16 ⟨rfl, rfl, rfl⟩
 refine fin hT 0 rfl (th (ifT rfl ?_))
 refine sq (rg ?_)
 refine fin hT 2 rfl (th (rt (rB (rT (rT (rB (rT ?_)))))))
 exact ret1 rfl rfl ⟨rfl, rfl, rfl⟩
theorem delFC {w0 : World} {K : PH} {hs : List PH} (g off cap : Nat) (cur : Array Value) (hcz : cur.size = off + cap) (hcap : 1 <= cap) (x : IsS (pt g cur 3) (some ⟨g, off, none⟩) 1 cap 1 (iv [0])) (b1 rb ty1 ty2 : Nat) (A : Array Value) (h1 : In K hs (pt b1 #[.pointer (some ⟨rb, 0, none⟩)] ty1)) (h2 : In K hs (pt rb A ty2)) (hA : A[0]? = some (.int .i64 0)) :
  Ct Tryz.prog w0 60 [.slice (some ⟨g, off, none⟩) 1 cap, .func (.func 61) #[] #[.pointer (some ⟨b1, 0, none⟩)]] K (pt g cur 3 :: hs) (fun v K' hs' => K' = K /\ ∃ h, hs' = h :: hs /\ ∃ ao, v = .slice ao 0 cap) := by
 refine enter Tryz.func60 (by kernel_rfl) rfl rfl rfl ?_
 refine sq (rg ?_)
 refine fin hT 1 rfl (th (sq (rg ?_)))
 refine cl hT 2 rfl (idxFC (.inr ⟨0, rfl⟩) _ cap x b1 rb ty1 ty2 A (In.cons h1) (In.cons h2) hA) ?_
 rintro v10 K10 hs10 ⟨rfl, rfl, rfl⟩
 refine fin hT 1 rfl (th (sq (sq (rg ?_))))
 refine fin hT 2 rfl (th (ifF rfl ?_))
 refine sk (th (sq (sq (rg ?_))))
 refine ar hT 1 rfl (i64w (x := 1) (by omega)) ?_
 refine fin hT 1 rfl (th (bk ?_))
 refine loop (σ := Unit) (fun _ => [(0, .slice (some ⟨g, off, none⟩) 1 cap), (5, .int .i64 0), (6, .int .i64 1)]) (fun _ => K10) (fun _ => pt g cur 3 :: hs) (fun _ => True) (fun _ => 0) () trivial ⟨rfl, rfl, rfl, trivial⟩ rfl rfl ?_
 rintro _ _
 refine sq (sq (rg ?_))
 refine fin hT 4 rfl (th (ifF rfl ?_))
 refine ex (xt (xt (xb (th (sq (rg ?_))))))
 refine slx hT 2 0 1 rfl rfl rfl (by omega) ?_
 rw [cutA_0]
 refine clr hT 0 0 rfl rfl (z := .int .i64 0) rfl rfl (by omega) (by omega) ?_
 refine fin hT 0 rfl (th (sq (rg ?_)))
 refine slx hT 2 0 0 rfl rfl rfl (by omega) ?_
 refine fin hT 1 rfl (th (rt ?_))
 exact ret1 rfl rfl ⟨rfl, _, rfl, _, rfl⟩
abbrev RT : Nat := 71
section node
variable {w0 : World} {K lh : PH} {hs : List PH} (rb lb db : Nat) (S : Rf) (vY f0 f1 f2 : Value) {n : Nat} {L : Lg} {D : Dk}
theorem configNC (o : Aln n L D) (hn : n <= 10000) (hL : LgH K lb db L D lh) :
  Ct Tryz.prog w0 29 [.pointer (some ⟨rb, 0, none⟩)] K (pt rb (rfA lb S vY f0 f1 f2) RT :: lh :: hs)
   (fun v K' hs' => hs' = pt rb (rfA lb S vY f0 f1 f2) RT :: lh :: hs /\ Le K K' /\ ∃ ao cap, v = .tuple #[.agg #[.slice ao 1 cap], .int .u64 0] /\ IsS K' ao 1 cap 1 (iv [0])) := by
 have hlen := o.len
 refine enter Tryz.func29 (by kernel_rfl) rfl rfl rfl ?_
 refine sq (rg ?_)
 refine al hT 0 (.agg #[.slice none 0 0]) rfl (by kernel_rfl) fun b2 => ?_
 refine WL.hs (pt b2 #[.slice none 0 0] 59 :: pt rb (rfA lb S vY f0 f1 f2) RT :: lh :: hs) rfl ?_
 refine fin hT 1 rfl (th (sq (rga [pt rb (rfA lb S vY f0 f1 f2) RT] 12 [0, 2, 4, 6, 8, 10, 12, 14, 17, 19, 20, 22, 25, 26] (by simp) (by kernel_rfl) (by kernel_rfl) ?_)))
 refine dldpw hT (by kernel_rfl) 3 0 rfl (by kernel_rfl) rfl rfl ?_
 refine dldpw hT (by kernel_rfl) 3 0 rfl (by kernel_rfl) rfl rfl ?_
 refine dact hT (by kernel_rfl) 0 rfl ?_
 refine cl hT 0 rfl (Ct.keep 2 rfl (lastH lb db L D (100 * n) o.rn.lb (by omega) hL)) ?_
 rintro v12 K12 hs12 ⟨rfl, rfl, rfl⟩
 rw [o.last]
 refine dnex [pt rb (rfA lb S vY f0 f1 f2) RT] (by simp) (by simp) rfl ?_
 refine dact hT (by kernel_rfl) 0 rfl ?_
 refine cl hT 0 rfl (Ct.at 2 rfl (configH lb db L D (100 * n) o.rn.lb (by omega) hL L.l.length (by unfold mxU; omega))) ?_
 rintro v13 K13 hs13 ⟨h', rfl, hh, le, ao, cap, rfl, x⟩
 subst hh
 rw [o.cfg] at x ⊢
 refine WL.hs (pt b2 #[.slice none 0 0] 59 :: pt rb (rfA lb S vY f0 f1 f2) RT :: h' :: hs) rfl ?_
 refine dnexL [pt rb (rfA lb S vY f0 f1 f2) RT] (by simp) (by simp) le ?_
 refine dact hT (by kernel_rfl) 2 rfl ?_
 refine stS hT 0 0 rfl rfl (by kernel_rfl) rfl rfl ?_
 refine WL.hs (pt b2 #[.slice ao 1 cap] 59 :: pt rb (rfA lb S vY f0 f1 f2) RT :: h' :: hs) rfl ?_
 refine dnex [pt rb (rfA lb S vY f0 f1 f2) RT] (by simp) (by simp) rfl ?_
 refine dend hT (by kernel_rfl) 1 rfl (th (rt ?_))
 exact retcP 0 1 rfl rfl rfl rfl (by kernel_rfl) ⟨rfl, le, ao, cap, rfl, x⟩
theorem termNC (hL : LgH K lb db L D lh) :
  Ct Tryz.prog w0 12 [.pointer (some ⟨rb, 0, none⟩)] K (pt rb (rfA lb S vY f0 f1 f2) RT :: lh :: hs)
   (fun v K' hs' => K' = K /\ hs' = pt rb (rfA lb S vY f0 f1 f2) RT :: lh :: hs /\ v = .int .u64 ((L.kt : Nat) : Int)) := by
 refine enter Tryz.func12 (by kernel_rfl) rfl rfl rfl ?_
 refine sq (rg ?_)
 refine fin hT 1 rfl (th (sq (rg ?_)))
 refine ldp hT 3 0 rfl rfl rfl ?_
 refine cl hT 0 rfl (Ct.keep 1 rfl (hardH lb db L D hL)) ?_
 rintro v7 K7 hs7 ⟨rfl, rfl, rfl⟩
 refine opr hT 0 (v := .int .u64 ((L.kt : Nat) : Int)) rfl (fun A w ha _ => fld_run (t := 75) (x := .tmp 7) (i := 0) (v := .agg #[.int .u64 ((L.kt : Nat) : Int), .int .i64 L.kv]) rfl rfl (fun w => by kernel_rfl) A w ha) ?_
 refine fin hT 1 rfl (th (rt ?_))
 exact ret1 rfl rfl ⟨rfl, rfl, rfl⟩
theorem othersNC (o : Aln n L D) (hn : n <= 10000) (hL : LgH K lb db L D lh) :
  Ct Tryz.prog w0 30 [.pointer (some ⟨rb, 0, none⟩)] K (pt rb (rfA lb S vY f0 f1 f2) RT :: lh :: hs)
   (fun v K' hs' => hs' = pt rb (rfA lb S vY f0 f1 f2) RT :: lh :: hs /\ Le K K' /\ ∃ ao cap, v = .slice ao 0 cap) := by
 refine enter Tryz.func30 (by kernel_rfl) rfl rfl rfl ?_
 refine sq (rg ?_)
 refine bx hT 0 rfl fun b1 => ?_
 refine WL.hs (pt b1 #[.pointer (some ⟨rb, 0, none⟩)] 28 :: pt rb (rfA lb S vY f0 f1 f2) RT :: lh :: hs) rfl ?_
 refine fin hT 1 rfl (th (sq (rg ?_)))
 refine ldp hT 0 0 rfl rfl rfl ?_
 refine WL.perm (hs' := pt rb (rfA lb S vY f0 f1 f2) RT :: lh :: pt b1 #[.pointer (some ⟨rb, 0, none⟩)] 28 :: hs) (((List.Perm.swap _ _ _).symm).trans ((List.Perm.swap _ _ _).cons _)) ?_
 refine cl hT 0 rfl (configNC rb lb db S vY f0 f1 f2 o hn hL) ?_
 rintro v7 K7 hs7 ⟨rfl, le, ao, cap, rfl, x⟩
 refine al hT 3 (.agg #[.slice none 0 0]) rfl (by kernel_rfl) fun b3 => ?_
 refine stS hT 0 0 rfl rfl (by kernel_rfl) rfl rfl ?_
 refine WL.hs (pt b3 #[.slice ao 1 cap] 59 :: pt rb (rfA lb S vY f0 f1 f2) RT :: lh :: pt b1 #[.pointer (some ⟨rb, 0, none⟩)] 28 :: hs) rfl ?_
 refine fin hT 1 rfl (th (sq (rg ?_)))
 refine ldp hT 1 0 rfl rfl rfl ?_
 obtain ⟨a, rfl⟩ := x.addr (j := 0) (by omega) (by omega)
 refine cl hT 0 rfl (cloneIO a cap [0] (.inl rfl) x (by simp)) ?_
 rintro v12 K12 hs12 ⟨rfl, g, ao', c', rfl, rfl, ow⟩
 have hc1 : 1 <= c' := ow.2.1
 obtain ⟨gb, off, cur, rfl, rfl, hsz, htk⟩ := ow.pts (by omega)
 refine cl hT 1 rfl (delFC gb off c' cur hsz hc1 ow.isS b1 rb _ _ _ (.inr ⟨3, rfl⟩) (.inr ⟨1, rfl⟩) rfl) ?_
 rintro v14 K14 hs14 ⟨rfl, h, rfl, ao2, rfl⟩
 refine WL.perm (hs' := h :: pt b3 #[.slice (some a) 1 cap] 59 :: pt b1 #[.pointer (some ⟨rb, 0, none⟩)] 28 :: pt rb (rfA lb S vY f0 f1 f2) RT :: lh :: hs) (((((List.Perm.swap _ _ _).cons _).trans (List.Perm.swap _ _ _)).cons _).cons _) ?_
 refine fin hT 1 rfl (th (rt (WQ.drop (WQ.drop (WQ.drop ?_)))))
 exact ret1 rfl rfl ⟨rfl, le, ao2, c', rfl⟩
theorem didNC :
  Ct Tryz.prog w0 53 [.pointer (some ⟨rb, 0, none⟩), .int .i64 0] K hs (fun v K' hs' => K' = K /\ hs' = hs /\ v = .int .i64 0) := by
 refine enter Tryz.func53 (by kernel_rfl) rfl rfl rfl ?_
 refine sq (rg ?_)
 refine fin hT 1 rfl (th (sq (sq (rg ?_))))
 refine fin hT 2 rfl (th (ifF rfl ?_))
 refine sk (th (sq (rg ?_)))
 refine fin hT 2 rfl (th (rt ?_))
 exact ret1 rfl rfl ⟨rfl, rfl, rfl⟩
theorem tellNC (o : Aln n L D) (hn : n <= 10000) (hL : LgH K lb db L D lh) (anew : Bool) (hr : S.rnd < 1000000) :
  Ct Tryz.prog w0 28 [.pointer (some ⟨rb, 0, none⟩), .bool anew] K (pt rb (rfA lb S vY f0 f1 f2) RT :: lh :: hs)
   (fun v K' hs' => hs' = pt rb (rfA lb { S with rnd := if anew = true then S.rnd + 1 else S.rnd } vY f0 f1 f2) RT :: lh :: hs /\ Le K K' /\ v = .tuple #[]) := by
 refine enter Tryz.func28 (by kernel_rfl) rfl rfl rfl ?_
 refine sq (sq (rg ?_))
 refine fin hT 1 rfl (th (ifB rfl (fun h1 => ?_) (fun h1 => ?_)))
 ·subst h1
  refine rg ?_
  refine ldp hT 3 0 rfl rfl rfl ?_
  refine ar hT 0 rfl (u64w (x := ((S.rnd + 1 : Nat) : Int)) (by omega)) ?_
  refine stp hT 2 0 rfl rfl rfl rfl ?_
  refine WL.hs (pt rb (rfA lb { S with rnd := S.rnd + 1 } vY f0 f1 f2) RT :: lh :: hs) rfl ?_
  refine fin hT 0 rfl (th (sq (rg ?_)))
  refine cl hT 1 rfl (othersNC rb lb db _ vY f0 f1 f2 o hn hL) ?_
  rintro v15 K15 hs15 ⟨rfl, le, ao, cap, rfl⟩
  refine fin hT 2 rfl (th (bk ?_))
  refine loop (σ := Unit) (fun _ => [(16, .int .i64 0), (17, .int .i64 0)]) (fun _ => K15) (fun _ => pt rb (rfA lb { S with rnd := S.rnd + 1 } vY f0 f1 f2) RT :: lh :: hs) (fun _ => True) (fun _ => 0) () trivial ⟨rfl, rfl, trivial⟩ rfl rfl ?_
  rintro _ _
  refine sq (rg ?_)
  refine fin hT 1 rfl (th (sq (ifF rfl ?_)))
  refine ex (xt (xt (xb ?_)))
  exact end0 rfl ⟨rfl, le, rfl⟩
 ·subst h1
  refine sk (th (sq (rg ?_)))
  refine cl hT 1 rfl (othersNC rb lb db _ vY f0 f1 f2 o hn hL) ?_
  rintro v15 K15 hs15 ⟨rfl, le, ao, cap, rfl⟩
  refine fin hT 2 rfl (th (bk ?_))
  refine loop (σ := Unit) (fun _ => [(16, .int .i64 0), (17, .int .i64 0)]) (fun _ => K15) (fun _ => pt rb (rfA lb S vY f0 f1 f2) RT :: lh :: hs) (fun _ => True) (fun _ => 0) () trivial ⟨rfl, rfl, trivial⟩ rfl rfl ?_
  rintro _ _
  refine sq (rg ?_)
  refine fin hT 1 rfl (th (sq (ifF rfl ?_)))
  refine ex (xt (xt (xb ?_)))
  exact end0 rfl ⟨rfl, le, rfl⟩
end node
end Go.Proofs.YtcncpbolcigpnaaGreat
end
section
namespace Go.Proofs.YtcncpbolcigpnaaGreat
open Go.En
attribute [local irreducible] Code.wp wpList Calls
theorem agreedC {w0 : World} {K : PH} {hs : List PH} (ao : Option Addr) (cap : Nat) (x : IsS K ao 1 cap 1 (iv [0])) (bm : Nat) (M : Array Value) (last : Nat) (hm : In K hs (pt bm M 37)) (hM : IsS (pt bm M 37) (some ⟨bm, 0, none⟩) 7 7 1 M.toList) (h0 : M.toList[0]? = some (.int .u64 ((last : Nat) : Int))) :
  Ct Tryz.prog w0 92 [.agg #[.slice ao 1 cap], .slice (some ⟨bm, 0, none⟩) 7 7] K hs (fun v K' hs' => K' = K /\ hs' = hs /\ v = .int .u64 ((last : Nat) : Int)) := by
 refine enter Tryz.func92 (by kernel_rfl) rfl rfl rfl ?_
 refine sq (rg ?_)
 refine bx hT 0 rfl fun b2 => ?_
 refine WL.hs (pt b2 #[.slice ao 1 cap] 59 :: hs) rfl ?_
 refine fin hT 1 rfl (th (sq (sq (rg ?_))))
 refine ldp hT 1 0 rfl rfl rfl ?_
 refine fin hT 2 rfl (th (ifF rfl ?_))
 refine sk (th (sq (rg ?_)))
 refine ldp hT 1 0 rfl rfl rfl ?_
 refine mks hT 1 1 (.int .u64 0) rfl rfl rfl rfl (by decide) (by decide) (by decide) (by decide) fun bq ol => ?_
 refine fin hT 1 rfl (th (sq (sq (rg ?_))))
 refine ldp hT 1 1 rfl rfl rfl ?_
 refine fin hT 2 rfl (th (bk ?_))
 refine loop (σ := Nat) (fun i => [(1, .slice (some ⟨bm, 0, none⟩) 7 7), (2, .pointer (some ⟨b2, 0, none⟩)), (5, .slice (some ⟨bq, 0, none⟩) 1 1), (18, .int .i64 1), (19, .int .i64 ((i : Nat) : Int))]) (fun _ => K)
  (fun i => pt bq #[.int .u64 (((if i = 0 then 0 else last) : Nat) : Int)] 37 :: pt b2 #[.slice ao 1 cap] 59 :: hs) (fun i => i <= 1) (fun i => 1 - i) 0 (by omega) ⟨rfl, rfl, rfl, rfl, rfl, trivial⟩ rfl rfl ?_
 rintro i hi
 refine sq (rg ?_)
 refine cmpS hT 0 rfl fun b20 h20 => ?_
 refine fin hT 0 rfl (th (sq (ifP h20 rfl (fun e4 => ?_) (fun e4 => ?_))))
 ·obtain rfl : i = 0 := by omega
  refine sk (th (sq (bk (sq (rg ?_)))))
  refine fin hT 2 rfl (th (sq (rg ?_)))
  refine ldp hT 1 1 rfl rfl rfl ?_
  refine ix1 hT 1 0 rfl rfl rfl x (u := .int .i64 0) rfl fun a25 hc25 => ?_
  refine ld hT 0 rfl (.inl rfl) hc25 ?_
  refine fin hT 1 rfl (th (sq (rg ?_)))
  refine fin hT 8 rfl (th (ifT rfl ?_))
  refine rg ?_
  refine ix1 hT 4 0 rfl rfl rfl hM h0 fun a39 hc39 => ?_
  refine ld hT 0 rfl (In.cons (In.cons hm)) hc39 ?_
  refine ixs hT 0 0 rfl rfl ol.isS (by omega) (by decide) fun a41 h41 => ?_
  cases h41
  refine stp hT 0 0 rfl rfl rfl rfl ?_
  refine fin hT 0 rfl (bl (th (rg ?_)))
  refine ar hT 0 rfl (i64w (x := ((1 : Nat) : Int)) (by omega)) ?_
  refine fin hT 1 rfl ?_
  exact again (x := 0) 1 ⟨rfl, rfl, rfl, rfl, rfl, trivial⟩ rfl rfl (by omega) (by omega)
 ·obtain rfl : i = 1 := by omega
  refine ex (xt (xt (xb (th (sq (rg ?_))))))
  refine WL.hs (pt bq (uA [] [last] []) 37 :: pt b2 #[.slice ao 1 cap] 59 :: hs) rfl ?_
  refine cl hT 1 rfl (sortC bq 1 [] [] [last] (by simp) (by simp)) ?_
  rintro v44 K44 hs44 ⟨rfl, ys, rfl, hp, -⟩
  have hys : ys = [last] := List.perm_singleton.1 hp.perm
  subst hys
  refine fin hT 0 rfl (th (sq (rg ?_)))
  refine ar hT 3 rfl (i64w (x := 0) (by omega)) ?_
  refine ar hT 0 (v' := .int .i64 0) rfl rfl ?_
  refine ixs hT 0 0 rfl rfl ol.isS (by omega) (by decide) fun a50 h50 => ?_
  cases h50
  refine ldp hT 0 0 (v := .int .u64 ((last : Nat) : Int)) rfl rfl rfl ?_
  refine fin hT 1 rfl (th (rt (WQ.drop (WQ.drop ?_))))
  exact ret1 rfl rfl ⟨rfl, rfl, rfl⟩
section node
variable {w0 : World} {K lh : PH} {hs : List PH} (rb lb db : Nat) (S : Rf) (vY f0 f1 f2 : Value) {n : Nat} {L : Lg} {D : Dk}
theorem leadsNC (hr : S.role = 2) : Ct Tryz.prog w0 22 [.pointer (some ⟨rb, 0, none⟩)] K (pt rb (rfA lb S vY f0 f1 f2) RT :: hs) (fun v K' hs' => K' = K /\ hs' = pt rb (rfA lb S vY f0 f1 f2) RT :: hs /\ v = .int .i64 0) := by
 obtain ⟨role, lead, com, el, wt, rnd, nx⟩ := S
 subst hr
 refine enter Tryz.func22 (by kernel_rfl) rfl rfl rfl ?_
 refine sq (rg ?_)
 refine fin hT 1 rfl (th (sq (bk (sq (rg ?_)))))
 refine ldp hT 3 0 rfl rfl rfl ?_
 refine fin hT 1 rfl (th (ifF rfl ?_))
 refine sq (rg ?_)
 refine ldp hT 3 0 rfl rfl rfl ?_
 refine fin hT 2 rfl (th (ifF rfl ?_))
 refine sk (bl (th (sq (rg ?_))))
 refine fin hT 1 rfl (th (rt ?_))
 exact ret1 rfl rfl ⟨rfl, rfl, rfl⟩
theorem settledNC (o : Aln n L D) (hn : n <= 10000) (hL : LgH K lb db L D lh) (hc : S.com = L.l.length) (hk : L.kt = 1) (h1 : L.l.length ≠ 0) :
  Ct Tryz.prog w0 27 [.pointer (some ⟨rb, 0, none⟩)] K (pt rb (rfA lb S vY f0 f1 f2) RT :: lh :: hs) (fun v K' hs' => K' = K /\ hs' = pt rb (rfA lb S vY f0 f1 f2) RT :: lh :: hs /\ v = .bool true) := by
 have hlen := o.len
 refine enter Tryz.func27 (by kernel_rfl) rfl rfl rfl ?_
 refine sq (rg ?_)
 refine fin hT 1 rfl (th (sq (rga [pt rb (rfA lb S vY f0 f1 f2) RT] 14 [0, 2, 4, 6, 8, 10, 12, 14, 17, 18, 20, 22, 24, 26] (by simp) (by kernel_rfl) (by kernel_rfl) ?_)))
 refine dldp hT (by kernel_rfl) 3 0 rfl rfl rfl ?_
 refine dldp hT (by kernel_rfl) 3 0 rfl rfl rfl ?_
 refine dact hT (by kernel_rfl) 0 rfl ?_
 refine cl hT 0 rfl (Ct.keep 1 rfl (termH lb db L D (100 * n) o.rn.lb (by omega) hL S.com (by omega))) ?_
 rintro v14 K14 hs14 ⟨rfl, rfl, rfl⟩
 rw [hc, o.trm, if_neg h1]
 refine dnex [pt rb (rfA lb S vY f0 f1 f2) RT] (by simp) (by simp) rfl ?_
 refine dend hT (by kernel_rfl) 5 rfl (th (sq (rg ?_)))
 refine cl hT 2 rfl (termNC rb lb db S vY f0 f1 f2 hL) ?_
 rintro v19 K19 hs19 ⟨rfl, rfl, rfl⟩
 rw [hk]
 refine fin hT 2 rfl (th (rt ?_))
 exact ret1 rfl rfl ⟨rfl, rfl, rfl⟩
theorem zeros7 (j : Nat) : (Array.replicate 7 (Value.int .u64 0)).setIfInBounds j (.int .u64 0) = Array.replicate 7 (Value.int .u64 0) := by
 apply Array.ext'
 simp only [Array.toList_setIfInBounds, Array.toList_replicate]
 exact List.set_replicate_self
theorem match7 (j : Nat) (hj : j < 7) : Cell (pt rb (rfA lb S vY f0 f1 f2) RT) (((⟨rb, 10, none⟩ : Addr).add (j * 5)).add 0) (.int .u64 0) := by
 rw [add_mk, add_mk]
 refine Cell.pt ?_
 obtain rfl | rfl | rfl | rfl | rfl | rfl | rfl : j = 0 \/ j = 1 \/ j = 2 \/ j = 3 \/ j = 4 \/ j = 5 \/ j = 6 := by omega
 all_goals rfl
theorem agreeNC (o : Aln n L D) (hn : n <= 10000) (hL : LgH K lb db L D lh) (hk : L.kt = 1) (h1 : L.l.length ≠ 0) (hc : S.com <= L.l.length) :
  Ct Tryz.prog w0 56 [.pointer (some ⟨rb, 0, none⟩)] K (pt rb (rfA lb S vY f0 f1 f2) RT :: lh :: hs)
   (fun v K' hs' => hs' = pt rb (rfA lb { S with com := L.l.length } vY f0 f1 f2) RT :: lh :: hs /\ Le K K' /\ v = .tuple #[]) := by
 have hlen := o.len
 refine enter Tryz.func56 (by kernel_rfl) rfl rfl rfl ?_
 refine sq (rg ?_)
 refine cl hT 1 rfl (configNC rb lb db S vY f0 f1 f2 o hn hL) ?_
 rintro v12 K12 hs12 ⟨rfl, le1, ao, cap, rfl, x⟩
 have hL1 := hL.le le1
 refine al hT 3 (.agg #[.slice none 0 0]) rfl (by kernel_rfl) fun b2 => ?_
 refine stS hT 0 0 rfl rfl (by kernel_rfl) rfl rfl ?_
 refine WL.hs (pt b2 #[.slice ao 1 cap] 59 :: pt rb (rfA lb S vY f0 f1 f2) RT :: lh :: hs) rfl ?_
 refine fin hT 1 rfl (th (sq (rg ?_)))
 refine mks hT 0 7 (.int .u64 0) rfl rfl rfl rfl (by decide) (by decide) (by decide) (by decide) fun bm om => ?_
 refine fin hT 1 rfl (th (sq (sq (rg ?_))))
 refine fin hT 3 rfl (th (bk ?_))
 refine loop (σ := Nat) (fun i => [(0, .pointer (some ⟨rb, 0, none⟩)), (2, .pointer (some ⟨b2, 0, none⟩)), (4, .slice (some ⟨bm, 0, none⟩) 7 7), (17, .int .i64 7), (18, .int .i64 ((i : Nat) : Int))]) (fun _ => K12)
  (fun i => pt bm (Array.replicate 7 (.int .u64 0)) 37 :: pt b2 #[.slice ao 1 cap] 59 :: pt rb (rfA lb S vY f0 f1 f2) RT :: lh :: hs) (fun i => i <= 7) (fun i => 7 - i) 0 (by omega) ⟨rfl, rfl, rfl, rfl, rfl, trivial⟩ rfl rfl ?_
 rintro j hj
 refine sq (rg ?_)
 refine cmpS hT 0 rfl fun b19 h19 => ?_
 refine fin hT 0 rfl (th (sq (ifP h19 rfl (fun e2 => ?_) (fun e2 => ?_))))
 ·have hj7 : j < 7 := by omega
  refine sk (th (sq (bk (sq (rg ?_)))))
  refine fin hT 2 rfl (th (rg ?_))
  refine ixa (sz := 5) hT 6 j rfl Tryz.underlying64 (by kernel_rfl) rfl hj7 ?_
  refine ld hT 1 rfl (.inr ⟨2, rfl⟩) (match7 rb lb S vY f0 f1 f2 j hj7) ?_
  refine ixs hT 0 j rfl rfl om.isS hj7 (by decide) fun a30 h30 => ?_
  cases h30
  rw [show ((⟨bm, 0, none⟩ : Addr).add (j * 1)) = ⟨bm, j, none⟩ from by rw [add_mk]; congr 1; omega]
  refine stp hT 0 0 (u := .int .u64 0) rfl rfl (by simp [hj7]) rfl ?_
  rw [zeros7]
  refine fin hT 0 rfl (bl (th (rg ?_)))
  refine ar hT 0 rfl (i64w (x := ((j + 1 : Nat) : Int)) (by omega)) ?_
  refine fin hT 1 rfl ?_
  exact again (x := j) (j + 1) ⟨rfl, rfl, rfl, rfl, rfl, trivial⟩ rfl rfl (by omega) (by omega)
 ·have hA : ∀ h ∈ [pt rb (rfA lb S vY f0 f1 f2) RT], h ∈ pt bm (Array.replicate 7 (.int .u64 0)) 37 :: pt b2 #[.slice ao 1 cap] 59 :: pt rb (rfA lb S vY f0 f1 f2) RT :: lh :: hs := by simp
  refine ex (xt (xt (xb (th (sq (rga [pt rb (rfA lb S vY f0 f1 f2) RT] 11 [0, 2, 4, 6, 8, 10, 12, 14, 16, 19, 20, 23] hA (by kernel_rfl) (by kernel_rfl) ?_))))))
  refine dldpw hT (by kernel_rfl) 4 0 rfl (by kernel_rfl) rfl rfl ?_
  refine dldpw hT (by kernel_rfl) 3 0 rfl (by kernel_rfl) rfl rfl ?_
  refine dact hT (by kernel_rfl) 0 rfl ?_
  refine cl hT 0 rfl (Ct.keep 3 rfl (lastH lb db L D (100 * n) o.rn.lb (by omega) hL1)) ?_
  rintro v41 K41 hs41 ⟨rfl, rfl, rfl⟩
  rw [o.last]
  refine dnex [pt rb (rfA lb S vY f0 f1 f2) RT] (by simp) (by simp) rfl ?_
  refine dixs hT (by kernel_rfl) 0 0 rfl rfl (by omega) ?_
  refine dact hT (by kernel_rfl) 0 rfl ?_
  refine stp hT 0 0 rfl rfl rfl rfl ?_
  refine WL.hs (pt bm #[.int .u64 ((L.l.length : Nat) : Int), .int .u64 0, .int .u64 0, .int .u64 0, .int .u64 0, .int .u64 0, .int .u64 0] 37 :: pt b2 #[.slice ao 1 cap] 59 :: pt rb (rfA lb S vY f0 f1 f2) RT :: lh :: hs) rfl ?_
  refine dnex [pt rb (rfA lb S vY f0 f1 f2) RT] (by simp) (by simp) rfl ?_
  refine dend hT (by kernel_rfl) 0 rfl (th (sq (rg ?_)))
  refine ldS hT 0 1 rfl rfl (by kernel_rfl) ?_
  refine cl hT 1 rfl (agreedC ao cap x bm _ L.l.length (.inr ⟨0, rfl⟩) (Own.ofPt (n := 7) (size := 1) (by simp) (by simp [maxLen])).isS rfl) ?_
  rintro v45 K45 hs45 ⟨rfl, rfl, rfl⟩
  refine fin hT 1 rfl (th (sq (rg ?_)))
  refine ldp hT 3 2 rfl rfl rfl ?_
  refine cl hT 1 rfl (Ct.keep 3 rfl (termH lb db L D (100 * n) o.rn.lb (by omega) hL1 L.l.length (by omega))) ?_
  rintro v52 K52 hs52 ⟨rfl, rfl, rfl⟩
  rw [o.trm, if_neg h1]
  refine fin hT 5 rfl (th ?_)
  refine jn (σ := Rf) (fun _ => [(0, .pointer (some ⟨rb, 0, none⟩)), (2, .pointer (some ⟨b2, 0, none⟩))]) (fun S' => pt rb (rfA lb S' vY f0 f1 f2) RT :: lh :: pt bm #[.int .u64 ((L.l.length : Nat) : Int), .int .u64 0, .int .u64 0, .int .u64 0, .int .u64 0, .int .u64 0, .int .u64 0] 37 :: pt b2 #[.slice ao 1 cap] 59 :: hs) (fun S' => S' = { S with com := L.l.length }) ?_ ?_
  ·refine sq (rg ?_)
   refine ldp hT 4 2 rfl rfl rfl ?_
   refine cmpS hT 0 rfl fun b60 h60 => ?_
   refine WL.perm (hs' := pt rb (rfA lb S vY f0 f1 f2) RT :: lh :: pt bm #[.int .u64 ((L.l.length : Nat) : Int), .int .u64 0, .int .u64 0, .int .u64 0, .int .u64 0, .int .u64 0, .int .u64 0] 37 :: pt b2 #[.slice ao 1 cap] 59 :: hs) (List.perm_append_comm_assoc [_, _] [_, _] hs) ?_
   refine' bja (q := True) hT 1 5 66 [60, 61] h60 rfl rfl rfl rfl rfl rfl rfl (fun _ => ?x4) (fun b66 h66 => ?_)
   case x4 =>
    refine cl hT 2 rfl (termNC rb lb db S vY f0 f1 f2 hL1) ?_
    rintro v64 K64 hs64 ⟨rfl, rfl, rfl⟩
    rw [hk]
    exact fin hT 2 rfl (bjx (show true = true ↔ True by simp) rfl rfl rfl)
   refine fin hT 0 rfl (th (ifP h66 rfl (fun e6 => ?_) (fun e6 => ?_)))
   ·refine rg ?_
    refine stp hT 4 0 rfl rfl rfl rfl ?_
    refine WL.hs (pt rb (rfA lb { S with com := L.l.length } vY f0 f1 f2) RT :: lh :: pt bm #[.int .u64 ((L.l.length : Nat) : Int), .int .u64 0, .int .u64 0, .int .u64 0, .int .u64 0, .int .u64 0, .int .u64 0] 37 :: pt b2 #[.slice ao 1 cap] 59 :: hs) rfl ?_
    refine fin hT 0 rfl ?_
    exact jx ({ S with com := L.l.length } : Rf) rfl ⟨rfl, rfl, trivial⟩ rfl rfl
   ·refine sk ?_
    have : S.com = L.l.length := by
     rcases Nat.lt_or_ge S.com L.l.length with h | h
     ·exact absurd ⟨by omega, trivial⟩ e6
     ·omega
    exact jx S (by rw [<- this]) ⟨rfl, rfl, trivial⟩ rfl rfl
  ·rintro S' rfl
   refine sq (rg ?_)
   refine cl hT 1 rfl (configNC rb lb db _ vY f0 f1 f2 o hn hL1) ?_
   rintro v73 K73 hs73 ⟨rfl, le2, ao2, cap2, rfl, x2⟩
   refine stS hT 3 3 rfl rfl (by kernel_rfl) rfl rfl ?_
   refine WL.hs (pt rb (rfA lb { S with com := L.l.length } vY f0 f1 f2) RT :: lh :: pt bm #[.int .u64 ((L.l.length : Nat) : Int), .int .u64 0, .int .u64 0, .int .u64 0, .int .u64 0, .int .u64 0, .int .u64 0] 37 :: pt b2 #[.slice ao2 1 cap2] 59 :: hs) rfl ?_
   refine fin hT 1 rfl (th (sq (rga [pt rb (rfA lb { S with com := L.l.length } vY f0 f1 f2) RT, pt b2 #[.slice ao2 1 cap2] 59] 15 [0, 2, 4, 6, 8, 10, 12, 14, 16, 18, 20, 22, 25, 26, 28] (by simp) (by kernel_rfl) (by kernel_rfl) ?_)))
   refine dldp hT (by kernel_rfl) 4 0 rfl rfl rfl ?_
   refine dcmp hT (by kernel_rfl) 0 True rfl (by simp) (fun h7 => ?_) (fun h7 => absurd trivial h7)
   refine dldS hT (by kernel_rfl) 1 1 rfl (by kernel_rfl) rfl (by kernel_rfl) ?_
   refine dldp hT (by kernel_rfl) 3 0 rfl rfl rfl ?_
   refine dact hT (by kernel_rfl) 0 rfl ?_
   refine cl hT 0 rfl (votesC (.inl rfl) ao2 cap2 [0] x2 (by simp) 0) ?_
   rintro v88 K88 hs88 ⟨rfl, rfl, rfl⟩
   refine dnex [pt rb (rfA lb { S with com := L.l.length } vY f0 f1 f2) RT, pt b2 #[.slice ao2 1 cap2] 59] (by simp) (by simp) rfl ?_
   refine dend hT (by kernel_rfl) 2 rfl (th (ifF rfl ?_))
   refine sk (WQ.perm (hs' := pt bm #[.int .u64 ((L.l.length : Nat) : Int), .int .u64 0, .int .u64 0, .int .u64 0, .int .u64 0, .int .u64 0, .int .u64 0] 37 :: pt b2 #[.slice ao2 1 cap2] 59 :: pt rb (rfA lb { S with com := L.l.length } vY f0 f1 f2) RT :: lh :: hs) (List.perm_append_comm_assoc [_, _] [_, _] hs) (WQ.drop (WQ.drop ?_)))
   exact end0 rfl ⟨rfl, le1.trans le2, rfl⟩
end node
end Go.Proofs.YtcncpbolcigpnaaGreat
end
section
namespace Go.Proofs.YtcncpbolcigpnaaGreat
open Go.En
attribute [local irreducible] Code.wp wpList Calls
def nxA (nv : Nat) (nx : Nat -> Nat) (j : Nat) : Nat -> Nat := fun i => if i < j then nv else nx i
theorem peer_set (lb : Nat) (S : Rf) (vY f0 f1 f2 : Value) (nv j : Nat) (hj : j < 7) :
  ((rfA lb { S with nx := nxA nv S.nx j } vY f0 f1 f2).toList.take (10 + j * 5) ++ (#[.int .u64 0, .int .u64 ((nv : Nat) : Int), .int .u64 0, .bool false, .int .i64 0] : Array Value).toList ++
   (rfA lb { S with nx := nxA nv S.nx j } vY f0 f1 f2).toList.drop (10 + j * 5 + (#[.int .u64 0, .int .u64 ((nv : Nat) : Int), .int .u64 0, .bool false, .int .i64 0] : Array Value).toList.length)).toArray = rfA lb { S with nx := nxA nv S.nx (j + 1) } vY f0 f1 f2 := by
 obtain rfl | rfl | rfl | rfl | rfl | rfl | rfl : j = 0 \/ j = 1 \/ j = 2 \/ j = 3 \/ j = 4 \/ j = 5 \/ j = 6 := by omega
 all_goals rfl
section node
variable {w0 : World} {K lh : PH} {hs : List PH} (rb lb db : Nat) (S : Rf) (vY f0 f1 f2 : Value) {n : Nat} {L : Lg} {D : Dk}
theorem layNC (o : Aln n L D) (hn : n <= 9000) (hL : LgH K lb db L D lh) (hk : L.kt = 1) (hr : S.role = 2) (hc : S.com <= L.l.length) (hrd : S.rnd < 1000000) (kind : Int) (hki : kind ≠ 2) (data : List UInt8) (hd : heldP kind data) (aD : Option Addr) (cD : Nat) (x : IsS K aD data.length cD 1 (bv data)) :
  Ct Tryz.prog w0 24 [.pointer (some ⟨rb, 0, none⟩), .int .i64 kind, .slice aD data.length cD] K (pt rb (rfA lb S vY f0 f1 f2) RT :: lh :: hs)
   (fun v K' hs' => ∃ L' D' lh', hs' = pt rb (rfA lb { S with com := L.l.length + 1 } vY f0 f1 f2) RT :: lh' :: hs /\ Le K K' /\ LgH K' lb db L' D' lh' /\ Aln (n + 2) L' D' /\ L'.kt = 1 /\ L'.l.length = L.l.length + 1 /\
    v = .tuple #[.int .u64 ((L.l.length + 1 : Nat) : Int), .int .u64 ((1 : Nat) : Int), .int .i64 0]) := by
 obtain ⟨role, lead, com, el, wt, rnd, nx⟩ := S
 dsimp only at hr hc hrd
 subst hr
 have hlen := o.len
 have hdl := held_len hd
 obtain ⟨e, he⟩ : ∃ e : Ent, e = ⟨L.l.length + 1, 1, kind, data⟩ := ⟨_, rfl⟩
 have hbE : ∀ y ∈ [e], entB y := fun y hy => by
  rw [List.mem_singleton.1 hy, he]
  exact ⟨by dsimp only; unfold mxU; omega, by dsimp only; unfold mxU; omega, by dsimp only; omega⟩
 obtain ⟨a1, a2, a3, a4⟩ := o.append (by omega) e (by rw [he]) (by rw [he]) (by rw [he]; exact hki) (by rw [he]; exact hd)
 obtain ⟨s1, s2, s3, s4⟩ := a2.sync (by omega)
 have hl3 : ((L.append [e] D).1.sync (L.append [e] D).2.1).1.l.length = L.l.length + 1 := by rw [s4, a4]; simp
 refine enter Tryz.func24 (by kernel_rfl) rfl rfl rfl ?_
 refine sq (rg ?_)
 refine fin hT 3 rfl (th (sq (rg ?_)))
 refine ldp hT 3 0 rfl rfl rfl ?_
 refine cl hT 0 rfl (Ct.keep 1 rfl (lastH lb db L D (100 * n) o.rn.lb (by omega) hL)) ?_
 rintro v14 K14 hs14 ⟨rfl, rfl, rfl⟩
 rw [o.last]
 refine ar hT 0 rfl (u64w (x := ((L.l.length + 1 : Nat) : Int)) (by omega)) ?_
 refine cl hT 1 rfl (termNC rb lb db _ vY f0 f1 f2 hL) ?_
 rintro v17 K17 hs17 ⟨rfl, rfl, rfl⟩
 rw [hk]
 refine bd hT 2 (.agg #[.int .u64 ((L.l.length + 1 : Nat) : Int), .int .u64 ((1 : Nat) : Int), .int .i64 kind, .slice aD data.length cD]) rfl (fun w => by kernel_rfl) ?_
 refine al hT 0 (.agg #[.int .u64 0, .int .u64 0, .int .i64 0, .slice none 0 0]) rfl (by kernel_rfl) fun b9 => ?_
 refine stS hT 0 0 rfl rfl (by kernel_rfl) rfl rfl ?_
 refine WL.hs (pt b9 (e.v aD cD) 111 :: pt rb (rfA lb ⟨2, lead, com, el, wt, rnd, nx⟩ vY f0 f1 f2) RT :: lh :: hs) (by rw [he]; rfl) ?_
 refine fin hT 0 rfl (th (sq (rga [pt b9 (e.v aD cD) 111, pt rb (rfA lb ⟨2, lead, com, el, wt, rnd, nx⟩ vY f0 f1 f2) RT] 10 [0, 2, 4, 6, 8, 10, 13, 15, 17, 18] (by simp) (by kernel_rfl) (by kernel_rfl) ?_)))
 refine dldp hT (by kernel_rfl) 4 1 rfl rfl rfl ?_
 refine dldS hT (by kernel_rfl) 0 0 rfl (by kernel_rfl) rfl (by kernel_rfl) ?_
 refine dact hT (by kernel_rfl) 0 rfl ?_
 refine lit hT 0 (e.v aD cD) rfl (by decide) (by kernel_rfl) fun b27 => ?_
 refine WL.frz fun K2 l1 l2 => ?_
 have xs : SlS 4 (EntC K2) K2 (some ⟨b27, 0, none⟩) [e].length 1 [e] := ⟨[(e.v aD cD).toList], rfl, by
  have := (Own.ofPt (b := b27) (c := e.v aD cD) (e := 111) (n := 1) (size := 4) rfl (by decide)).isS.le l2
  simpa using this, ⟨⟨aD, cD, rfl, by rw [he]; exact x.le l1⟩, trivial⟩, by simp [Ent.v]⟩
 refine dnexL [pt b9 (e.v aD cD) 111, pt rb (rfA lb ⟨2, lead, com, el, wt, rnd, nx⟩ vY f0 f1 f2) RT] (by simp) (by simp) l1 ?_
 refine dact hT (by kernel_rfl) 0 rfl ?_
 refine cl hT 0 rfl (Ct.at 2 rfl (appendH lb db L D (100 * n) o.rn.lb o.rn.ok (hL.le l1) (some ⟨b27, 0, none⟩) 1 [e] xs hbE (by simp only [List.length_singleton]; omega))) ?_
 rintro v28 K28 hs28 ⟨h2, rfl, le2, hL2, rfl⟩
 rw [a1]
 refine WL.hs (pt b9 (e.v aD cD) 111 :: pt rb (rfA lb ⟨2, lead, com, el, wt, rnd, nx⟩ vY f0 f1 f2) RT :: h2 :: hs) rfl ?_
 refine dnexL [pt b9 (e.v aD cD) 111, pt rb (rfA lb ⟨2, lead, com, el, wt, rnd, nx⟩ vY f0 f1 f2) RT] (by simp) (by simp) le2 ?_
 refine dact hT (by kernel_rfl) 0 rfl ?_
 refine cl hT 0 rfl (didNC rb) ?_
 rintro v29 K29 hs29 ⟨rfl, rfl, rfl⟩
 refine dnex [pt b9 (e.v aD cD) 111, pt rb (rfA lb ⟨2, lead, com, el, wt, rnd, nx⟩ vY f0 f1 f2) RT] (by simp) (by simp) rfl ?_
 refine dend hT (by kernel_rfl) 1 rfl (th (sq (sq (rg ?_))))
 refine fin hT 2 rfl (th (ifT rfl ?_))
 refine rg ?_
 refine ldp hT 4 1 rfl rfl rfl ?_
 refine cl hT 0 rfl (Ct.at 2 rfl (syncH' lb db _ _ (100 * (n + 1)) a2.rn.lb (by omega) a2.rn.ok hL2)) ?_
 rintro v37 K37 hs37 ⟨h3, rfl, le3, hL3, rfl⟩
 rw [s1]
 refine WL.hs (pt b9 (e.v aD cD) 111 :: pt rb (rfA lb ⟨2, lead, com, el, wt, rnd, nx⟩ vY f0 f1 f2) RT :: h3 :: hs) rfl ?_
 refine cl hT 0 rfl (didNC rb) ?_
 rintro v38 K38 hs38 ⟨rfl, rfl, rfl⟩
 refine fin hT 1 rfl (th (sq (sq (rg ?_))))
 refine fin hT 2 rfl (th (ifF rfl ?_))
 refine sk (th (sq (rg ?_)))
 refine WL.perm (hs' := pt rb (rfA lb ⟨2, lead, com, el, wt, rnd, nx⟩ vY f0 f1 f2) RT :: h3 :: pt b9 (e.v aD cD) 111 :: hs) (List.perm_append_comm_assoc [_] [_, _] hs) ?_
 refine cl hT 1 rfl (agreeNC rb lb db _ vY f0 f1 f2 s2 (by omega) hL3 (by rw [s3, a3]; exact hk) (by rw [hl3]; omega) (by rw [hl3]; dsimp only; omega)) ?_
 rintro v43 K43 hs43 ⟨rfl, le4, rfl⟩
 refine fin hT 0 rfl (th (sq (sq (rg ?_))))
 refine ldp hT 3 0 rfl rfl rfl ?_
 refine fin hT 1 rfl (th (ifT rfl ?_))
 refine rg ?_
 refine cl hT 1 rfl (tellNC rb lb db _ vY f0 f1 f2 s2 (by omega) (hL3.le le4) false hrd) ?_
 rintro v50 K50 hs50 ⟨rfl, le5, rfl⟩
 refine WL.perm (hs' := pt b9 (e.v aD cD) 111 :: pt rb (rfA lb ⟨2, lead, ((L.append [e] D).1.sync (L.append [e] D).2.1).1.l.length, el, wt, rnd, nx⟩ vY f0 f1 f2) RT :: h3 :: hs) (List.perm_append_comm_assoc [_, _] [_] hs) ?_
 refine fin hT 0 rfl (th (sq (rga [pt b9 (e.v aD cD) 111] 7 [0, 2, 4, 6, 8, 10, 12] (by simp) (by kernel_rfl) (by kernel_rfl) ?_)))
 refine dldp hT (by kernel_rfl) 1 0 (v := .int .u64 ((L.l.length + 1 : Nat) : Int)) rfl rfl (by rw [he]; rfl) ?_
 refine dldp hT (by kernel_rfl) 1 0 (v := .int .u64 ((1 : Nat) : Int)) rfl rfl (by rw [he]; rfl) ?_
 refine dend hT (by kernel_rfl) 3 rfl (th (rt (WQ.drop ?_)))
 exact ret3 rfl rfl rfl rfl ⟨_, _, h3, by rw [hl3], (((l1.trans le2).trans le3).trans le4).trans le5, (hL3.le le4).le le5, s2, by rw [s3, a3]; exact hk, hl3, rfl⟩
theorem electedNC (o : Aln n L D) (hn : n <= 9000) (hL : LgH K lb db L D lh) (hk : L.kt = 1) (hc : S.com <= L.l.length) (hrd : S.rnd < 1000000) (ay : Option Addr) (ky : Nat) (xy : IsS K ay 1 ky 1 (iv [0])) (hvY : vY = .slice ay 1 ky) (ao : Option Addr) (cap : Nat) (x : IsS K ao 1 cap 1 (iv [0])) :
  Ct Tryz.prog w0 112 [.pointer (some ⟨rb, 0, none⟩), .agg #[.slice ao 1 cap]] K (pt rb (rfA lb S vY f0 f1 f2) RT :: lh :: hs)
   (fun v K' hs' => ∃ L' D' lh' nx', hs' = pt rb (rfA lb ⟨2, 0, L.l.length + 1, 0, S.wt, S.rnd, nx'⟩ vY f0 f1 f2) RT :: lh' :: hs /\ Le K K' /\ LgH K' lb db L' D' lh' /\ Aln (n + 2) L' D' /\ L'.kt = 1 /\ L'.l.length = L.l.length + 1 /\ v = .int .i64 0) := by
 subst hvY
 have hlen := o.len
 refine enter Tryz.func112 (by kernel_rfl) rfl rfl rfl ?_
 refine sq (rg ?_)
 refine bx hT 0 rfl fun b3 => ?_
 refine WL.perm (hs' := pt rb (rfA lb S (.slice ay 1 ky) f0 f1 f2) RT :: lh :: pt b3 #[.slice ao 1 cap] 59 :: hs) (List.perm_append_comm_assoc [_] [_, _] hs) ?_
 refine fin hT 1 rfl (th (sq (sq (rga [pt rb (rfA lb S (.slice ay 1 ky) f0 f1 f2) RT, pt b3 #[.slice ao 1 cap] 59] 7 [0, 2, 4, 6, 8, 11, 12] (by simp) (by kernel_rfl) (by kernel_rfl) ?_))))
 refine dldS hT (by kernel_rfl) 0 1 rfl (by kernel_rfl) rfl (by kernel_rfl) ?_
 refine dldp hT (by kernel_rfl) 3 0 rfl rfl rfl ?_
 refine dact hT (by kernel_rfl) 0 rfl ?_
 refine cl hT 0 rfl (quorumC ao cap x K (.inl rfl) ay ky xy) ?_
 rintro v14 K14 hs14 ⟨rfl, rfl, rfl⟩
 refine dnex [pt rb (rfA lb S (.slice ay 1 ky) f0 f1 f2) RT, pt b3 #[.slice ao 1 cap] 59] (by simp) (by simp) rfl ?_
 refine dend hT (by kernel_rfl) 1 rfl (th (ifF rfl ?_))
 refine sk (th (sq (rg ?_)))
 refine ldp hT 6 0 rfl rfl rfl ?_
 refine stp hT 2 0 rfl rfl rfl rfl ?_
 refine stp hT 2 0 rfl rfl rfl rfl ?_
 refine stp hT 2 0 rfl rfl rfl rfl ?_
 refine WL.hs (pt rb (rfA lb ⟨2, 0, S.com, 0, S.wt, S.rnd, nxA (L.l.length + 1) S.nx 0⟩ (.slice ay 1 ky) f0 f1 f2) RT :: lh :: pt b3 #[.slice ao 1 cap] 59 :: hs) rfl ?_
 refine fin hT 0 rfl (th (sq (sq (rg ?_))))
 refine fin hT 1 rfl (th (bk ?_))
 refine loop (σ := Nat) (fun j => [(0, .pointer (some ⟨rb, 0, none⟩)), (29, .int .i64 ((j : Nat) : Int))]) (fun _ => K14)
  (fun j => pt rb (rfA lb ⟨2, 0, S.com, 0, S.wt, S.rnd, nxA (L.l.length + 1) S.nx j⟩ (.slice ay 1 ky) f0 f1 f2) RT :: lh :: pt b3 #[.slice ao 1 cap] 59 :: hs) (fun j => j <= 7) (fun j => 7 - j) 0 (by omega) ⟨rfl, rfl, trivial⟩ rfl rfl ?_
 rintro j hj
 refine sq (rg ?_)
 refine cmpS hT 0 rfl fun b30 h30 => ?_
 refine fin hT 0 rfl (th (sq (ifP h30 rfl (fun e3 => ?_) (fun e3 => ?_))))
 ·have hj7 : j < 7 := by omega
  refine sk (th (sq (bk (sq (rg ?_)))))
  refine fin hT 2 rfl (th (rga [pt rb (rfA lb ⟨2, 0, S.com, 0, S.wt, S.rnd, nxA (L.l.length + 1) S.nx j⟩ (.slice ay 1 ky) f0 f1 f2) RT] 12 [0, 2, 4, 6, 8, 10, 18, 20, 13, 14, 16, 22, 25] (by simp) (by kernel_rfl) (by kernel_rfl) ?_))
  refine dldpw hT (by kernel_rfl) 5 0 rfl (by kernel_rfl) rfl rfl ?_
  refine dact hT (by kernel_rfl) 2 rfl ?_
  refine cl hT 0 rfl (Ct.keep 1 rfl (lastH lb db L D (100 * n) o.rn.lb (by omega) hL)) ?_
  rintro v38 K38 hs38 ⟨rfl, rfl, rfl⟩
  rw [o.last]
  refine dnex [pt rb (rfA lb ⟨2, 0, S.com, 0, S.wt, S.rnd, nxA (L.l.length + 1) S.nx j⟩ (.slice ay 1 ky) f0 f1 f2) RT] (by simp) (by simp) rfl ?_
  refine dar hT (by kernel_rfl) 0 rfl (u64w (x := ((L.l.length + 1 : Nat) : Int)) (by omega)) ?_
  refine dbd hT (by kernel_rfl) 0 (.agg #[.int .u64 0, .int .u64 ((L.l.length + 1 : Nat) : Int), .int .u64 0, .bool false, .int .i64 0]) rfl (fun w => by kernel_rfl) ?_
  refine dixa (sz := 5) (a := ⟨rb, 10, none⟩) hT (by kernel_rfl) 0 j rfl Tryz.underlying64 (by kernel_rfl) rfl hj7 ?_
  rw [add_mk]
  refine dact hT (by kernel_rfl) 0 rfl ?_
  refine sts hT 0 0 (off := 10 + j * 5) (cs := #[.int .u64 0, .int .u64 ((L.l.length + 1 : Nat) : Int), .int .u64 0, .bool false, .int .i64 0]) rfl rfl (by kernel_rfl) (by show 10 + j * 5 + 5 <= 54; omega) (fun v hv => by simp at hv; rcases hv with rfl | rfl | rfl | rfl | rfl <;> rfl) ?_
  refine WL.hs (pt rb (rfA lb ⟨2, 0, S.com, 0, S.wt, S.rnd, nxA (L.l.length + 1) S.nx (j + 1)⟩ (.slice ay 1 ky) f0 f1 f2) RT :: lh :: pt b3 #[.slice ao 1 cap] 59 :: hs) (congrArg (fun c => pt rb c RT :: lh :: pt b3 #[.slice ao 1 cap] 59 :: hs) (peer_set lb ⟨2, 0, S.com, 0, S.wt, S.rnd, S.nx⟩ (.slice ay 1 ky) f0 f1 f2 (L.l.length + 1) j hj7)) ?_
  refine dnext (.inl (by kernel_rfl)) ?_
  refine dend hT (by kernel_rfl) 0 rfl (bl (th (rg ?_)))
  refine ar hT 0 rfl (i64w (x := ((j + 1 : Nat) : Int)) (by omega)) ?_
  refine fin hT 1 rfl ?_
  exact again (x := j) (j + 1) ⟨rfl, rfl, trivial⟩ rfl rfl (by omega) (by omega)
 ·obtain rfl : j = 7 := by omega
  refine ex (xt (xt (xb (th (sq (rg ?_))))))
  refine cl hT 1 rfl (layNC rb lb db ⟨2, 0, S.com, 0, S.wt, S.rnd, nxA (L.l.length + 1) S.nx 7⟩ (.slice ay 1 ky) f0 f1 f2 o hn hL hk rfl hc hrd 0 (by decide) [] (.inl ⟨rfl, rfl⟩) none 0 (IsS.nil _ _ _ _)) ?_
  rintro v47 K47 hs47 ⟨L', D', lh', rfl, le, hL', o', hk', hl', rfl⟩
  refine fin hT 7 rfl (th (sq (rg ?_)))
  refine WL.perm (hs' := pt b3 #[.slice ao 1 cap] 59 :: pt rb (rfA lb ⟨2, 0, L.l.length + 1, 0, S.wt, S.rnd, nxA (L.l.length + 1) S.nx 7⟩ (.slice ay 1 ky) f0 f1 f2) RT :: lh' :: hs) (List.perm_append_comm_assoc [_, _] [_] hs) ?_
  refine fin hT 2 rfl (th (rt (WQ.drop ?_)))
  exact ret1 rfl rfl ⟨L', D', lh', _, rfl, le, hL', o', hk', hl', rfl⟩
end node
end Go.Proofs.YtcncpbolcigpnaaGreat
end
section
namespace Go.En
structure RfI (n : Nat) (L : Lg) (D : Dk) (S : Rf) : Prop where
 aln : Aln n L D
 rnd : S.rnd <= n
 case : (S.role = 0 /\ S.lead = -1 /\ L.kt = 0 /\ L.l.length = 0 /\ S.com = 0 /\ ((S.wt = 0 /\ S.el = 0) \/ (10 <= S.wt /\ S.wt <= 31 /\ 0 <= S.el /\ S.el < S.wt))) \/ (S.role = 2 /\ S.lead = 0 /\ L.kt = 1 /\ 1 <= L.l.length /\ S.com = L.l.length /\ 0 <= S.el /\ S.el <= 2)
end Go.En
namespace Go.Proofs.YtcncpbolcigpnaaGreat
open Go.En
attribute [local irreducible] Code.wp wpList Calls
section node
variable {w0 : World} {K lh : PH} {hs : List PH} (rb lb db : Nat) (S : Rf) (vY f0 f1 f2 : Value) {n : Nat} {L : Lg} {D : Dk}
theorem standNC (o : Aln n L D) (hn : n <= 8000) (hL : LgH K lb db L D lh) (hk : L.kt = 0) (hc : S.com <= L.l.length) (hrd : S.rnd < 1000000) (ao : Option Addr) (cap : Nat) (x : IsS K ao 1 cap 1 (iv [0])) :
  Ct Tryz.prog w0 85 [.pointer (some ⟨rb, 0, none⟩), .agg #[.slice ao 1 cap]] K (pt rb (rfA lb S vY f0 f1 f2) RT :: lh :: hs)
   (fun v K' hs' => ∃ L' D' lh' nx' vY', hs' = pt rb (rfA lb ⟨2, 0, L.l.length + 1, 0, 0, S.rnd, nx'⟩ vY' f0 f1 f2) RT :: lh' :: hs /\ Le K K' /\ LgH K' lb db L' D' lh' /\ Aln (n + 3) L' D' /\ L'.kt = 1 /\ L'.l.length = L.l.length + 1 /\ v = .int .i64 0) := by
 have hlen := o.len
 obtain ⟨g1, g2, g3, g4⟩ := o.setHard (by omega) 1 0 (by decide) (by omega) (by omega)
 generalize hR : L.setHard D 1 0 = R at g1 g2 g3 g4
 obtain ⟨L1, D1, c1⟩ := R
 dsimp only at g1 g2 g3 g4
 refine enter Tryz.func85 (by kernel_rfl) rfl rfl rfl ?_
 refine sq (rg ?_)
 refine bx hT 0 rfl fun b3 => ?_
 refine WL.perm (hs' := pt rb (rfA lb S vY f0 f1 f2) RT :: lh :: pt b3 #[.slice ao 1 cap] 59 :: hs) (List.perm_append_comm_assoc [_] [_, _] hs) ?_
 refine fin hT 1 rfl (th (sq (rga [pt rb (rfA lb S vY f0 f1 f2) RT] 16 [0, 2, 4, 6, 8, 10, 16, 18, 20, 22, 13, 14, 24, 27, 29, 30] (by simp) (by kernel_rfl) (by kernel_rfl) ?_)))
 refine dldp hT (by kernel_rfl) 4 0 rfl rfl rfl ?_
 refine dldp hT (by kernel_rfl) 4 0 rfl rfl rfl ?_
 refine dact hT (by kernel_rfl) 0 rfl ?_
 refine cl hT 0 rfl (termNC rb lb db S vY f0 f1 f2 hL) ?_
 rintro v17 K17 hs17 ⟨rfl, rfl, rfl⟩
 rw [hk]
 refine dnex [pt rb (rfA lb S vY f0 f1 f2) RT] (by simp) (by simp) rfl ?_
 refine dar hT (by kernel_rfl) 0 rfl (u64w (x := ((1 : Nat) : Int)) (by omega)) ?_
 refine dbd hT (by kernel_rfl) 0 (.agg #[.int .u64 ((1 : Nat) : Int), .int .i64 0]) rfl (fun w => by kernel_rfl) ?_
 refine dact hT (by kernel_rfl) 0 rfl ?_
 refine cl hT 0 rfl (Ct.at 1 rfl (setHardH lb db L D (100 * n) o.rn.lb (by omega) o.rn.ok hL 1 0 (by decide) (by omega))) ?_
 rintro v24 K24 hs24 ⟨h2, rfl, le1, hL2, rfl⟩
 rw [hR] at hL2 ⊢
 dsimp only at hL2 ⊢
 rw [g1]
 refine WL.hs (pt rb (rfA lb S vY f0 f1 f2) RT :: h2 :: pt b3 #[.slice ao 1 cap] 59 :: hs) rfl ?_
 refine dnexL [pt rb (rfA lb S vY f0 f1 f2) RT] (by simp) (by simp) le1 ?_
 refine dact hT (by kernel_rfl) 0 rfl ?_
 refine cl hT 0 rfl (didNC rb) ?_
 rintro v25 K25 hs25 ⟨rfl, rfl, rfl⟩
 refine dnex [pt rb (rfA lb S vY f0 f1 f2) RT] (by simp) (by simp) rfl ?_
 refine dend hT (by kernel_rfl) 1 rfl (th (sq (sq (rg ?_))))
 refine fin hT 2 rfl (th (ifF rfl ?_))
 refine sk (th (sq (rg ?_)))
 refine ldp hT 6 0 rfl rfl rfl ?_
 refine lit hT 0 #[.int .i64 0] rfl (by decide) (by kernel_rfl) fun b36 => ?_
 refine WL.frz fun K2 l1 l2 => ?_
 have xy : IsS K2 (some ⟨b36, 0, none⟩) 1 1 1 (iv [0]) := (Own.ofPt (b := b36) (c := #[.int .i64 0]) (e := 3) (n := 1) (size := 1) rfl (by decide)).isS.le l2
 refine stp hT 2 0 rfl rfl rfl rfl ?_
 refine stp hT 2 0 rfl rfl rfl rfl ?_
 refine stp hT 2 0 rfl rfl rfl rfl ?_
 refine WL.hs (pt rb (rfA lb { S with role := 1, lead := -1 } (.slice (some ⟨b36, 0, none⟩) 1 1) f0 f1 f2) RT :: h2 :: pt b3 #[.slice ao 1 cap] 59 :: hs) rfl ?_
 refine fin hT 0 rfl (th (sq (rg ?_)))
 refine stp hT 4 0 rfl rfl rfl rfl ?_
 refine stp hT 2 0 rfl rfl rfl rfl ?_
 refine WL.hs (pt rb (rfA lb ⟨1, -1, S.com, 0, 0, S.rnd, S.nx⟩ (.slice (some ⟨b36, 0, none⟩) 1 1) f0 f1 f2) RT :: h2 :: pt b3 #[.slice ao 1 cap] 59 :: hs) rfl ?_
 refine fin hT 0 rfl (th (sq (rg ?_)))
 refine ldp hT 3 0 rfl rfl rfl ?_
 refine cl hT 0 rfl (Ct.keep 1 rfl (lastH lb db L1 D1 (100 * (n + 1)) g2.rn.lb (by omega) (hL2.le l1))) ?_
 rintro v53 K53 hs53 ⟨rfl, rfl, rfl⟩
 rw [g2.last, g4]
 refine fin hT 1 rfl (th (sq (rg ?_)))
 refine ldp hT 3 0 rfl rfl rfl ?_
 refine cl hT 1 rfl (Ct.keep 1 rfl (termH lb db L1 D1 (100 * (n + 1)) g2.rn.lb (by omega) (hL2.le l1) L.l.length (by omega))) ?_
 rintro v60 K60 hs60 ⟨rfl, rfl, rfl⟩
 refine fin hT 5 rfl (th (sq (sq (rg ?_))))
 refine cl hT 1 rfl (othersNC rb lb db ⟨1, -1, S.com, 0, 0, S.rnd, S.nx⟩ (.slice (some ⟨b36, 0, none⟩) 1 1) f0 f1 f2 g2 (by omega) (hL2.le l1)) ?_
 rintro v64 K64 hs64 ⟨rfl, le3, ao2, cap2, rfl⟩
 refine fin hT 2 rfl (th (bk ?_))
 refine loop (σ := Unit) (fun _ => [(0, .pointer (some ⟨rb, 0, none⟩)), (3, .pointer (some ⟨b3, 0, none⟩)), (65, .int .i64 0), (66, .int .i64 0)]) (fun _ => K64) (fun _ => pt rb (rfA lb ⟨1, -1, S.com, 0, 0, S.rnd, S.nx⟩ (.slice (some ⟨b36, 0, none⟩) 1 1) f0 f1 f2) RT :: h2 :: pt b3 #[.slice ao 1 cap] 59 :: hs) (fun _ => True) (fun _ => 0) () trivial ⟨rfl, rfl, rfl, rfl, trivial⟩ rfl rfl ?_
 rintro _ _
 refine sq (rg ?_)
 refine fin hT 1 rfl (th (sq (ifF rfl ?_)))
 refine ex (xt (xt (xb (th (sq (rg ?_))))))
 refine ldS hT 1 2 rfl rfl (by kernel_rfl) ?_
 have hl1 : L1.l.length = L.l.length := by rw [g4]
 refine cl hT 0 rfl (electedNC rb lb db ⟨1, -1, S.com, 0, 0, S.rnd, S.nx⟩ (.slice (some ⟨b36, 0, none⟩) 1 1) f0 f1 f2 g2 (by omega) ((hL2.le l1).le le3) g3 (by dsimp only; omega) hrd _ 1 (xy.le le3) rfl ao cap (((x.le le1).le l1).le le3)) ?_
 rintro v79 K79 hs79 ⟨L', D', lh', nx', rfl, le4, hL', o', hk', hl', rfl⟩
 refine WL.perm (hs' := pt b3 #[.slice ao 1 cap] 59 :: pt rb (rfA lb ⟨2, 0, L1.l.length + 1, 0, 0, S.rnd, nx'⟩ (.slice (some ⟨b36, 0, none⟩) 1 1) f0 f1 f2) RT :: lh' :: hs) (List.perm_append_comm_assoc [_, _] [_] hs) ?_
 refine fin hT 1 rfl (th (rt (WQ.drop ?_)))
 exact ret1 rfl rfl ⟨L', D', lh', nx', _, by rw [hl1], ((le1.trans l1).trans le3).trans le4, hL', o', hk', by rw [hl', hl1], rfl⟩
theorem idleNC (d : Nat) (hd : d < 18446744073709551616) (I : RfI n L D S) (hr : S.role = 0) (hn : n <= 7000) (hL : LgH K lb db L D lh) :
  Ct Tryz.prog w0 44 [.pointer (some ⟨rb, 0, none⟩), .int .u64 ((d : Nat) : Int)] K (pt rb (rfA lb S vY f0 f1 f2) RT :: lh :: hs)
   (fun v K' hs' => ∃ L' D' lh' S' vY', hs' = pt rb (rfA lb S' vY' f0 f1 f2) RT :: lh' :: hs /\ Le K K' /\ LgH K' lb db L' D' lh' /\ RfI (n + 4) L' D' S' /\ (S'.role = 2 \/ S'.role = 0 /\ S'.el = S.el + 1) /\ v = .int .i64 0) := by
 have o := I.aln
 have hrn := I.rnd
 obtain ⟨-, hlead, hk, hll, hcom, hw⟩ : S.role = 0 /\ S.lead = -1 /\ L.kt = 0 /\ L.l.length = 0 /\ S.com = 0 /\ ((S.wt = 0 /\ S.el = 0) \/ (10 <= S.wt /\ S.wt <= 31 /\ 0 <= S.el /\ S.el < S.wt)) := by
  rcases I.case with h | h
  ·exact h
  ·rw [hr] at h; exact absurd h.1 (by decide)
 obtain ⟨S1, hS1⟩ : ∃ S1 : Rf, S1 = { S with wt := if S.wt = 0 then ((10 + d % 22 : Nat) : Int) else S.wt } := ⟨_, rfl⟩
 refine enter Tryz.func44 (by kernel_rfl) rfl rfl rfl ?_
 refine sq (rg ?_)
 refine fin hT 1 rfl (th ?_)
 refine jn (σ := Unit) (fun _ => [(0, .pointer (some ⟨rb, 0, none⟩))]) (fun _ => pt rb (rfA lb S1 vY f0 f1 f2) RT :: lh :: hs) (fun _ => True) ?_ ?_
 ·refine sq (rg ?_)
  refine ldp hT 3 0 rfl rfl rfl ?_
  refine cmpS hT 0 rfl fun b11 h11 => ?_
  refine fin hT 0 rfl (th (ifP h11 rfl (fun e2 => ?_) (fun e2 => ?_)))
  ·refine rg ?_
   refine cl hT 2 rfl (timeoutC d hd) ?_
   rintro v14 K14 hs14 ⟨rfl, rfl, rfl⟩
   refine stp hT 2 0 rfl rfl rfl rfl ?_
   refine WL.hs (pt rb (rfA lb { S with wt := ((10 + d % 22 : Nat) : Int) } vY f0 f1 f2) RT :: lh :: hs) rfl ?_
   refine fin hT 0 rfl ?_
   exact jx () trivial ⟨rfl, trivial⟩ rfl (by rw [hS1, if_pos e2])
  ·refine sk ?_
   exact jx () trivial ⟨rfl, trivial⟩ rfl (by rw [hS1, if_neg e2])
 rintro _ _
 have hw1 : 10 <= S1.wt /\ S1.wt <= 31 /\ 0 <= S1.el /\ S1.el < S1.wt := by
  rw [hS1]
  dsimp only
  split <;> omega
 have hel : S1.el = S.el := by rw [hS1]
 have hro : S1.role = 0 := by rw [hS1]; exact hr
 have hle : S1.lead = -1 := by rw [hS1]; exact hlead
 have hco : S1.com = 0 := by rw [hS1]; exact hcom
 have hrd : S1.rnd = S.rnd := by rw [hS1]
 clear hS1
 refine sq (rg ?_)
 refine ldp hT 3 0 rfl rfl rfl ?_
 refine ar hT 0 rfl (i64w (x := S1.el + 1) (by omega)) ?_
 refine stp hT 2 0 rfl rfl rfl rfl ?_
 refine WL.hs (pt rb (rfA lb { S1 with el := S1.el + 1 } vY f0 f1 f2) RT :: lh :: hs) rfl ?_
 refine fin hT 0 rfl (th (sq (rg ?_)))
 refine cl hT 1 rfl (configNC rb lb db { S1 with el := S1.el + 1 } vY f0 f1 f2 o (by omega) hL) ?_
 rintro v26 K26 hs26 ⟨rfl, le1, ao, cap, rfl, x⟩
 refine al hT 3 (.agg #[.slice none 0 0]) rfl (by kernel_rfl) fun b5 => ?_
 refine stS hT 0 0 rfl rfl (by kernel_rfl) rfl rfl ?_
 refine WL.perm (hs' := pt rb (rfA lb { S1 with el := S1.el + 1 } vY f0 f1 f2) RT :: lh :: pt b5 #[.slice ao 1 cap] 59 :: hs) (List.perm_append_comm_assoc [_] [_, _] hs) ?_
 refine fin hT 1 rfl (th (sq (sq (rga [pt rb (rfA lb { S1 with el := S1.el + 1 } vY f0 f1 f2) RT, pt b5 #[.slice ao 1 cap] 59] 23 [0, 2, 4, 6, 8, 10, 12, 14, 16, 18, 20, 22, 24, 26, 28, 31, 32, 34, 36, 38, 41, 42, 44] (by simp) (by kernel_rfl) (by kernel_rfl) ?_))))
 refine dldp hT (by kernel_rfl) 3 0 rfl rfl rfl ?_
 refine dldp hT (by kernel_rfl) 3 0 rfl rfl rfl ?_
 refine dcmp hT (by kernel_rfl) 0 (S1.el + 1 < S1.wt) rfl (by simp) (fun h3 => ?_) (fun h3 => ?_)
 ·refine dact hT (by kernel_rfl) 6 rfl ?_
  refine WL.pures hT 1 rfl ?_
  refine dnex [pt rb (rfA lb { S1 with el := S1.el + 1 } vY f0 f1 f2) RT, pt b5 #[.slice ao 1 cap] 59] (by simp) (by simp) rfl ?_
  refine dact hT (by kernel_rfl) 4 rfl ?_
  refine WL.pures hT 1 rfl ?_
  refine dnex [pt rb (rfA lb { S1 with el := S1.el + 1 } vY f0 f1 f2) RT, pt b5 #[.slice ao 1 cap] 59] (by simp) (by simp) rfl ?_
  refine dend hT (by kernel_rfl) 2 rfl (th (ifT rfl (sq (rg ?_))))
  refine fin hT 1 rfl (th (rt (rT ?_)))
  refine WQ.perm (hs' := pt b5 #[.slice ao 1 cap] 59 :: pt rb (rfA lb { S1 with el := S1.el + 1 } vY f0 f1 f2) RT :: lh :: hs) (List.perm_append_comm_assoc [_, _] [_] hs) (WQ.drop ?_)
  exact ret1 rfl rfl ⟨L, D, lh, _, vY, rfl, le1, hL.le le1, ⟨o.up (by omega), by dsimp only; omega, .inl ⟨hro, hle, hk, hll, hco, .inr (by dsimp only; omega)⟩⟩, .inr ⟨hro, by dsimp only; omega⟩, rfl⟩
 ·refine dldS hT (by kernel_rfl) 1 1 rfl (by kernel_rfl) rfl (by kernel_rfl) ?_
  refine dldp hT (by kernel_rfl) 3 0 rfl rfl rfl ?_
  refine dact hT (by kernel_rfl) 0 rfl ?_
  refine cl hT 0 rfl (votesC (.inl rfl) ao cap [0] x (by simp) 0) ?_
  rintro v44 K44 hs44 ⟨rfl, rfl, rfl⟩
  refine dnex [pt rb (rfA lb { S1 with el := S1.el + 1 } vY f0 f1 f2) RT, pt b5 #[.slice ao 1 cap] 59] (by simp) (by simp) rfl ?_
  refine dact hT (by kernel_rfl) 4 rfl ?_
  refine cl hT 0 rfl (termNC rb lb db { S1 with el := S1.el + 1 } vY f0 f1 f2 (hL.le le1)) ?_
  rintro v49 K49 hs49 ⟨rfl, rfl, rfl⟩
  rw [hk]
  refine dnex [pt rb (rfA lb { S1 with el := S1.el + 1 } vY f0 f1 f2) RT, pt b5 #[.slice ao 1 cap] 59] (by simp) (by simp) rfl ?_
  refine dend hT (by kernel_rfl) 2 rfl (th (ifF rfl ?_))
  refine sk (th (sq (rg ?_)))
  refine ldS hT 1 2 rfl rfl (by kernel_rfl) ?_
  refine cl hT 0 rfl (standNC rb lb db { S1 with el := S1.el + 1 } vY f0 f1 f2 o (by omega) (hL.le le1) hk (by dsimp only; omega) (by dsimp only; omega) ao cap x) ?_
  rintro v54 K54 hs54 ⟨L', D', lh', nx', vY', rfl, le2, hL', o', hk', hl', rfl⟩
  refine WL.perm (hs' := pt b5 #[.slice ao 1 cap] 59 :: pt rb (rfA lb ⟨2, 0, L.l.length + 1, 0, 0, S1.rnd, nx'⟩ vY' f0 f1 f2) RT :: lh' :: hs) (List.perm_append_comm_assoc [_, _] [_] hs) ?_
  refine fin hT 1 rfl (th (rt (WQ.drop ?_)))
  exact ret1 rfl rfl ⟨L', D', lh', _, vY', rfl, le1.trans le2, hL', ⟨o'.up (by omega), by dsimp only; omega, .inr ⟨rfl, rfl, hk', by omega, hl'.symm, by dsimp only; omega, by dsimp only; omega⟩⟩, .inl rfl, rfl⟩
theorem beatNC (d : Nat) (I : RfI n L D S) (hr : S.role = 2) (hn : n <= 7000) (hL : LgH K lb db L D lh) :
  Ct Tryz.prog w0 45 [.pointer (some ⟨rb, 0, none⟩), .int .u64 ((d : Nat) : Int)] K (pt rb (rfA lb S vY f0 f1 f2) RT :: lh :: hs)
   (fun v K' hs' => ∃ S', hs' = pt rb (rfA lb S' vY f0 f1 f2) RT :: lh :: hs /\ Le K K' /\ RfI (n + 4) L D S' /\ S'.role = 2 /\ v = .int .i64 0) := by
 have o := I.aln
 have hrn := I.rnd
 obtain ⟨-, hlead, hk, hll, hcom, hw⟩ : S.role = 2 /\ S.lead = 0 /\ L.kt = 1 /\ 1 <= L.l.length /\ S.com = L.l.length /\ 0 <= S.el /\ S.el <= 2 := by
  rcases I.case with h | h
  ·rw [hr] at h; exact absurd h.1 (by decide)
  ·exact h
 refine enter Tryz.func45 (by kernel_rfl) rfl rfl rfl ?_
 refine sq (rg ?_)
 refine fin hT 1 rfl (th (sq (rg ?_)))
 refine ldp hT 3 0 rfl rfl rfl ?_
 refine ar hT 0 rfl (i64w (x := S.el + 1) (by omega)) ?_
 refine stp hT 2 0 rfl rfl rfl rfl ?_
 refine WL.hs (pt rb (rfA lb { S with el := S.el + 1 } vY f0 f1 f2) RT :: lh :: hs) rfl ?_
 refine fin hT 0 rfl (th (sq (sq (rg ?_))))
 refine ldp hT 3 0 rfl rfl rfl ?_
 refine cmpS hT 0 rfl fun b16 h16 => ?_
 refine fin hT 0 rfl (th (ifP h16 rfl (fun e2 => ?_) (fun e2 => ?_)))
 ·refine sq (rg ?_)
  refine stp hT 3 0 rfl rfl rfl rfl ?_
  refine WL.hs (pt rb (rfA lb { S with el := 0 } vY f0 f1 f2) RT :: lh :: hs) rfl ?_
  refine fin hT 0 rfl (th (rg ?_))
  refine cl hT 1 rfl (tellNC rb lb db { S with el := 0 } vY f0 f1 f2 o (by omega) hL true (by dsimp only; omega)) ?_
  rintro v21 K21 hs21 ⟨rfl, le1, rfl⟩
  refine fin hT 0 rfl (th (sq (rg ?_)))
  refine fin hT 1 rfl (th (rt ?_))
  exact ret1 rfl rfl ⟨_, rfl, le1, ⟨o.up (by omega), by simp; omega, .inr ⟨hr, hlead, hk, hll, hcom, by dsimp only; omega, by dsimp only; omega⟩⟩, hr, rfl⟩
 ·dsimp only at e2
  refine sk (th (sq (rg ?_)))
  refine fin hT 1 rfl (th (rt ?_))
  exact ret1 rfl rfl ⟨{ S with el := S.el + 1 }, rfl, Le.refl _, ⟨o.up (by omega), by dsimp only; omega, .inr ⟨hr, hlead, hk, hll, hcom, by dsimp only; omega, by dsimp only; omega⟩⟩, hr, rfl⟩
end node
abbrev tkI (rb : Nat) : Value := .func (.func 44) #[.pointer (some ⟨rb, 0, none⟩)] #[]
abbrev tkB (rb : Nat) : Value := .func (.func 45) #[.pointer (some ⟨rb, 0, none⟩)] #[]
def RfM (K : PH) (rb lb db : Nat) (n : Nat) (L : Lg) (D : Dk) (S : Rf) (m : List PH) : Prop :=
 ∃ vY lh, m = [pt rb (rfA lb S vY (tkI rb) (tkI rb) (tkB rb)) RT, lh] /\ LgH K lb db L D lh /\ RfI n L D S
theorem tickNC {w0 : World} {K : PH} {m hs : List PH} (rb lb db : Nat) {n : Nat} {L : Lg} {D : Dk} {S : Rf} (d : Nat) (hd : d < 18446744073709551616) (hm : RfM K rb lb db n L D S m) (hn : n <= 7000) :
  Ct Tryz.prog w0 6 [.pointer (some ⟨rb, 0, none⟩), .int .u64 ((d : Nat) : Int)] K (m ++ hs)
   (fun v K' hs' => ∃ L' D' S' m', hs' = m' ++ hs /\ Le K K' /\ RfM K' rb lb db (n + 4) L' D' S' m' /\ (S'.role = 2 \/ S.role = 0 /\ S'.role = 0 /\ S'.el = S.el + 1) /\ v = .int .i64 0) := by
 obtain ⟨vY, lh, rfl, hL, I⟩ := hm
 refine enter Tryz.func6 (by kernel_rfl) rfl rfl rfl ?_
 refine sq (rg ?_)
 refine fin hT 1 rfl (th (sq (sq (rg ?_))))
 refine ldp hT 3 0 rfl rfl rfl ?_
 refine fin hT 0 rfl (th (ifF rfl ?_))
 refine sk (th (sq (rga [pt rb (rfA lb S vY (tkI rb) (tkI rb) (tkB rb)) RT] 10 [0, 2, 4, 6, 8, 10, 12, 14, 16, 18, 21, 22] (by simp) (by kernel_rfl) (by kernel_rfl) ?_)))
 refine dldtp [8, 7] hT (by kernel_rfl) 4 0 rfl (by kernel_rfl) rfl rfl ?_
 have hr : S.role = 0 \/ S.role = 2 := by
  rcases I.case with h | h
  ·exact .inl h.1
  ·exact .inr h.1
 rcases hr with hr | hr
 ·refine dixa (sz := 1) (a := ⟨rb, 51, none⟩) hT (by kernel_rfl) 2 0 rfl Tryz.underlying69 (by kernel_rfl) hr (by omega) ?_
  refine dldpw hT (by kernel_rfl) 0 0 (v := tkI rb) rfl (by kernel_rfl) rfl rfl ?_
  refine dact hT (by kernel_rfl) 1 rfl ?_
  refine cl hT 0 rfl (idleNC rb lb db S vY _ _ _ d hd I hr hn hL) ?_
  rintro v19 K19 hs19 ⟨L', D', lh', S', vY', rfl, le1, hL', I', hp, rfl⟩
  refine dnext (.inl (by kernel_rfl)) ?_
  refine dend hT (by kernel_rfl) 1 rfl (th (rt ?_))
  exact ret1 rfl rfl ⟨L', D', S', [_, _], rfl, le1, ⟨vY', lh', rfl, hL', I'⟩, hp.imp id (fun h => ⟨hr, h⟩), rfl⟩
 ·refine dixa (sz := 1) (a := ⟨rb, 51, none⟩) hT (by kernel_rfl) 2 2 rfl Tryz.underlying69 (by kernel_rfl) hr (by omega) ?_
  refine dldpw hT (by kernel_rfl) 0 0 (v := tkB rb) rfl (by kernel_rfl) rfl rfl ?_
  refine dact hT (by kernel_rfl) 1 rfl ?_
  refine cl hT 0 rfl (beatNC rb lb db S vY _ _ _ d I hr hn hL) ?_
  rintro v19 K19 hs19 ⟨S', rfl, le1, I', hp, rfl⟩
  refine dnext (.inl (by kernel_rfl)) ?_
  refine dend hT (by kernel_rfl) 1 rfl (th (rt ?_))
  exact ret1 rfl rfl ⟨L, D, S', [_, _], rfl, le1, ⟨vY, lh, rfl, hL.le le1, I'⟩, .inl hp, rfl⟩
end Go.Proofs.YtcncpbolcigpnaaGreat
end
section
namespace Go.Proofs.YtcncpbolcigpnaaGreat
open Go.En
attribute [local irreducible] Code.wp wpList Calls
def rf0 : Rf := ⟨0, -1, 0, 0, 0, 0, fun _ => 0⟩
theorem newNC {w0 : World} {K lh : PH} {hs : List PH} (lb db : Nat) {n : Nat} {L : Lg} {D : Dk} (o : Aln n L D) (hL : LgH K lb db L D lh) (hk : L.kt = 0) (hl : L.l.length = 0) :
  Ct Tryz.prog w0 18 [.int .i64 0, .pointer (some ⟨lb, 0, none⟩)] K (lh :: hs) (fun v K' hs' => ∃ rb m, hs' = m ++ hs /\ Le K K' /\ RfM K' rb lb db n L D rf0 m /\ v = .pointer (some ⟨rb, 0, none⟩)) := by
 have hsi : L.sn.idx = 0 := by rw [o.sn]
 refine enter Tryz.func18 (by kernel_rfl) rfl rfl rfl ?_
 refine sq (rg ?_)
 refine fin hT 1 rfl (th (sq (rg ?_)))
 refine cl hT 3 rfl (snapH lb db L D (100 * n) o.rn.lb hL) ?_
 rintro v9 K9 hs9 ⟨h', rfl, hh, le1, aV, cV, aD, cD, rfl, xV, xD⟩
 subst hh
 refine opr hT 0 (v := .int .u64 ((L.sn.idx : Nat) : Int)) rfl (fun A w ha _ => fld_run (t := 66) (x := .tmp 9) (i := 0) (v := .agg (snV L.sn aV cV aD cD)) rfl rfl (fun w => by kernel_rfl) A w ha) ?_
 rw [hsi]
 refine bd hT 0 (.agg (rfA lb rf0 (.slice none 0 0) .nilFunc .nilFunc .nilFunc)) rfl (fun w => by kernel_rfl) ?_
 refine bx hT 0 rfl fun rb => ?_
 refine WL.hs (pt rb (rfA lb rf0 (.slice none 0 0) .nilFunc .nilFunc .nilFunc) RT :: h' :: hs) rfl ?_
 refine fin hT 1 rfl (th (sq (rg ?_)))
 refine opr hT 2 (v := tkI rb) rfl (fun A w ha _ => mkf_run (f := .func 44) (x := .tmp 14) (v := .pointer (some ⟨rb, 0, none⟩)) rfl rfl (fun w => by kernel_rfl) A w ha) ?_
 refine opr hT 1 (v := tkI rb) rfl (fun A w ha _ => mkf_run (f := .func 44) (x := .tmp 16) (v := .pointer (some ⟨rb, 0, none⟩)) rfl rfl (fun w => by kernel_rfl) A w ha) ?_
 refine opr hT 1 (v := tkB rb) rfl (fun A w ha _ => mkf_run (f := .func 45) (x := .tmp 18) (v := .pointer (some ⟨rb, 0, none⟩)) rfl rfl (fun w => by kernel_rfl) A w ha) ?_
 refine bd hT 0 (.agg #[tkI rb, tkI rb, tkB rb]) rfl (fun w => by kernel_rfl) ?_
 refine sts hT 2 0 (off := 51) (cs := #[tkI rb, tkI rb, tkB rb]) rfl rfl (by kernel_rfl) (by show 51 + 3 <= 54; omega) (fun v hv => by simp at hv; rcases hv with rfl | rfl <;> rfl) ?_
 refine WL.hs (pt rb (rfA lb rf0 (.slice none 0 0) (tkI rb) (tkI rb) (tkB rb)) RT :: h' :: hs) rfl ?_
 refine fin hT 0 rfl (th (sq (rg ?_)))
 refine fin hT 2 rfl (th (rt ?_))
 exact ret1 rfl rfl ⟨rb, [_, _], rfl, le1, ⟨_, h', rfl, hL.le le1, ⟨o, by show (0 : Nat) <= n; omega, .inl ⟨rfl, rfl, hk, hl, rfl, .inl ⟨rfl, rfl⟩⟩⟩⟩, rfl⟩
section node
variable {w0 : World} {K : PH} {m hs : List PH} (rb lb db : Nat) {n : Nat} {L : Lg} {D : Dk} {S : Rf} (hm : RfM K rb lb db n L D S m)
include hm
theorem roleNC : Ct Tryz.prog w0 7 [.pointer (some ⟨rb, 0, none⟩)] K (m ++ hs) (fun v K' hs' => K' = K /\ hs' = m ++ hs /\ v = .int .i64 S.role) := by
 obtain ⟨vY, lh, rfl, hL, I⟩ := hm
 refine enter Tryz.func7 (by kernel_rfl) rfl rfl rfl ?_
 refine sq (rg ?_)
 refine fin hT 1 rfl (th (sq (rg ?_)))
 refine ldp hT 3 0 rfl rfl rfl ?_
 refine fin hT 1 rfl (th (rt ?_))
 exact ret1 rfl rfl ⟨rfl, rfl, rfl⟩
theorem commitNC : Ct Tryz.prog w0 8 [.pointer (some ⟨rb, 0, none⟩)] K (m ++ hs) (fun v K' hs' => K' = K /\ hs' = m ++ hs /\ v = .int .u64 ((S.com : Nat) : Int)) := by
 obtain ⟨vY, lh, rfl, hL, I⟩ := hm
 refine enter Tryz.func8 (by kernel_rfl) rfl rfl rfl ?_
 refine sq (rg ?_)
 refine fin hT 1 rfl (th (sq (rg ?_)))
 refine ldp hT 3 0 rfl rfl rfl ?_
 refine fin hT 1 rfl (th (rt ?_))
 exact ret1 rfl rfl ⟨rfl, rfl, rfl⟩
theorem leaderNC : Ct Tryz.prog w0 19 [.pointer (some ⟨rb, 0, none⟩)] K (m ++ hs) (fun v K' hs' => K' = K /\ hs' = m ++ hs /\ v = .int .i64 S.lead) := by
 obtain ⟨vY, lh, rfl, hL, I⟩ := hm
 refine enter Tryz.func19 (by kernel_rfl) rfl rfl rfl ?_
 refine sq (rg ?_)
 refine fin hT 1 rfl (th (sq (rg ?_)))
 refine ldp hT 3 0 rfl rfl rfl ?_
 refine fin hT 1 rfl (th (rt ?_))
 exact ret1 rfl rfl ⟨rfl, rfl, rfl⟩
theorem termMC : Ct Tryz.prog w0 12 [.pointer (some ⟨rb, 0, none⟩)] K (m ++ hs) (fun v K' hs' => K' = K /\ hs' = m ++ hs /\ v = .int .u64 ((L.kt : Nat) : Int)) := by
 obtain ⟨vY, lh, rfl, hL, I⟩ := hm
 exact termNC rb lb db S vY _ _ _ hL
theorem lastMC (hn : n <= 10000) : Ct Tryz.prog w0 9 [.pointer (some ⟨lb, 0, none⟩)] K (m ++ hs) (fun v K' hs' => K' = K /\ hs' = m ++ hs /\ v = .int .u64 ((L.l.length : Nat) : Int)) := by
 obtain ⟨vY, lh, rfl, hL, I⟩ := hm
 have c := Ct.keep (hs := [pt rb (rfA lb S vY (tkI rb) (tkI rb) (tkB rb)) RT, lh] ++ hs) 1 rfl (lastH (w0 := w0) lb db L D (100 * n) I.aln.rn.lb (by omega) hL)
 rw [I.aln.last] at c
 exact c
theorem proposeNC (hr : S.role = 2) (hn : n <= 7000) (b : List UInt8) (hb : (getCmd b).isSome = true) (ao : Option Addr) (cap : Nat) (x : IsS K ao b.length cap 1 (bv b)) :
  Ct Tryz.prog w0 11 [.pointer (some ⟨rb, 0, none⟩), .slice ao b.length cap] K (m ++ hs)
   (fun v K' hs' => ∃ L' D' S' m', hs' = m' ++ hs /\ Le K K' /\ RfM K' rb lb db (n + 4) L' D' S' m' /\ S'.role = 2 /\ L'.kt = 1 /\ v = .tuple #[.int .u64 ((L'.l.length : Nat) : Int), .int .u64 ((1 : Nat) : Int), .int .i64 0]) := by
 obtain ⟨vY, lh, rfl, hL, I⟩ := hm
 have o := I.aln
 have hrn := I.rnd
 have hheld : heldP 1 b := .inr (.inl ⟨rfl, hb⟩)
 have hbl := held_len hheld
 obtain ⟨-, hlead, hk, hll, hcom, hw⟩ : S.role = 2 /\ S.lead = 0 /\ L.kt = 1 /\ 1 <= L.l.length /\ S.com = L.l.length /\ 0 <= S.el /\ S.el <= 2 := by
  rcases I.case with h | h
  ·rw [hr] at h; exact absurd h.1 (by decide)
  ·exact h
 have hec : ec (getCmd b) = 0 := by
  obtain ⟨c, hc⟩ := Option.isSome_iff_exists.1 hb
  rw [hc]; rfl
 refine enter Tryz.func11 (by kernel_rfl) rfl rfl rfl ?_
 refine sq (rg ?_)
 refine fin hT 3 rfl (th (sq (rg ?_)))
 refine cl hT 1 rfl (leadsNC rb lb S vY _ _ _ hr) ?_
 rintro v10 K10 hs10 ⟨rfl, rfl, rfl⟩
 refine fin hT 1 rfl (th (sq (sq (rg ?_))))
 refine fin hT 2 rfl (th (ifF rfl ?_))
 refine sk (th (sq (rg ?_)))
 refine cl hT 1 rfl (getCmdC ao cap b (.inl rfl) x (by omega)) ?_
 rintro v16 K16 hs16 ⟨rfl, rfl, rfl⟩
 rw [hec]
 refine al hT 3 (.agg #[.int .i64 0, .int .u64 0, .int .u64 0, .string ⟨#[]⟩, .int .i64 0]) rfl (by kernel_rfl) fun b7 => ?_
 refine stS hT 0 0 rfl rfl (by kernel_rfl) rfl rfl ?_
 refine WL.drop ?_
 refine fin hT 1 rfl (th (sq (sq (rg ?_))))
 refine fin hT 2 rfl (th (ifF rfl ?_))
 refine sk (th (sq (rg ?_)))
 refine cl hT 2 rfl (cloneB ao cap b (.inl rfl) x (by omega)) ?_
 rintro v23 K23 hs23 ⟨rfl, g, ao2, c2, rfl, rfl, og⟩
 refine WL.frz fun K2 l1 l2 => ?_
 refine cl hT 0 rfl (layNC rb lb db S vY _ _ _ o (by omega) (hL.le l1) hk hr (by omega) (by omega) 1 (by decide) b hheld ao2 c2 (og.isS.le l2)) ?_
 rintro v24 K24 hs24 ⟨L', D', lh', rfl, le2, hL', o', hk', hl', rfl⟩
 refine fin hT 6 rfl (th (rt ?_))
 exact ret3 rfl rfl rfl rfl ⟨L', D', _, [_, _], rfl, l1.trans le2, ⟨vY, lh', rfl, hL', ⟨o'.up (by omega), by dsimp only; omega, .inr ⟨hr, hlead, hk', by omega, hl'.symm, hw⟩⟩⟩, hr, hk', by rw [hl']; rfl⟩
theorem readNC (hr : S.role = 2) (hn : n <= 7000) :
  Ct Tryz.prog w0 13 [.pointer (some ⟨rb, 0, none⟩)] K (m ++ hs)
   (fun v K' hs' => ∃ S' m', hs' = m' ++ hs /\ Le K K' /\ RfM K' rb lb db (n + 4) L D S' m' /\ S'.role = 2 /\ v = .tuple #[.int .u64 ((S'.rnd : Nat) : Int), .int .u64 ((S'.com : Nat) : Int), .int .i64 0]) := by
 obtain ⟨vY, lh, rfl, hL, I⟩ := hm
 have o := I.aln
 have hrn := I.rnd
 obtain ⟨-, hlead, hk, hll, hcom, hw⟩ : S.role = 2 /\ S.lead = 0 /\ L.kt = 1 /\ 1 <= L.l.length /\ S.com = L.l.length /\ 0 <= S.el /\ S.el <= 2 := by
  rcases I.case with h | h
  ·rw [hr] at h; exact absurd h.1 (by decide)
  ·exact h
 refine enter Tryz.func13 (by kernel_rfl) rfl rfl rfl ?_
 refine sq (rg ?_)
 refine fin hT 3 rfl (th (sq (rg ?_)))
 refine cl hT 1 rfl (leadsNC rb lb S vY _ _ _ hr) ?_
 rintro v6 K6 hs6 ⟨rfl, rfl, rfl⟩
 refine fin hT 1 rfl (th (sq (sq (rg ?_))))
 refine fin hT 2 rfl (th (ifF rfl ?_))
 refine sk (th (sq (sq (rg ?_))))
 refine cl hT 1 rfl (settledNC rb lb db S vY _ _ _ o (by omega) hL hcom hk (by omega)) ?_
 rintro v11 K11 hs11 ⟨rfl, rfl, rfl⟩
 refine fin hT 1 rfl (th (ifF rfl ?_))
 refine sk (th (sq (rg ?_)))
 refine cl hT 1 rfl (tellNC rb lb db S vY _ _ _ o (by omega) hL true (by omega)) ?_
 rintro v14 K14 hs14 ⟨rfl, le1, rfl⟩
 refine WL.hs (pt rb (rfA lb { S with rnd := S.rnd + 1 } vY (tkI rb) (tkI rb) (tkB rb)) RT :: lh :: hs) rfl ?_
 refine fin hT 0 rfl (th (sq (rga [pt rb (rfA lb { S with rnd := S.rnd + 1 } vY (tkI rb) (tkI rb) (tkB rb)) RT] 11 [0, 2, 4, 6, 8, 10, 12, 14, 16, 18, 20] (by simp) (by kernel_rfl) (by kernel_rfl) ?_)))
 refine dldp hT (by kernel_rfl) 3 0 rfl rfl rfl ?_
 refine dldp hT (by kernel_rfl) 3 0 rfl rfl rfl ?_
 refine dend hT (by kernel_rfl) 3 rfl (th (rt ?_))
 exact ret3 rfl rfl rfl rfl ⟨{ S with rnd := S.rnd + 1 }, [_, _], rfl, le1, ⟨vY, lh, rfl, hL.le le1, ⟨o.up (by omega), by dsimp only; omega, .inr ⟨hr, hlead, hk, hll, hcom, hw⟩⟩⟩, hr, rfl⟩
theorem heardNC (hr : S.role = 2) (hn : n <= 7000) :
  Ct Tryz.prog w0 14 [.pointer (some ⟨rb, 0, none⟩), .int .u64 ((L.kt : Nat) : Int), .int .u64 ((S.rnd : Nat) : Int)] K (m ++ hs)
   (fun v K' hs' => hs' = m ++ hs /\ Le K K' /\ v = .bool true) := by
 obtain ⟨vY, lh, rfl, hL, I⟩ := hm
 have o := I.aln
 have hrn := I.rnd
 refine enter Tryz.func14 (by kernel_rfl) rfl rfl rfl ?_
 refine sq (rg ?_)
 refine fin hT 1 rfl (th (sq (sq (rg ?_))))
 refine cl hT 1 rfl (leadsNC rb lb S vY _ _ _ hr) ?_
 rintro v13 K13 hs13 ⟨rfl, rfl, rfl⟩
 refine cmpS hT 0 rfl fun b14 h14 => ?_
 refine' bjo (q := False) hT 1 5 20 [14, 15] h14 rfl rfl rfl rfl rfl rfl rfl (fun _ => ?x2) (fun b20 h20 => ?_)
 case x2 =>
  refine cl hT 2 rfl (termNC rb lb db S vY _ _ _ hL) ?_
  rintro v18 K18 hs18 ⟨rfl, rfl, rfl⟩
  refine cmpS hT 0 rfl fun b19 h19 => ?_
  exact fin hT 1 rfl (bjx (h19.trans (by simp)) rfl rfl rfl)
 refine' bjo (q := False) hT 1 7 28 [20, 21] h20 rfl rfl rfl rfl rfl rfl rfl (fun _ => ?x4) (fun b28 h28 => ?_)
 case x4 =>
  refine ldp hT 4 0 rfl rfl rfl ?_
  refine cmpS hT 0 rfl fun b27 h27 => ?_
  exact fin hT 1 rfl (bjx (h27.trans (by simp)) rfl rfl rfl)
 refine fin hT 0 rfl (th (ifP h28 rfl (fun e6 => absurd e6 (by simp)) (fun e6 => ?_)))
 refine sk (th (sq (rg ?_)))
 refine cl hT 1 rfl (configNC rb lb db S vY _ _ _ o (by omega) hL) ?_
 rintro v31 K31 hs31 ⟨rfl, le1, ao, cap, rfl, x⟩
 refine al hT 3 (.agg #[.slice none 0 0]) rfl (by kernel_rfl) fun b7 => ?_
 refine stS hT 0 0 rfl rfl (by kernel_rfl) rfl rfl ?_
 refine WL.hs (pt b7 #[.slice ao 1 cap] 59 :: pt rb (rfA lb S vY (tkI rb) (tkI rb) (tkB rb)) RT :: lh :: hs) rfl ?_
 refine fin hT 1 rfl (th (sq (rg ?_)))
 refine ldp hT 3 1 rfl rfl rfl ?_
 refine lit hT 0 #[.int .i64 0] rfl (by decide) (by kernel_rfl) fun b38 => ?_
 refine WL.frz fun K2 l1 l2 => ?_
 have xy : IsS K2 (some ⟨b38, 0, none⟩) 1 1 1 (iv [0]) := (Own.ofPt (b := b38) (c := #[.int .i64 0]) (e := 3) (n := 1) (size := 1) rfl (by decide)).isS.le l2
 refine WL.perm (hs' := pt rb (rfA lb S vY (tkI rb) (tkI rb) (tkB rb)) RT :: lh :: pt b7 #[.slice ao 1 cap] 59 :: hs) (List.perm_append_comm_assoc [_] [_, _] hs) ?_
 refine fin hT 1 rfl (th (sq (sq (rg ?_))))
 refine cl hT 1 rfl (othersNC rb lb db S vY _ _ _ o (by omega) ((hL.le le1).le l1)) ?_
 rintro v40 K40 hs40 ⟨rfl, le2, ao2, cap2, rfl⟩
 refine fin hT 2 rfl (th (bk ?_))
 refine loop (σ := Unit) (fun _ => [(7, .pointer (some ⟨b7, 0, none⟩)), (9, .slice (some ⟨b38, 0, none⟩) 1 1), (41, .int .i64 0), (42, .int .i64 0)]) (fun _ => K40) (fun _ => pt rb (rfA lb S vY (tkI rb) (tkI rb) (tkB rb)) RT :: lh :: pt b7 #[.slice ao 1 cap] 59 :: hs) (fun _ => True) (fun _ => 0) () trivial ⟨rfl, rfl, rfl, rfl, trivial⟩ rfl rfl ?_
 rintro _ _
 refine sq (rg ?_)
 refine fin hT 1 rfl (th (sq (ifF rfl ?_)))
 refine ex (xt (xt (xb (th (sq (rg ?_))))))
 refine ldS hT 0 2 rfl rfl (by kernel_rfl) ?_
 refine cl hT 1 rfl (quorumC ao cap ((x.le l1).le le2) K40 (.inl rfl) _ 1 (xy.le le2)) ?_
 rintro v62 K62 hs62 ⟨rfl, rfl, rfl⟩
 refine WL.perm (hs' := pt b7 #[.slice ao 1 cap] 59 :: pt rb (rfA lb S vY (tkI rb) (tkI rb) (tkB rb)) RT :: lh :: hs) (List.perm_append_comm_assoc [_, _] [_] hs) ?_
 refine fin hT 1 rfl (th (rt (WQ.drop ?_)))
 exact ret1 rfl rfl ⟨rfl, (le1.trans l1).trans le2, rfl⟩
end node
end Go.Proofs.YtcncpbolcigpnaaGreat
end
section
namespace Go.En
theorem pick_bd {s : Slt} {r : Nat × List UInt8} (hs : s.bd) (hr : r.1 < 18446744073709551616 /\ r.2.length <= 48) : (s.pick r).bd := by
 unfold Slt.pick
 split
 ·exact hr
 ·exact hs
theorem sltOpen_bd {c : Nat} {D : Dk} (o : D.Ok c) (area : Nat) : (sltOpen D area).bd :=
 pick_bd (pick_bd ⟨Nat.zero_lt_succ _, Nat.zero_le _⟩ (sltRd_bd o area 0)) (sltRd_bd o area 1)
theorem rdE_ok : ∀ (r : List (List UInt8)) (i : Nat) (l : List Ent), rdE i r = some l -> l.length = r.length /\ ∀ e ∈ l, entG e
 | [], i, l, h => by
  cases h
  exact ⟨rfl, by simp⟩
 | b :: r, i, l, h => by
  rw [rdE_cons] at h
  cases hg : getEnt b with
  | none => rw [hg] at h; cases h
  | some e =>
   rw [hg] at h
   dsimp only at h
   split at h
   ·cases hr : rdE (i + 1) r with
    | none => rw [hr] at h; cases h
    | some q =>
     rw [hr] at h
     cases h
     obtain ⟨g1, g2⟩ := rdE_ok r (i + 1) q hr
     have h3 := putEnt_get hg
     refine ⟨by simp [g1], fun y hy => ?_⟩
     rcases List.mem_cons.1 hy with rfl | hy
     ·exact ⟨putEnt_ok.1 (by rw [h3.1]; rfl), h3.2⟩
     ·exact g2 y hy
   ·cases h
theorem wOpen_old {c : Nat} {D : Dk} (o : DOk c D) {fr first : Nat} {W : Wl} {E : Dk} (h : wOpen D fr first = (some W, E, 0)) : W.old.length <= D.areas.length := by
 unfold wOpen at h
 split at h
 ·cases h
 ·split at h
  ·cases h
  ·rename_i h1
   split at h
   ·cases h
   ·rename_i h2
    split at h
    ·cases h
    ·rename_i h3
     split at h
     ·cases h
     ·simp only [Prod.mk.injEq, Option.some.injEq] at h
      obtain ⟨rfl, _⟩ := h
      have h3 : (wscan D fr (wnums (areasL D)) (wl0 fr first (areasL D)) []).2.2 = true := by
       cases hh : (wscan D fr (wnums (areasL D)) (wl0 fr first (areasL D)) []).2.2 with
       | false => exact absurd hh h3
       | true => rfl
      have h0 : SInv D (wl0 fr first (areasL D)).next [] (wl0 fr first (areasL D)) := ⟨rfl, rfl, rfl, by simp [wl0], by simp [wl0]; omega, by simp [wl0], by simp [wl0], by simp [wl0]⟩
      have hS := (SInv.scan o.ok _ _ _ _ h0 h3).old
      rw [List.nil_append] at hS
      have hnl := wnums_len (areasL D)
      rw [areasL_length] at hnl
      exact Nat.le_trans hS hnl
theorem rk_wset1 (g : List Nat) (n : Nat) (D : Dk) : Rk 0 D (wset1 D g n).1 := by
 unfold wset1
 split
 ·exact (Rk.of D).free _
 ·exact (Rk.of D).sync _
theorem rk_settle (g : List Nat) : ∀ (l : List Nat) (D : Dk), Rk 0 D (wsettle g l D).1
 | [], D => Rk.of D
 | n :: r, D => by
  unfold Go.En.wsettle
  split
  ·exact (rk_wset1 g n D).trans (rk_settle g r _)
  ·exact rk_wset1 g n D
theorem rk_wOpen (D : Dk) (fr first : Nat) : Rk 0 D (wOpen D fr first).2.1 := by
 unfold wOpen
 split
 ·exact Rk.of D
 ·split
  ·exact Rk.of D
  ·split
   ·exact Rk.of D
   ·split
    ·exact Rk.of D
    ·split
     ·exact rk_settle _ _ _
     ·exact rk_settle _ _ _
theorem rk_lgFree (pl : Nat) : ∀ (l : List Int) (D : Dk), Rk 0 D (lgFree pl l D).1
 | [], D => Rk.of D
 | a :: r, D => by
  rw [lgFree_cons]
  split
  ·split
   ·exact (Rk.of D).free _
   ·exact ((Rk.of D).free _).trans (rk_lgFree pl r _)
  ·exact rk_lgFree pl r D
theorem rdHead_SBd {D : Dk} {S : Slt} {v : List Int} (hv : v.length <= 7) {p : Snp × Nat × Nat} (h : rdHead D S v = some p) : SBd p.1 /\ p.2.1 <= lgTop /\ p.2.2 <= lgTop := by
 unfold rdHead at h
 split at h
 ·cases h; exact ⟨⟨Nat.zero_le _, Nat.zero_le _, hv, Nat.zero_le _⟩, Nat.zero_le _, Nat.zero_le _⟩
 ·split at h
  ·cases h
  ·split at h
   ·cases h
   ·cases h
    refine ⟨⟨rUint_le _ _, rUint_le _ _, (getConf_mem _).1, ?_⟩, rUint_le _ _, rUint_le _ _⟩
    have : (hd4 S.val).1 <= 2097152 := rUint_le _ _
    dsimp only
    rw [List.length_take]
    omega
theorem Rn.opened {c q : Nat} {D : Dk} (o : DOk c D) (hq : D.areas.length <= q) {first : List Int} {L : Lg} (h : (lOpen D first).1 = some L) : Rn (c + 2 * q) q L (lOpen D first).2.1 /\ (lOpen D first).2.2 = 0 := by
 unfold lOpen at h ⊢
 split at h
 ·cases h
 ·rename_i hv
  have hv : (putConf first).isSome = true := by cases hh : (putConf first).isSome with | true => rfl | false => exact absurd hh hv
  rw [if_neg (by rw [hv]; simp)]
  split at h
  ·cases h
  ·rename_i hd
   rw [if_neg hd]
   cases hkh : rdHard (sltOpen D 0) with
   | none => rw [hkh] at h; cases h
   | some kh =>
    rw [hkh] at h
    dsimp only at h ⊢
    cases hhd : rdHead D (sltOpen D 4) first with
    | none => rw [hhd] at h; cases h
    | some p =>
     rw [hhd] at h
     dsimp only at h ⊢
     unfold lOpen2 at h ⊢
     split at h
     ·cases h
     ·rename_i hf
      rw [if_neg hf]
      have oF : DOk (c + q) (lgFree p.2.1 (areasL D) D).1 := (DOk.lgFree p.2.1 (areasL D) D c o).up (by rw [areasL_length]; omega)
      have hFq : (lgFree p.2.1 (areasL D) D).1.areas.length <= q := by have := (rk_lgFree p.2.1 (areasL D) D).len oF.ok; omega
      generalize (lgFree p.2.1 (areasL D) D).1 = F at h oF hFq ⊢
      unfold lOpen3 at h ⊢
      have hco := wOpen_code (D := F) (fr := p.2.2) (first := p.1.idx + 1)
      have hdo := oF.opened p.2.2 (p.1.idx + 1)
      have hrk := (rk_wOpen F p.2.2 (p.1.idx + 1)).len hdo.ok
      cases hw : (wOpen F p.2.2 (p.1.idx + 1)).1 with
      | none => rw [hw] at h; cases h
      | some W =>
       rw [hw] at h
       dsimp only at h ⊢
       have he : wOpen F p.2.2 (p.1.idx + 1) = (some W, (wOpen F p.2.2 (p.1.idx + 1)).2.1, 0) := by
        rw [<- hw, <- hco.2 W hw]
       have hb := WBd.opened oF he
       have hold := wOpen_old oF he
       cases hre : rdEnts p.1 W with
       | none => rw [hre] at h; cases h
       | some l =>
        rw [hre] at h
        dsimp only at h ⊢
        cases h
        have hS := rdHead_SBd (putConf_len hv) hhd
        have hw70 := hb.1.recs
        have hrd : l.length <= 70000000000 + (c + q) /\ ∀ e ∈ l, entG e := by
         unfold rdEnts at hre
         split at hre
         ·cases hre
         ·obtain ⟨g1, g2⟩ := rdE_ok _ _ _ hre
          rw [List.length_drop] at g1
          exact ⟨by omega, g2⟩
        have hkb : kh.1 <= mxU /\ -1 <= kh.2 /\ kh.2 <= 6 := by
         unfold rdHard at hkh
         split at hkh
         ·cases hkh; exact ⟨Nat.zero_le _, by decide, by decide⟩
         ·split at hkh
          ·cases hkh
           have h1 := rUint_le mxU ((sltOpen D 0).val, 0)
           have h2 := rUint_le 7 (rUint mxU ((sltOpen D 0).val, 0)).2
           exact ⟨h1, by dsimp only; omega, by dsimp only; omega⟩
          ·cases hkh
        refine ⟨⟨⟨hb.1.up (by omega), sltOpen_bd o.ok 0, sltOpen_bd o.ok 4, hkb.1, hkb.2, hS.1.idx, hS.1.term, hS.1.vot, hS.1.data, by have := hS.2.1; dsimp only; omega, by have := hS.2.2; unfold lgTop at this; unfold wMany; dsimp only; omega, by dsimp only; omega, hrd.2⟩, hdo.up (by omega), by dsimp only; omega, by omega⟩, rfl⟩
end Go.En
namespace Go.Proofs.YtcncpbolcigpnaaGreat
open Go.En
end Go.Proofs.YtcncpbolcigpnaaGreat
end
section
namespace Go.En
section deqs
variable {P : Program} {T : Tab} {w0 : World} {ops : Array Oper} {Q : Exit -> Act -> World -> Prop} {plan plan' : List Nat} {z : Nat} {listed listed' : Array Bool} {n : Nat} {l l' : Sl} {K K0 : PH} {hs A : List PH}
end deqs
end Go.En
namespace Go.Proofs.YtcncpbolcigpnaaGreat
open Go.En
attribute [local irreducible] Code.wp wpList Calls
theorem dk0_DOk {r : Int} (h : 0 <= r /\ r <= 1073741824) : DOk 0 (dk0 r) := ⟨dk0_ok ⟨h.1, by omega⟩, by simp [dk0], by simp [dk0], by simp [dk0, totA]; omega⟩
end Go.Proofs.YtcncpbolcigpnaaGreat
end
section
namespace Go.En
def wldA (vN : Value) (bm : Nat) : Array Value := #[vN, .int .i64 1, .slice none 0 0, .slice none 0 0, .slice none 0 0, .map (some bm), .slice none 0 0, .int .u64 0, .int .u64 0, .bool false]
structure FsS where
 j : Nat
 ao : Option Addr
 cap : Nat
 g : PH
end Go.En
namespace Go.Proofs.YtcncpbolcigpnaaGreat
open Go.En
attribute [local irreducible] Code.wp wpList Calls
def lgA0 : Lg := ⟨⟨none, 1, [], [], 0, 0⟩, ⟨0, []⟩, ⟨0, []⟩, 0, -1, ⟨0, 0, [0], []⟩, 0, 0, [], 0⟩
theorem openA0 : lOpen (dk0 16777216) [0] = (some lgA0, dk0 16777216, 0) := by kernel_rfl
theorem aln0 : Aln 0 lgA0 (dk0 16777216) := by
 have r := (Rn.opened (dk0_DOk (r := 16777216) (by omega)) (q := 0) (by simp [dk0]) (first := [0]) (L := lgA0) (by rw [openA0])).1
 rw [openA0] at r
 exact ⟨⟨rfl, ⟨rfl, fun o h => by cases h⟩, Nat.le_refl _, Nat.le_refl _, Nat.le_refl _, Nat.le_refl _, Nat.le_refl _, rfl, rfl⟩, ⟨rfl, rfl, by simp [dk0]⟩, r, rfl, Nat.le_refl _, fun e he => by cases he⟩
theorem firstNC {w0 : World} {K : PH} {hs : List PH} : Ct Tryz.prog w0 17 [.int .i64 1] K hs (fun v K' hs' => Le K K' /\ hs' = hs /\ ∃ ao cap, v = .agg #[.slice ao 1 cap] /\ IsS K' ao 1 cap 1 (iv [0])) := by
 refine enter Tryz.func17 (by kernel_rfl) rfl rfl rfl ?_
 refine sq (rg ?_)
 refine al hT 0 (.agg #[.slice none 0 0]) rfl (by kernel_rfl) fun b2 => ?_
 refine fin hT 0 rfl (th (sq (rg ?_)))
 refine al hT 0 (.agg #[.slice none 0 0]) rfl (by kernel_rfl) fun b3 => ?_
 refine fin hT 0 rfl (th (sq (sq (rg ?_))))
 refine fin hT 2 rfl (th (bk (WC.em ?_)))
 refine loop (σ := FsS) (fun s => [(2, .pointer (some ⟨b2, 0, none⟩)), (3, .pointer (some ⟨b3, 0, none⟩)), (5, .int .i64 1), (6, .int .i64 ((s.j : Nat) : Int))]) (fun _ => K)
  (fun s => s.g :: pt b3 #[.slice s.ao s.j s.cap] 59 :: pt b2 #[.slice none 0 0] 59 :: hs) (fun s => s.j <= 1 /\ Own s.g s.ao s.j s.cap 3 1 (iv (List.replicate s.j 0))) (fun s => 1 - s.j) ⟨0, none, 0, em⟩ ⟨by dsimp only; omega, Own.nil _ _⟩ ⟨rfl, rfl, rfl, rfl, trivial⟩ rfl rfl ?_
 rintro ⟨j, ao, cap, g⟩ ⟨hj, ow⟩
 dsimp only at *
 refine sq (rg ?_)
 refine cmpS hT 0 rfl fun b7 h7 => ?_
 refine fin hT 0 rfl (th (sq (ifP h7 rfl (fun e2 => ?_) (fun e2 => ?_))))
 ·obtain rfl : j = 0 := by omega
  refine sk (th (sq (bk (sq (rg ?_)))))
  refine fin hT 2 rfl (th (rg ?_))
  refine ldp hT 1 1 rfl rfl rfl ?_
  refine lit hT 1 #[.int .i64 0] rfl (by decide) (by kernel_rfl) fun b12 => ?_
  refine app hT 0 1 rfl rfl ow (.inr ⟨0, rfl⟩) (Own.ofPt (b := b12) (c := #[.int .i64 0]) (e := 3) (n := 1) (size := 1) rfl (by decide)).isS rfl (by decide) (by intro u hu; simp at hu; subst hu; rfl) (by decide) (by decide) fun ao13 c13 g13 o13 => ?_
  refine stp hT 1 2 rfl rfl rfl rfl ?_
  refine WL.hs (pt b12 #[.int .i64 0] 3 :: g13 :: pt b3 #[.slice ao13 1 c13] 59 :: pt b2 #[.slice none 0 0] 59 :: hs) rfl ?_
  refine WL.drop ?_
  refine fin hT 0 rfl (bl (th (rg ?_)))
  refine ar hT 0 rfl (i64w (x := ((1 : Nat) : Int)) (by omega)) ?_
  refine fin hT 1 rfl ?_
  exact again (x := (⟨0, ao, cap, g⟩ : FsS)) (⟨1, ao13, c13, g13⟩ : FsS) ⟨rfl, rfl, rfl, rfl, trivial⟩ rfl rfl ⟨by dsimp only; omega, o13⟩ (by dsimp only; omega)
 ·obtain rfl : j = 1 := by omega
  refine ex (xt (xt (xb (th (sq (rg ?_))))))
  refine ldS hT 0 1 rfl rfl (by kernel_rfl) ?_
  refine stS hT 0 2 rfl rfl (by kernel_rfl) rfl rfl ?_
  refine WL.frz fun K2 l1 l2 => ?_
  refine WL.hs (pt b3 #[.slice ao 1 cap] 59 :: pt b2 #[.slice ao 1 cap] 59 :: hs) rfl ?_
  refine fin hT 0 rfl (th (rt ?_))
  exact retcA 1 2 rfl rfl rfl (by kernel_rfl) ⟨l1, rfl, ao, cap, rfl, ow.isS.le l2⟩
structure BnS where
 j : Nat
 K : PH
 hs : List PH
abbrev OneT : Nat := 30
abbrev WldT : Nat := 39
theorem begunNC {w0 : World} {K : PH} {hs : List PH} : Ct Tryz.prog w0 4 [.int .i64 1, .int .i64 1] K hs
  (fun v K' hs' => ∃ wb rb lb db a cn m, hs' = m ++ hs /\ Le K K' /\ Cell K' ⟨wb, 0, none⟩ (.slice (some a) 1 cn) /\ IsS K' (some a) 1 cn 3 [.pointer (some ⟨db, 0, none⟩), .pointer (some ⟨lb, 0, none⟩), .pointer (some ⟨rb, 0, none⟩)] /\ RfM K' rb lb db 0 lgA0 (dk0 16777216) rf0 m /\ v = .pointer (some ⟨wb, 0, none⟩)) := by
 refine enter Tryz.func4 (by kernel_rfl) rfl rfl rfl ?_
 refine sq (rg ?_)
 refine fin hT 1 rfl (th (sq (sq (rg ?_))))
 refine fin hT 11 rfl (th (ifF rfl ?_))
 refine sk (th (sq (rg ?_)))
 refine mkm hT 1 rfl fun bm => ?_
 refine bd hT 0 (.agg (wldA (.slice none 0 0) bm)) rfl (fun w => by kernel_rfl) ?_
 refine bx hT 0 rfl fun wb => ?_
 refine WL.hs (pt wb (wldA (.slice none 0 0) bm) WldT :: sg bm (.map #[] 0) :: hs) rfl ?_
 refine fin hT 1 rfl (th (sq (sq (rg ?_))))
 refine fin hT 2 rfl (th (bk ?_))
 refine loop (σ := BnS) (fun s => [(1, .int .i64 1), (5, .pointer (some ⟨wb, 0, none⟩)), (25, .int .i64 1), (26, .int .i64 ((s.j : Nat) : Int))]) (fun s => s.K) (fun s => s.hs)
  (fun s => (s.j = 0 /\ s.K = K /\ s.hs = pt wb (wldA (.slice none 0 0) bm) WldT :: sg bm (.map #[] 0) :: hs) \/
   (s.j = 1 /\ Le K s.K /\ ∃ rb lb db an cn vY lh gn x y z, s.hs = gn :: x :: pt rb (rfA lb rf0 vY (tkI rb) (tkI rb) (tkB rb)) RT :: lh :: y :: pt wb (wldA (.slice an 1 cn) bm) WldT :: z :: hs /\ LgH s.K lb db lgA0 (dk0 16777216) lh /\ RfI 0 lgA0 (dk0 16777216) rf0 /\
    Own gn an 1 cn OneT 3 [.pointer (some ⟨db, 0, none⟩), .pointer (some ⟨lb, 0, none⟩), .pointer (some ⟨rb, 0, none⟩)])) (fun s => 1 - s.j) ⟨0, K, _⟩ (.inl ⟨rfl, rfl, rfl⟩) ⟨rfl, rfl, rfl, rfl, trivial⟩ rfl rfl ?_
 rintro ⟨j, K1, h1⟩ (⟨rfl, rfl, rfl⟩ | ⟨rfl, le, rb, lb, db, an, cn, vY, lh, gn, x, y, z, rfl, hL, I, on⟩)
 ·dsimp only
  refine sq (rg ?_)
  refine fin hT 1 rfl (th (sq (ifT rfl ?_)))
  refine sk (th (sq (bk (sq (rg ?_)))))
  refine fin hT 2 rfl (th (sq (rg ?_)))
  refine cl hT 0 rfl (newH 16777216 (by omega)) ?_
  rintro v29 K29 hs29 ⟨rfl, db, dh, rfl, hD, rfl⟩
  refine bd hT 0 (.agg #[.pointer (some ⟨db, 0, none⟩), .pointer none, .pointer none]) rfl (fun w => by kernel_rfl) ?_
  refine al hT 0 (.agg #[.pointer none, .pointer none, .pointer none]) rfl (by kernel_rfl) fun b7 => ?_
  refine stS hT 0 0 rfl rfl (by kernel_rfl) rfl rfl ?_
  refine WL.hs (pt b7 #[.pointer (some ⟨db, 0, none⟩), .pointer none, .pointer none] OneT :: dh :: pt wb (wldA (.slice none 0 0) bm) WldT :: sg bm (.map #[] 0) :: hs) rfl ?_
  refine fin hT 0 rfl (th (sq (sq (rg ?_))))
  refine ldp hT 1 0 rfl rfl rfl ?_
  refine fin hT 1 rfl (th (ifF rfl ?_))
  refine sk (th (sq (rga [pt b7 #[.pointer (some ⟨db, 0, none⟩), .pointer none, .pointer none] OneT] 10 [0, 2, 4, 7, 9, 10, 12, 14, 16, 18] (by simp) (by kernel_rfl) (by kernel_rfl) ?_)))
  refine dldp hT (by kernel_rfl) 1 0 rfl rfl rfl ?_
  refine dact hT (by kernel_rfl) 1 rfl ?_
  refine cl hT 0 rfl firstNC ?_
  rintro v38 K38 hs38 ⟨le1, rfl, ao, cap, rfl, x⟩
  refine dnexL [pt b7 #[.pointer (some ⟨db, 0, none⟩), .pointer none, .pointer none] OneT] (by simp) (by simp) le1 ?_
  refine dact hT (by kernel_rfl) 0 rfl ?_
  refine cl hT 0 rfl (Ct.at 1 rfl (openH db (dk0 16777216) 0 (dk0_DOk (by omega)) (by omega) (hD.le le1) [0] (by simp) ao cap x)) ?_
  rintro v39 K39 hs39 ⟨h, rfl, le2, hX⟩
  rw [openA0] at hX
  rcases hX with ⟨hn', _⟩ | ⟨L', lb, hL', rfl, hL⟩
  ·cases hn'
  cases hL'
  refine WL.hs (pt b7 #[.pointer (some ⟨db, 0, none⟩), .pointer none, .pointer none] OneT :: h :: pt wb (wldA (.slice none 0 0) bm) WldT :: sg bm (.map #[] 0) :: hs) rfl ?_
  refine dnexL [pt b7 #[.pointer (some ⟨db, 0, none⟩), .pointer none, .pointer none] OneT] (by simp) (by simp) le2 ?_
  refine dend hT (by kernel_rfl) 5 rfl (th (sq (sq (rg ?_))))
  refine fin hT 6 rfl (th (ifF rfl ?_))
  refine sk (th (sq (rg ?_)))
  refine stp hT 2 0 rfl rfl rfl rfl ?_
  refine WL.perm (hs' := h :: pt b7 #[.pointer (some ⟨db, 0, none⟩), .pointer (some ⟨lb, 0, none⟩), .pointer none] OneT :: pt wb (wldA (.slice none 0 0) bm) WldT :: sg bm (.map #[] 0) :: hs) (List.Perm.swap _ _ _) ?_
  refine fin hT 0 rfl (th (sq (rg ?_)))
  refine cl hT 2 rfl (newNC lb db aln0 hL rfl rfl) ?_
  rintro v52 K52 hs52 ⟨rb, m, rfl, le3, ⟨vY, lh, rfl, hL2, I⟩, rfl⟩
  refine stp hT 1 2 rfl rfl rfl rfl ?_
  refine WL.hs (pt rb (rfA lb rf0 vY (tkI rb) (tkI rb) (tkB rb)) RT :: lh :: pt b7 #[.pointer (some ⟨db, 0, none⟩), .pointer (some ⟨lb, 0, none⟩), .pointer (some ⟨rb, 0, none⟩)] OneT :: pt wb (wldA (.slice none 0 0) bm) WldT :: sg bm (.map #[] 0) :: hs) rfl ?_
  refine fin hT 0 rfl (th (sq (sq (rg ?_))))
  refine ldp hT 1 2 rfl rfl rfl ?_
  refine fin hT 1 rfl (th (ifF rfl ?_))
  refine sk (th (rga [pt wb (wldA (.slice none 0 0) bm) WldT, pt b7 #[.pointer (some ⟨db, 0, none⟩), .pointer (some ⟨lb, 0, none⟩), .pointer (some ⟨rb, 0, none⟩)] OneT] 10 [0, 2, 4, 6, 8, 10, 13, 15, 16, 18, 21] (by simp) (by kernel_rfl) (by kernel_rfl) ?_))
  refine dldpw hT (by kernel_rfl) 4 0 rfl (by kernel_rfl) rfl rfl ?_
  refine dldS hT (by kernel_rfl) 0 1 rfl (by kernel_rfl) rfl (by kernel_rfl) ?_
  refine dact hT (by kernel_rfl) 0 rfl ?_
  refine lit hT 0 #[.pointer (some ⟨db, 0, none⟩), .pointer (some ⟨lb, 0, none⟩), .pointer (some ⟨rb, 0, none⟩)] rfl (by decide) (by kernel_rfl) fun b63 => ?_
  refine WL.em ?_
  refine dnex [pt wb (wldA (.slice none 0 0) bm) WldT, pt b7 #[.pointer (some ⟨db, 0, none⟩), .pointer (some ⟨lb, 0, none⟩), .pointer (some ⟨rb, 0, none⟩)] OneT] (by simp) (by simp) rfl ?_
  refine dact hT (by kernel_rfl) 0 rfl ?_
  refine app hT 0 0 rfl rfl (Own.nil _ _) (.inr ⟨1, rfl⟩) (Own.ofPt (b := b63) (c := #[.pointer (some ⟨db, 0, none⟩), .pointer (some ⟨lb, 0, none⟩), .pointer (some ⟨rb, 0, none⟩)]) (e := OneT) (n := 1) (size := 3) rfl (by decide)).isS rfl (by decide) (by intro u hu; simp at hu; rcases hu with rfl | rfl | rfl <;> rfl) (by decide) (by decide) fun an cn gn on => ?_
  refine WL.hs (gn :: pt b63 #[.pointer (some ⟨db, 0, none⟩), .pointer (some ⟨lb, 0, none⟩), .pointer (some ⟨rb, 0, none⟩)] OneT :: pt rb (rfA lb rf0 vY (tkI rb) (tkI rb) (tkB rb)) RT :: lh :: pt b7 #[.pointer (some ⟨db, 0, none⟩), .pointer (some ⟨lb, 0, none⟩), .pointer (some ⟨rb, 0, none⟩)] OneT :: pt wb (wldA (.slice none 0 0) bm) WldT :: sg bm (.map #[] 0) :: hs) rfl ?_
  refine dnex [pt wb (wldA (.slice none 0 0) bm) WldT, pt b7 #[.pointer (some ⟨db, 0, none⟩), .pointer (some ⟨lb, 0, none⟩), .pointer (some ⟨rb, 0, none⟩)] OneT] (by simp) (by simp) rfl ?_
  refine dact hT (by kernel_rfl) 2 rfl ?_
  refine stp hT 0 5 rfl rfl rfl rfl ?_
  refine WL.hs (gn :: pt b63 #[.pointer (some ⟨db, 0, none⟩), .pointer (some ⟨lb, 0, none⟩), .pointer (some ⟨rb, 0, none⟩)] OneT :: pt rb (rfA lb rf0 vY (tkI rb) (tkI rb) (tkB rb)) RT :: lh :: pt b7 #[.pointer (some ⟨db, 0, none⟩), .pointer (some ⟨lb, 0, none⟩), .pointer (some ⟨rb, 0, none⟩)] OneT :: pt wb (wldA (.slice an 1 cn) bm) WldT :: sg bm (.map #[] 0) :: hs) rfl ?_
  refine dnext (.inl (by kernel_rfl)) ?_
  refine dend hT (by kernel_rfl) 0 rfl (bl (th (rg ?_)))
  refine ar hT 0 rfl (i64w (x := ((1 : Nat) : Int)) (by omega)) ?_
  refine fin hT 1 rfl ?_
  exact again (x := (⟨0, K29, pt wb (wldA (.slice none 0 0) bm) WldT :: sg bm (.map #[] 0) :: hs⟩ : BnS)) (⟨1, K52, _⟩ : BnS) ⟨rfl, rfl, rfl, rfl, trivial⟩ rfl rfl (.inr ⟨rfl, (le1.trans le2).trans le3, rb, lb, db, an, cn, vY, lh, gn, _, _, _, rfl, hL2, I, on⟩) (by dsimp only; omega)
 ·dsimp only
  refine sq (rg ?_)
  refine fin hT 1 rfl (th (sq (ifF rfl ?_)))
  refine ex (xt (xt (xb (th (sq (rg ?_))))))
  refine fin hT 2 rfl (th (rt ?_))
  refine WQ.perm (perm_front _ 5 _ rfl) (WQ.frz fun K2 l1 l2 => WQ.frz fun K3 l3 l4 => WQ.drop (WQ.perm (perm_front _ 2 _ rfl) (WQ.drop (WQ.perm (perm_front _ 2 _ rfl) (WQ.drop ?_)))))
  obtain ⟨a, rfl⟩ := on.isS.addr (j := 0) (by omega) (by omega)
  exact ret1 rfl rfl ⟨wb, rb, lb, db, a, cn, [_, _], rfl, (le.trans l1).trans l3, (Cell.le (l2.trans l3) (Cell.pt rfl)), on.isS.le l4, ⟨vY, lh, rfl, (hL.le l1).le l3, I⟩, rfl⟩
end Go.Proofs.YtcncpbolcigpnaaGreat
end
section
namespace Go.En
theorem Ct.lawN {P : Program} {w0 : World} {f : FuncId} {args : List Value} {K : PH} {hs : List PH} {u : Value} (c : Ct P w0 f args K hs (fun v K' hs' => hs' = hs /\ Le K K' /\ v = u)) : Ct P w0 f args K hs (fun v K' hs' => K' = K /\ hs' = hs /\ v = u) :=
 Ct.fix2 c (fun w v K' hs' hS ⟨hh, le, hv⟩ => ⟨K, hs, ⟨rfl, rfl, hv⟩, by subst hh; exact hS.weak le⟩)
theorem add00 (a : Addr) : a.add (0 * 3) = a := by simp [Addr.add]
structure TkS where
 j : Nat
 K : PH
 L : Lg
 D : Dk
 S : Rf
 m : List PH
end Go.En
namespace Go.Proofs.YtcncpbolcigpnaaGreat
open Go.En
attribute [local irreducible] Code.wp wpList Calls
theorem RfM.le {K K' : PH} (l : Le K K') {rb lb db n : Nat} {L : Lg} {D : Dk} {S : Rf} {m : List PH} (h : RfM K rb lb db n L D S m) : RfM K' rb lb db n L D S m :=
 let ⟨vY, lh, h1, h2, h3⟩ := h; ⟨vY, lh, h1, h2.le l, h3⟩
theorem RfM.up {K : PH} {rb lb db n k : Nat} {L : Lg} {D : Dk} {S : Rf} {m : List PH} (h : RfM K rb lb db n L D S m) (hk : n <= k) : RfM K rb lb db k L D S m :=
 let ⟨vY, lh, h1, h2, h3⟩ := h; ⟨vY, lh, h1, h2, ⟨h3.aln.up hk, by have := h3.rnd; omega, h3.case⟩⟩
theorem RfM.inv {K : PH} {rb lb db n : Nat} {L : Lg} {D : Dk} {S : Rf} {m : List PH} (h : RfM K rb lb db n L D S m) : RfI n L D S := let ⟨_, _, _, _, h3⟩ := h; h3
theorem RfM.dropN {w0 : World} {Q : Exit -> Act -> World -> Prop} {e : Exit} {n' : Nat} {l : Sl} {K : PH} {rb lb db n : Nat} {L : Lg} {D : Dk} {S : Rf} {m hs : List PH} (h : RfM K rb lb db n L D S m) (hk : WQ w0 Q e n' l K hs) : WQ w0 Q e n' l K (m ++ hs) := by
 obtain ⟨vY, lh, rfl, _⟩ := h
 exact WQ.drop (WQ.drop hk)
theorem tick_leads {j n : Nat} {L : Lg} {D : Dk} {S S' : Rf} (I : RfI n L D S) (h : S.role = 2 \/ S.role = 0 /\ ((j : Nat) : Int) <= S.el) (h' : S'.role = 2 \/ S.role = 0 /\ S'.role = 0 /\ S'.el = S.el + 1) : S'.role = 2 \/ S'.role = 0 /\ ((j + 1 : Nat) : Int) <= S'.el := by
 rcases h' with h' | ⟨h1, h2, h3⟩
 ·exact .inl h'
 ·rcases h with h | ⟨_, h⟩
  ·rw [h] at h1; exact absurd h1 (by decide)
  ·exact .inr ⟨h2, by omega⟩
theorem leads31 {n : Nat} {L : Lg} {D : Dk} {S : Rf} (I : RfI n L D S) (h : S.role = 2 \/ S.role = 0 /\ ((31 : Nat) : Int) <= S.el) : S.role = 2 /\ S.lead = 0 /\ L.kt = 1 /\ 1 <= L.l.length /\ S.com = L.l.length := by
 rcases I.case with ⟨h1, _, _, _, _, h2⟩ | ⟨h1, h2, h3, h4, h5, _⟩
 ·rcases h with h | ⟨_, h⟩
  ·rw [h] at h1; exact absurd h1 (by decide)
  ·omega
 ·exact ⟨h1, h2, h3, h4, h5⟩
theorem aliveNC {w0 : World} {K : PH} {hs : List PH} : Ct Tryz.prog w0 5 [] K hs (fun v K' hs' => K' = K /\ hs' = hs /\ v = .bool true) := by
 refine Ct.lawN ?_
 refine enter Tryz.func5 (by kernel_rfl) rfl rfl rfl ?_
 refine sq (rg ?_)
 refine fin hT 1 rfl (th (sq (rg ?_)))
 refine cl hT 0 rfl begunNC ?_
 rintro v3 K3 hs3 ⟨wb, rb, lb, db, a, cn, m, rfl, le, cw, xn, hM, rfl⟩
 have c2 : Cell K3 ((a.add (0 * 3)).add 2) (.pointer (some ⟨rb, 0, none⟩)) := by
  rw [add00]
  obtain ⟨a', ha, hc⟩ := xn.2.2 2 _ rfl
  cases ha
  exact hc
 refine fin hT 1 rfl (th (sq (sq (rg ?_))))
 refine fin hT 2 rfl (th (ifF rfl ?_))
 refine sk (th (sq (rg ?_)))
 refine ld hT 3 rfl (.inl rfl) cw ?_
 refine ixs hT 0 0 rfl rfl xn (by omega) (by decide) fun a10 h10 => ?_
 cases h10
 refine ld hT 1 rfl (.inl rfl) c2 ?_
 refine fin hT 1 rfl (th (sq (sq (rg ?_))))
 refine fin hT 1 rfl (th (bk ?_))
 refine loop (σ := TkS) (fun s => [(2, .pointer (some ⟨rb, 0, none⟩)), (13, .int .i64 ((s.j : Nat) : Int))]) (fun s => s.K) (fun s => s.m ++ hs)
  (fun s => s.j <= 31 /\ Le K s.K /\ RfM s.K rb lb db (4 * s.j) s.L s.D s.S s.m /\ (s.S.role = 2 \/ s.S.role = 0 /\ ((s.j : Nat) : Int) <= s.S.el)) (fun s => 31 - s.j) ⟨0, K3, lgA0, dk0 16777216, rf0, m⟩ ⟨by dsimp only; omega, le, hM, .inr ⟨rfl, Int.le_refl 0⟩⟩ ⟨rfl, rfl, trivial⟩ rfl rfl ?_
 rintro ⟨j, K1, L, D, S, m1⟩ ⟨hj, le1, hM1, hE⟩
 dsimp only at *
 refine sq (rg ?_)
 refine cmpS hT 0 rfl fun b14 h14 => ?_
 refine fin hT 0 rfl (th (sq (ifP h14 rfl (fun e4 => ?_) (fun e4 => ?_))))
 ·refine sk (th (sq (bk (rg ?_))))
  refine cl hT 1 rfl (tickNC rb lb db 0 (by decide) hM1 (by omega)) ?_
  rintro v16 K16 hs16 ⟨L', D', S', m', rfl, le2, hM2, hp, rfl⟩
  refine fin hT 0 rfl (bl (th (rg ?_)))
  refine ar hT 0 rfl (i64w (x := ((j + 1 : Nat) : Int)) (by omega)) ?_
  refine fin hT 1 rfl ?_
  exact again (x := (⟨j, K1, L, D, S, m1⟩ : TkS)) (⟨j + 1, K16, L', D', S', m'⟩ : TkS) ⟨rfl, rfl, trivial⟩ rfl rfl ⟨by dsimp only; omega, le1.trans le2, hM2.up (by dsimp only; omega), tick_leads hM1.inv hE hp⟩ (by dsimp only; omega)
 ·obtain rfl : j = 31 := by omega
  obtain ⟨g1, g2, g3, g4, g5⟩ := leads31 hM1.inv hE
  refine ex (xt (xt (xb (th (sq (rg ?_))))))
  refine cl hT 1 rfl (roleNC rb lb db hM1) ?_
  rintro v19 K19 hs19 ⟨rfl, rfl, rfl⟩
  refine cmpS hT 0 rfl fun b20 h20 => ?_
  refine' bja (q := True) hT 1 4 25 [20, 21] h20 rfl rfl rfl rfl rfl rfl rfl (fun _ => ?x6) (fun b25 h25 => ?_)
  case x6 =>
   refine cl hT 1 rfl (commitNC rb lb db hM1) ?_
   rintro v23 K23 hs23 ⟨rfl, rfl, rfl⟩
   refine cmpS hT 0 rfl fun b24 h24 => ?_
   exact fin hT 1 rfl (bjx (h24.trans (by simp; omega)) rfl rfl rfl)
  refine' bja (q := True) hT 1 4 30 [25, 26] h25 rfl rfl rfl rfl rfl rfl rfl (fun _ => ?x8) (fun b30 h30 => ?_)
  case x8 =>
   refine cl hT 1 rfl (leaderNC rb lb db hM1) ?_
   rintro v28 K28 hs28 ⟨rfl, rfl, rfl⟩
   refine cmpS hT 0 rfl fun b29 h29 => ?_
   exact fin hT 1 rfl (bjx (h29.trans (by simp; omega)) rfl rfl rfl)
  refine fin hT 1 rfl (th (rt (hM1.dropN ?_)))
  exact ret1 rfl rfl ⟨rfl, le1, by rw [show b30 = true from h30.2 ⟨⟨g1, trivial⟩, trivial⟩]⟩
theorem lawAloneC {w0 : World} {K : PH} {hs : List PH} (ao : Option Addr) (cap : Nat) (ds : List Nat) (xs : IsS K ao ds.length cap 1 (uvv ds)) (hds : ∀ d ∈ ds, d < 18446744073709551616) (hdl : ds.length < 1099511627776) (many : Int) (hmany : -9223372036854775808 <= many /\ many <= 9223372036854775807) :
  Ct Tryz.prog w0 3 [.slice ao ds.length cap, .int .i64 many] K hs (fun v K' hs' => K' = K /\ hs' = hs /\ v = .bool true) := by
 refine Ct.lawN ?_
 refine enter Tryz.func3 (by kernel_rfl) rfl rfl rfl ?_
 refine sq (rg ?_)
 refine fin hT 1 rfl (th (sq (rg ?_)))
 refine cl hT 0 rfl begunNC ?_
 rintro v17 K17 hs17 ⟨wb, rb, lb, db, a, cn, m, rfl, le, cw, xn, hM, rfl⟩
 have c2 : Cell K17 ((a.add (0 * 3)).add 2) (.pointer (some ⟨rb, 0, none⟩)) := by
  rw [add00]
  obtain ⟨a', ha, hc⟩ := xn.2.2 2 _ rfl
  cases ha
  exact hc
 have c1 : Cell K17 ((a.add (0 * 3)).add 1) (.pointer (some ⟨lb, 0, none⟩)) := by
  rw [add00]
  obtain ⟨a', ha, hc⟩ := xn.2.2 1 _ rfl
  cases ha
  exact hc
 refine fin hT 1 rfl (th (sq (sq (rg ?_))))
 refine ar hT 1 (v' := .bool false) rfl rfl ?_
 refine nmS fun b19 h19 => ?_
 refine' bjo hT 1 3 23 [19, 20] h19 rfl rfl rfl rfl rfl rfl rfl (fun _ => ?x2) (fun b23 h23 => ?_)
 case x2 =>
  refine cmpS hT 1 rfl fun b22 h22 => ?_
  exact fin hT 1 rfl (bjx h22 rfl rfl rfl)
 refine' bjo hT 1 3 27 [23, 24] h23 rfl rfl rfl rfl rfl rfl rfl (fun _ => ?x4) (fun b27 h27 => ?_)
 case x4 =>
  refine cmpS hT 1 rfl fun b26 h26 => ?_
  exact fin hT 1 rfl (bjx h26 rfl rfl rfl)
 refine' bjo hT 1 4 32 [27, 28] h27 rfl rfl rfl rfl rfl rfl rfl (fun _ => ?x6) (fun b32 h32 => ?_)
 case x6 =>
  refine cmpS hT 2 rfl fun b31 h31 => ?_
  exact fin hT 1 rfl (bjx h31 rfl rfl rfl)
 refine fin hT 0 rfl (th (ifP h32 rfl (fun e8 => ?_) (fun e8 => ?_)))
 ·refine sq (rg ?_)
  refine ar hT 1 (v' := .bool true) rfl rfl ?_
  refine cl hT 1 rfl aliveNC ?_
  rintro v36 K36 hs36 ⟨rfl, rfl, rfl⟩
  refine fin hT 2 rfl (th (rt (rT (hM.dropN ?_))))
  exact ret1 rfl rfl ⟨rfl, le, rfl⟩
 ·have e8' := not_or.1 e8
  have e8'' := not_or.1 e8'.1
  have e83 := not_or.1 e8''.1
  have hm0 : 0 <= many := by have := e83.2; omega
  have hm1 : many <= 100 := by have := e8''.2; omega
  have hd1 : ds.length <= 100 := by have := e8'.2; omega
  refine sk (th (sq (rg ?_)))
  refine ld hT 3 rfl (.inl rfl) cw ?_
  refine ixs hT 0 0 rfl rfl xn (by omega) (by decide) fun a42 h42 => ?_
  cases h42
  refine ld hT 1 rfl (.inl rfl) c2 ?_
  refine fin hT 1 rfl (th (sq (sq (rg ?_))))
  refine fin hT 3 rfl (th (bk ?_))
  refine loop (σ := TkS) (fun s => [(1, .int .i64 many), (5, .pointer (some ⟨wb, 0, none⟩)), (6, .pointer (some ⟨rb, 0, none⟩)), (45, .slice ao ds.length cap), (46, .int .i64 ((ds.length : Nat) : Int)), (47, .int .i64 ((s.j : Nat) : Int))]) (fun s => s.K) (fun s => s.m ++ hs)
   (fun s => s.j <= ds.length /\ Le K17 s.K /\ RfM s.K rb lb db (4 * s.j) s.L s.D s.S s.m) (fun s => ds.length - s.j) ⟨0, K17, lgA0, dk0 16777216, rf0, m⟩ ⟨Nat.zero_le _, Le.refl _, hM⟩ ⟨rfl, rfl, rfl, rfl, rfl, rfl, trivial⟩ rfl rfl ?_
  rintro ⟨j, K1, L, D, S, m1⟩ ⟨hj, le1, hM1⟩
  dsimp only at *
  refine sq (rg ?_)
  refine cmpS hT 0 rfl fun b48 h48 => ?_
  refine fin hT 0 rfl (th (sq (ifP h48 rfl (fun e12 => ?_) (fun e12 => ?_))))
  ·have hjl : j < ds.length := by omega
   obtain ⟨d, hd⟩ : ∃ d, ds[j]? = some d := ⟨_, List.getElem?_eq_getElem hjl⟩
   refine sk (th (sq (bk (sq (rg ?_)))))
   refine ix1 hT 0 j rfl rfl rfl xs (uvv_get hd) fun a49 hc49 => ?_
   refine ld hT 0 rfl (.inl rfl) (hc49.le (le.trans le1)) ?_
   refine fin hT 1 rfl (th (rg ?_))
   refine cl hT 2 rfl (tickNC rb lb db d (hds d (List.mem_of_getElem? hd)) hM1 (by omega)) ?_
   rintro v53 K53 hs53 ⟨L', D', S', m', rfl, le2, hM2, hp, rfl⟩
   refine fin hT 0 rfl (bl (th (rg ?_)))
   refine ar hT 0 rfl (i64w (x := ((j + 1 : Nat) : Int)) (by omega)) ?_
   refine fin hT 1 rfl ?_
   exact again (x := (⟨j, K1, L, D, S, m1⟩ : TkS)) (⟨j + 1, K53, L', D', S', m'⟩ : TkS) ⟨rfl, rfl, rfl, rfl, rfl, rfl, trivial⟩ rfl rfl ⟨by dsimp only; omega, le1.trans le2, hM2.up (by dsimp only; omega)⟩ (by dsimp only; omega)
  ·have hM1 := hM1.up (k := 400) (by omega)
   refine ex (xt (xt (xb (th (sq (sq (rg ?_)))))))
   refine fin hT 1 rfl (th (bk ?_))
   refine loop (σ := TkS) (fun s => [(1, .int .i64 many), (5, .pointer (some ⟨wb, 0, none⟩)), (6, .pointer (some ⟨rb, 0, none⟩)), (55, .int .i64 ((s.j : Nat) : Int))]) (fun s => s.K) (fun s => s.m ++ hs)
    (fun s => s.j <= 31 /\ Le K17 s.K /\ RfM s.K rb lb db (400 + 4 * s.j) s.L s.D s.S s.m /\ (s.S.role = 2 \/ s.S.role = 0 /\ ((s.j : Nat) : Int) <= s.S.el)) (fun s => 31 - s.j) ⟨0, K1, L, D, S, m1⟩ ⟨Nat.zero_le _, le1, hM1, ?_⟩ ⟨rfl, rfl, rfl, rfl, trivial⟩ rfl rfl ?_
   ·rcases hM1.inv.case with ⟨h1, _, _, _, _, h2⟩ | h
    ·refine .inr ⟨h1, ?_⟩
     dsimp only
     omega
    ·exact .inl h.1
   clear hM1 le1 e12 h48 hj
   rintro ⟨j, K1, L, D, S, m1⟩ ⟨hj, le1, hM1, hE⟩
   dsimp only at *
   refine sq (rg ?_)
   refine cmpS hT 0 rfl fun b56 h56 => ?_
   refine fin hT 0 rfl (th (sq (ifP h56 rfl (fun e14 => ?_) (fun e14 => ?_))))
   ·refine sk (th (sq (bk (rg ?_))))
    refine cl hT 1 rfl (tickNC rb lb db 7 (by decide) hM1 (by omega)) ?_
    rintro v58 K58 hs58 ⟨L', D', S', m', rfl, le2, hM2, hp, rfl⟩
    refine fin hT 0 rfl (bl (th (rg ?_)))
    refine ar hT 0 rfl (i64w (x := ((j + 1 : Nat) : Int)) (by omega)) ?_
    refine fin hT 1 rfl ?_
    exact again (x := (⟨j, K1, L, D, S, m1⟩ : TkS)) (⟨j + 1, K58, L', D', S', m'⟩ : TkS) ⟨rfl, rfl, rfl, rfl, trivial⟩ rfl rfl ⟨by dsimp only; omega, le1.trans le2, hM2.up (by dsimp only; omega), tick_leads hM1.inv hE hp⟩ (by dsimp only; omega)
   ·obtain rfl : j = 31 := by omega
    obtain ⟨g1, g2, g3, g4, g5⟩ := leads31 hM1.inv hE
    refine ex (xt (xt (xb (th (sq (sq (rga [] 16 [0, 3, 4, 6, 8, 12, 14, 16, 18, 20, 22, 24, 11, 27, 28, 30] (by simp) (by kernel_rfl) (by kernel_rfl) ?_)))))))
    refine dact hT (by kernel_rfl) 1 rfl ?_
    refine cl hT 0 rfl (roleNC rb lb db hM1) ?_
    rintro v61 K61 hs61 ⟨rfl, rfl, rfl⟩
    rw [g1]
    refine dnex [] (by simp) (by simp) rfl ?_
    refine dld hT (by kernel_rfl) 6 rfl (.inl rfl) (cw.le le1) ?_
    refine dixs hT (by kernel_rfl) 0 0 rfl rfl (by omega) ?_
    refine dld hT (by kernel_rfl) 1 rfl (.inl rfl) (c1.le le1) ?_
    refine dact hT (by kernel_rfl) 0 rfl ?_
    refine cl hT 0 rfl (commitNC rb lb db hM1) ?_
    rintro v65 K65 hs65 ⟨rfl, rfl, rfl⟩
    rw [g5]
    refine dnex [] (by simp) (by simp) rfl ?_
    refine dact hT (by kernel_rfl) 0 rfl ?_
    refine cl hT 0 rfl (lastMC rb lb db hM1 (by omega)) ?_
    rintro v73 K73 hs73 ⟨rfl, rfl, rfl⟩
    refine dnex [] (by simp) (by simp) rfl ?_
    refine dcbS hT (by kernel_rfl) 0 False rfl (by simp) fun b74 h74 => ?_
    refine dend hT (by kernel_rfl) 1 rfl (th (ifP h74 rfl (fun e16 => absurd e16 (by simp)) (fun e16 => ?_)))
    refine sk (th (sq (rg ?_)))
    refine bd hT 0 (.agg (Cmd.v ⟨1, 0, 0, [], 0⟩)) rfl (fun w => by kernel_rfl) ?_
    refine cl hT 0 rfl (putCmdRef ⟨1, 0, 0, [], 0⟩ (by decide) (by decide)) ?_
    rintro v78 K78 hs78 ⟨rfl, h, ap, cp, rfl, rfl, op⟩
    have hpc : putCmd ⟨1, 0, 0, [], 0⟩ = some [1] := by decide
    rw [hpc] at op ⊢
    refine WL.frz fun K2 l1 l2 => ?_
    have xp : IsS K2 ap [(1 : UInt8)].length cp 1 (bv [1]) := op.isS.le l2
    refine fin hT 5 rfl (th (sq (sq (rg ?_))))
    refine fin hT 2 rfl (th (bk ?_))
    refine loop (σ := TkS) (fun s => [(1, .int .i64 many), (5, .pointer (some ⟨wb, 0, none⟩)), (6, .pointer (some ⟨rb, 0, none⟩)), (9, .slice ap [(1 : UInt8)].length cp), (81, .int .i64 many), (82, .int .i64 ((s.j : Nat) : Int))]) (fun s => s.K) (fun s => s.m ++ hs)
     (fun s => ((s.j : Nat) : Int) <= many /\ Le K2 s.K /\ RfM s.K rb lb db (600 + 4 * s.j) s.L s.D s.S s.m /\ s.S.role = 2) (fun s => many.toNat - s.j) ⟨0, K2, L, D, S, m1⟩ ⟨hm0, Le.refl _, (hM1.le l1).up (by omega), g1⟩ ⟨rfl, rfl, rfl, rfl, rfl, rfl, trivial⟩ rfl rfl ?_
    have leK : Le K17 K2 := le1.trans l1
    clear hM1 le1 e14 h56 hj hE g1 g2 g3 g4 g5 h74 e16
    rintro ⟨j, K1, L, D, S, m1⟩ ⟨hj, le1, hM1, hr⟩
    dsimp only at *
    refine sq (rg ?_)
    refine cmpS hT 0 rfl fun b83 h83 => ?_
    refine fin hT 0 rfl (th (sq (ifP h83 rfl (fun e18 => ?_) (fun e18 => ?_))))
    ·refine sk (th (sq (bk (sq (rg ?_)))))
     refine cl hT 2 rfl (proposeNC rb lb db hM1 hr (by omega) [1] (by decide) ap cp (xp.le le1)) ?_
     rintro v87 K87 hs87 ⟨L', D', S', m', rfl, le2, hM2, hr2, hk2, rfl⟩
     have hcom2 : S'.com = L'.l.length := by
      rcases hM2.inv.case with h | h
      ·rw [hr2] at h; exact absurd h.1 (by decide)
      ·exact h.2.2.2.2.1
     refine fin hT 7 rfl (th (sq (rg ?_)))
     refine cmpS hT 1 rfl fun b92 h92 => ?_
     refine' bjo (q := False) hT 1 5 98 [92, 93] h92 rfl rfl rfl rfl rfl rfl rfl (fun _ => ?x20) (fun b98 h98 => ?_)
     case x20 =>
      refine cl hT 2 rfl (termMC rb lb db hM2) ?_
      rintro v96 K96 hs96 ⟨rfl, rfl, rfl⟩
      refine cmpS hT 0 rfl fun b97 h97 => ?_
      exact fin hT 1 rfl (bjx (h97.trans (by rw [hk2]; simp)) rfl rfl rfl)
     refine' bjo (q := False) hT 1 5 104 [98, 99] h98 rfl rfl rfl rfl rfl rfl rfl (fun _ => ?x22) (fun b104 h104 => ?_)
     case x22 =>
      refine cl hT 2 rfl (commitNC rb lb db hM2) ?_
      rintro v102 K102 hs102 ⟨rfl, rfl, rfl⟩
      refine cmpS hT 0 rfl fun b103 h103 => ?_
      exact fin hT 1 rfl (bjx (h103.trans (by rw [hcom2]; simp)) rfl rfl rfl)
     refine' bjo (q := False) hT 1 11 116 [104, 105] h104 rfl rfl rfl rfl rfl rfl rfl (fun _ => ?x24) (fun b116 h116 => ?_)
     case x24 =>
      refine ld hT 4 rfl (.inl rfl) (cw.le ((leK.trans le1).trans le2)) ?_
      refine ixs hT 0 0 rfl rfl (xn.le ((leK.trans le1).trans le2)) (by omega) (by decide) fun a111 h111 => ?_
      cases h111
      refine ld hT 1 rfl (.inl rfl) (c1.le ((leK.trans le1).trans le2)) ?_
      refine cl hT 0 rfl (lastMC rb lb db hM2 (by omega)) ?_
      rintro v114 K114 hs114 ⟨rfl, rfl, rfl⟩
      refine cmpS hT 0 rfl fun b115 h115 => ?_
      exact fin hT 1 rfl (bjx (h115.trans (by simp)) rfl rfl rfl)
     refine fin hT 0 rfl (th (ifP h116 rfl (fun e26 => absurd e26 (by simp)) (fun e26 => ?_)))
     refine sk (bl (th (rg ?_)))
     refine ar hT 0 rfl (i64w (x := ((j + 1 : Nat) : Int)) (by omega)) ?_
     refine fin hT 1 rfl ?_
     exact again (x := (⟨j, K1, L, D, S, m1⟩ : TkS)) (⟨j + 1, K87, L', D', S', m'⟩ : TkS) ⟨rfl, rfl, rfl, rfl, rfl, rfl, trivial⟩ rfl rfl ⟨by dsimp only; omega, le1.trans le2, hM2.up (by dsimp only; omega), hr2⟩ (by dsimp only; omega)
    ·refine ex (xt (xt (xb (th (sq (rg ?_))))))
     refine cl hT 1 rfl (readNC rb lb db hM1 hr (by omega)) ?_
     rintro v120 K120 hs120 ⟨S', m', rfl, le2, hM2, hr2, rfl⟩
     refine fin hT 7 rfl (th (sq (rg ?_)))
     refine cl hT 0 rfl aliveNC ?_
     rintro v124 K124 hs124 ⟨rfl, rfl, rfl⟩
     refine nmS fun b124 h124 => ?_
     refine' bja hT 1 3 128 [124, 125] h124 rfl rfl rfl rfl rfl rfl rfl (fun _ => ?x27) (fun b128 h128 => ?_)
     case x27 =>
      refine cmpS hT 1 rfl fun b127 h127 => ?_
      exact fin hT 1 rfl (bjx h127 rfl rfl rfl)
     refine' bja (q := True) hT 1 5 134 [128, 129] h128 rfl rfl rfl rfl rfl rfl rfl (fun _ => ?x29) (fun b134 h134 => ?_)
     case x29 =>
      refine cl hT 2 rfl (commitNC rb lb db hM2) ?_
      rintro v132 K132 hs132 ⟨rfl, rfl, rfl⟩
      refine cmpS hT 0 rfl fun b133 h133 => ?_
      exact fin hT 1 rfl (bjx (h133.trans (by simp)) rfl rfl rfl)
     refine' bja (q := True) hT 1 6 141 [134, 135] h134 rfl rfl rfl rfl rfl rfl rfl (fun _ => ?x31) (fun b141 h141 => ?_)
     case x31 =>
      refine cl hT 2 rfl (termMC rb lb db hM2) ?_
      rintro v138 K138 hs138 ⟨rfl, rfl, rfl⟩
      refine cl hT 1 rfl (Ct.lawN (heardNC rb lb db hM2 hr2 (by omega))) ?_
      rintro v140 K140 hs140 ⟨rfl, rfl, rfl⟩
      exact fin hT 1 rfl (bjx (show true = true ↔ True by simp) rfl rfl rfl)
     refine fin hT 1 rfl (th (rt (hM2.dropN ?_)))
     exact ret1 rfl rfl ⟨rfl, ((le.trans leK).trans le1).trans le2, by rw [show b141 = true from h141.2 ⟨⟨⟨rfl, rfl⟩, trivial⟩, trivial⟩]⟩
theorem lawAlone {w0 : World} {K : PH} {hs : List PH} (ao : Option Addr) (cap : Nat) (ds : List Nat) (xs : IsS K ao ds.length cap 1 (uvv ds)) (hds : ∀ d ∈ ds, d < 18446744073709551616) (hdl : ds.length < 1099511627776) (many : Int) (hmany : -9223372036854775808 <= many /\ many <= 9223372036854775807) :
  Ct Tryz.prog w0 3 [.slice ao ds.length cap, .int .i64 many] K hs (fun v K' _ => K' = K /\ v = .bool true) :=
 (lawAloneC ao cap ds xs hds hdl many hmany).mono fun _ _ _ ⟨h1, _, h2⟩ => ⟨h1, h2⟩
end Go.Proofs.YtcncpbolcigpnaaGreat
end
