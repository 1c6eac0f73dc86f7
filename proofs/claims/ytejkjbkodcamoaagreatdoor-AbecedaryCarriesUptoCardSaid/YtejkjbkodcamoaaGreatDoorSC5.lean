/-
  Part 5 of what the proof needs (texts Lq Lr Ls Pu Pg Pv Ei Ev Ri Nl Np Nt Lw Zk).
-/
import Derived.Test.YtejkjbkodcamoaaGreatDoorSC4
set_option linter.unusedSectionVars false
set_option linter.unusedSimpArgs false
set_option linter.unusedVariables false
section
namespace Go.En
attribute [local irreducible] Code.wp wpList Calls
section ext
variable {P : Program} {T : Tab} {w0 : World} {ops : Array Oper} {Q : Exit -> Act -> World -> Prop} {n : Nat} {l l' : Sl} {K K0 : PH} {hs A : List PH} {plan plan' : List Nat} {z : Nat} {listed listed' : Array Bool}
def dsiAt (T : Tab) (ops : Array Oper) (n z k : Nat) (plan : List Nat) (L : Array Bool) (l : Sl) : Option (Nat × Oper × Nat × ByteArray × Int × List Nat × Array Bool × Sl) :=
 match dopAt T ops n z k plan L l with
 | some (d, o, r, L', l') => match o.op with
  | .index t x i => match asc T.kinds t, ev l' x, ev l' i with
   | some .str, some (.string s), some (.int _ j) => some (d, o, t, s, j, r, L', l')
   | _, _, _ => none
  | _ => none
 | _ => none
theorem dsix (hT : TabOK P T) (hsel : Region.noSelect ops = true) (k : Nat) {d t : Nat} {o : Oper} {i : Int} (xs : List UInt8) (j : Nat) {b : UInt8} {s : ByteArray} (h0 : dsiAt T ops n z k plan listed l = some (d, o, t, s, i, plan', listed', l')) (hs1 : s = ⟨xs.toArray⟩) (hj : i = (j : Int)) (hb' : xs[j]? = some b)
  (hk : WA P w0 ops Q K0 A z plan' listed' n ((d, .int .u8 ((b.toNat : Nat) : Int)) :: l') K hs) : WA P w0 ops Q K0 A z plan listed n l K hs := by
 unfold dsiAt at h0
 split at h0
 ·rename_i d' o' r L' l2 hh
  split at h0
  ·rename_i t' x' i' hop
   split at h0
   ·rename_i s' kk jj hsi hx hi
    simp only [Option.some.injEq, Prod.mk.injEq] at h0
    obtain ⟨rfl, rfl, rfl, rfl, rfl, rfl, rfl, rfl⟩ := h0
    subst hj hs1
    obtain ⟨dd, g1, g2⟩ := hT.kind hsi
    obtain rfl := fits_str g2
    refine dop hT hsel k hh (fun A w ha => ?_) hk
    have h2 : (⟨xs.toArray⟩ : ByteArray)[j]? = some b := by
     obtain ⟨hlt, he⟩ := List.getElem?_eq_some_iff.1 hb'
     have hsz : j < (⟨xs.toArray⟩ : ByteArray).size := by simpa [ByteArray.size] using hlt
     rw [getElem?_pos _ j hsz]
     simpa [ByteArray.getElem_eq_getElem_data] using he
    simp only [execOp, hop, ha.ev hx, ha.ev hi]
    simp [Instr.index, asIntOf, run_underlying g1, h2]
   ·simp at h0
  ·simp at h0
 ·simp at h0
def dssAt (T : Tab) (ops : Array Oper) (n z k : Nat) (plan : List Nat) (L : Array Bool) (l : Sl) : Option (Nat × Oper × Nat × ByteArray × Int × List Nat × Array Bool × Sl) :=
 match dopAt T ops n z k plan L l with
 | some (d, o, r, L', l') => match o.op with
  | .slice t x none (some hi) none => match asc T.kinds t, ev l' x, ev l' hi with
   | some .str, some (.string s), some (.int _ j) => some (d, o, t, s, j, r, L', l')
   | _, _, _ => none
  | _ => none
 | _ => none
theorem dssl (hT : TabOK P T) (hsel : Region.noSelect ops = true) (k : Nat) {d t : Nat} {o : Oper} {i : Int} (xs : List UInt8) (H : Nat) {s : ByteArray} (h0 : dssAt T ops n z k plan listed l = some (d, o, t, s, i, plan', listed', l')) (hs1 : s = ⟨xs.toArray⟩) (hj : i = (H : Int)) (h2 : H <= xs.length)
  (hk : WA P w0 ops Q K0 A z plan' listed' n ((d, str (xs.take H)) :: l') K hs) : WA P w0 ops Q K0 A z plan listed n l K hs := by
 have hsz : (⟨xs.toArray⟩ : ByteArray).size = xs.length := by simp [ByteArray.size]
 have he := ext_str xs 0 H (Nat.zero_le _) h2
 unfold dssAt at h0
 split at h0
 ·rename_i d' o' r L' l2 hh
  split at h0
  ·rename_i t' x' i' hop
   split at h0
   ·rename_i s' kk jj hsi hx hi
    simp only [Option.some.injEq, Prod.mk.injEq] at h0
    obtain ⟨rfl, rfl, rfl, rfl, rfl, rfl, rfl, rfl⟩ := h0
    subst hj hs1
    obtain ⟨dd, g1, g2⟩ := hT.kind hsi
    obtain rfl := fits_str g2
    refine dop hT hsel k hh (fun A w ha => ?_) hk
    have h4 : ((H : Nat) : Int) <= ((xs.length : Nat) : Int) := by omega
    rw [show xs.take H = (xs.drop 0).take (H - 0) by simp, <- he]
    simp only [execOp, hop, ha.ev hx]
    simp [Instr.sliceAt, Instr.slice, Instr.sliceBounds, Instr.sliceBound, asIntOf, run_underlying g1, hsz, ha.ev hi, h2]
   ·simp at h0
  ·simp at h0
 ·simp at h0
end ext
def saidH (n c : Nat) : Nat := if n = 4 then c % 8 else if n = 3 then c % 16 else if n = 2 then c % 32 else c % 64
def saidS (r : Nat) : List UInt8 -> Nat
 | [] => r
 | c :: t => saidS (r * 64 + c.toNat % 64) t
def saidP (s : List UInt8) (n : Nat) : Nat := match s with
 | [] => 0
 | c :: t => if n = 1 then c.toNat else saidS (saidH n c.toNat) (t.take (n - 1))
theorem saidS_snoc : ∀ (t : List UInt8) (r : Nat) (c : UInt8), saidS r (t ++ [c]) = saidS r t * 64 + c.toNat % 64
 | [], r, c => rfl
 | a :: t, r, c => saidS_snoc t _ c
theorem saidS_lt : ∀ (t : List UInt8) (r : Nat), saidS r t < (r + 1) * 64 ^ t.length
 | [], r => by simp [saidS]
 | c :: t, r => by
  have := saidS_lt t (r * 64 + c.toNat % 64)
  have h2 : r * 64 + c.toNat % 64 + 1 <= (r + 1) * 64 := by omega
  have h3 : (r * 64 + c.toNat % 64 + 1) * 64 ^ t.length <= ((r + 1) * 64) * 64 ^ t.length := Nat.mul_le_mul_right _ h2
  rw [List.length_cons, Nat.pow_succ, Nat.mul_comm (64 ^ t.length) 64, <- Nat.mul_assoc]
  show saidS (r * 64 + c.toNat % 64) t < _
  omega
theorem said_wr {r : Nat} (h : scalarP r) (x : List UInt8) : saidP (wr r ++ x) (wr r).length = r := by
 obtain ⟨h1, _⟩ := h
 unfold wr
 split
 ·simp only [List.cons_append, List.nil_append, List.length_cons, List.length_nil, saidP]
  rw [if_pos trivial, by8_nat (by omega)]
 ·split
  ·simp only [List.cons_append, List.nil_append, List.length_cons, List.length_nil, saidP]
   rw [if_neg (by decide)]
   simp only [Nat.reduceAdd, Nat.reduceSub, List.take_succ_cons, List.take_zero, saidS, saidH]
   rw [by8_nat (by omega), by8_nat (by omega)]
   simp
   omega
  ·split
   ·simp only [List.cons_append, List.nil_append, List.length_cons, List.length_nil, saidP]
    rw [if_neg (by decide)]
    simp only [Nat.reduceAdd, Nat.reduceSub, List.take_succ_cons, List.take_zero, saidS, saidH]
    rw [by8_nat (by omega), by8_nat (by omega), by8_nat (by omega)]
    simp
    omega
   ·simp only [List.cons_append, List.nil_append, List.length_cons, List.length_nil, saidP]
    rw [if_neg (by decide)]
    simp only [Nat.reduceAdd, Nat.reduceSub, List.take_succ_cons, List.take_zero, saidS, saidH]
    rw [by8_nat (by omega), by8_nat (by omega), by8_nat (by omega), by8_nat (by omega)]
    simp
    omega
theorem firstP_zero {s : List UInt8} (h : (firstP s).2 = 0) : firstP s = (0, 0) := by
 cases s with
 | nil => rfl
 | cons c t =>
  rw [firstP_cons] at h ⊢
  split at h
  ·exact absurd h (by simp)
  ·rename_i h1
   rw [if_neg h1]
   split at h
   ·rename_i h2
    rw [if_pos h2]
   ·rename_i h2
    rw [if_neg h2]
    split at h
    ·rfl
    ·rename_i r h3
     split at h
     ·rename_i h4; rw [if_pos h4]
     ·exact absurd h (by have := headR_n c.toNat; omega)
def atF (s : List UInt8) (n : Nat) : Prop := scalarP (saidP s n) /\ wr (saidP s n) = s.take n
theorem atF_first {s : List UInt8} {n : Nat} (h : atF s n) (hn : n <= s.length) : firstP s = (saidP s n, n) := by
 have h1 := firstP_of h.1 (s.drop n)
 have hl : (wr (saidP s n)).length = n := by rw [h.2, List.length_take]; omega
 rw [h.2, List.take_append_drop] at h1
 rw [h1, List.length_take]
 congr 1
 omega
theorem atF_none {s : List UInt8} (h : ∀ n, 1 <= n -> n <= 4 -> n <= s.length -> ¬ atF s n) : firstP s = (0, 0) := by
 by_cases hz : (firstP s).2 = 0
 ·exact firstP_zero hz
 ·obtain ⟨h1, h2⟩ := firstP_wr hz
  have h3 := firstP_n s
  have hl : (wr (firstP s).1).length = (firstP s).2 := by rw [h2, List.length_take]; omega
  have h4 : saidP s (firstP s).2 = (firstP s).1 := by
   have := said_wr h1 (s.drop (firstP s).2)
   rw [hl, h2, List.take_append_drop] at this
   exact this
  exact absurd ⟨by rw [h4]; exact h1, by rw [h4]; exact h2⟩ (h _ (by omega) h3.1 h3.2)
end Go.En
end
section
namespace Go.En
theorem i64quoL (n m : Nat) (h : n < 9223372036854775808) : Value.int .i64 (IntKind.i64.wrap (((n : Nat) : Int).tdiv ((m : Nat) : Int))) = .int .i64 ((n / m : Nat) : Int) := by
 rw [<- Int.ofNat_tdiv]
 have := Nat.div_le_self n m
 generalize n / m = q at *
 exact i64w (by omega)
end Go.En
namespace Go.Proofs.YtejkjbkodcamoaaGreatDoor
open Go.En
attribute [local irreducible] Code.wp wpList Calls
theorem runeRC {w0 : World} {K : PH} {hs : List PH} (r : Nat) : Ct Tryz.prog w0 125 [.int .i64 ((r : Nat) : Int)] K hs (fun v K' hs' => K' = K /\ hs' = hs /\ ∃ t : Bool, v = .bool t /\ (t = true ↔ scalarP r)) := by
 refine enter Tryz.func125 (by kernel_rfl) rfl rfl rfl ?_
 refine sq (rg ?_)
 refine fin hT 1 rfl (th (sq (rg ?_)))
 refine cmpS hT 1 rfl fun b4 h4 => ?_
 refine' bja hT 1 3 8 [4, 5] h4 rfl rfl rfl rfl rfl rfl rfl (fun _ => ?x2) (fun b8 h8 => ?_)
 case x2 =>
  refine cmpS hT 1 rfl fun b7 h7 => ?_
  exact fin hT 1 rfl (bjx h7 rfl rfl rfl)
 refine' bja hT 1 7 16 [8, 9] h8 rfl rfl rfl rfl rfl rfl rfl (fun _ => ?x4) (fun b16 h16 => ?_)
 case x4 =>
  refine cmpS hT 1 rfl fun b11 h11 => ?_
  refine' bjo hT 1 3 15 [11, 12] h11 rfl rfl rfl rfl rfl rfl rfl (fun _ => ?x6) (fun b15 h15 => ?_)
  case x6 =>
   refine cmpS hT 1 rfl fun b14 h14 => ?_
   exact fin hT 1 rfl (bjx h14 rfl rfl rfl)
  exact fin hT 1 rfl (bjx h15 rfl rfl rfl)
 refine fin hT 1 rfl (th (rt ?_))
 exact ret1 rfl rfl ⟨rfl, rfl, b16, rfl, by rw [h16]; unfold scalarP; omega⟩
theorem writeRC {w0 : World} {K : PH} {hs : List PH} (r : Nat) (hr : r <= 1114111) : Ct Tryz.prog w0 126 [.int .i64 ((r : Nat) : Int)] K hs (fun v K' hs' => K' = K /\ hs' = hs /\ v = str (wr r)) := by
 refine enter Tryz.func126 (by kernel_rfl) rfl rfl rfl ?_
 refine sq (rg ?_)
 refine fin hT 1 rfl (th (sq (sq (rg ?_))))
 refine cmpS hT 1 rfl fun b6 h6 => ?_
 refine fin hT 0 rfl (th (ifP h6 rfl (fun e2 => ?_) (fun e2 => ?_)))
 ·refine sq (rg ?_)
  refine ar hT 1 rfl (u8w (by omega)) ?_
  refine lit hT 0 #[.int .u8 ((r : Nat) : Int)] rfl (by decide) (by kernel_rfl) fun b9 => ?_
  refine cvs hT 0 [by8 r] rfl (.inr ⟨0, rfl⟩) (isS_ptL (by rw [List.map_cons, List.map_nil, by8_nat (show r < 256 by omega)]) rfl) (by kernel_rfl) ?_
  refine fin hT 1 rfl (th (rt (rT ?_)))
  refine WQ.drop ?_
  exact ret1 rfl rfl ⟨rfl, rfl, by unfold wr; rw [if_pos (by omega)]⟩
 ·refine sk (th (sq (rg ?_)))
  refine ar hT 1 rfl (v' := .int .i64 ((r % 64 : Nat) : Int)) (u_rem .i64 r 64) ?_
  refine ar hT 0 rfl (v' := .int .i64 ((128 + r % 64 : Nat) : Int)) (i64w (by omega)) ?_
  refine ar hT 0 rfl (u8w (by omega)) ?_
  refine fin hT 1 rfl (th (sq (sq (rg ?_))))
  refine cmpS hT 1 rfl fun b16 h16 => ?_
  refine fin hT 0 rfl (th (ifP h16 rfl (fun e4 => ?_) (fun e4 => ?_)))
  ·refine sq (rg ?_)
   refine ar hT 1 rfl (v' := .int .i64 ((r / 64 : Nat) : Int)) (i64quoL r 64 (by omega)) ?_
   refine ar hT 0 rfl (v' := .int .i64 ((192 + r / 64 : Nat) : Int)) (i64w (by omega)) ?_
   refine ar hT 0 rfl (u8w (by omega)) ?_
   refine lit hT 1 #[.int .u8 ((192 + r / 64 : Nat) : Int), .int .u8 ((128 + r % 64 : Nat) : Int)] rfl (by decide) (by kernel_rfl) fun b22 => ?_
   refine cvs hT 0 [by8 (192 + r / 64), by8 (128 + r % 64)] rfl (.inr ⟨0, rfl⟩) (isS_ptL (by rw [List.map_cons, List.map_cons, List.map_nil, by8_nat (show 192 + r / 64 < 256 by omega), by8_nat (show 128 + r % 64 < 256 by omega)]) rfl) (by kernel_rfl) ?_
   refine fin hT 1 rfl (th (rt (rT ?_)))
   refine WQ.drop ?_
   exact ret1 rfl rfl ⟨rfl, rfl, by unfold wr; rw [if_neg (by omega), if_pos (by omega)]⟩
  ·refine sk (th (sq (rg ?_)))
   refine ar hT 1 rfl (v' := .int .i64 ((r / 64 : Nat) : Int)) (i64quoL r 64 (by omega)) ?_
   refine ar hT 0 rfl (v' := .int .i64 ((r / 64 % 64 : Nat) : Int)) (u_rem .i64 (r / 64) 64) ?_
   refine ar hT 0 rfl (v' := .int .i64 ((128 + r / 64 % 64 : Nat) : Int)) (i64w (by omega)) ?_
   refine ar hT 0 rfl (u8w (by omega)) ?_
   refine fin hT 1 rfl (th (sq (sq (rg ?_))))
   refine cmpS hT 1 rfl fun b30 h30 => ?_
   refine fin hT 0 rfl (th (ifP h30 rfl (fun e6 => ?_) (fun e6 => ?_)))
   ·refine sq (rg ?_)
    refine ar hT 1 rfl (v' := .int .i64 ((r / 4096 : Nat) : Int)) (i64quoL r 4096 (by omega)) ?_
    refine ar hT 0 rfl (v' := .int .i64 ((224 + r / 4096 : Nat) : Int)) (i64w (by omega)) ?_
    refine ar hT 0 rfl (u8w (by omega)) ?_
    refine lit hT 2 #[.int .u8 ((224 + r / 4096 : Nat) : Int), .int .u8 ((128 + r / 64 % 64 : Nat) : Int), .int .u8 ((128 + r % 64 : Nat) : Int)] rfl (by decide) (by kernel_rfl) fun b37 => ?_
    refine cvs hT 0 [by8 (224 + r / 4096), by8 (128 + r / 64 % 64), by8 (128 + r % 64)] rfl (.inr ⟨0, rfl⟩) (isS_ptL (by rw [List.map_cons, List.map_cons, List.map_cons, List.map_nil, by8_nat (show 224 + r / 4096 < 256 by omega), by8_nat (show 128 + r / 64 % 64 < 256 by omega), by8_nat (show 128 + r % 64 < 256 by omega)]) rfl) (by kernel_rfl) ?_
    refine fin hT 1 rfl (th (rt (rT ?_)))
    refine WQ.drop ?_
    exact ret1 rfl rfl ⟨rfl, rfl, by unfold wr; rw [if_neg (by omega), if_neg (by omega), if_pos (by omega)]⟩
   ·refine sk (th (sq (rg ?_)))
    refine ar hT 1 rfl (v' := .int .i64 ((r / 262144 : Nat) : Int)) (i64quoL r 262144 (by omega)) ?_
    refine ar hT 0 rfl (v' := .int .i64 ((240 + r / 262144 : Nat) : Int)) (i64w (by omega)) ?_
    refine ar hT 0 rfl (u8w (by omega)) ?_
    refine ar hT 1 rfl (v' := .int .i64 ((r / 4096 : Nat) : Int)) (i64quoL r 4096 (by omega)) ?_
    refine ar hT 0 rfl (v' := .int .i64 ((r / 4096 % 64 : Nat) : Int)) (u_rem .i64 (r / 4096) 64) ?_
    refine ar hT 0 rfl (v' := .int .i64 ((128 + r / 4096 % 64 : Nat) : Int)) (i64w (by omega)) ?_
    refine ar hT 0 rfl (u8w (by omega)) ?_
    refine lit hT 2 #[.int .u8 ((240 + r / 262144 : Nat) : Int), .int .u8 ((128 + r / 4096 % 64 : Nat) : Int), .int .u8 ((128 + r / 64 % 64 : Nat) : Int), .int .u8 ((128 + r % 64 : Nat) : Int)] rfl (by decide) (by kernel_rfl) fun b50 => ?_
    refine cvs hT 0 [by8 (240 + r / 262144), by8 (128 + r / 4096 % 64), by8 (128 + r / 64 % 64), by8 (128 + r % 64)] rfl (.inr ⟨0, rfl⟩) (isS_ptL (by rw [List.map_cons, List.map_cons, List.map_cons, List.map_cons, List.map_nil, by8_nat (show 240 + r / 262144 < 256 by omega), by8_nat (show 128 + r / 4096 % 64 < 256 by omega), by8_nat (show 128 + r / 64 % 64 < 256 by omega), by8_nat (show 128 + r % 64 < 256 by omega)]) rfl) (by kernel_rfl) ?_
    refine fin hT 1 rfl (th (rt ?_))
    refine WQ.drop ?_
    exact ret1 rfl rfl ⟨rfl, rfl, by unfold wr; rw [if_neg (by omega), if_neg (by omega), if_neg (by omega)]⟩
theorem saidRC {w0 : World} {K : PH} {hs : List PH} (s : List UInt8) (n : Nat) (h1 : 1 <= n) (h4 : n <= 4) (hn : n <= s.length) : Ct Tryz.prog w0 124 [str s, .int .i64 ((n : Nat) : Int)] K hs (fun v K' hs' => K' = K /\ hs' = hs /\ v = .int .i64 ((saidP s n : Nat) : Int)) := by
 obtain ⟨c, t, rfl⟩ : ∃ c t, s = c :: t := by cases s with
  | nil => simp at hn; omega
  | cons c t => exact ⟨c, t, rfl⟩
 rw [List.length_cons] at hn
 have hc := c.toNat_lt
 refine enter Tryz.func124 (by kernel_rfl) rfl rfl rfl ?_
 refine sq (rg ?_)
 refine fin hT 1 rfl (th (sq (sq (rg ?_))))
 refine cmpS hT 1 rfl fun b8 h8 => ?_
 refine fin hT 0 rfl (th (ifP h8 rfl (fun e2 => ?_) (fun e2 => ?_)))
 ·refine sq (rg ?_)
  refine six hT 1 (c :: t) 0 rfl rfl rfl rfl ?_
  refine ar hT 0 rfl (i64w (by omega)) ?_
  refine fin hT 1 rfl (th (rt (rT ?_)))
  exact ret1 rfl rfl ⟨rfl, rfl, by unfold saidP; dsimp only; rw [if_pos (by omega)]⟩
 ·refine sk (th (sq (rg ?_)))
  refine six hT 1 (c :: t) 0 rfl rfl rfl rfl ?_
  refine ar hT 0 rfl (i64w (by omega)) ?_
  refine ar hT 0 rfl (v' := .int .i64 ((c.toNat % 64 : Nat) : Int)) (u_rem .i64 c.toNat 64) ?_
  refine fin hT 1 rfl (th (jn (σ := Nat) (fun s => [(0, str (c :: t)), (1, .int .i64 ((n : Nat) : Int)), (5, .int .i64 ((s : Nat) : Int))]) (fun s => hs) (fun s => s = if n = 2 then c.toNat % 32 else c.toNat % 64) ?_ ?_))
  ·refine sq (rg ?_)
   refine cmpS hT 1 rfl fun b17 h17 => ?_
   refine fin hT 0 rfl (th (ifP h17 rfl (fun e4 => ?_) (fun e4 => ?_)))
   ·refine rg ?_
    refine six hT 1 (c :: t) 0 rfl rfl rfl rfl ?_
    refine ar hT 0 rfl (i64w (by omega)) ?_
    refine ar hT 0 rfl (v' := .int .i64 ((c.toNat % 32 : Nat) : Int)) (u_rem .i64 c.toNat 32) ?_
    refine fin hT 1 rfl ?_
    exact jx (c.toNat % 32) (by rw [if_pos (by omega)]) ⟨rfl, rfl, rfl, trivial⟩ rfl rfl
   ·refine sk ?_
    exact jx (c.toNat % 64) (by rw [if_neg (by omega)]) ⟨rfl, rfl, rfl, trivial⟩ rfl rfl
  ·rintro r1 hr1
   refine jn (σ := Nat) (fun s => [(0, str (c :: t)), (1, .int .i64 ((n : Nat) : Int)), (5, .int .i64 ((s : Nat) : Int))]) (fun s => hs) (fun s => s = if n = 3 then c.toNat % 16 else r1) ?_ ?_
   ·refine sq (rg ?_)
    refine cmpS hT 1 rfl fun b23 h23 => ?_
    refine fin hT 0 rfl (th (ifP h23 rfl (fun e6 => ?_) (fun e6 => ?_)))
    ·refine rg ?_
     refine six hT 1 (c :: t) 0 rfl rfl rfl rfl ?_
     refine ar hT 0 rfl (i64w (by omega)) ?_
     refine ar hT 0 rfl (v' := .int .i64 ((c.toNat % 16 : Nat) : Int)) (u_rem .i64 c.toNat 16) ?_
     refine fin hT 1 rfl ?_
     exact jx (c.toNat % 16) (by rw [if_pos (by omega)]) ⟨rfl, rfl, rfl, trivial⟩ rfl rfl
    ·refine sk ?_
     exact jx r1 (by rw [if_neg (by omega)]) ⟨rfl, rfl, rfl, trivial⟩ rfl rfl
   ·rintro r2 hr2
    refine jn (σ := Nat) (fun s => [(0, str (c :: t)), (1, .int .i64 ((n : Nat) : Int)), (5, .int .i64 ((s : Nat) : Int))]) (fun s => hs) (fun s => s = if n = 4 then c.toNat % 8 else r2) ?_ ?_
    ·refine sq (rg ?_)
     refine cmpS hT 1 rfl fun b29 h29 => ?_
     refine fin hT 0 rfl (th (ifP h29 rfl (fun e8 => ?_) (fun e8 => ?_)))
     ·refine rg ?_
      refine six hT 1 (c :: t) 0 rfl rfl rfl rfl ?_
      refine ar hT 0 rfl (i64w (by omega)) ?_
      refine ar hT 0 rfl (v' := .int .i64 ((c.toNat % 8 : Nat) : Int)) (u_rem .i64 c.toNat 8) ?_
      refine fin hT 1 rfl ?_
      exact jx (c.toNat % 8) (by rw [if_pos (by omega)]) ⟨rfl, rfl, rfl, trivial⟩ rfl rfl
     ·refine sk ?_
      exact jx r2 (by rw [if_neg (by omega)]) ⟨rfl, rfl, rfl, trivial⟩ rfl rfl
    ·rintro r3 hr3
     have hH : r3 = saidH n c.toNat := by unfold saidH; rw [hr3, hr2, hr1]
     have hH2 : r3 < 64 := by
      rw [hr3, hr2, hr1]
      repeat' split
      all_goals omega
     refine sq (sq (rg ?_))
     refine fin hT 1 rfl (th (bk ?_))
     refine loop (σ := Nat) (fun k => [(0, str (c :: t)), (1, .int .i64 ((n : Nat) : Int)), (5, .int .i64 ((saidS r3 (t.take k) : Nat) : Int)), (6, .int .i64 ((k + 1 : Nat) : Int))]) (fun _ => K) (fun _ => hs) (fun k => k + 1 <= n) (fun k => n - k) 0 (show 0 + 1 <= n by omega) ⟨rfl, rfl, rfl, rfl, trivial⟩ rfl rfl ?_
     rintro k hk
     have hlt := saidS_lt (t.take k) r3
     have hlt2 : saidS r3 (t.take k) < 16777216 := by
      have h5 : (t.take k).length <= 3 := by rw [List.length_take]; omega
      have h6 := Nat.pow_le_pow_right (n := 64) (by decide) h5
      have h7 := Nat.mul_le_mul (show r3 + 1 <= 64 by omega) h6
      omega
     refine sq (sq (rg ?_))
     refine cmpS hT 2 rfl fun b36 h36 => ?_
     refine fin hT 0 rfl (th (ifP h36 rfl (fun e10 => ?_) (fun e10 => ?_)))
     ·obtain ⟨d, hd⟩ : ∃ d, t[k]? = some d := ⟨_, List.getElem?_eq_getElem (by omega)⟩
      have hd2 := d.toNat_lt
      have hts : saidS r3 (t.take (k + 1)) = saidS r3 (t.take k) * 64 + d.toNat % 64 := by rw [List.take_add_one, hd, Option.toList_some, saidS_snoc]
      refine sk (th (sq (bk (rg ?_))))
      refine ar hT 1 rfl (v' := .int .i64 ((saidS r3 (t.take k) * 64 : Nat) : Int)) (i64w (by omega)) ?_
      refine six hT 2 (c :: t) (k + 1) rfl rfl rfl hd ?_
      refine ar hT 0 rfl (i64w (by omega)) ?_
      refine ar hT 0 rfl (v' := .int .i64 ((d.toNat % 64 : Nat) : Int)) (u_rem .i64 d.toNat 64) ?_
      refine ar hT 0 rfl (v' := .int .i64 ((saidS r3 (t.take (k + 1)) : Nat) : Int)) (by rw [hts, i64w (by omega)]; rfl) ?_
      refine fin hT 1 rfl (bl (th (rg ?_)))
      refine ar hT 1 rfl (v' := .int .i64 ((k + 1 + 1 : Nat) : Int)) (i64w (by omega)) ?_
      refine fin hT 1 rfl ?_
      exact again (x := k) (k + 1) ⟨rfl, rfl, rfl, rfl, trivial⟩ rfl rfl (by omega) (by (try dsimp only); omega)
     ·refine ex (xt (xt (xb (th (sq (rg ?_))))))
      refine fin hT 2 rfl (th (rt ?_))
      exact ret1 rfl rfl ⟨rfl, rfl, by unfold saidP; dsimp only; rw [if_neg (by omega), <- hH, show n - 1 = k by omega]⟩
end Go.Proofs.YtejkjbkodcamoaaGreatDoor
end
section
namespace Go.Proofs.YtejkjbkodcamoaaGreatDoor
open Go.En
attribute [local irreducible] Code.wp wpList Calls
theorem firstRC {w0 : World} {K : PH} {hs : List PH} (s : List UInt8) (hl : s.length < 1099511627776) : Ct Tryz.prog w0 108 [str s] K hs (fun v K' hs' => K' = K /\ hs' = hs /\ v = .tuple #[.int .i64 ((firstP s).1 : Nat), .int .i64 ((firstP s).2 : Nat)]) := by
 have hsz : (⟨s.toArray⟩ : ByteArray).size = s.length := by simp [ByteArray.size]
 refine enter Tryz.func108 (by kernel_rfl) rfl rfl rfl ?_
 refine sq (rg ?_)
 refine fin hT 2 rfl (th (sq (sq (rg ?_))))
 refine fin hT 1 rfl (th (bk ?_))
 refine loop (σ := Nat) (fun k => [(0, str s), (4, .int .i64 ((k + 1 : Nat) : Int))]) (fun _ => K) (fun _ => hs) (fun k => k <= 4 /\ ∀ n, 1 <= n -> n <= k -> n <= s.length -> ¬ atF s n) (fun k => 4 - k) 0 ⟨Nat.zero_le _, fun n h1 h2 => by omega⟩ ⟨rfl, rfl, trivial⟩ rfl rfl ?_
 rintro k ⟨hk, hno⟩
 refine sq (sq (rg ?_))
 refine cmpS hT 1 rfl fun b7 h7 => ?_
 refine' bja hT 1 5 13 [7, 8] h7 rfl rfl rfl rfl rfl rfl rfl (fun _ => ?x2) (fun b13 h13 => ?_)
 case x2 =>
  refine cmpS hT 3 rfl fun b12 h12 => ?_
  rw [hsz] at h12
  exact fin hT 1 rfl (bjx h12 rfl rfl rfl)
 refine fin hT 0 rfl (th (ifP h13 rfl (fun e4 => ?_) (fun e4 => ?_)))
 ·obtain ⟨q, hq⟩ : ∃ q, q = saidP s (k + 1) := ⟨_, rfl⟩
  refine sk (th (sq (bk (sq (rg ?_)))))
  refine cl hT 2 rfl (saidRC s (k + 1) (by omega) (by omega) (by omega)) ?_
  rintro v18 K18 hs18 ⟨rfl, rfl, rfl⟩
  rw [<- hq]
  refine fin hT 1 rfl (th (sq ?_))
  by_cases hsc : scalarP q
  ·refine rga [] 10 [0, 3, 4, 6, 10, 12, 14, 9, 16, 18] (by simp) (by kernel_rfl) (by kernel_rfl) ?_
   refine dact hT (by kernel_rfl) 1 rfl ?_
   refine cl hT 0 rfl (runeRC q) ?_
   rintro v20 K20 hs20 ⟨rfl, rfl, t20, rfl, h20⟩
   obtain rfl : t20 = true := h20.2 hsc
   refine dnex [] (by simp) (by simp) rfl ?_
   refine dssl hT (by kernel_rfl) 4 s (k + 1) rfl rfl rfl (by omega) ?_
   refine dact hT (by kernel_rfl) 0 rfl ?_
   refine cl hT 0 rfl (writeRC q hsc.1) ?_
   rintro v23 K23 hs23 ⟨rfl, rfl, rfl⟩
   refine dnex [] (by simp) (by simp) rfl ?_
   refine dcbS hT (by kernel_rfl) 0 (wr q = s.take (k + 1)) rfl (by simp) fun b27 h27 => ?_
   refine dend hT (by kernel_rfl) 1 rfl (th (ifP h27 rfl (fun h5 => ?_) (fun h5 => ?_)))
   ·have e := atF_first (s := s) (n := k + 1) ⟨by rw [<- hq]; exact hsc, by rw [<- hq]; exact h5⟩ (by omega)
    refine sq (rg ?_)
    refine fin hT 4 rfl (th (rt (rB (rT (rT (rB (rT ?_)))))))
    exact ret2 rfl rfl rfl ⟨rfl, rfl, by rw [e, <- hq]⟩
   ·refine sk (bl (th (rg ?_)))
    refine ar hT 1 rfl (v' := .int .i64 ((k + 1 + 1 : Nat) : Int)) (i64w (by omega)) ?_
    refine fin hT 1 rfl ?_
    refine again (x := k) (k + 1) ⟨rfl, rfl, trivial⟩ rfl rfl ⟨by omega, fun n h1 h2 h3 => ?_⟩ (by (try dsimp only); omega)
    by_cases hn : n = k + 1
    ·rw [hn]
     exact fun h => h5 (by rw [hq]; exact h.2)
    ·exact hno n h1 (by omega) h3
  ·refine rga [] 10 [0, 3, 4, 6, 8, 10, 12, 14, 16, 18] (by simp) (by kernel_rfl) (by kernel_rfl) ?_
   refine dact hT (by kernel_rfl) 1 rfl ?_
   refine cl hT 0 rfl (runeRC q) ?_
   rintro v20 K20 hs20 ⟨rfl, rfl, t20, rfl, h20⟩
   obtain rfl : t20 = false := by cases t20 <;> simp_all
   refine dnex [] (by simp) (by simp) rfl ?_
   refine dend hT (by kernel_rfl) 8 rfl (th (ifF rfl ?_))
   refine sk (bl (th (rg ?_)))
   refine ar hT 1 rfl (v' := .int .i64 ((k + 1 + 1 : Nat) : Int)) (i64w (by omega)) ?_
   refine fin hT 1 rfl ?_
   refine again (x := k) (k + 1) ⟨rfl, rfl, trivial⟩ rfl rfl ⟨by omega, fun n h1 h2 h3 => ?_⟩ (by (try dsimp only); omega)
   by_cases hn : n = k + 1
   ·rw [hn]
    exact fun h => hsc (by rw [hq]; exact h.1)
   ·exact hno n h1 (by omega) h3
 ·refine ex (xt (xt (xb (th (sq (rg ?_))))))
  have e : firstP s = (0, 0) := atF_none fun n h1 h2 h3 => hno n h1 (by omega) h3
  refine fin hT 2 rfl (th (rt ?_))
  exact ret2 rfl rfl rfl ⟨rfl, rfl, by rw [e]; rfl⟩
theorem runesRC {w0 : World} {K : PH} {hs : List PH} (s : List UInt8) (hl : s.length < 1099511627776) : Ct Tryz.prog w0 88 [str s] K hs
  (fun v K' hs' => K' = K /\ ∃ h ao c, hs' = h :: hs /\ v = .tuple #[.slice ao ((runesP s).getD []).length c, .bool (runesP s).isSome] /\ Own h ao ((runesP s).getD []).length c 21 1 (rvv ((runesP s).getD []))) := by
 refine enter Tryz.func88 (by kernel_rfl) rfl rfl rfl ?_
 refine sq (rg ?_)
 refine fin hT 2 rfl (th (sq (rg ?_)))
 refine fin hT 1 rfl (th (sq (bk (WC.em ?_))))
 refine loop (σ := List Nat × List UInt8 × PH × Option Addr × Nat) (fun x => [(0, str x.2.1), (4, .slice x.2.2.2.1 x.1.length x.2.2.2.2)]) (fun _ => K) (fun x => x.2.2.1 :: hs) (fun x => runesP s = (runesP x.2.1).map (x.1 ++ ·) /\ x.1.length + x.2.1.length <= s.length /\ Own x.2.2.1 x.2.2.2.1 x.1.length x.2.2.2.2 21 1 (rvv x.1)) (fun x => x.2.1.length) ([], s, em, none, 0) ⟨by cases runesP s <;> simp, by simp, Own.nil _ _⟩ ⟨rfl, rfl, trivial⟩ rfl rfl ?_
 rintro ⟨l, s', g, ao, c⟩ ⟨hr, hlen, o⟩
 dsimp only at hr hlen o ⊢
 have hsz : (⟨s'.toArray⟩ : ByteArray).size = s'.length := by simp [ByteArray.size]
 refine sq (sq (rg ?_))
 refine cmpS hT 2 rfl fun b9 h9 => ?_
 rw [hsz] at h9
 refine fin hT 0 rfl (th (ifP h9 rfl (fun e2 => ?_) (fun e2 => ?_)))
 ·have hne : s' ≠ [] := by rintro rfl; simp at e2
  have hst := runesP_step hne
  have hn := firstP_n s'
  refine sk (th (bk (sq (rg ?_))))
  refine cl hT 1 rfl (firstRC s' (by omega)) ?_
  rintro v12 K12 hs12 ⟨rfl, rfl, rfl⟩
  refine fin hT 5 rfl (th (sq (sq (rg ?_))))
  refine cmpS hT 1 rfl fun b16 h16 => ?_
  refine fin hT 0 rfl (th (ifP h16 rfl (fun e4 => ?_) (fun e4 => ?_)))
  ·refine sq (rg ?_)
   refine fin hT 2 rfl (th (rt (rT (rB (rT (rB (rT ?_)))))))
   refine WQ.drop (WQ.em ?_)
   exact ret2 rfl rfl rfl ⟨rfl, em, none, 0, rfl, by rw [hr, hst, if_pos (by omega)]; rfl, by rw [hr, hst, if_pos (by omega)]; exact Own.nil _ _⟩
  ·have hsc := (firstP_wr (s := s') (by omega)).1.1
   refine sk (th (sq (rg ?_)))
   refine ar hT 2 rfl (i32w (by omega)) ?_
   refine lit hT 0 #[.int .i32 ((firstP s').1 : Nat)] rfl (by decide) (by kernel_rfl) fun b20 => ?_
   refine appR hT 0 1 l (firstP s').1 rfl rfl rfl o (.inr ⟨0, rfl⟩) (isS_ptL rfl rfl) (by omega) fun ao20 c20 g20 o20 => ?_
   refine fin hT 1 rfl (th (WC.drop (rg ?_)))
   refine ssl hT 2 s' (firstP s').2 s'.length rfl rfl rfl rfl (by omega) (Nat.le_refl _) ?_
   have eq : (s'.drop (firstP s').2).take (s'.length - (firstP s').2) = s'.drop (firstP s').2 := List.take_of_length_le (by simp)
   rw [eq]
   refine fin hT 1 rfl (bl ?_)
   exact again (x := (l, s', g, ao, c)) (l ++ [(firstP s').1], s'.drop (firstP s').2, g20, ao20, c20) ⟨rfl, by simp; rfl, trivial⟩ rfl rfl ⟨by dsimp only; rw [hr, hst, if_neg (by omega)]; cases runesP (s'.drop (firstP s').2) <;> simp, by simp only [List.length_append, List.length_cons, List.length_nil, List.length_drop]; omega, by simpa using o20⟩ (by simp only [List.length_drop]; omega)
 ·obtain rfl : s' = [] := List.length_eq_zero_iff.1 (by omega)
  refine ex (xt (xt (xb (th (sq (rg ?_))))))
  refine fin hT 3 rfl (th (rt ?_))
  exact ret2 rfl rfl rfl ⟨rfl, g, ao, c, rfl, by rw [hr, runesP_nil]; simp, by rw [hr, runesP_nil]; simpa using o⟩
theorem wordRC {w0 : World} {K : PH} {hs : List PH} (s : List UInt8) (hl : s.length < 1099511627776) : Ct Tryz.prog w0 54 [str s] K hs (fun v K' hs' => K' = K /\ hs' = hs /\ ∃ t : Bool, v = .bool t /\ (t = true ↔ wordP s)) := by
 have hsz : (⟨s.toArray⟩ : ByteArray).size = s.length := by simp [ByteArray.size]
 refine enter Tryz.func54 (by kernel_rfl) rfl rfl rfl ?_
 refine sq (rg ?_)
 refine fin hT 1 rfl (th (sq (sq (rg ?_))))
 refine cmpS hT 2 rfl fun b8 h8 => ?_
 rw [hsz] at h8
 refine fin hT 0 rfl (th (ifP h8 rfl (fun e2 => ?_) (fun e2 => ?_)))
 ·refine sq (rg ?_)
  refine fin hT 1 rfl (th (rt (rT ?_)))
  exact ret1 rfl rfl ⟨rfl, rfl, false, rfl, by unfold wordP; simp; intro h; omega⟩
 ·refine sk (th (sq (rg ?_)))
  refine cl hT 1 rfl (runesRC s hl) ?_
  rintro v11 K11 hs11 ⟨rfl, g, ao, c, rfl, rfl, o⟩
  have hrl : (rl s).length <= s.length := by
   unfold rl
   cases h : runesP s with
   | none => simp
   | some l => exact (runesP_text h).2.2
  obtain ⟨ok, hok⟩ : ∃ ok, ok = (runesP s).isSome := ⟨_, rfl⟩
  have hb : ok = true ↔ (runesP s).isSome = true := by rw [hok]
  rw [<- hok]
  change Own g ao (rl s).length c 21 1 (rvv (rl s)) at o
  change WL _ _ _ _ _ _ ((11, .tuple #[.slice ao (rl s).length c, .bool ok]) :: _) _ _
  refine fin hT 5 rfl (th (sq (sq (rg ?_))))
  refine fin hT 1 rfl (th (bk ?_))
  refine loop (σ := Nat) (fun i => [(3, .slice ao (rl s).length c), (4, .bool ok), (5, .int .i64 ((i : Nat) : Int))]) (fun _ => K11) (fun _ => g :: hs) (fun i => i <= (rl s).length /\ ∀ r ∈ (rl s).take i, 32 < r /\ r ≠ 127) (fun i => (rl s).length - i) 0 ⟨Nat.zero_le _, by simp⟩ ⟨rfl, rfl, rfl, trivial⟩ rfl rfl ?_
  rintro i ⟨hi, hall⟩
  refine sq (sq (rg ?_))
  refine cmpS hT 3 rfl fun b17 h17 => ?_
  refine fin hT 0 rfl (th (ifP h17 rfl (fun e4 => ?_) (fun e4 => ?_)))
  ·have hil : i < (rl s).length := by omega
   have hget : (rvv (rl s))[i]? = some (.int .i32 (((rl s)[i] : Nat) : Int)) := by simp [rvv, List.getElem?_eq_getElem hil, hil]
   have hts : (rl s).take (i + 1) = (rl s).take i ++ [(rl s)[i]] := by rw [List.take_add_one, List.getElem?_eq_getElem hil]; rfl
   refine sk (th (sq (bk (sq (rg ?_)))))
   refine ix1 hT 2 i rfl rfl rfl o.isS hget fun a22 hc22 => ?_
   refine ld hT 0 rfl (.inr ⟨0, rfl⟩) hc22 ?_
   refine cmpS hT 0 rfl fun b24 h24 => ?_
   refine' bjo hT 1 6 31 [24, 25] h24 rfl rfl rfl rfl rfl rfl rfl (fun _ => ?x6) (fun b31 h31 => ?_)
   case x6 =>
    refine ix1 hT 2 i rfl rfl rfl o.isS hget fun a28 hc28 => ?_
    refine ld hT 0 rfl (.inr ⟨0, rfl⟩) hc28 ?_
    refine cmpS hT 0 rfl fun b30 h30 => ?_
    exact fin hT 1 rfl (bjx h30 rfl rfl rfl)
   refine fin hT 0 rfl (th (ifP h31 rfl (fun e8 => ?_) (fun e8 => ?_)))
   ·refine sq (rg ?_)
    refine fin hT 1 rfl (th (rt (rB (rT (rT (rB (rT ?_)))))))
    refine WQ.drop ?_
    refine ret1 rfl rfl ⟨rfl, rfl, false, rfl, ⟨fun h => Bool.noConfusion h, fun h => ?_⟩⟩
    have := h.2.2.1 _ (List.getElem_mem hil)
    omega
   ·refine sk (bl (th (rg ?_)))
    refine ar hT 1 rfl (v' := .int .i64 ((i + 1 : Nat) : Int)) (i64w (by omega)) ?_
    refine fin hT 1 rfl ?_
    refine again (x := i) (i + 1) ⟨rfl, rfl, rfl, trivial⟩ rfl rfl ⟨by omega, fun r hr => ?_⟩ (by (try dsimp only); omega)
    rw [hts] at hr
    rcases List.mem_append.1 hr with h | h
    ·exact hall r h
    ·simp at h
     subst h
     omega
  ·obtain rfl : i = (rl s).length := by omega
   rw [List.take_length] at hall
   refine ex (xt (xt (xb (th (sq (rg ?_))))))
   refine' bja hT 2 4 37 [4, 32, 33] hb rfl rfl rfl rfl rfl rfl rfl (fun _ => ?y3) (fun b37 h37 => ?_)
   case y3 =>
    refine cmpS hT 2 rfl fun b36 h36 => ?_
    exact fin hT 1 rfl (bjx h36 rfl rfl rfl)
   refine' bja hT 1 4 42 [37, 38] h37 rfl rfl rfl rfl rfl rfl rfl (fun _ => ?y4) (fun b42 h42 => ?_)
   case y4 =>
    refine cmpS hT 2 rfl fun b41 h41 => ?_
    exact fin hT 1 rfl (bjx h41 rfl rfl rfl)
   refine fin hT 1 rfl (th (rt ?_))
   refine WQ.drop ?_
   exact ret1 rfl rfl ⟨rfl, rfl, b42, rfl, by rw [h42]; unfold wordP; exact ⟨fun h => ⟨by omega, h.1.1, hall, by omega, by omega⟩, fun h => ⟨⟨h.2.1, by have := h.2.2.2; omega⟩, by have := h.2.2.2; omega⟩⟩⟩
theorem aheadRC {w0 : World} {K : PH} {hs : List PH} (a b : List UInt8) (ha : a.length < 1099511627776) (hb : b.length < 1099511627776) : Ct Tryz.prog w0 89 [str a, str b] K hs (fun v K' hs' => K' = K /\ hs' = hs /\ v = .bool (Op.bytesLess a b)) := by
 have hsa : (⟨a.toArray⟩ : ByteArray).size = a.length := by simp [ByteArray.size]
 have hsb : (⟨b.toArray⟩ : ByteArray).size = b.length := by simp [ByteArray.size]
 refine enter Tryz.func89 (by kernel_rfl) rfl rfl rfl ?_
 refine sq (rg ?_)
 refine fin hT 1 rfl (th (sq (sq (rg ?_))))
 refine fin hT 1 rfl (th (bk ?_))
 refine loop (σ := Nat) (fun i => [(0, str a), (1, str b), (5, .int .i64 ((i : Nat) : Int))]) (fun _ => K) (fun _ => hs) (fun i => i <= a.length /\ i <= b.length /\ Op.bytesLess a b = Op.bytesLess (a.drop i) (b.drop i)) (fun i => a.length - i) 0 ⟨Nat.zero_le _, Nat.zero_le _, rfl⟩ ⟨rfl, rfl, rfl, trivial⟩ rfl rfl ?_
 rintro i ⟨hia, hib, he⟩
 refine sq (sq (rg ?_))
 refine cmpS hT 3 rfl fun b9 h9 => ?_
 rw [hsa] at h9
 refine' bja hT 1 5 15 [9, 10] h9 rfl rfl rfl rfl rfl rfl rfl (fun _ => ?x2) (fun b15 h15 => ?_)
 case x2 =>
  refine cmpS hT 3 rfl fun b14 h14 => ?_
  rw [hsb] at h14
  exact fin hT 1 rfl (bjx h14 rfl rfl rfl)
 refine fin hT 0 rfl (th (ifP h15 rfl (fun e4 => ?_) (fun e4 => ?_)))
 ·obtain ⟨x, hx⟩ : ∃ x, a[i]? = some x := ⟨_, List.getElem?_eq_getElem (by omega)⟩
  obtain ⟨y, hy⟩ : ∃ y, b[i]? = some y := ⟨_, List.getElem?_eq_getElem (by omega)⟩
  obtain ⟨q1, q2⟩ := List.getElem?_eq_some_iff.1 hx
  obtain ⟨q3, q4⟩ := List.getElem?_eq_some_iff.1 hy
  rw [List.drop_eq_getElem_cons q1, List.drop_eq_getElem_cons q3, q2, q4, bl_cons] at he
  refine sk (th (sq (bk (sq (rga [] 7 [0, 2, 4, 6, 8, 10, 12] (by simp) (by kernel_rfl) (by kernel_rfl) ?_)))))
  refine dsix hT (by kernel_rfl) 2 a i rfl rfl rfl hx ?_
  refine dsix hT (by kernel_rfl) 2 b i rfl rfl rfl hy ?_
  refine dcbS hT (by kernel_rfl) 0 (x ≠ y) rfl (by simp [<- UInt8.toNat_inj]; omega) fun b24 h24 => ?_
  refine dend hT (by kernel_rfl) 0 rfl (th (ifP h24 rfl (fun e5 => ?_) (fun e5 => ?_)))
  ·refine sq (rga [] 8 [0, 2, 4, 6, 8, 10, 12, 14] (by simp) (by kernel_rfl) (by kernel_rfl) ?_)
   refine dsix hT (by kernel_rfl) 2 a i rfl rfl rfl hx ?_
   refine dsix hT (by kernel_rfl) 2 b i rfl rfl rfl hy ?_
   refine dcbS hT (by kernel_rfl) 0 (x < y) rfl (by simp [UInt8.lt_iff_toNat_lt]) fun b31 h31 => ?_
   refine dend hT (by kernel_rfl) 1 rfl (th (rt (rB (rT (rT (rB (rT ?_)))))))
   refine ret1 rfl rfl ⟨rfl, rfl, ?_⟩
   have e : b31 = decide (x < y) := by rw [Bool.eq_iff_iff, h31, decide_eq_true_iff]
   rw [he, e]
   simp [e5]
  ·obtain rfl : x = y := Classical.not_not.1 e5
   refine sk (bl (th (rg ?_)))
   refine ar hT 1 rfl (v' := .int .i64 ((i + 1 : Nat) : Int)) (i64w (by omega)) ?_
   refine fin hT 1 rfl ?_
   refine again (x := i) (i + 1) ⟨rfl, rfl, rfl, trivial⟩ rfl rfl ⟨by omega, by omega, ?_⟩ (by (try dsimp only); omega)
   rw [he]
   simp [UInt8.lt_irrefl]
 ·refine ex (xt (xt (xb (th (sq (rg ?_))))))
  refine cmpS hT 4 rfl fun b36 h36 => ?_
  rw [hsa, hsb] at h36
  refine fin hT 1 rfl (th (rt ?_))
  refine ret1 rfl rfl ⟨rfl, rfl, ?_⟩
  congr 1
  rw [he, Bool.eq_iff_iff, h36]
  by_cases h : i = a.length
  ·rw [h, List.drop_length]
   cases hd : b.drop a.length with
   | nil =>
    have := congrArg List.length hd
    rw [List.length_drop] at this
    simp at this
    simp [bl_irr]
    omega
   | cons y t =>
    have := congrArg List.length hd
    rw [List.length_drop] at this
    simp at this
    simp [Op.bytesLess]
    omega
  ·have hi2 : i = b.length := by omega
   rw [hi2, List.drop_length]
   cases hd : a.drop b.length with
   | nil =>
    have := congrArg List.length hd
    rw [List.length_drop] at this
    simp at this
    omega
   | cons y t =>
    have := congrArg List.length hd
    rw [List.length_drop] at this
    simp at this
    simp [Op.bytesLess]
    omega
end Go.Proofs.YtejkjbkodcamoaaGreatDoor
end
section
namespace Go.En
def putS (p : PairP) (l : List PairP) (done : Bool) : List PairP := if done = true then insP l p else l
structure PutI (p : PairP) (l : List PairP) (i : Nat) (done : Bool) : Prop where
 no : done = false -> ∀ x ∈ l.take i, ltP x p = true
 yes : done = true -> ∃ x ∈ l.take i, ltP x p = false
theorem ins_snoc (p : PairP) (l : List PairP) (y : PairP) (h : ltP y p = false) : insP (l ++ [y]) p = if y.word = p.word then insP l p else insP l p ++ [y] := by
 unfold insP
 rw [List.filter_append, List.filter_append]
 by_cases e : y.word = p.word
 ·have h2 : ltP p y = false := by unfold ltP; rw [e, bl_irr]
  simp [h, h2, e]
 ·have h2 : ltP p y = true := (ltP_or e).resolve_left (by simp [h])
  simp [h, h2, e]
theorem ins_none {p : PairP} {l : List PairP} (h : ∀ x ∈ l, ltP x p = true) : insP l p = l ++ [p] := by
 unfold insP
 rw [List.filter_eq_self.2 h, List.filter_eq_nil_iff.2]
 intro x hx g
 have := wkoP.tr _ _ _ (h x hx) g
 rw [wkoP.irr] at this
 exact Bool.noConfusion this
theorem PutI.first {p : PairP} {l : List PairP} {i : Nat} {y : PairP} (h : PutI p l i false) (hy : l[i]? = some y) (hn : ltP y p = false) : PutI p l (i + 1) true /\ insP (l.take (i + 1)) p = if y.word = p.word then l.take i ++ [p] else l.take i ++ [p] ++ [y] := by
 have ht : l.take (i + 1) = l.take i ++ [y] := by rw [List.take_add_one, hy]; rfl
 refine ⟨⟨fun g => Bool.noConfusion g, fun _ => ⟨y, by rw [ht]; simp, hn⟩⟩, ?_⟩
 rw [ht, ins_snoc p _ y hn, ins_none (h.no rfl)]
theorem PutI.go {p : PairP} {l : List PairP} {i : Nat} {y : PairP} (h : PutI p l i false) (hy : l[i]? = some y) (hn : ltP y p = true) : PutI p l (i + 1) false /\ l.take (i + 1) = l.take i ++ [y] /\ y.word ≠ p.word := by
 have ht : l.take (i + 1) = l.take i ++ [y] := by rw [List.take_add_one, hy]; rfl
 refine ⟨⟨fun _ x hx => ?_, fun g => Bool.noConfusion g⟩, ht, ltP_ne hn⟩
 rw [ht] at hx
 rcases List.mem_append.1 hx with g | g
 ·exact h.no rfl x g
 ·simp at g; rw [g]; exact hn
theorem PutI.on {p : PairP} {l : List PairP} {i : Nat} {y : PairP} (hr : Rise l) (h : PutI p l i true) (hy : l[i]? = some y) : PutI p l (i + 1) true /\ insP (l.take (i + 1)) p = if y.word = p.word then insP (l.take i) p else insP (l.take i) p ++ [y] := by
 have ht : l.take (i + 1) = l.take i ++ [y] := by rw [List.take_add_one, hy]; rfl
 obtain ⟨x, hx, hxp⟩ := h.yes rfl
 have hxy : ltP x y = true := by
  obtain ⟨j, hj, rfl⟩ := List.mem_take_iff_getElem.1 hx
  obtain ⟨q1, q2⟩ := List.getElem?_eq_some_iff.1 hy
  have := List.pairwise_iff_getElem.1 hr j i (by omega) q1 (by omega)
  rwa [q2] at this
 have hyp : ltP y p = false := by
  cases g : ltP y p with
  | false => rfl
  | true => have := wkoP.tr _ _ _ hxy g; rw [hxp] at this; exact Bool.noConfusion this
 refine ⟨⟨fun g => Bool.noConfusion g, fun _ => ⟨x, by rw [ht]; simp [hx], hxp⟩⟩, ?_⟩
 rw [ht, ins_snoc p _ y hyp]
end Go.En
namespace Go.Proofs.YtejkjbkodcamoaaGreatDoor
open Go.En
attribute [local irreducible] Code.wp wpList Calls
theorem putRC {w0 : World} {K : PH} {hs : List PH} (ao : Option Addr) (cp : Nat) (l : List PairP) (p : PairP) (x : SlS 2 pairR K ao l.length cp l) (hr : Rise l) (hl : l.length <= 1000000) (hw : ∀ q ∈ l, q.word.length < 1099511627776) (hp : p.word.length < 1099511627776) :
  Ct Tryz.prog w0 56 [.slice ao l.length cp, .agg (pairV p).toArray] K hs
   (fun v K' hs' => K' = K /\ ∃ ao c g, v = .slice ao (insP l p).length c /\ hs' = g :: hs /\ SlZ 2 100 pairR g ao (insP l p).length c (insP l p)) := by
 refine enter Tryz.func56 (by kernel_rfl) rfl rfl rfl ?_
 refine sq (rg ?_)
 refine bx hT 0 rfl fun b3 => ?_
 refine WL.hs (pt b3 (pairV p).toArray 100 :: hs) rfl ?_
 refine fin hT 1 rfl (th (sq (rg ?_)))
 refine fin hT 1 rfl (th (sq (rg ?_)))
 refine fin hT 1 rfl (th (sq (sq (rg ?_))))
 refine WL.em ?_
 refine fin hT 1 rfl (th (bk ?_))
 refine loop (σ := Nat × Bool × Option Addr × Nat × PH) (fun s => [(0, .slice ao l.length cp), (3, .pointer (some ⟨b3, 0, none⟩)), (5, .slice s.2.2.1 (putS p (l.take s.1) s.2.1).length s.2.2.2.1), (6, .bool s.2.1), (7, .int .i64 ((s.1 : Nat) : Int))]) (fun _ => K) (fun s => s.2.2.2.2 :: pt b3 (pairV p).toArray 100 :: hs)
  (fun s => s.1 <= l.length /\ PutI p l s.1 s.2.1 /\ SlZ 2 100 pairR s.2.2.2.2 s.2.2.1 (putS p (l.take s.1) s.2.1).length s.2.2.2.1 (putS p (l.take s.1) s.2.1)) (fun s => l.length - s.1) (0, false, none, 0, Go.En.em)
  ⟨Nat.zero_le _, ⟨fun _ x hx => by simp at hx, fun g => Bool.noConfusion g⟩, SlZ.nil _ _⟩ ⟨rfl, rfl, rfl, rfl, rfl, trivial⟩ rfl rfl ?_
 rintro ⟨i, done, a5, c5, g5⟩ ⟨hi, hI, o⟩
 dsimp only at *
 refine sq (sq (rg ?_))
 refine cmpS hT 3 rfl fun b11 h11 => ?_
 refine fin hT 0 rfl (th (ifP h11 rfl (fun e2 => ?_) (fun e2 => ?_)))
 ·obtain ⟨ad, rfl⟩ := x.addr (by omega) (by decide)
  obtain ⟨y, hy⟩ : ∃ y, l[i]? = some y := ⟨_, List.getElem?_eq_getElem (by omega)⟩
  have hyw := hw y (List.mem_of_getElem? hy)
  obtain ⟨cy, hcy, hcyl, hcyc⟩ := x.cells hy
  obtain rfl := hcy
  obtain ⟨vs, xv⟩ := x.isS
  have hlen : ∀ d, (putS p (l.take i) d).length <= i + 1 := fun d => by
   unfold putS
   split
   ·have h1 := ins_len p (l.take i)
    have h2 : (rmvP (l.take i) p.word).length <= (l.take i).length := List.length_filter_le _ _
    rw [List.length_take] at h2
    omega
   ·rw [List.length_take]; omega
  have hpl := hlen done
  refine sk (th (sq (bk (jn (σ := Bool × List PairP × Option Addr × Nat × PH) (fun s => [(0, .slice (some ad) l.length cp), (3, .pointer (some ⟨b3, 0, none⟩)), (5, .slice s.2.2.1 s.2.1.length s.2.2.2.1), (6, .bool s.1), (7, .int .i64 ((i : Nat) : Int))]) (fun s => s.2.2.2.2 :: pt b3 (pairV p).toArray 100 :: hs)
   (fun s => s.2.1.length <= i + 2 /\ SlZ 2 100 pairR s.2.2.2.2 s.2.2.1 s.2.1.length s.2.2.2.1 s.2.1 /\ PutI p l (i + 1) s.1 /\ putS p (l.take (i + 1)) s.1 = if y.word = p.word then s.2.1 else s.2.1 ++ [y]) ?_ ?_))))
  ·cases done with
   | true =>
    obtain ⟨h1, h2⟩ := hI.on hr hy
    refine sq (rga [pt b3 (pairV p).toArray 100] 13 [0, 2, 4, 6, 8, 10, 12, 14, 16, 18, 20, 22, 24] (by simp) (by kernel_rfl) (by kernel_rfl) ?_)
    refine dend hT (by kernel_rfl) 13 rfl (th (ifF rfl ?_))
    refine sk ?_
    refine jx (true, putS p (l.take i) true, a5, c5, g5) ⟨by dsimp only; omega, o, h1, ?_⟩ ⟨rfl, rfl, rfl, rfl, rfl, trivial⟩ rfl rfl
    dsimp only
    simp only [putS, if_true] at h2 ⊢
    exact h2
   | false =>
    refine sq (rga [pt b3 (pairV p).toArray 100] 13 [0, 2, 4, 6, 8, 10, 12, 14, 16, 18, 21, 22, 24] (by simp) (by kernel_rfl) (by kernel_rfl) ?_)
    refine dixs hT (by kernel_rfl) 5 i rfl rfl (by omega) ?_
    refine dld hT (by kernel_rfl) 1 rfl (.inl rfl) (hcyc 0 _ rfl) ?_
    refine dldp hT (by kernel_rfl) 1 0 rfl rfl rfl ?_
    refine dact hT (by kernel_rfl) 0 rfl ?_
    refine cl hT 0 rfl (aheadRC y.word p.word hyw hp) ?_
    rintro v24 K24 hs24 ⟨rfl, rfl, rfl⟩
    refine dnex [pt b3 (pairV p).toArray 100] (by simp) (by simp) rfl ?_
    obtain ⟨lt, hlt⟩ : ∃ lt, lt = ltP y p := ⟨_, rfl⟩
    change WA _ _ _ _ _ _ _ _ _ _ ((24, .bool (ltP y p)) :: _) _ _
    rw [<- hlt]
    refine dend hT (by kernel_rfl) 2 rfl (th (ifB rfl (fun h3 => ?_) (fun h3 => ?_)))
    ·have hf : ltP y p = false := by rw [<- hlt]; simpa using h3
     obtain ⟨h1, h2⟩ := hI.first hy hf
     refine sq (rg ?_)
     refine ldS hT 1 1 rfl rfl (by kernel_rfl) ?_
     refine lit hT 0 (pairV p).toArray rfl (by decide) (by kernel_rfl) fun b29 => ?_
     refine appSq hT 0 1 (pairV p) p rfl rfl rfl o rfl rfl (pairR_one _ p rfl) rfl (by decide) (by show (_ + 1) * 24 <= _; omega) (by simp only [maxLen]; omega) fun ao30 c30 g30 o30 => ?_
     refine WL.drop ?_
     refine fin hT 1 rfl (th (rg ?_))
     refine fin hT 1 rfl ?_
     refine jx (true, l.take i ++ [p], ao30, c30, g30) ⟨?_, ?_, h1, ?_⟩ ⟨rfl, rfl, ?_, rfl, rfl, trivial⟩ rfl rfl
     ·dsimp only; rw [List.length_append, List.length_take]; simp; omega
     ·dsimp only; rw [List.length_append]; exact o30
     ·dsimp only; rw [putS, if_pos rfl]; exact h2
     ·dsimp only; rw [List.length_append]; rfl
    ·have hf : ltP y p = true := by rw [<- hlt]; simpa using h3
     obtain ⟨h1, h2, h4⟩ := hI.go hy hf
     refine sk ?_
     refine jx (false, l.take i, a5, c5, g5) ⟨?_, o, h1, ?_⟩ ⟨rfl, rfl, rfl, rfl, rfl, trivial⟩ rfl rfl
     ·dsimp only; rw [List.length_take]; omega
     ·dsimp only; rw [putS, if_neg (by simp), if_neg h4]; exact h2
  ·rintro ⟨d2, out, a2, c2, g2⟩ ⟨hol, o2, hI2, hout⟩
   dsimp only at *
   refine sq (rga [pt b3 (pairV p).toArray 100] 8 [0, 2, 4, 6, 8, 10, 12, 14] (by simp) (by kernel_rfl) (by kernel_rfl) ?_)
   refine dixs hT (by kernel_rfl) 2 i rfl rfl (by omega) ?_
   refine dld hT (by kernel_rfl) 1 rfl (.inl rfl) (hcyc 0 _ rfl) ?_
   refine dldp hT (by kernel_rfl) 1 0 rfl rfl rfl ?_
   refine dcbS hT (by kernel_rfl) 0 (y.word ≠ p.word) rfl (by simp) fun b38 h38 => ?_
   refine dend hT (by kernel_rfl) 0 rfl (th (ifP h38 rfl (fun e4 => ?_) (fun e4 => ?_)))
   ·rw [if_neg e4] at hout
    refine rg ?_
    refine ixs hT 3 i rfl rfl xv (by omega) (by decide) fun a42 e42 => ?_
    cases e42
    refine lds hT 0 (pairV y) rfl (by kernel_rfl) (.inl rfl) hcyc ?_
    refine lit hT 0 (pairV y).toArray rfl (by decide) (by kernel_rfl) fun b44 => ?_
    refine appSq hT 0 1 (pairV y) y rfl rfl rfl o2 rfl rfl (pairR_one _ y rfl) rfl (by decide) (by show (_ + 1) * 24 <= _; omega) (by simp only [maxLen]; omega) fun ao45 c45 g45 o45 => ?_
    refine WL.drop ?_
    refine fin hT 1 rfl (bl (th (rg ?_)))
    refine ar hT 1 rfl (v' := .int .i64 ((i + 1 : Nat) : Int)) (i64w (by omega)) ?_
    refine fin hT 1 rfl ?_
    refine again (x := (i, done, a5, c5, g5)) (i + 1, d2, ao45, c45, g45) ⟨rfl, rfl, ?_, rfl, rfl, trivial⟩ rfl rfl ⟨by dsimp only; omega, hI2, ?_⟩ (by (try dsimp only); omega)
    ·dsimp only; rw [hout, List.length_append]; rfl
    ·dsimp only; rw [hout, List.length_append]; exact o45
   ·rw [if_pos (Classical.not_not.1 e4)] at hout
    refine sk (bl (th (rg ?_)))
    refine ar hT 1 rfl (v' := .int .i64 ((i + 1 : Nat) : Int)) (i64w (by omega)) ?_
    refine fin hT 1 rfl ?_
    refine again (x := (i, done, a5, c5, g5)) (i + 1, d2, a2, c2, g2) ⟨rfl, rfl, ?_, rfl, rfl, trivial⟩ rfl rfl ⟨by dsimp only; omega, hI2, ?_⟩ (by (try dsimp only); omega)
    ·dsimp only; rw [hout]; rfl
    ·dsimp only; rw [hout]; exact o2
 ·have hil : i = l.length := by omega
  subst hil
  refine ex (xt (xt (xb (th (sq (sq (rg ?_)))))))
  rw [List.take_length] at o ⊢
  cases done with
  | false =>
   have hI' := ins_none fun x hx => hI.no rfl x (by rw [List.take_length]; exact hx)
   refine fin hT 2 rfl (th (ifT rfl ?_))
   refine rg ?_
   refine ldS hT 1 1 rfl rfl (by kernel_rfl) ?_
   refine lit hT 0 (pairV p).toArray rfl (by decide) (by kernel_rfl) fun b50 => ?_
   refine appSq hT 0 1 (pairV p) p rfl rfl rfl o rfl rfl (pairR_one _ p rfl) rfl (by decide) (by show (l.length + 1) * 24 <= _; omega) (by show l.length + 1 <= _; simp only [maxLen]; omega) fun ao51 c51 g51 o51 => ?_
   refine WL.drop ?_
   refine fin hT 1 rfl (th (sq (rg ?_)))
   refine fin hT 2 rfl (th (rt ?_))
   refine WQ.drop1 ?_
   refine ret1 rfl rfl ⟨rfl, ao51, c51, g51, ?_, rfl, ?_⟩
   ·rw [hI', List.length_append]; rfl
   ·rw [hI', List.length_append]; exact o51
  | true =>
   refine fin hT 2 rfl (th (ifF rfl ?_))
   refine sk (th (sq (rg ?_)))
   refine fin hT 2 rfl (th (rt ?_))
   refine WQ.drop1 ?_
   exact ret1 rfl rfl ⟨rfl, a5, c5, g5, rfl, rfl, o⟩
end Go.Proofs.YtejkjbkodcamoaaGreatDoor
end
section
namespace Go.Proofs.YtejkjbkodcamoaaGreatDoor
open Go.En
attribute [local irreducible] Code.wp wpList Calls
theorem rfindC {w0 : World} {K : PH} {hs : List PH} (ao : Option Addr) (c : Nat) (l : List PairP) (s : List UInt8) (x : SlS 2 pairR K ao l.length c l) (hl : l.length <= 1000000) :
  Ct Tryz.prog w0 55 [.slice ao l.length c, str s] K hs (fun v K' hs' => K' = K /\ hs' = hs /\ v = .tuple #[.int .i64 ((lastF l s).getD 0), .bool (lastF l s).isSome]) := by
 refine enter Tryz.func55 (by kernel_rfl) rfl rfl rfl ?_
 refine sq (rg ?_)
 refine fin hT 2 rfl (th (sq (sq (rg ?_))))
 refine ar hT 2 rfl (v' := .int .i64 ((l.length : Int) - 1 - ((0 : Nat) : Int))) (by rw [i64w (by omega)]; simp) ?_
 refine fin hT 1 rfl (th (bk ?_))
 refine loop (σ := Nat) (fun i => [(0, .slice ao l.length c), (1, str s), (6, .int .i64 ((l.length : Int) - 1 - ((i : Nat) : Int)))]) (fun _ => K) (fun _ => hs) (fun i => i <= l.length /\ (l.reverse.take i).find? (fun p => decide (p.word = s)) = none) (fun i => l.length - i) 0 ⟨Nat.zero_le _, by simp⟩ ⟨rfl, rfl, rfl, trivial⟩ rfl rfl ?_
 rintro i ⟨hi, hno⟩
 refine sq (sq (rg ?_))
 refine cmpS hT 1 rfl fun b11 h11 => ?_
 refine fin hT 0 rfl (th (ifP h11 rfl (fun e2 => ?_) (fun e2 => ?_)))
 ·have hil : i < l.length := by omega
  obtain ⟨p, hp⟩ : ∃ p, l[l.length - 1 - i]? = some p := ⟨_, List.getElem?_eq_getElem (by omega)⟩
  have her : l.reverse[i]? = some p := by
   rw [List.getElem?_reverse (by omega)]
   exact hp
  obtain ⟨ad, rfl⟩ := x.addr (by omega) (by decide)
  obtain ⟨vs, xv⟩ := x.isS
  obtain ⟨cs, hc, hcl, hcell⟩ := x.cells hp
  obtain rfl := hc
  refine sk (th (sq (bk (sq (rg ?_)))))
  refine ixs hT 2 (l.length - 1 - i) rfl (show _ = ((l.length - 1 - i : Nat) : Int) by omega) xv (by omega) (by decide) fun a16 ha => ?_
  cases ha
  refine ld hT 1 rfl (.inl rfl) (hcell 0 _ rfl) ?_
  refine seS hT 1 rfl fun b20 h20 => ?_
  refine fin hT 0 rfl (th (ifP h20 rfl (fun e4 => ?_) (fun e4 => ?_)))
  ·have hF : lastF l s = some p.w := by unfold lastF; rw [find_take2 hno her (by simpa using e4)]; rfl
   refine sq (rg ?_)
   refine ixs hT 2 (l.length - 1 - i) rfl (show _ = ((l.length - 1 - i : Nat) : Int) by omega) xv (by omega) (by decide) fun a23 ha => ?_
   cases ha
   refine ld hT 1 rfl (.inl rfl) (hcell 1 _ rfl) ?_
   refine fin hT 2 rfl (th (rt (rB (rT (rT (rB (rT ?_)))))))
   exact ret2 rfl rfl rfl ⟨rfl, rfl, by rw [hF]; rfl⟩
  ·refine sk (bl (th (rg ?_)))
   refine ar hT 1 rfl (v' := .int .i64 ((l.length : Int) - 1 - ((i + 1 : Nat) : Int))) (by rw [i64w (by omega)]; congr 1; omega) ?_
   refine fin hT 1 rfl ?_
   refine again (x := i) (i + 1) ⟨rfl, rfl, rfl, trivial⟩ rfl rfl ⟨hil, ?_⟩ (by omega)
   rw [List.take_add_one, her, List.find?_append, hno]
   simp [show ¬ p.word = s by simpa using e4]
 ·have hie : i = l.length := by omega
  rw [hie, List.take_of_length_le (by simp)] at hno
  have hF : lastF l s = none := by unfold lastF; rw [hno]; rfl
  refine ex (xt (xt (xb (th (sq (rg ?_))))))
  refine fin hT 2 rfl (th (rt ?_))
  exact ret2 rfl rfl rfl ⟨rfl, rfl, by rw [hF]; rfl⟩
end Go.Proofs.YtejkjbkodcamoaaGreatDoor
end
section
namespace Go.Proofs.YtejkjbkodcamoaaGreatDoor
open Go.En
attribute [local irreducible] Code.wp wpList Calls
theorem setRC {w0 : World} {K : PH} {hs : List PH} (ao : Option Addr) (cp : Nat) (W : List PairP) (s : List UInt8) (w : Int) (x : SlS 2 pairR K ao W.length cp W) (hr : RightD W) (hl : s.length < 1099511627776) :
  Ct Tryz.prog w0 30 [.slice ao W.length cp, str s, .int .i64 w] K hs
   (fun v K' hs' => Le K K' /\ hs' = hs /\ ∃ ao' c', v = .tuple #[.slice ao' (setD W s w).1.length c', .int .i64 (setD W s w).2.1, .int .i64 (setD W s w).2.2] /\ SlS 2 pairR K' ao' (setD W s w).1.length c' (setD W s w).1) := by
 have hfew := hr.few
 refine enter Tryz.func30 (by kernel_rfl) rfl rfl rfl ?_
 refine sq (rg ?_)
 refine fin hT 3 rfl (th (sq (rg ?_)))
 refine cl hT 1 rfl (wordRC s hl) ?_
 rintro v13 K13 hs13 ⟨rfl, rfl, t13, rfl, h13⟩
 refine fin hT 1 rfl (th (sq (rg ?_)))
 refine cl hT 2 rfl (rfindC ao cp W s x (by omega)) ?_
 rintro v17 K17 hs17 ⟨rfl, rfl, rfl⟩
 obtain ⟨t9, ht9⟩ : ∃ t, t = (lastF W s).isSome := ⟨_, rfl⟩
 have h17 : t9 = true ↔ (lastF W s).isSome = true := by rw [ht9]
 rw [<- ht9]
 refine fin hT 5 rfl (th (sq (sq (rg ?_))))
 refine cbS hT 1 _ rfl (bnot h13) fun b21 h21 => ?_
 refine fin hT 0 rfl (th (ifP h21 rfl (fun e1 => ?_) (fun e1 => ?_)))
 ·refine sq (rg ?_)
  refine fin hT 4 rfl (th (rt (rT ?_)))
  have e : setD W s w = (W, 0, 140) := by unfold setD; rw [if_pos e1]
  rw [e]
  exact ret3 rfl rfl rfl rfl ⟨Le.refl _, rfl, ao, cp, rfl, x⟩
 ·refine sk (th (sq (sq (rg ?_))))
  refine cmpS hT 1 rfl fun b24 h24 => ?_
  refine' bjo hT 1 3 28 [24, 25] h24 rfl rfl rfl rfl rfl rfl rfl (fun _ => ?x3) (fun b28 h28 => ?_)
  case x3 =>
   refine cmpS hT 1 rfl fun b27 h27 => ?_
   exact fin hT 1 rfl (bjx h27 rfl rfl rfl)
  refine fin hT 0 rfl (th (ifP h28 rfl (fun e5 => ?_) (fun e5 => ?_)))
  ·refine sq (rg ?_)
   refine fin hT 4 rfl (th (rt (rT ?_)))
   have e : setD W s w = (W, 0, 141) := by unfold setD; rw [if_neg e1, if_pos (by omega)]
   rw [e]
   exact ret3 rfl rfl rfl rfl ⟨Le.refl _, rfl, ao, cp, rfl, x⟩
  ·refine sk (th (sq (sq (rg ?_))))
   refine cbS hT 1 _ rfl (bnot h17) fun b31 h31 => ?_
   refine' bja hT 1 4 36 [31, 32] h31 rfl rfl rfl rfl rfl rfl rfl (fun _ => ?x6) (fun b36 h36 => ?_)
   case x6 =>
    refine cmpS hT 2 rfl fun b35 h35 => ?_
    exact fin hT 1 rfl (bjx h35 rfl rfl rfl)
   refine fin hT 0 rfl (th (ifP h36 rfl (fun e8 => ?_) (fun e8 => ?_)))
   ·refine sq (rg ?_)
    refine fin hT 4 rfl (th (rt (rT ?_)))
    have e : setD W s w = (W, 0, 142) := by unfold setD; rw [if_neg e1, if_neg (by omega), if_pos ⟨by simpa using e8.1, by omega⟩]
    rw [e]
    exact ret3 rfl rfl rfl rfl ⟨Le.refl _, rfl, ao, cp, rfl, x⟩
   ·have hnf : ¬ ((lastF W s).isSome = false /\ W.length = 4096) := fun g => e8 ⟨by simpa using g.1, by omega⟩
    have e : setD W s w = (insP W ⟨s, w⟩, (lastF W s).getD 0, 0) := by unfold setD; rw [if_neg e1, if_neg (by omega), if_neg hnf]
    rw [e]
    refine sk (th (sq (rg ?_)))
    refine bd hT 3 (.agg (pairV ⟨s, w⟩).toArray) rfl (fun w => by kernel_rfl) ?_
    refine cl hT 0 rfl (putRC ao cp W ⟨s, w⟩ x hr.rise (by omega) (fun q hq => by have := (hr.one q hq).1.1; omega) hl) ?_
    rintro v42 K42 hs42 ⟨rfl, ao', c', g, rfl, rfl, o⟩
    refine fin hT 4 rfl (th (rt ?_))
    refine WQ.frz fun K2 le2 le3 => ?_
    exact ret3 rfl rfl rfl rfl ⟨le2, rfl, ao', c', rfl, o.slS.le le3 fun _ _ h => h⟩
theorem removeRC {w0 : World} {K : PH} {hs : List PH} (ao : Option Addr) (cp : Nat) (W : List PairP) (s : List UInt8) (x : SlS 2 pairR K ao W.length cp W) (hr : RightD W) (hl : s.length < 1099511627776) :
  Ct Tryz.prog w0 29 [.slice ao W.length cp, str s] K hs
   (fun v K' hs' => Le K K' /\ hs' = hs /\ ∃ ao' c', v = .tuple #[.slice ao' (rmvD W s).1.length c', .int .i64 (rmvD W s).2.1, .int .i64 (rmvD W s).2.2] /\ SlS 2 pairR K' ao' (rmvD W s).1.length c' (rmvD W s).1) := by
 have hfew := hr.few
 obtain ⟨vs, xv⟩ := x.isS
 refine enter Tryz.func29 (by kernel_rfl) rfl rfl rfl ?_
 refine sq (rg ?_)
 refine fin hT 3 rfl (th (sq (rg ?_)))
 refine cl hT 1 rfl (wordRC s hl) ?_
 rintro v13 K13 hs13 ⟨rfl, rfl, t13, rfl, h13⟩
 refine fin hT 1 rfl (th (sq (rg ?_)))
 refine cl hT 2 rfl (rfindC ao cp W s x (by omega)) ?_
 rintro v17 K17 hs17 ⟨rfl, rfl, rfl⟩
 obtain ⟨t9, ht9⟩ : ∃ t, t = (lastF W s).isSome := ⟨_, rfl⟩
 have h17 : t9 = true ↔ (lastF W s).isSome = true := by rw [ht9]
 obtain ⟨had, hhad⟩ : ∃ t, t = (lastF W s).getD 0 := ⟨_, rfl⟩
 rw [<- ht9, <- hhad]
 refine fin hT 5 rfl (th (sq (sq (rg ?_))))
 refine cbS hT 1 _ rfl (bnot h13) fun b21 h21 => ?_
 refine fin hT 0 rfl (th (ifP h21 rfl (fun e1 => ?_) (fun e1 => ?_)))
 ·refine sq (rg ?_)
  refine fin hT 4 rfl (th (rt (rT ?_)))
  have e : rmvD W s = (W, 0, 140) := by unfold rmvD; rw [if_pos e1]
  rw [e]
  exact ret3 rfl rfl rfl rfl ⟨Le.refl _, rfl, ao, cp, rfl, x⟩
 ·refine sk (th (sq (sq (rg ?_))))
  refine cbS hT 1 _ rfl (bnot h17) fun b24 h24 => ?_
  refine fin hT 0 rfl (th (ifP h24 rfl (fun e2 => ?_) (fun e2 => ?_)))
  ·refine sq (rg ?_)
   refine fin hT 4 rfl (th (rt (rT ?_)))
   have e : rmvD W s = (W, 0, 143) := by unfold rmvD; rw [if_neg e1, if_pos (by simpa using e2)]
   rw [e]
   exact ret3 rfl rfl rfl rfl ⟨Le.refl _, rfl, ao, cp, rfl, x⟩
  ·have e : rmvD W s = (rmvP W s, had, 0) := by unfold rmvD; rw [if_neg e1, if_neg (by simpa using e2), hhad]
   rw [e]
   refine sk (th (sq (rg ?_)))
   refine fin hT 1 rfl (th (sq (sq (rg ?_))))
   refine WL.em ?_
   refine fin hT 1 rfl (th (bk ?_))
   refine loop (σ := Nat × Option Addr × Nat × PH) (fun q => [(0, .slice ao W.length cp), (1, str s), (8, .int .i64 had), (10, .slice q.2.1 (rmvP (W.take q.1) s).length q.2.2.1), (11, .int .i64 ((q.1 : Nat) : Int))]) (fun _ => K17) (fun q => q.2.2.2 :: hs17) (fun q => q.1 <= W.length /\ SlZ 2 100 pairR q.2.2.2 q.2.1 (rmvP (W.take q.1) s).length q.2.2.1 (rmvP (W.take q.1) s)) (fun q => W.length - q.1) (0, none, 0, Go.En.em) ⟨Nat.zero_le _, SlZ.nil _ _⟩ ⟨rfl, rfl, rfl, rfl, rfl, trivial⟩ rfl rfl ?_
   rintro ⟨i, a5, c5, g5⟩ ⟨hi, o⟩
   dsimp only at *
   refine sq (sq (rg ?_))
   refine cmpS hT 3 rfl fun b29 h29 => ?_
   refine fin hT 0 rfl (th (ifP h29 rfl (fun e4 => ?_) (fun e4 => ?_)))
   ·obtain ⟨y, hy⟩ : ∃ y, W[i]? = some y := ⟨_, List.getElem?_eq_getElem (by omega)⟩
    obtain ⟨ad, rfl⟩ := x.addr (by omega) (by decide)
    obtain ⟨cy, hcy, hcyl, hcyc⟩ := x.cells hy
    obtain rfl := hcy
    have ht : rmvP (W.take (i + 1)) s = if y.word = s then rmvP (W.take i) s else rmvP (W.take i) s ++ [y] := by
     rw [List.take_add_one, hy]
     unfold rmvP
     rw [Option.toList_some, List.filter_append]
     by_cases h : y.word = s <;> simp [h]
    have hpl : (rmvP (W.take i) s).length <= i := Nat.le_trans (List.length_filter_le _ _) (by rw [List.length_take]; omega)
    refine sk (th (sq (bk (sq (rg ?_)))))
    refine ixs hT 2 i rfl rfl xv (by omega) (by decide) fun a34 e34 => ?_
    cases e34
    refine ld hT 1 rfl (.inl rfl) (hcyc 0 _ rfl) ?_
    refine snS hT 1 rfl fun b38 h38 => ?_
    refine fin hT 0 rfl (th (ifP h38 rfl (fun e6 => ?_) (fun e6 => ?_)))
    ·rw [if_neg (by simpa using e6)] at ht
     refine rg ?_
     refine ixs hT 3 i rfl rfl xv (by omega) (by decide) fun a42 e42 => ?_
     cases e42
     refine lds hT 0 (pairV y) rfl (by kernel_rfl) (.inl rfl) hcyc ?_
     refine lit hT 0 (pairV y).toArray rfl (by decide) (by kernel_rfl) fun b44 => ?_
     refine appSq hT 0 1 (pairV y) y rfl rfl rfl o rfl rfl (pairR_one _ y rfl) rfl (by decide) (by show (_ + 1) * 24 <= _; omega) (by simp only [maxLen]; omega) fun ao45 c45 g45 o45 => ?_
     refine WL.drop ?_
     refine fin hT 1 rfl (bl (th (rg ?_)))
     refine ar hT 1 rfl (v' := .int .i64 ((i + 1 : Nat) : Int)) (i64w (by omega)) ?_
     refine fin hT 1 rfl ?_
     refine again (x := (i, a5, c5, g5)) (i + 1, ao45, c45, g45) ⟨rfl, rfl, rfl, ?_, rfl, trivial⟩ rfl rfl ⟨by dsimp only; omega, ?_⟩ (by (try dsimp only); omega)
     ·dsimp only; rw [ht, List.length_append]; rfl
     ·dsimp only; rw [ht, List.length_append]; exact o45
    ·rw [if_pos (by simpa using e6)] at ht
     refine sk (bl (th (rg ?_)))
     refine ar hT 1 rfl (v' := .int .i64 ((i + 1 : Nat) : Int)) (i64w (by omega)) ?_
     refine fin hT 1 rfl ?_
     refine again (x := (i, a5, c5, g5)) (i + 1, a5, c5, g5) ⟨rfl, rfl, rfl, ?_, rfl, trivial⟩ rfl rfl ⟨by dsimp only; omega, ?_⟩ (by (try dsimp only); omega)
     ·dsimp only; rw [ht]; rfl
     ·dsimp only; rw [ht]; exact o
   ·have : i = W.length := by omega
    subst this
    rw [List.take_length] at o ⊢
    refine ex (xt (xt (xb (th (sq (rg ?_))))))
    refine fin hT 5 rfl (th (rt ?_))
    refine WQ.frz fun K2 le2 le3 => ?_
    exact ret3 rfl rfl rfl rfl ⟨le2, rfl, a5, c5, rfl, o.slS.le le3 fun _ _ h => h⟩
theorem eqPair (a b : PairP) (w : World) : (Op.equalIn 10000 100 (.agg (pairV a).toArray) (.agg (pairV b).toArray)).run Tryz.prog w = .ok (decide (a = b)) w := by
 have u3 := Tryz.underlying3
 have a3 := Tryz.isAgg3
 have z3 := Tryz.sizeOf3
 have u4 := Tryz.underlying9
 have a4 := Tryz.isAgg9
 have z4 := Tryz.sizeOf9
 obtain ⟨a1, a2⟩ := a
 obtain ⟨b1, b2⟩ := b
 have es : (Op.equalIn 9999 9 (str a1) (str b1)).run Tryz.prog w = .ok (decide (a1 = b1)) w := by
  have e0 : ((⟨a1.toArray⟩ : ByteArray) == (⟨b1.toArray⟩ : ByteArray)) = decide (a1 = b1) := by
   change (a1.toArray == b1.toArray) = decide (a1 = b1)
   rw [Bool.eq_iff_iff]
   simp
  rw [show (9999 : Nat) = 9998 + 1 from rfl]
  unfold str Op.equalIn
  simp only [Sem.run_bind, run_underlying u4, Result.andThen, Sem.run_pure, e0]
 unfold pairV
 rw [show (10000 : Nat) = 9999 + 1 from rfl, run_equalIn_agg w 9999 100 _ _ (by kernel_rfl) (by kernel_rfl)]
 simp only [Program.fieldsOf, Tryz.underlying100]
 go_simp
 by_cases h1 : a1 = b1 <;> by_cases h2 : a2 = b2 <;> simp [es, h1, h2]
theorem sameRC {w0 : World} {K : PH} {hs : List PH} (ao ao2 : Option Addr) (c c2 : Nat) (a b : List PairP) (x : SlS 2 pairR K ao a.length c a) (y : SlS 2 pairR K ao2 b.length c2 b) (hl : a.length <= 1000000) :
  Ct Tryz.prog w0 11 [.slice ao a.length c, .slice ao2 b.length c2] K hs
   (fun v K' hs' => K' = K /\ hs' = hs /\ ∃ t : Bool, v = .bool t /\ (t = true ↔ a = b)) := by
 refine enter Tryz.func11 (by kernel_rfl) rfl rfl rfl ?_
 refine sq (rg ?_)
 refine fin hT 1 rfl (th (sq (sq (rg ?_))))
 refine cmpS hT 4 rfl fun b10 h10 => ?_
 refine fin hT 0 rfl (th (ifP h10 rfl (fun e2 => ?_) (fun e2 => ?_)))
 ·refine sq (rg ?_)
  refine fin hT 1 rfl (th (rt (rT ?_)))
  exact ret1 rfl rfl ⟨rfl, rfl, false, rfl, ⟨fun h => Bool.noConfusion h, fun h => absurd (by rw [h]) e2⟩⟩
 ·have hlen : a.length = b.length := by have := Classical.not_not.1 e2; omega
  refine sk (th (sq (sq (rg ?_))))
  refine fin hT 1 rfl (th (bk ?_))
  refine loop (σ := Nat) (fun i => [(0, .slice ao a.length c), (1, .slice ao2 b.length c2), (5, .int .i64 ((i : Nat) : Int))]) (fun _ => K) (fun _ => hs) (fun i => i <= a.length /\ a.take i = b.take i) (fun i => a.length - i) 0 ⟨Nat.zero_le _, rfl⟩ ⟨rfl, rfl, rfl, trivial⟩ rfl rfl ?_
  rintro i ⟨hi, he⟩
  refine sq (sq (rg ?_))
  refine cmpS hT 3 rfl fun b14 h14 => ?_
  refine fin hT 0 rfl (th (ifP h14 rfl (fun e4 => ?_) (fun e4 => ?_)))
  ·obtain ⟨p, hp⟩ : ∃ p, a[i]? = some p := ⟨_, List.getElem?_eq_getElem (by omega)⟩
   obtain ⟨q, hq⟩ : ∃ q, b[i]? = some q := ⟨_, List.getElem?_eq_getElem (by omega)⟩
   obtain ⟨ad, rfl⟩ := x.addr (by omega) (by decide)
   obtain ⟨ad2, rfl⟩ := y.addr (by omega) (by decide)
   obtain ⟨cp, hcp, hcpl, hcpc⟩ := x.cells hp
   obtain rfl := hcp
   obtain ⟨cq, hcq, hcql, hcqc⟩ := y.cells hq
   obtain rfl := hcq
   refine sk (th (sq (bk (sq (rga [] 9 [0, 2, 4, 6, 8, 10, 12, 14, 16] (by simp) (by kernel_rfl) (by kernel_rfl) ?_)))))
   refine dixs hT (by kernel_rfl) 2 i rfl rfl (by omega) ?_
   refine dlds hT (by kernel_rfl) 0 (pairV p) rfl (by kernel_rfl) (by kernel_rfl) (.inl rfl) hcpc ?_
   refine dixs hT (by kernel_rfl) 2 i rfl rfl (by omega) ?_
   refine dlds hT (by kernel_rfl) 0 (pairV q) rfl (by kernel_rfl) (by kernel_rfl) (.inl rfl) hcqc ?_
   refine deqs2 hT (by kernel_rfl) 0 rfl (by kernel_rfl) (fun w => eqPair p q w) ?_
   refine dend hT (by kernel_rfl) 0 rfl (th (ifB rfl (fun e5 => ?_) (fun e5 => ?_)))
   ·have e6 : p ≠ q := by simpa using e5
    refine sq (rg ?_)
    refine fin hT 1 rfl (th (rt (rB (rT (rT (rB (rT ?_)))))))
    exact ret1 rfl rfl ⟨rfl, rfl, false, rfl, ⟨fun h => Bool.noConfusion h, fun h => absurd (by rw [h, hq] at hp; exact (Option.some.inj hp).symm) e6⟩⟩
   ·have e6 : p = q := by simpa using e5
    refine sk (bl (th (rg ?_)))
    refine ar hT 1 rfl (v' := .int .i64 ((i + 1 : Nat) : Int)) (i64w (by omega)) ?_
    refine fin hT 1 rfl ?_
    exact again (x := i) (i + 1) ⟨rfl, rfl, rfl, trivial⟩ rfl rfl ⟨by omega, by rw [List.take_add_one, List.take_add_one, hp, hq, he, e6]⟩ (by (try dsimp only); omega)
  ·have : i = a.length := by omega
   subst this
   rw [List.take_length, hlen, List.take_length] at he
   refine ex (xt (xt (xb (th (sq (rg ?_))))))
   refine fin hT 1 rfl (th (rt ?_))
   exact ret1 rfl rfl ⟨rfl, rfl, true, rfl, ⟨fun _ => he, fun _ => rfl⟩⟩
end Go.Proofs.YtejkjbkodcamoaaGreatDoor
end
section
namespace Go.En
attribute [local irreducible] Code.wp wpList Calls
section rules
variable {P : Program} {T : Tab} {w0 : World} {ops : Array Oper} {Q : Exit -> Act -> World -> Prop} {rest rest' : List Oper} {n : Nat} {l l' : Sl} {K : PH} {hs : List PH}
end rules
section joink
variable {P : Program} {w0 : World} {Q : Exit -> Act -> World -> Prop} {n : Nat} {l : Sl} {K : PH} {hs : List PH}
def JKK (w0 : World) {σ : Type} (F : σ -> Sl) (HK : σ -> PH) (H : σ -> List PH) (J : σ -> Prop) (n : Nat) (Q : Exit -> Act -> World -> Prop) : Exit -> Act -> World -> Prop
 | .normal, a, w => ∃ s, J s /\ Ag n (F s) a /\ Sat w0 w (HK s) (H s)
 | e, a, w => Q e a w
theorem jnK {σ : Type} {x y : Code} (F : σ -> Sl) (HK : σ -> PH) (H : σ -> List PH) (J : σ -> Prop) (h1 : WC P w0 x (JKK w0 F HK H J n Q) n l K hs) (h2 : ∀ s, J s -> WC P w0 y Q n (F s) (HK s) (H s)) : WC P w0 (.seq x y) Q n l K hs :=
 sq fun a w ha hw => Code.wp_mono (fun e a w h => by
  cases e with
  | normal => obtain ⟨s, hJ, ha, hw⟩ := h; exact h2 s hJ a w ha hw
  | _ => exact h) (h1 a w ha hw)
theorem jxK {σ : Type} {F : σ -> Sl} {HK : σ -> PH} {H : σ -> List PH} {J : σ -> Prop} (s : σ) (hJ : J s) (hF : Sub l (F s)) (hK : K = HK s) (hH : hs = H s) : WQ w0 (JKK w0 F HK H J n Q) .normal n l K hs :=
 fun a w ha hw => ⟨s, hJ, ha.sub hF, by rw [<- hK, <- hH]; exact hw⟩
end joink
end Go.En
end
section
namespace Go.En
section
variable {P : Program} {w0 : World} {fn : Func} {R : Value -> PH -> List PH -> Prop} {n : Nat} {l : Sl} {K : PH} {hs : List PH}
theorem retcc2 (i j m : Nat) {t ty u tu b ty' b2 ty2 : Nat} {c c2 : Array Value} {fr fr2 : Nat × Nat} (hr : fn.results = #[.cell t ty, .cell u tu]) (hv : look l t = some (.pointer (some ⟨b, 0, none⟩))) (hu : look l u = some (.pointer (some ⟨b2, 0, none⟩))) (hi : hs[i]? = some (pt b c ty' fr)) (hj : hs[j]? = some (pt b2 c2 ty2 fr2)) (hm : aggOK P ty c.size = true) (hm2 : aggOK P tu c2.size = true)
  (hk : R (.tuple #[.agg c, .agg c2]) K (hs.drop m)) : WQ w0 (bodyPost P fn (endR w0 R)) .ret n l K hs :=
 fun _ w ha hw => bodyPost_ret (v := .tuple #[.agg c, .agg c2]) (by
  have h2 := run_loadVarS (P := P) (w := w) (t := ty) (a := ⟨b, 0, none⟩) (cs := c.toList) (by simpa using hm) rfl (fun j v hv => hw.cell (.inr ⟨i, hi⟩) (cells_pt c.toList (fun j v h => by simpa using h) j v hv))
  have e : c.toList.toArray = c := by simp
  rw [e] at h2
  have h3 := run_loadVarS (P := P) (w := w) (t := tu) (a := ⟨b2, 0, none⟩) (cs := c2.toList) (by simpa using hm2) rfl (fun i v hv => hw.cell (.inr ⟨j, hj⟩) (cells_pt c2.toList (fun j v h => by simpa using h) i v hv))
  have e2 : c2.toList.toArray = c2 := by simp
  rw [e2] at h3
  simp [results, hr, ha.slot t _ hv, ha.slot u _ hu, asAddr, h2, h3]) ha.defers ⟨_, _, _, rfl, hk, hw.dropN m⟩
end
theorem rwR_one (c : List Value) (y : RwP) (h : rwR c y) : ∀ u ∈ c, u.oneCell' = true := by
 intro u hu
 rw [h] at hu
 simp [rwV, anV] at hu
 rcases hu with rfl | rfl | rfl | rfl <;> rfl
end Go.En
namespace Go.Proofs.YtejkjbkodcamoaaGreatDoor
open Go.En
attribute [local irreducible] Code.wp wpList Calls
theorem doRC {w0 : World} {K : PH} {hs : List PH} (aW aR : Option Addr) (cW cR : Nat) (W : List PairP) (rows : List RwP) (c : Cmd) (x : SlS 2 pairR K aW W.length cW W) (y : SlS 4 rwR K aR rows.length cR rows) (hr : RightD W) (hr1 : rows.length <= 4096) (hs1 : c.ses <= 18446744073709551615) (hs2 : c.seq <= 18446744073709551615) (hl : c.word.length < 1099511627776) :
  Ct Tryz.prog w0 9 [.agg #[.slice aW W.length cW, .slice aR rows.length cR], .agg c.v] K hs
   (fun v K' hs' => Le K K' /\ hs' = hs /\ ∃ aW' cW' aR' cR', v = .tuple #[.agg #[.slice aW' (doP W rows c).1.length cW', .slice aR' (doP W rows c).2.1.length cR'], .agg (anV (doP W rows c).2.2).toArray] /\ SlS 2 pairR K' aW' (doP W rows c).1.length cW' (doP W rows c).1 /\ SlS 4 rwR K' aR' (doP W rows c).2.1.length cR' (doP W rows c).2.1) := by
 obtain ⟨kind, ses, seq, word, wt⟩ := c
 dsimp only at hs1 hs2 hl
 obtain ⟨vs, yv⟩ := y.isS
 refine enter Tryz.func9 (by kernel_rfl) rfl rfl rfl ?_
 refine sq (rg ?_)
 refine bx hT 0 rfl fun b2 => ?_
 refine bx hT 0 rfl fun b3 => ?_
 refine al hT 0 (.agg #[.slice none 0 0, .slice none 0 0]) rfl (by kernel_rfl) fun b4 => ?_
 refine al hT 0 (.agg #[.int .i64 0, .int .u64 0, .int .i64 0]) rfl (by kernel_rfl) fun b5 => ?_
 refine WL.hs (pt b5 (anV an0).toArray 48 :: pt b4 #[.slice none 0 0, .slice none 0 0] 29 :: pt b3 #[.int .i64 kind, .int .u64 ((ses : Nat) : Int), .int .u64 ((seq : Nat) : Int), str word, .int .i64 wt] 31 :: pt b2 #[.slice aW W.length cW, .slice aR rows.length cR] 29 :: hs) rfl ?_
 refine fin hT 0 rfl (th (sq (sq (rg ?_))))
 refine ldp hT 1 2 rfl rfl rfl ?_
 refine cmpS hT 0 rfl fun b15 h15 => ?_
 refine fin hT 0 rfl (th (ifP h15 rfl (fun e2 => ?_) (fun e2 => ?_)))
 ·refine sq (sq (rg ?_))
  refine ldp hT 1 3 rfl rfl rfl ?_
  refine cmpS hT 1 rfl fun b19 h19 => ?_
  refine fin hT 0 rfl (th (ifP h19 rfl (fun e4 => ?_) (fun e4 => ?_)))
  ·refine sq (rg ?_)
   refine ldS hT 0 3 rfl rfl (by kernel_rfl) ?_
   refine bd hT 0 (.agg (anV ⟨152, 0, 0⟩).toArray) rfl (fun w => by kernel_rfl) ?_
   refine stS hT 0 1 rfl rfl (by kernel_rfl) rfl rfl ?_
   refine stS hT 0 0 rfl rfl (by kernel_rfl) rfl rfl ?_
   refine fin hT 0 rfl (th (rt (rT (rT ?_))))
   refine retcc2 1 0 4 rfl rfl rfl rfl rfl (by kernel_rfl) (by kernel_rfl) ?_
   have e : doP W rows ⟨kind, ses, seq, word, wt⟩ = (W, rows, ⟨152, 0, 0⟩) := by
    unfold doP
    rw [if_pos e2, if_pos (by omega)]
   rw [e]
   exact ⟨Le.refl _, rfl, aW, cW, aR, cR, rfl, x, y⟩
  ·have e : doP W rows ⟨kind, ses, seq, word, wt⟩ = (W, rows ++ [rw0], ⟨0, rows.length + 1, 0⟩) := by
    unfold doP
    rw [if_pos e2, if_neg (by omega)]
   rw [e]
   refine sk (th (sq (rg ?_)))
   refine lit hT 0 #[] rfl (by decide) (by kernel_rfl) fun b22 => ?_
   refine ldp hT 1 4 rfl rfl rfl ?_
   have o0 : SlO 4 86 rwR (pt b22 #[] 86) (some ⟨b22, 0, none⟩) 0 0 [] := ⟨[], rfl, ⟨rfl, Nat.le_refl _, Nat.zero_le _, .inr ⟨b22, 0, #[], rfl, rfl, rfl, rfl⟩⟩, trivial, by simp⟩
   refine appO hT 0 0 rfl rfl o0 (.inl rfl) y rwR_one rfl (by decide) (by show (0 + rows.length) * 32 <= _; omega) (by simp only [maxLen]; omega) fun ao25 c25 g25 o25 => ?_
   rw [Nat.zero_add, List.nil_append] at o25
   rw [Nat.zero_add]
   refine WL.hs (g25 :: pt b5 (anV an0).toArray 48 :: pt b4 #[.slice none 0 0, .slice none 0 0] 29 :: pt b3 #[.int .i64 kind, .int .u64 ((ses : Nat) : Int), .int .u64 ((seq : Nat) : Int), str word, .int .i64 wt] 31 :: pt b2 #[.slice aW W.length cW, .slice aR rows.length cR] 29 :: hs) rfl ?_
   refine fin hT 1 rfl (th (sq (rga [pt b2 #[.slice aW W.length cW, .slice aR rows.length cR] 29] 15 [0, 2, 4, 6, 14, 16, 18, 20, 22, 24, 9, 11, 12, 27, 29] (by simp) (by kernel_rfl) (by kernel_rfl) ?_)))
   refine dldp hT (by kernel_rfl) 1 0 rfl rfl rfl ?_
   refine dbd hT (by kernel_rfl) 1 (.agg (rwV rw0).toArray) rfl (fun w => by kernel_rfl) ?_
   refine dldp hT (by kernel_rfl) 1 0 rfl rfl rfl ?_
   refine dar hT (by kernel_rfl) 1 rfl (v' := .int .i64 ((rows.length + 1 : Nat) : Int)) (i64w (by omega)) ?_
   refine dar hT (by kernel_rfl) 0 rfl (v' := .int .u64 ((rows.length + 1 : Nat) : Int)) (u64w (by omega)) ?_
   refine dbd hT (by kernel_rfl) 0 (.agg (anV ⟨0, rows.length + 1, 0⟩).toArray) rfl (fun w => by kernel_rfl) ?_
   refine dact hT (by kernel_rfl) 0 rfl ?_
   refine lit hT 0 (rwV rw0).toArray rfl (by decide) (by kernel_rfl) fun b30 => ?_
   refine dnex [pt b2 #[.slice aW W.length cW, .slice aR rows.length cR] 29] (by simp) (by simp) rfl ?_
   refine dact hT (by kernel_rfl) 0 rfl ?_
   refine appSq hT 0 1 (rwV rw0) rw0 rfl rfl rfl o25.slZ rfl rfl (rwR_one _ rw0 rfl) rfl (by decide) (by show (rows.length + 1) * 32 <= _; omega) (by simp only [maxLen]; omega) fun ao31 c31 g31 o31 => ?_
   refine WL.hs (pt b30 (rwV rw0).toArray 86 :: g31 :: pt b5 (anV an0).toArray 48 :: pt b4 #[.slice none 0 0, .slice none 0 0] 29 :: pt b3 #[.int .i64 kind, .int .u64 ((ses : Nat) : Int), .int .u64 ((seq : Nat) : Int), str word, .int .i64 wt] 31 :: pt b2 #[.slice aW W.length cW, .slice aR rows.length cR] 29 :: hs) rfl ?_
   refine dnex [pt b2 #[.slice aW W.length cW, .slice aR rows.length cR] 29] (by simp) (by simp) rfl ?_
   refine dbd hT (by kernel_rfl) 0 (.agg #[.slice aW W.length cW, .slice ao31 (rows.length + 1) c31]) rfl (fun w => by kernel_rfl) ?_
   refine dact hT (by kernel_rfl) 0 rfl ?_
   refine stS hT 0 3 rfl rfl (by kernel_rfl) rfl rfl ?_
   refine dnex [pt b2 #[.slice aW W.length cW, .slice aR rows.length cR] 29] (by simp) (by simp) rfl ?_
   refine dact hT (by kernel_rfl) 0 rfl ?_
   refine stS hT 0 2 rfl rfl (by kernel_rfl) rfl rfl ?_
   refine dnex [pt b2 #[.slice aW W.length cW, .slice aR rows.length cR] 29] (by simp) (by simp) rfl ?_
   refine dend hT (by kernel_rfl) 0 rfl (th (rt (rT ?_)))
   refine WQ.drop (WQ.frz fun K2 le2 le3 => ?_)
   refine retcc2 1 0 4 rfl rfl rfl rfl rfl (by kernel_rfl) (by kernel_rfl) ?_
   have hlen : (rows ++ [rw0]).length = rows.length + 1 := by simp
   exact ⟨le2, rfl, aW, cW, ao31, c31, by rw [hlen], x.le le2 fun _ _ h => h, by rw [hlen]; exact o31.slS.le le3 fun _ _ h => h⟩
 ·refine sk (th (sq (sq (rg ?_))))
  refine ldp hT 1 2 rfl rfl rfl ?_
  refine cmpS hT 0 rfl fun b41 h41 => ?_
  refine' bja hT 1 4 46 [41, 42] h41 rfl rfl rfl rfl rfl rfl rfl (fun _ => ?x6) (fun b46 h46 => ?_)
  case x6 =>
   refine ldp hT 1 2 rfl rfl rfl ?_
   refine cmpS hT 0 rfl fun b45 h45 => ?_
   exact fin hT 1 rfl (bjx h45 rfl rfl rfl)
  refine fin hT 0 rfl (th (ifP h46 rfl (fun e8 => ?_) (fun e8 => ?_)))
  ·refine sq (rg ?_)
   refine ldS hT 0 3 rfl rfl (by kernel_rfl) ?_
   refine bd hT 0 (.agg (anV ⟨161, 0, 0⟩).toArray) rfl (fun w => by kernel_rfl) ?_
   refine stS hT 0 1 rfl rfl (by kernel_rfl) rfl rfl ?_
   refine stS hT 0 0 rfl rfl (by kernel_rfl) rfl rfl ?_
   refine fin hT 0 rfl (th (rt (rT ?_)))
   refine retcc2 1 0 4 rfl rfl rfl rfl rfl (by kernel_rfl) (by kernel_rfl) ?_
   have e : doP W rows ⟨kind, ses, seq, word, wt⟩ = (W, rows, ⟨161, 0, 0⟩) := by
    unfold doP
    rw [if_neg e2, if_pos fun h => by rcases h with h | h; exact e8.1 h; exact e8.2 h]
   rw [e]
   exact ⟨Le.refl _, rfl, aW, cW, aR, cR, rfl, x, y⟩
  ·have d2 : kind = 2 \/ kind = 3 := by
    by_cases h2 : kind = 2
    ·exact .inl h2
    ·by_cases h3 : kind = 3
     ·exact .inr h3
     ·exact absurd ⟨h2, h3⟩ e8
   have d1 : ¬ ¬ (kind = 2 \/ kind = 3) := fun h => h d2
   refine sk (th (sq (sq (rg ?_))))
   refine ldp hT 1 2 rfl rfl rfl ?_
   refine cmpS hT 0 rfl fun b51 h51 => ?_
   refine' bjo hT 1 8 60 [51, 52] h51 rfl rfl rfl rfl rfl rfl rfl (fun _ => ?x10) (fun b60 h60 => ?_)
   case x10 =>
    refine ldp hT 1 2 rfl rfl rfl ?_
    refine ldp hT 1 3 rfl rfl rfl ?_
    refine ar hT 1 rfl (u64w (by omega)) ?_
    refine cmpS hT 0 rfl fun b59 h59 => ?_
    exact fin hT 1 rfl (bjx h59 rfl rfl rfl)
   refine fin hT 0 rfl (th (ifP h60 rfl (fun e12 => ?_) (fun e12 => ?_)))
   ·have hc : chkT rows ses seq = (an0, false, 150) := by unfold chkT; rw [if_pos (by omega)]
    refine sq (rg ?_)
    refine ldS hT 0 3 rfl rfl (by kernel_rfl) ?_
    refine bd hT 0 (.agg (anV ⟨150, 0, 0⟩).toArray) rfl (fun w => by kernel_rfl) ?_
    refine stS hT 0 1 rfl rfl (by kernel_rfl) rfl rfl ?_
    refine stS hT 0 0 rfl rfl (by kernel_rfl) rfl rfl ?_
    refine fin hT 0 rfl (th (rt (rT ?_)))
    refine retcc2 1 0 4 rfl rfl rfl rfl rfl (by kernel_rfl) (by kernel_rfl) ?_
    have e : doP W rows ⟨kind, ses, seq, word, wt⟩ = (W, rows, ⟨150, 0, 0⟩) := by
     unfold doP
     rw [if_neg e2, if_neg d1, hc]; rfl
    rw [e]
    exact ⟨Le.refl _, rfl, aW, cW, aR, cR, rfl, x, y⟩
   ·have hin : ¬ (ses = 0 \/ rows.length < ses) := by omega
    obtain ⟨r, hrr⟩ : ∃ r, rows[ses - 1]? = some r := ⟨_, List.getElem?_eq_getElem (by omega)⟩
    have hgd : rows.getD (ses - 1) rw0 = r := by rw [List.getD_eq_getElem?_getD, hrr]; rfl
    refine sk (th (sq (rg ?_)))
    refine ldp hT 1 3 rfl rfl rfl ?_
    refine ldp hT 1 2 rfl rfl rfl ?_
    refine ar hT 0 rfl (v' := .int .u64 ((ses - 1 : Nat) : Int)) (by rw [u64w (by omega)]; congr 1; omega) ?_
    refine ixs hT 0 (ses - 1) rfl rfl yv (by omega) (by decide) fun a68 e68 => ?_
    subst e68
    obtain ⟨cr, hcr, hcrl, hcrc⟩ := y.cells hrr
    obtain rfl := hcr
    refine lds hT 0 (rwV r) rfl (by kernel_rfl) (.inl rfl) hcrc ?_
    refine al hT 0 (.agg #[.int .u64 0, .int .i64 0, .int .u64 0, .int .i64 0]) rfl (by kernel_rfl) fun b7 => ?_
    refine stS hT 0 0 rfl rfl (by kernel_rfl) rfl rfl ?_
    refine WL.hs (pt b7 (rwV r).toArray 86 :: pt b5 (anV an0).toArray 48 :: pt b4 #[.slice none 0 0, .slice none 0 0] 29 :: pt b3 #[.int .i64 kind, .int .u64 ((ses : Nat) : Int), .int .u64 ((seq : Nat) : Int), str word, .int .i64 wt] 31 :: pt b2 #[.slice aW W.length cW, .slice (some a68) rows.length cR] 29 :: hs) rfl ?_
    refine fin hT 0 rfl (th (sq (sq (rg ?_))))
    refine ldp hT 1 3 rfl rfl rfl ?_
    refine cmpS hT 0 rfl fun b72 h72 => ?_
    refine' bjo hT 1 6 79 [72, 73] h72 rfl rfl rfl rfl rfl rfl rfl (fun _ => ?x14) (fun b79 h79 => ?_)
    case x14 =>
     refine ldp hT 1 3 rfl rfl rfl ?_
     refine ldp hT 1 0 (v := .int .u64 ((r.seq : Nat) : Int)) rfl rfl rfl ?_
     refine cmpS hT 0 rfl fun b78 h78 => ?_
     exact fin hT 1 rfl (bjx h78 rfl rfl rfl)
    refine fin hT 0 rfl (th (ifP h79 rfl (fun e16 => ?_) (fun e16 => ?_)))
    ·have hc : chkT rows ses seq = (an0, false, 151) := by unfold chkT; rw [if_neg hin, hgd, if_pos (by omega)]
     refine sq (rg ?_)
     refine ldS hT 0 4 rfl rfl (by kernel_rfl) ?_
     refine bd hT 0 (.agg (anV ⟨151, 0, 0⟩).toArray) rfl (fun w => by kernel_rfl) ?_
     refine stS hT 0 2 rfl rfl (by kernel_rfl) rfl rfl ?_
     refine stS hT 0 1 rfl rfl (by kernel_rfl) rfl rfl ?_
     refine fin hT 0 rfl (th (rt (rT ?_)))
     refine retcc2 2 1 5 rfl rfl rfl rfl rfl (by kernel_rfl) (by kernel_rfl) ?_
     have e : doP W rows ⟨kind, ses, seq, word, wt⟩ = (W, rows, ⟨151, 0, 0⟩) := by
      unfold doP
      rw [if_neg e2, if_neg d1, hc]; rfl
     rw [e]
     exact ⟨Le.refl _, rfl, aW, cW, some a68, cR, rfl, x, y⟩
    ·refine sk (th (sq (sq (rg ?_))))
     refine ldp hT 1 3 rfl rfl rfl ?_
     refine ldp hT 1 0 (v := .int .u64 ((r.seq : Nat) : Int)) rfl rfl rfl ?_
     refine cmpS hT 0 rfl fun b86 h86 => ?_
     refine fin hT 0 rfl (th (ifP h86 rfl (fun e18 => ?_) (fun e18 => ?_)))
     ·have hc : chkT rows ses seq = (r.ans, true, 0) := by unfold chkT; rw [if_neg hin, hgd, if_neg (by omega), if_pos (by omega)]
      have e : doP W rows ⟨kind, ses, seq, word, wt⟩ = (W, rows, r.ans) := by
       unfold doP
       rw [if_neg e2, if_neg d1, hc]; rfl
      rw [e]
      refine sq (rga [pt b7 (rwV r).toArray 86, pt b2 #[.slice aW W.length cW, .slice (some a68) rows.length cR] 29] 5 [0, 2, 4, 7, 9] (by simp) (by kernel_rfl) (by kernel_rfl) ?_)
      refine dldS hT (by kernel_rfl) 0 1 rfl (by kernel_rfl) rfl (by kernel_rfl) ?_
      refine dlds hT (by kernel_rfl) 1 (anV r.ans) rfl (by kernel_rfl) (by kernel_rfl) (.inr ⟨0, rfl⟩) (cells_sub2 _ rfl) ?_
      refine dact hT (by kernel_rfl) 0 rfl ?_
      refine stS hT 0 2 rfl rfl (by kernel_rfl) rfl rfl ?_
      refine dnex [pt b7 (rwV r).toArray 86, pt b2 #[.slice aW W.length cW, .slice (some a68) rows.length cR] 29] (by simp) (by simp) rfl ?_
      refine dact hT (by kernel_rfl) 0 rfl ?_
      refine stS hT 0 1 rfl rfl (by kernel_rfl) rfl rfl ?_
      refine dnex [pt b7 (rwV r).toArray 86, pt b2 #[.slice aW W.length cW, .slice (some a68) rows.length cR] 29] (by simp) (by simp) rfl ?_
      refine dend hT (by kernel_rfl) 0 rfl (th (rt (rT ?_)))
      refine retcc2 2 1 5 rfl rfl rfl rfl rfl (by kernel_rfl) (by kernel_rfl) ?_
      exact ⟨Le.refl _, rfl, aW, cW, some a68, cR, rfl, x, y⟩
     ·have hc : chkT rows ses seq = (an0, false, 0) := by unfold chkT; rw [if_neg hin, hgd, if_neg (by omega), if_neg (by omega)]
      obtain ⟨f, hf⟩ : ∃ f, f = if kind = 2 then setD W word wt else rmvD W word := ⟨_, rfl⟩
      have e : doP W rows ⟨kind, ses, seq, word, wt⟩ = (f.1, rows.set (ses - 1) ⟨seq, ⟨f.2.2, 0, f.2.1⟩⟩, ⟨f.2.2, 0, f.2.1⟩) := by
       unfold doP
       rw [if_neg e2, if_neg d1, hc]
       by_cases hk : kind = 2
       ·rw [hf, if_pos hk]
        simp [hk]
       ·rw [hf, if_neg hk]
        simp [hk]
      rw [e]
      refine WC.drop (sk (th (sq (rg ?_))))
      refine ldp hT 1 3 rfl rfl rfl ?_
      refine ldp hT 1 2 rfl rfl rfl ?_
      refine cl hT 0 rfl (removeRC aW cW W word x hr hl) ?_
      rintro v95 K95 hs95 ⟨le95, rfl, aW1, cW1, rfl, xR⟩
      refine fin hT 7 rfl (th (jnK (σ := PH × Option Addr × Nat) (fun s => [(2, .pointer (some ⟨b2, 0, none⟩)), (3, .pointer (some ⟨b3, 0, none⟩)), (4, .pointer (some ⟨b4, 0, none⟩)), (5, .pointer (some ⟨b5, 0, none⟩)), (8, .slice s.2.1 f.1.length s.2.2), (9, .int .i64 f.2.1), (10, .int .i64 f.2.2)]) (fun s => s.1)
       (fun s => pt b5 (anV an0).toArray 48 :: pt b4 #[.slice none 0 0, .slice none 0 0] 29 :: pt b3 #[.int .i64 kind, .int .u64 ((ses : Nat) : Int), .int .u64 ((seq : Nat) : Int), str word, .int .i64 wt] 31 :: pt b2 #[.slice aW W.length cW, .slice (some a68) rows.length cR] 29 :: hs) (fun s => Le K s.1 /\ SlS 2 pairR s.1 s.2.1 f.1.length s.2.2 f.1) ?_ ?_))
      ·refine sq (rg ?_)
       refine ldp hT 1 2 rfl rfl rfl ?_
       refine cmpS hT 0 rfl fun b101 h101 => ?_
       refine fin hT 0 rfl (th (ifP h101 rfl (fun e20 => ?_) (fun e20 => ?_)))
       ·obtain rfl : f = setD W word wt := by rw [hf, if_pos e20]
        refine rg ?_
        refine ldp hT 1 3 rfl rfl rfl ?_
        refine ldp hT 1 2 rfl rfl rfl ?_
        refine ldp hT 1 2 rfl rfl rfl ?_
        refine cl hT 0 rfl (setRC aW cW W word wt (x.le le95 fun _ _ h => h) hr hl) ?_
        rintro v109 K109 hs109 ⟨le109, rfl, aW2, cW2, rfl, xS⟩
        refine fin hT 7 rfl ?_
        exact jxK (K109, aW2, cW2) ⟨le95.trans le109, xS⟩ ⟨rfl, rfl, rfl, rfl, rfl, rfl, rfl, trivial⟩ rfl rfl
       ·obtain rfl : f = rmvD W word := by rw [hf, if_neg e20]
        refine sk ?_
        exact jxK (K95, aW1, cW1) ⟨le95, xR⟩ ⟨rfl, rfl, rfl, rfl, rfl, rfl, rfl, trivial⟩ rfl rfl
      ·rintro ⟨K3, aW3, cW3⟩ ⟨le3, x3⟩
       dsimp only at *
       have y3 := y.le le3 fun _ _ h => h
       refine sq (rg ?_)
       refine bd hT 2 (.agg (anV ⟨f.2.2, 0, f.2.1⟩).toArray) rfl (fun w => by kernel_rfl) ?_
       refine al hT 0 (.agg #[.int .i64 0, .int .u64 0, .int .i64 0]) rfl (by kernel_rfl) fun b11 => ?_
       refine stS hT 0 0 rfl rfl (by kernel_rfl) rfl rfl ?_
       refine WL.hs (pt b11 (anV ⟨f.2.2, 0, f.2.1⟩).toArray 48 :: pt b5 (anV an0).toArray 48 :: pt b4 #[.slice none 0 0, .slice none 0 0] 29 :: pt b3 #[.int .i64 kind, .int .u64 ((ses : Nat) : Int), .int .u64 ((seq : Nat) : Int), str word, .int .i64 wt] 31 :: pt b2 #[.slice aW W.length cW, .slice (some a68) rows.length cR] 29 :: hs) rfl ?_
       refine fin hT 0 rfl (th (sq (rg ?_)))
       refine lit hT 0 #[] rfl (by decide) (by kernel_rfl) fun b116 => ?_
       refine ldp hT 1 5 rfl rfl rfl ?_
       have o0 : SlO 4 86 rwR (pt b116 #[] 86) (some ⟨b116, 0, none⟩) 0 0 [] := ⟨[], rfl, ⟨rfl, Nat.le_refl _, Nat.zero_le _, .inr ⟨b116, 0, #[], rfl, rfl, rfl, rfl⟩⟩, trivial, by simp⟩
       refine appO hT 0 0 rfl rfl o0 (.inl rfl) y3 rwR_one rfl (by decide) (by show (0 + rows.length) * 32 <= _; omega) (by simp only [maxLen]; omega) fun ao119 c119 g119 o119 => ?_
       rw [Nat.zero_add, List.nil_append] at o119
       rw [Nat.zero_add]
       have oz := o119.slZ
       have oS := oz.slS
       obtain ⟨ws, wv⟩ := oS.isS
       obtain ⟨gb, off, cur, rfl, rfl, hcs, hcap, hset⟩ := oz.pts (show 0 < rows.length by omega)
       have o2 := hset (ses - 1) (rwV ⟨seq, ⟨f.2.2, 0, f.2.1⟩⟩) ⟨seq, ⟨f.2.2, 0, f.2.1⟩⟩ (by omega) rfl rfl
       have hcs2 : cur.size = off + c119 * 4 := hcs
       refine WL.hs (pt gb cur 86 :: pt b11 (anV ⟨f.2.2, 0, f.2.1⟩).toArray 48 :: pt b5 (anV an0).toArray 48 :: pt b4 #[.slice none 0 0, .slice none 0 0] 29 :: pt b3 #[.int .i64 kind, .int .u64 ((ses : Nat) : Int), .int .u64 ((seq : Nat) : Int), str word, .int .i64 wt] 31 :: pt b2 #[.slice aW W.length cW, .slice (some a68) rows.length cR] 29 :: hs) rfl ?_
       refine fin hT 1 rfl (th (sq (rg ?_)))
       refine ldp hT 2 4 rfl rfl rfl ?_
       refine ar hT 0 rfl (v' := .int .u64 ((ses - 1 : Nat) : Int)) (by rw [u64w (by omega)]; congr 1; omega) ?_
       refine ldp hT 1 4 rfl rfl rfl ?_
       refine ldS hT 0 1 rfl rfl (by kernel_rfl) ?_
       refine bd hT 0 (.agg (rwV ⟨seq, ⟨f.2.2, 0, f.2.1⟩⟩).toArray) rfl (fun w => by kernel_rfl) ?_
       refine ixs hT 0 (ses - 1) rfl rfl wv (by omega) (by decide) fun a128 e128 => ?_
       cases e128
       simp only [add_mk]
       refine sts hT 0 0 rfl rfl (by kernel_rfl) (by simp [rwV, anV]; omega) (rwR_one _ _ rfl) ?_
       refine fin hT 0 rfl (th (sq (rga [pt b11 (anV ⟨f.2.2, 0, f.2.1⟩).toArray 48] 6 [0, 2, 4, 6, 9, 11] (by simp) (by kernel_rfl) (by kernel_rfl) ?_)))
       refine dbd hT (by kernel_rfl) 2 (.agg #[.slice aW3 f.1.length cW3, .slice (some ⟨gb, off, none⟩) rows.length c119]) rfl (fun w => by kernel_rfl) ?_
       refine dldS hT (by kernel_rfl) 0 0 rfl (by kernel_rfl) rfl (by kernel_rfl) ?_
       refine dact hT (by kernel_rfl) 0 rfl ?_
       refine stS hT 0 3 rfl rfl (by kernel_rfl) rfl rfl ?_
       refine dnex [pt b11 (anV ⟨f.2.2, 0, f.2.1⟩).toArray 48] (by simp) (by simp) rfl ?_
       refine dact hT (by kernel_rfl) 0 rfl ?_
       refine stS hT 0 2 rfl rfl (by kernel_rfl) rfl rfl ?_
       refine dnex [pt b11 (anV ⟨f.2.2, 0, f.2.1⟩).toArray 48] (by simp) (by simp) rfl ?_
       refine dend hT (by kernel_rfl) 0 rfl (th (rt ?_))
       refine WQ.frz fun K4 le4 le5 => ?_
       refine retcc2 2 1 5 rfl rfl rfl rfl rfl (by kernel_rfl) (by kernel_rfl) ?_
       have hlen : (rows.set (ses - 1) ⟨seq, ⟨f.2.2, 0, f.2.1⟩⟩).length = rows.length := by simp
       exact ⟨le3.trans le4, rfl, aW3, cW3, some ⟨gb, off, none⟩, c119, by rw [hlen], x3.le le4 fun _ _ h => h, by rw [hlen]; exact o2.slS.le le5 fun _ _ h => h⟩
end Go.Proofs.YtejkjbkodcamoaaGreatDoor
end
section
namespace Go.Proofs.YtejkjbkodcamoaaGreatDoor
open Go.En
attribute [local irreducible] Code.wp wpList Calls
abbrev fv (g : Nat) : Value := .func (.func g) #[] #[]
abbrev fc (g b : Nat) : Value := .func (.func g) #[] #[Ptr b]
abbrev numV (b : Nat) : List Value := [fc 66 b, fc 67 b, fc 68 b]
abbrev placeV (b : Nat) : List Value := [fc 77 b, fc 78 b, fc 79 b]
abbrev goodV : List Value := [fv 69, fv 70, fv 71]
abbrev entsV : List Value := [fv 72, fv 74, fv 76]
abbrev votV : List Value := [fv 80, fv 82, fv 84]
abbrev dataV : List Value := [fv 85, fv 86, fv 87]
def NumC (K : PH) (g : Nat) (cs : List Value) : Prop := ∃ b, K b = some (capC 108 g) /\ cs = numV b
def PlaceC (K : PH) (g : Nat) (cs : List Value) : Prop := ∃ b, K b = some (capC 111 g) /\ cs = placeV b
def FV (K : PH) (cs : List Value) : Fld -> Prop
 | .idx => NumC K 40 cs
 | .lt => NumC K 41 cs
 | .com => NumC K 43 cs
 | .rnd => NumC K 44 cs
 | .off => PlaceC K 47 cs
 | .whole => PlaceC K 48 cs
 | .good => cs = goodV
 | .ents => cs = entsV
 | .vot => cs = votV
 | .data => cs = dataV
theorem FV.le {K K' : PH} (l : Le K K') {cs : List Value} {f : Fld} (h : FV K cs f) : FV K' cs f := by
 cases f <;> first | exact h | (obtain ⟨b, h1, h2⟩ := h; exact ⟨b, l _ _ h1, h2⟩)
theorem capLe {K' : PH} {b ty g : Nat} (l : Le (pt b #[fv g] ty) K') : K' b = some (capC ty g) := l _ _ (by simp)
def FldsS (K : PH) (ao : Option Addr) (cap : Nat) (fs : List Fld) : Prop := ∃ css : List (List Value), IsS K ao fs.length cap 3 css.flatten /\ All2 (FV K) css fs
theorem FldsS.mk {K' : PH} {b n : Nat} {css : List (List Value)} {fs : List Fld} (hn : fs.length = n) (h : All2 (FV K') css fs) (hc : css.flatten.length = n * 3) (h' : n <= 10) (l : Le (pt b css.flatten.toArray 70) K') : FldsS K' (some ⟨b, 0, none⟩) n fs := by
 subst hn
 refine ⟨css, ?_, h⟩
 have := (Own.ofPt (b := b) (c := css.flatten.toArray) (e := 70) (n := fs.length) (size := 3) (by simpa using hc) (by simp only [maxLen]; omega)).isS.le l
 simpa using this
theorem numFC {w0 : World} {K : PH} {hs : List PH} (g : Nat) : Ct Tryz.prog w0 39 [fv g] K hs
  (fun v K' hs' => K' = K /\ ∃ b, hs' = pt b #[fv g] 108 :: hs /\ v = .agg #[fc 66 b, fc 67 b, fc 68 b]) := by
 refine enter Tryz.func39 (by kernel_rfl) rfl rfl rfl ?_
 refine sq (rg ?_)
 refine bx hT 0 rfl fun b1 => ?_
 refine al hT 0 (.agg #[.nilFunc, .nilFunc, .nilFunc]) rfl (by kernel_rfl) fun b2 => ?_
 refine fin hT 0 rfl (th (sq (rg ?_)))
 refine bd hT 3 (.agg #[fc 66 b1, fc 67 b1, fc 68 b1]) rfl (fun w => by kernel_rfl) ?_
 refine stS hT 0 0 rfl rfl (by kernel_rfl) rfl rfl ?_
 refine fin hT 0 rfl (th (rt ?_))
 exact retcA 0 1 rfl rfl rfl (by kernel_rfl) ⟨rfl, b1, rfl, rfl⟩
theorem plcFC {w0 : World} {K : PH} {hs : List PH} (g : Nat) : Ct Tryz.prog w0 46 [fv g] K hs
  (fun v K' hs' => K' = K /\ ∃ b, hs' = pt b #[fv g] 111 :: hs /\ v = .agg #[fc 77 b, fc 78 b, fc 79 b]) := by
 refine enter Tryz.func46 (by kernel_rfl) rfl rfl rfl ?_
 refine sq (rg ?_)
 refine bx hT 0 rfl fun b1 => ?_
 refine al hT 0 (.agg #[.nilFunc, .nilFunc, .nilFunc]) rfl (by kernel_rfl) fun b2 => ?_
 refine fin hT 0 rfl (th (sq (rg ?_)))
 refine bd hT 3 (.agg #[fc 77 b1, fc 78 b1, fc 79 b1]) rfl (fun w => by kernel_rfl) ?_
 refine stS hT 0 0 rfl rfl (by kernel_rfl) rfl rfl ?_
 refine fin hT 0 rfl (th (rt ?_))
 exact retcA 0 1 rfl rfl rfl (by kernel_rfl) ⟨rfl, b1, rfl, rfl⟩
theorem goodFC {w0 : World} {K : PH} {hs : List PH} : Ct Tryz.prog w0 42 [] K hs
  (fun v K' hs' => K' = K /\ hs' = hs /\ v = .agg #[fv 69, fv 70, fv 71]) := by
 refine enter Tryz.func42 (by kernel_rfl) rfl rfl rfl ?_
 refine sq (rg ?_)
 refine al hT 0 (.agg #[.nilFunc, .nilFunc, .nilFunc]) rfl (by kernel_rfl) fun b0 => ?_
 refine fin hT 0 rfl (th (sq (rg ?_)))
 refine bd hT 0 (.agg #[fv 69, fv 70, fv 71]) rfl (fun w => by kernel_rfl) ?_
 refine stS hT 0 0 rfl rfl (by kernel_rfl) rfl rfl ?_
 refine fin hT 0 rfl (th (rt ?_))
 exact retcA 0 1 rfl rfl rfl (by kernel_rfl) ⟨rfl, rfl, rfl⟩
theorem entriesFC {w0 : World} {K : PH} {hs : List PH} : Ct Tryz.prog w0 45 [] K hs
  (fun v K' hs' => K' = K /\ hs' = hs /\ v = .agg #[fv 72, fv 74, fv 76]) := by
 refine enter Tryz.func45 (by kernel_rfl) rfl rfl rfl ?_
 refine sq (rg ?_)
 refine al hT 0 (.agg #[.nilFunc, .nilFunc, .nilFunc]) rfl (by kernel_rfl) fun b0 => ?_
 refine fin hT 0 rfl (th (sq (rg ?_)))
 refine bd hT 0 (.agg #[fv 72, fv 74, fv 76]) rfl (fun w => by kernel_rfl) ?_
 refine stS hT 0 0 rfl rfl (by kernel_rfl) rfl rfl ?_
 refine fin hT 0 rfl (th (rt ?_))
 exact retcA 0 1 rfl rfl rfl (by kernel_rfl) ⟨rfl, rfl, rfl⟩
theorem votersFC {w0 : World} {K : PH} {hs : List PH} : Ct Tryz.prog w0 49 [] K hs
  (fun v K' hs' => K' = K /\ hs' = hs /\ v = .agg #[fv 80, fv 82, fv 84]) := by
 refine enter Tryz.func49 (by kernel_rfl) rfl rfl rfl ?_
 refine sq (rg ?_)
 refine al hT 0 (.agg #[.nilFunc, .nilFunc, .nilFunc]) rfl (by kernel_rfl) fun b0 => ?_
 refine fin hT 0 rfl (th (sq (rg ?_)))
 refine bd hT 0 (.agg #[fv 80, fv 82, fv 84]) rfl (fun w => by kernel_rfl) ?_
 refine stS hT 0 0 rfl rfl (by kernel_rfl) rfl rfl ?_
 refine fin hT 0 rfl (th (rt ?_))
 exact retcA 0 1 rfl rfl rfl (by kernel_rfl) ⟨rfl, rfl, rfl⟩
theorem dataFC {w0 : World} {K : PH} {hs : List PH} : Ct Tryz.prog w0 50 [] K hs
  (fun v K' hs' => K' = K /\ hs' = hs /\ v = .agg #[fv 85, fv 86, fv 87]) := by
 refine enter Tryz.func50 (by kernel_rfl) rfl rfl rfl ?_
 refine sq (rg ?_)
 refine al hT 0 (.agg #[.nilFunc, .nilFunc, .nilFunc]) rfl (by kernel_rfl) fun b0 => ?_
 refine fin hT 0 rfl (th (sq (rg ?_)))
 refine bd hT 0 (.agg #[fv 85, fv 86, fv 87]) rfl (fun w => by kernel_rfl) ?_
 refine stS hT 0 0 rfl rfl (by kernel_rfl) rfl rfl ?_
 refine fin hT 0 rfl (th (rt ?_))
 exact retcA 0 1 rfl rfl rfl (by kernel_rfl) ⟨rfl, rfl, rfl⟩
theorem bare_iff (m : Msg) (p : MA) : ((((((((((m.idx : Nat) : Int) = 0 /\ ((m.lt : Nat) : Int) = 0) /\ ((m.com : Nat) : Int) = 0) /\ ((m.rnd : Nat) : Int) = 0) /\ ¬ m.good = true) /\ m.off = 0) /\ m.whole = 0) /\ ((m.ents.length : Nat) : Int) = 0) /\ ((m.vot.length : Nat) : Int) = 0) /\ ((m.data.length : Nat) : Int) = 0 ↔ bareP m := by
 unfold bareP
 have h1 : ∀ {α : Type} (l : List α), ((l.length : Nat) : Int) = 0 ↔ l = [] := fun l => by rw [<- List.length_eq_zero_iff]; omega
 have h2 : ∀ n : Nat, ((n : Nat) : Int) = 0 ↔ n = 0 := fun n => by omega
 rw [h1, h1, h1, h2, h2, h2, h2]
 simp only [and_assoc, Bool.not_eq_true]
theorem fieldsC {w0 : World} {K : PH} {hs : List PH} (k : Int) : Ct Tryz.prog w0 17 [.int .i64 k] K hs
  (fun v K' hs' => Le K K' /\ hs' = hs /\ ∃ ao cap, v = .slice ao (fieldsOf k).length cap /\ FldsS K' ao cap (fieldsOf k)) := by
 refine enter Tryz.func17 (by kernel_rfl) rfl rfl rfl ?_
 refine sq (rg ?_)
 refine fin hT 1 rfl (th (sq (sq (rg ?_))))
 refine fin hT 1 rfl (th (bk (sq (rg ?_))))
 refine cmpS hT 0 rfl fun b5 h5 => ?_
 refine fin hT 1 rfl (th (ifP h5 rfl (fun e2 => ?_) (fun e2 => ?_)))
 ·refine sq (rg ?_)
  refine cl hT 0 rfl (numFC 40) ?_
  rintro v6 K6 hs6 ⟨rfl, c6, rfl, rfl⟩
  refine cl hT 0 rfl (numFC 41) ?_
  rintro v7 K7 hs7 ⟨rfl, c7, rfl, rfl⟩
  refine lit hT 0 #[fc 66 c6, fc 67 c6, fc 68 c6, fc 66 c7, fc 67 c7, fc 68 c7] rfl (by decide) (by kernel_rfl) fun b8 => ?_
  refine fin hT 1 rfl (th (rt (rB (rT ?_))))
  refine WQ.frz fun KL leKL leHL => (WQ.frz fun K7 leK7 leH7 => (WQ.frz fun K6 leK6 leH6 => ?_))
  exact ret1 rfl rfl ⟨((leKL.trans leK7).trans leK6), rfl, some ⟨b8, 0, none⟩, 2, by rw [fieldsOf, if_pos e2]; rfl, by rw [fieldsOf, if_pos e2]; exact FldsS.mk (css := [numV c6, numV c7]) rfl ⟨⟨c6, capLe leH6, rfl⟩, ⟨c7, capLe (leH7.trans leK6), rfl⟩, trivial⟩ rfl (by decide) ((leHL.trans leK7).trans leK6)⟩
 ·refine sq (rg ?_)
  refine cmpS hT 0 rfl fun b10 h10 => ?_
  refine fin hT 1 rfl (th (ifP h10 rfl (fun e4 => ?_) (fun e4 => ?_)))
  ·refine sq (rg ?_)
   refine cl hT 0 rfl goodFC ?_
   rintro v11 K11 hs11 ⟨rfl, rfl, rfl⟩
   refine lit hT 0 #[fv 69, fv 70, fv 71] rfl (by decide) (by kernel_rfl) fun b12 => ?_
   refine fin hT 1 rfl (th (rt (rB (rT ?_))))
   refine WQ.frz fun KL leKL leHL => ?_
   exact ret1 rfl rfl ⟨leKL, rfl, some ⟨b12, 0, none⟩, 1, by rw [fieldsOf, if_neg e2, if_pos e4]; rfl, by rw [fieldsOf, if_neg e2, if_pos e4]; exact FldsS.mk (css := [goodV]) rfl ⟨rfl, trivial⟩ rfl (by decide) leHL⟩
  ·refine sq (rg ?_)
   refine cmpS hT 0 rfl fun b14 h14 => ?_
   refine fin hT 1 rfl (th (ifP h14 rfl (fun e6 => ?_) (fun e6 => ?_)))
   ·refine sq (rg ?_)
    refine cl hT 0 rfl (numFC 40) ?_
    rintro v15 K15 hs15 ⟨rfl, c15, rfl, rfl⟩
    refine cl hT 0 rfl (numFC 41) ?_
    rintro v16 K16 hs16 ⟨rfl, c16, rfl, rfl⟩
    refine cl hT 0 rfl (numFC 43) ?_
    rintro v17 K17 hs17 ⟨rfl, c17, rfl, rfl⟩
    refine cl hT 0 rfl (numFC 44) ?_
    rintro v18 K18 hs18 ⟨rfl, c18, rfl, rfl⟩
    refine cl hT 0 rfl entriesFC ?_
    rintro v19 K19 hs19 ⟨rfl, rfl, rfl⟩
    refine lit hT 0 #[fc 66 c15, fc 67 c15, fc 68 c15, fc 66 c16, fc 67 c16, fc 68 c16, fc 66 c17, fc 67 c17, fc 68 c17, fc 66 c18, fc 67 c18, fc 68 c18, fv 72, fv 74, fv 76] rfl (by decide) (by kernel_rfl) fun b20 => ?_
    refine fin hT 1 rfl (th (rt (rB (rT ?_))))
    refine WQ.frz fun KL leKL leHL => (WQ.frz fun K18 leK18 leH18 => (WQ.frz fun K17 leK17 leH17 => (WQ.frz fun K16 leK16 leH16 => (WQ.frz fun K15 leK15 leH15 => ?_))))
    exact ret1 rfl rfl ⟨((((leKL.trans leK18).trans leK17).trans leK16).trans leK15), rfl, some ⟨b20, 0, none⟩, 5, by rw [fieldsOf, if_neg e2, if_neg e4, if_pos e6]; rfl, by rw [fieldsOf, if_neg e2, if_neg e4, if_pos e6]; exact FldsS.mk (css := [numV c15, numV c16, numV c17, numV c18, entsV]) rfl ⟨⟨c15, capLe leH15, rfl⟩, ⟨c16, capLe (leH16.trans leK15), rfl⟩, ⟨c17, capLe ((leH17.trans leK16).trans leK15), rfl⟩, ⟨c18, capLe (((leH18.trans leK17).trans leK16).trans leK15), rfl⟩, rfl, trivial⟩ rfl (by decide) ((((leHL.trans leK18).trans leK17).trans leK16).trans leK15)⟩
   ·refine sq (rg ?_)
    refine cmpS hT 0 rfl fun b22 h22 => ?_
    refine fin hT 1 rfl (th (ifP h22 rfl (fun e8 => ?_) (fun e8 => ?_)))
    ·refine sq (rg ?_)
     refine cl hT 0 rfl goodFC ?_
     rintro v23 K23 hs23 ⟨rfl, rfl, rfl⟩
     refine cl hT 0 rfl (numFC 40) ?_
     rintro v24 K24 hs24 ⟨rfl, c24, rfl, rfl⟩
     refine cl hT 0 rfl (numFC 44) ?_
     rintro v25 K25 hs25 ⟨rfl, c25, rfl, rfl⟩
     refine lit hT 0 #[fv 69, fv 70, fv 71, fc 66 c24, fc 67 c24, fc 68 c24, fc 66 c25, fc 67 c25, fc 68 c25] rfl (by decide) (by kernel_rfl) fun b26 => ?_
     refine fin hT 1 rfl (th (rt (rB (rT ?_))))
     refine WQ.frz fun KL leKL leHL => (WQ.frz fun K25 leK25 leH25 => (WQ.frz fun K24 leK24 leH24 => ?_))
     exact ret1 rfl rfl ⟨((leKL.trans leK25).trans leK24), rfl, some ⟨b26, 0, none⟩, 3, by rw [fieldsOf, if_neg e2, if_neg e4, if_neg e6, if_pos e8]; rfl, by rw [fieldsOf, if_neg e2, if_neg e4, if_neg e6, if_pos e8]; exact FldsS.mk (css := [goodV, numV c24, numV c25]) rfl ⟨rfl, ⟨c24, capLe leH24, rfl⟩, ⟨c25, capLe (leH25.trans leK24), rfl⟩, trivial⟩ rfl (by decide) ((leHL.trans leK25).trans leK24)⟩
    ·refine sq (rg ?_)
     refine cmpS hT 0 rfl fun b28 h28 => ?_
     refine fin hT 1 rfl (th (ifP h28 rfl (fun e10 => ?_) (fun e10 => ?_)))
     ·refine sq (rg ?_)
      refine cl hT 0 rfl (numFC 40) ?_
      rintro v29 K29 hs29 ⟨rfl, c29, rfl, rfl⟩
      refine cl hT 0 rfl (numFC 41) ?_
      rintro v30 K30 hs30 ⟨rfl, c30, rfl, rfl⟩
      refine cl hT 0 rfl (plcFC 47) ?_
      rintro v31 K31 hs31 ⟨rfl, c31, rfl, rfl⟩
      refine cl hT 0 rfl (plcFC 48) ?_
      rintro v32 K32 hs32 ⟨rfl, c32, rfl, rfl⟩
      refine cl hT 0 rfl votersFC ?_
      rintro v33 K33 hs33 ⟨rfl, rfl, rfl⟩
      refine cl hT 0 rfl dataFC ?_
      rintro v34 K34 hs34 ⟨rfl, rfl, rfl⟩
      refine lit hT 0 #[fc 66 c29, fc 67 c29, fc 68 c29, fc 66 c30, fc 67 c30, fc 68 c30, fc 77 c31, fc 78 c31, fc 79 c31, fc 77 c32, fc 78 c32, fc 79 c32, fv 80, fv 82, fv 84, fv 85, fv 86, fv 87] rfl (by decide) (by kernel_rfl) fun b35 => ?_
      refine fin hT 1 rfl (th (rt (rB (rT ?_))))
      refine WQ.frz fun KL leKL leHL => (WQ.frz fun K32 leK32 leH32 => (WQ.frz fun K31 leK31 leH31 => (WQ.frz fun K30 leK30 leH30 => (WQ.frz fun K29 leK29 leH29 => ?_))))
      exact ret1 rfl rfl ⟨((((leKL.trans leK32).trans leK31).trans leK30).trans leK29), rfl, some ⟨b35, 0, none⟩, 6, by rw [fieldsOf, if_neg e2, if_neg e4, if_neg e6, if_neg e8, if_pos e10]; rfl, by rw [fieldsOf, if_neg e2, if_neg e4, if_neg e6, if_neg e8, if_pos e10]; exact FldsS.mk (css := [numV c29, numV c30, placeV c31, placeV c32, votV, dataV]) rfl ⟨⟨c29, capLe leH29, rfl⟩, ⟨c30, capLe (leH30.trans leK29), rfl⟩, ⟨c31, capLe ((leH31.trans leK30).trans leK29), rfl⟩, ⟨c32, capLe (((leH32.trans leK31).trans leK30).trans leK29), rfl⟩, rfl, rfl, trivial⟩ rfl (by decide) ((((leHL.trans leK32).trans leK31).trans leK30).trans leK29)⟩
     ·refine sq (rg ?_)
      refine cmpS hT 0 rfl fun b37 h37 => ?_
      refine fin hT 1 rfl (th (ifP h37 rfl (fun e12 => ?_) (fun e12 => ?_)))
      ·refine sq (rg ?_)
       refine cl hT 0 rfl (numFC 40) ?_
       rintro v38 K38 hs38 ⟨rfl, c38, rfl, rfl⟩
       refine cl hT 0 rfl (plcFC 47) ?_
       rintro v39 K39 hs39 ⟨rfl, c39, rfl, rfl⟩
       refine lit hT 0 #[fc 66 c38, fc 67 c38, fc 68 c38, fc 77 c39, fc 78 c39, fc 79 c39] rfl (by decide) (by kernel_rfl) fun b40 => ?_
       refine fin hT 1 rfl (th (rt (rB (rT ?_))))
       refine WQ.frz fun KL leKL leHL => (WQ.frz fun K39 leK39 leH39 => (WQ.frz fun K38 leK38 leH38 => ?_))
       exact ret1 rfl rfl ⟨((leKL.trans leK39).trans leK38), rfl, some ⟨b40, 0, none⟩, 2, by rw [fieldsOf, if_neg e2, if_neg e4, if_neg e6, if_neg e8, if_neg e10, if_pos e12]; rfl, by rw [fieldsOf, if_neg e2, if_neg e4, if_neg e6, if_neg e8, if_neg e10, if_pos e12]; exact FldsS.mk (css := [numV c38, placeV c39]) rfl ⟨⟨c38, capLe leH38, rfl⟩, ⟨c39, capLe (leH39.trans leK38), rfl⟩, trivial⟩ rfl (by decide) ((leHL.trans leK39).trans leK38)⟩
      ·refine sk (bl (th (sq (rg ?_))))
       refine fin hT 1 rfl (th (rt ?_))
       exact ret1 rfl rfl ⟨Le.refl _, rfl, none, 0, by rw [fieldsOf, if_neg e2, if_neg e4, if_neg e6, if_neg e8, if_neg e10, if_neg e12]; rfl, [], by rw [fieldsOf, if_neg e2, if_neg e4, if_neg e6, if_neg e8, if_neg e10, if_neg e12]; exact IsS.nil _ _ _ _, by rw [fieldsOf, if_neg e2, if_neg e4, if_neg e6, if_neg e8, if_neg e10, if_neg e12]; trivial⟩
theorem placedC {w0 : World} {K : PH} {hs : List PH} (n : Int) : Ct Tryz.prog w0 18 [.int .i64 n] K hs (fun v K' hs' => K' = K /\ hs' = hs /\ ∃ t : Bool, v = .bool t /\ (t = true ↔ placedP n)) := by
 refine enter Tryz.func18 (by kernel_rfl) rfl rfl rfl ?_
 refine sq (rg ?_)
 refine fin hT 1 rfl (th (sq (rg ?_)))
 refine cmpS hT 1 rfl fun b4 h4 => ?_
 refine' bja hT 1 3 8 [4, 5] h4 rfl rfl rfl rfl rfl rfl rfl (fun _ => ?x2) (fun b8 h8 => ?_)
 case x2 =>
  refine cmpS hT 1 rfl fun b7 h7 => ?_
  exact fin hT 1 rfl (bjx h7 rfl rfl rfl)
 refine fin hT 1 rfl (th (rt ?_))
 exact ret1 rfl rfl ⟨rfl, rfl, b8, rfl, h8⟩
theorem bareC {w0 : World} {K : PH} {hs : List PH} (m : Msg) (p : MA) : Ct Tryz.prog w0 19 [.agg (mv m p)] K hs (fun v K' hs' => K' = K /\ hs' = hs /\ ∃ t : Bool, v = .bool t /\ (t = true ↔ bareP m)) := by
 refine enter Tryz.func19 (by kernel_rfl) rfl rfl rfl ?_
 refine sq (rg ?_)
 refine bx hT 0 rfl fun b1 => ?_
 refine fin hT 1 rfl (th (sq (rg ?_)))
 refine ldp hT 1 0 rfl rfl rfl ?_
 refine cmpS hT 0 rfl fun b5 h5 => ?_
 refine' bja hT 1 4 10 [5, 6] h5 rfl rfl rfl rfl rfl rfl rfl (fun _ => ?x2) (fun b10 h10 => ?_)
 case x2 =>
  refine ldp hT 1 0 rfl rfl rfl ?_
  refine cmpS hT 0 rfl fun b9 h9 => ?_
  exact fin hT 1 rfl (bjx h9 rfl rfl rfl)
 refine' bja hT 1 4 15 [10, 11] h10 rfl rfl rfl rfl rfl rfl rfl (fun _ => ?x4) (fun b15 h15 => ?_)
 case x4 =>
  refine ldp hT 1 0 rfl rfl rfl ?_
  refine cmpS hT 0 rfl fun b14 h14 => ?_
  exact fin hT 1 rfl (bjx h14 rfl rfl rfl)
 refine' bja hT 1 4 20 [15, 16] h15 rfl rfl rfl rfl rfl rfl rfl (fun _ => ?x6) (fun b20 h20 => ?_)
 case x6 =>
  refine ldp hT 1 0 rfl rfl rfl ?_
  refine cmpS hT 0 rfl fun b19 h19 => ?_
  exact fin hT 1 rfl (bjx h19 rfl rfl rfl)
 refine' bja hT 1 4 25 [20, 21] h20 rfl rfl rfl rfl rfl rfl rfl (fun _ => ?x8) (fun b25 h25 => ?_)
 case x8 =>
  refine ldp hT 1 0 rfl rfl rfl ?_
  refine nmS fun b23 h23 => ?_
  refine cbS hT 0 _ rfl (bnot h23) fun b24 h24 => ?_
  exact fin hT 1 rfl (bjx h24 rfl rfl rfl)
 refine' bja hT 1 4 30 [25, 26] h25 rfl rfl rfl rfl rfl rfl rfl (fun _ => ?x9) (fun b30 h30 => ?_)
 case x9 =>
  refine ldp hT 1 0 rfl rfl rfl ?_
  refine cmpS hT 0 rfl fun b29 h29 => ?_
  exact fin hT 1 rfl (bjx h29 rfl rfl rfl)
 refine' bja hT 1 4 35 [30, 31] h30 rfl rfl rfl rfl rfl rfl rfl (fun _ => ?x11) (fun b35 h35 => ?_)
 case x11 =>
  refine ldp hT 1 0 rfl rfl rfl ?_
  refine cmpS hT 0 rfl fun b34 h34 => ?_
  exact fin hT 1 rfl (bjx h34 rfl rfl rfl)
 refine' bja hT 1 5 41 [35, 36] h35 rfl rfl rfl rfl rfl rfl rfl (fun _ => ?x13) (fun b41 h41 => ?_)
 case x13 =>
  refine ldp hT 1 0 rfl rfl rfl ?_
  refine cmpS hT 1 rfl fun b40 h40 => ?_
  exact fin hT 1 rfl (bjx h40 rfl rfl rfl)
 refine' bja hT 1 5 47 [41, 42] h41 rfl rfl rfl rfl rfl rfl rfl (fun _ => ?x15) (fun b47 h47 => ?_)
 case x15 =>
  refine ldp hT 1 0 rfl rfl rfl ?_
  refine cmpS hT 1 rfl fun b46 h46 => ?_
  exact fin hT 1 rfl (bjx h46 rfl rfl rfl)
 refine' bja hT 1 5 53 [47, 48] h47 rfl rfl rfl rfl rfl rfl rfl (fun _ => ?x17) (fun b53 h53 => ?_)
 case x17 =>
  refine ldp hT 1 0 rfl rfl rfl ?_
  refine cmpS hT 1 rfl fun b52 h52 => ?_
  exact fin hT 1 rfl (bjx h52 rfl rfl rfl)
 refine fin hT 1 rfl (th (rt ?_))
 refine WQ.drop ?_
 exact ret1 rfl rfl ⟨rfl, rfl, b53, rfl, h53.trans (bare_iff m p)⟩
theorem equalC {w0 : World} {K h1 h2 : PH} {hs : List PH} (a1 a2 : Option Addr) (c1 c2 : Nat) (l1 l2 : List UInt8) (m1 : In K hs h1) (m2 : In K hs h2) (x1 : IsS h1 a1 l1.length c1 1 (bv l1)) (x2 : IsS h2 a2 l2.length c2 1 (bv l2)) (hl : l1.length < 1099511627776) :
  Ct Tryz.prog w0 26 [.slice a1 l1.length c1, .slice a2 l2.length c2] K hs (fun v K' hs' => K' = K /\ hs' = hs /\ ∃ b : Bool, v = .bool b /\ (b = true ↔ l1 = l2)) := by
 refine enter Tryz.func26 (by kernel_rfl) rfl rfl rfl ?_
 refine sq (rg ?_)
 refine fin hT 1 rfl (th (sq (sq (rg ?_))))
 refine cmpS hT 4 rfl fun b10 h10 => ?_
 refine fin hT 0 rfl (th (ifP h10 rfl (fun e2 => ?_) (fun e2 => ?_)))
 ·refine sq (rg ?_)
  refine fin hT 1 rfl (th (rt (rT ?_)))
  exact ret1 rfl rfl ⟨rfl, rfl, false, rfl, by simp; intro h; subst h; exact e2 rfl⟩
 ·have hll : l1.length = l2.length := by omega
  refine sk (th (sq (sq (rg ?_))))
  refine fin hT 3 rfl (th (bk ?_))
  refine loop (σ := Nat) (fun i => [(0, .slice a1 l1.length c1), (1, .slice a2 l2.length c2), (12, .int .i64 (l1.length : Nat)), (13, .int .i64 (i : Nat))]) (fun _ => K) (fun _ => hs) (fun i => i <= l1.length /\ l1.take i = l2.take i) (fun i => l1.length - i) 0 ⟨Nat.zero_le _, rfl⟩ ⟨rfl, rfl, rfl, rfl, trivial⟩ rfl rfl ?_
  rintro i ⟨hi, he⟩
  refine sq (rg ?_)
  refine cmpS hT 0 rfl fun b14 h14 => ?_
  refine fin hT 0 rfl (th (sq (ifP h14 rfl (fun e4 => ?_) (fun e4 => ?_))))
  ·have hi1 : i < l1.length := by omega
   refine sk (th (sq (bk (sq (rg ?_)))))
   have hi2 : i < l2.length := by omega
   obtain ⟨a1, rfl⟩ := x1.addr hi1 (by decide)
   obtain ⟨a2, rfl⟩ := x2.addr hi2 (by decide)
   obtain ⟨a1', ha1, hc1⟩ := x1.2.2 i _ (bv_get hi1)
   obtain ⟨a2', ha2, hc2⟩ := x2.2.2 i _ (bv_get hi2)
   cases ha1
   cases ha2
   refine fin hT 2 rfl (th (sq (rga hs 9 [0, 2, 4, 6, 8, 10, 12, 14, 16] (by simp) (by kernel_rfl) (by kernel_rfl) ?_)))
   refine dixs hT (by kernel_rfl) 2 i rfl rfl hi1 ?_
   refine dld hT (by kernel_rfl) 0 rfl m1 (by simpa using hc1) ?_
   refine dixs hT (by kernel_rfl) 2 i rfl rfl hi2 ?_
   refine dld hT (by kernel_rfl) 0 rfl m2 (by simpa using hc2) ?_
   refine dcbS hT (by kernel_rfl) 0 (((l1[i].toNat : Nat) : Int) ≠ (l2[i].toNat : Nat)) rfl (by simp) fun b24 h24 => ?_
   refine dend hT (by kernel_rfl) 0 rfl (th (ifP h24 rfl (fun e5 => ?_) (fun e5 => ?_)))
   ·refine sq (rg ?_)
    refine fin hT 1 rfl (th (rt (rB (rT (rT (rB (rT ?_)))))))
    exact ret1 rfl rfl ⟨rfl, rfl, false, rfl, by simp; intro h; subst h; exact e5 rfl⟩
   ·refine sk (bl (th (rg ?_)))
    refine ar hT 0 rfl (i64w (by omega)) ?_
    refine fin hT 1 rfl ?_
    exact again (x := i) (i + 1) ⟨rfl, rfl, rfl, rfl, trivial⟩ rfl rfl ⟨by omega, by rw [take_succ_get l1 i hi1, take_succ_get l2 i hi2, he, UInt8.toNat_inj.1 (Int.ofNat_inj.1 (Decidable.not_not.1 e5))]⟩ (by (try dsimp only); omega)
  ·obtain rfl : i = l1.length := by omega
   refine ex (xt (xt (xb (th (sq (rg ?_))))))
   refine fin hT 1 rfl (th (rt ?_))
   exact ret1 rfl rfl ⟨rfl, rfl, true, rfl, by simp; rw [List.take_of_length_le (Nat.le_refl _), hll, List.take_of_length_le (Nat.le_refl _)] at he; exact he⟩
end Go.Proofs.YtejkjbkodcamoaaGreatDoor
namespace Go.Proofs.YtejkjbkodcamoaaGreatDoor
open Go.En
attribute [local irreducible] Code.wp wpList Calls
theorem pby_len {m : Msg} {f : Fld} (h : f.pok m) (hbd : m.bd) : (f.pby m).length <= 2200 := by
 have hmx : mxU = 18446744073709551615 := rfl
 have e1 := uint_le10 (n := m.idx) (by have := hbd.idx; omega)
 have e2 := uint_le10 (n := m.lt) (by have := hbd.lt; omega)
 have e3 := uint_le10 (n := m.com) (by have := hbd.com; omega)
 have e4 := uint_le10 (n := m.rnd) (by have := hbd.rnd; omega)
 have e5 := uint_le10 (u64of_lt m.off)
 have e6 := uint_le10 (u64of_lt m.whole)
 cases f
 case idx => simp only [Fld.pby]; omega
 case lt => simp only [Fld.pby]; omega
 case com => simp only [Fld.pby]; omega
 case rnd => simp only [Fld.pby]; omega
 case off => simp only [Fld.pby]; omega
 case whole => simp only [Fld.pby]; omega
 case good => simp [Fld.pby]
 case ents =>
  obtain ⟨h1, h2⟩ := h
  have h3 := entsBytes_len m.idx m.ents 0 h1 (fun e he => ⟨(hbd.ents e he).1, (hbd.ents e he).2.1⟩)
  have h4 := uint_le10 (n := m.ents.length) (by omega)
  simp only [Fld.pby, List.length_append]
  omega
 case vot => have := ob_conf_len m.vot; simp only [Fld.pby]; omega
 case data =>
  have h1 := h.1
  have h4 := uint_le10 (n := m.data.length) (by omega)
  simp only [Fld.pby, putBytes, List.length_append]
  omega
theorem pbyAll_len {m : Msg} (hbd : m.bd) : ∀ {fs : List Fld}, (∀ f ∈ fs, f.pok m) -> (pbyAll m fs).length <= 2200 * fs.length
 | [], _ => by simp [pbyAll]
 | f :: fs, h => by
  have h1 := pby_len (h f (by simp)) hbd
  have h2 := pbyAll_len hbd (fs := fs) (fun x hx => h x (by simp [hx]))
  simp only [pbyAll, List.length_append, List.length_cons]
  omega
theorem pbyAll_append (m : Msg) : ∀ l r : List Fld, pbyAll m (l ++ r) = pbyAll m l ++ pbyAll m r
 | [], r => rfl
 | f :: l, r => by simp [pbyAll, pbyAll_append m l r]
theorem clrAll_append : ∀ (l r : List Fld) (m : Msg), clrAll (l ++ r) m = clrAll r (clrAll l m)
 | [], r, m => rfl
 | f :: l, r, m => by simp [clrAll, clrAll_append l r]
theorem fieldsOf_len (k : Int) : (fieldsOf k).length <= 6 := by
 unfold fieldsOf
 repeat' split
 all_goals simp
theorem fieldsOf_kind {k : Int} (h : fieldsOf k ≠ []) : 1 <= k /\ k <= 6 := by
 unfold fieldsOf at h
 repeat' split at h
 all_goals first | omega | exact absurd rfl h
theorem hdr_len (m : Msg) (hbd : m.bd) : (hdr m).length <= 13 := by
 have hmx : mxU = 18446744073709551615 := rfl
 have e1 := uint_le10 (n := m.term) (by have := hbd.term; omega)
 simp only [hdr, List.length_cons]
 omega
theorem body_len {m : Msg} (hbd : m.bd) (h : ∀ f ∈ fieldsOf m.kind, f.pok m) : m.body.length <= 20000 := by
 have h1 := pbyAll_len hbd h
 have h2 := fieldsOf_len m.kind
 have h3 := hdr_len m hbd
 simp only [Msg.body, List.length_append]
 omega
theorem getD_take_succF (l : List Fld) (i : Nat) (h : i < l.length) (d : Fld) : l.take (i + 1) = l.take i ++ [l.getD i d] := by
 rw [take_succ_get l i h]; simp [List.getD, h]
def PutCt (K : PH) (f : Fld) (g : Nat) (cap : Array Value) : Prop := ∀ (w0 : World) (h : PH) (R : List PH) (mb : Nat) (m : Msg) (p : MA) (ao : Option Addr) (c1 : Nat) (bs : List UInt8), Own h ao bs.length c1 5 1 (bv bs) -> bs.length < 68719476736 -> MsgS K m p -> m.bd ->
 Ct Tryz.prog w0 g ([.slice ao bs.length c1, Ptr mb] ++ cap.toList) K (h :: pt mb (mv m p) 42 :: R) (PutR f m bs (pt mb (mv m p) 42 :: R) K)
def ClrCt (K : PH) (f : Fld) (g : Nat) (cap : Array Value) : Prop := ∀ (w0 : World) (R : List PH) (mb : Nat) (m : Msg) (p : MA), MsgS K m p ->
 Ct Tryz.prog w0 g ([Ptr mb] ++ cap.toList) K (pt mb (mv m p) 42 :: R) (fun v K' hs' => ∃ h', hs' = h' :: R /\ K' = K /\ ∃ p', h' = pt mb (mv (f.clr m) p') 42 /\ MsgS K (f.clr m) p')
def GetCt (K : PH) (f : Fld) (g : Nat) (cap : Array Value) : Prop := ∀ (w0 : World) (h hb : PH) (R : List PH) (rb mb ii : Nat) (m : Msg) (p : MA) (s : Rd), (f = .ents -> m.ents = [] /\ p.ae = none /\ p.ce = 0) -> R[ii]? = some hb -> s.1.length < 1099511627776 -> IsRd rb hb s h -> MsgS K m p ->
 Ct Tryz.prog w0 g ([Ptr rb, Ptr mb] ++ cap.toList) K (h :: pt mb (mv m p) 42 :: R) (GetR f s m p rb mb hb R K)
theorem put_num {K : PH} {g off cb : Nat} {f : Fld} (hs : ∀ w0, Sel w0 g off) (hc : K cb = some (capC 108 g)) (n : Msg -> Nat) (hn : ∀ m : Msg, m.bd -> n m <= mxU) (hv : ∀ m p, (mv m p)[off]? = some (.int .u64 (n m : Nat))) (hok : ∀ m, f.pok m) (hby : ∀ m, f.pby m = uint (n m)) :
  PutCt K f 66 #[Ptr cb] := by
 intro w0 h R mb m p ao c1 bs o hb hS hbd
 refine (numPut m p ao c1 bs o hb (hs w0) hc (n m) (hn m hbd) (hv m p)).mono ?_
 rintro v K' hs' ⟨rfl, h', ao', c', rfl, rfl, o'⟩
 exact ⟨rfl, h', ao', c', _, true, rfl, rfl, ⟨fun _ => hok m, fun _ => rfl⟩, fun _ => by rw [hby], o'⟩
theorem put_place {K : PH} {g off cb : Nat} {f : Fld} (hs : ∀ w0, Sel w0 g off) (hc : K cb = some (capC 111 g)) (n : Msg -> Int) (hv : ∀ m p, (mv m p)[off]? = some (.int .i64 (n m))) (hok : ∀ m, f.pok m ↔ 0 <= n m /\ n m <= 2097152) (hby : ∀ m, f.pby m = uint (u64of (n m))) :
  PutCt K f 77 #[Ptr cb] := by
 intro w0 h R mb m p ao c1 bs o hb hS hbd
 refine (placePut m p ao c1 bs o hb (hs w0) hc (n m) (hv m p)).mono ?_
 rintro v K' hs' ⟨rfl, h', ao', c', t, rfl, rfl, ht, o'⟩
 exact ⟨rfl, h', ao', c', _, t, rfl, rfl, ht.trans (hok m).symm, fun _ => by rw [hby], o'⟩
theorem clr_num {K : PH} {g off cb : Nat} {f : Fld} (hs : ∀ w0, Sel w0 g off) (hc : K cb = some (capC 108 g)) (hv : ∀ m p, ∃ u, (mv m p)[off]? = some u) (hm : ∀ m p, (mv m p).setIfInBounds off (.int .u64 0) = mv (f.clr m) p) (hS' : ∀ m p, MsgS K m p -> MsgS K (f.clr m) p) :
  ClrCt K f 68 #[Ptr cb] := by
 intro w0 R mb m p hS
 obtain ⟨u, hu⟩ := hv m p
 refine (numClr (mv m p) (hs w0) hc u hu).mono ?_
 rintro v K' hs' ⟨rfl, rfl⟩
 exact ⟨_, rfl, rfl, p, by rw [hm], hS' m p hS⟩
theorem clr_place {K : PH} {g off cb : Nat} {f : Fld} (hs : ∀ w0, Sel w0 g off) (hc : K cb = some (capC 111 g)) (hv : ∀ m p, ∃ u, (mv m p)[off]? = some u) (hm : ∀ m p, (mv m p).setIfInBounds off (.int .i64 0) = mv (f.clr m) p) (hS' : ∀ m p, MsgS K m p -> MsgS K (f.clr m) p) :
  ClrCt K f 79 #[Ptr cb] := by
 intro w0 R mb m p hS
 obtain ⟨u, hu⟩ := hv m p
 refine (placeClr (mv m p) (hs w0) hc u hu).mono ?_
 rintro v K' hs' ⟨rfl, rfl⟩
 exact ⟨_, rfl, rfl, p, by rw [hm], hS' m p hS⟩
theorem get_num {K : PH} {g off cb : Nat} {f : Fld} (hs : ∀ w0, Sel w0 g off) (hc : K cb = some (capC 108 g)) (hv : ∀ m p, ∃ u, (mv m p)[off]? = some u) (hm : ∀ s m p, (mv m p).setIfInBounds off (.int .u64 ((rUint mxU s).1 : Nat)) = mv (f.get s m).2 p) (hr : ∀ s m, (f.get s m).1 = (rUint mxU s).2) (hS' : ∀ s m p, MsgS K m p -> MsgS K (f.get s m).2 p) :
  GetCt K f 67 #[Ptr cb] := by
 intro w0 h hb R rb mb ii m p s _ hR hl rd hS
 obtain ⟨u, hu⟩ := hv m p
 refine (numGet (.inr ⟨ii + 1, hR⟩) s hl rd (hs w0) hc u hu).mono ?_
 rintro v K' hs' ⟨rfl, h', rfl, rd'⟩
 exact ⟨Le.refl _, h', p, by rw [hm], by rw [hr]; exact rd', hS' s m p hS, fun _ => ⟨rfl, rfl⟩⟩
theorem get_place {K : PH} {g off cb : Nat} {f : Fld} (hs : ∀ w0, Sel w0 g off) (hc : K cb = some (capC 111 g)) (hv : ∀ m p, ∃ u, (mv m p)[off]? = some u) (hm : ∀ s m p, (mv m p).setIfInBounds off (.int .i64 ((rUint 2097152 s).1 : Nat)) = mv (f.get s m).2 p) (hr : ∀ s m, (f.get s m).1 = (rUint 2097152 s).2) (hS' : ∀ s m p, MsgS K m p -> MsgS K (f.get s m).2 p) :
  GetCt K f 78 #[Ptr cb] := by
 intro w0 h hb R rb mb ii m p s _ hR hl rd hS
 obtain ⟨u, hu⟩ := hv m p
 refine (placeGet (.inr ⟨ii + 1, hR⟩) s hl rd (hs w0) hc u hu).mono ?_
 rintro v K' hs' ⟨rfl, h', rfl, rd'⟩
 exact ⟨Le.refl _, h', p, by rw [hm], by rw [hr]; exact rd', hS' s m p hS, fun _ => ⟨rfl, rfl⟩⟩
theorem clrR_at {K : PH} {f : Fld} {w0 : World} {g mb : Nat} {args : List Value} {R : List PH} {m : Msg} {p : MA} (c : Ct Tryz.prog w0 g args K (pt mb (mv m p) 42 :: R) (ClrR f m mb R K)) :
  Ct Tryz.prog w0 g args K (pt mb (mv m p) 42 :: R) (fun v K' hs' => ∃ h', hs' = h' :: R /\ K' = K /\ ∃ p', h' = pt mb (mv (f.clr m) p') 42 /\ MsgS K (f.clr m) p') :=
 c.mono fun v K' hs' ⟨h1, p', h2, h3⟩ => ⟨_, h2, h1, p', rfl, h3⟩
theorem FV.fns {K : PH} {cs : List Value} {f : Fld} (h : FV K cs f) : ∃ g1 c1 g2 c2 g3 c3, cs = [.func (.func g1) #[] c1, .func (.func g2) #[] c2, .func (.func g3) #[] c3] /\ PutCt K f g1 c1 /\ GetCt K f g2 c2 /\ ClrCt K f g3 c3 := by
 cases f
 case idx =>
  obtain ⟨b, hc, rfl⟩ := h
  exact ⟨_, _, _, _, _, _, rfl, put_num (fun w0 => sel_index) hc (·.idx) (fun m h => h.idx) (fun m p => rfl) (fun m => trivial) (fun m => rfl),
   get_num (fun w0 => sel_index) hc (fun m p => ⟨_, rfl⟩) (fun s m p => rfl) (fun s m => rfl) (fun s m p h => h), clr_num (fun w0 => sel_index) hc (fun m p => ⟨_, rfl⟩) (fun m p => rfl) (fun m p h => h)⟩
 case lt =>
  obtain ⟨b, hc, rfl⟩ := h
  exact ⟨_, _, _, _, _, _, rfl, put_num (fun w0 => sel_logTerm) hc (·.lt) (fun m h => h.lt) (fun m p => rfl) (fun m => trivial) (fun m => rfl),
   get_num (fun w0 => sel_logTerm) hc (fun m p => ⟨_, rfl⟩) (fun s m p => rfl) (fun s m => rfl) (fun s m p h => h), clr_num (fun w0 => sel_logTerm) hc (fun m p => ⟨_, rfl⟩) (fun m p => rfl) (fun m p h => h)⟩
 case com =>
  obtain ⟨b, hc, rfl⟩ := h
  exact ⟨_, _, _, _, _, _, rfl, put_num (fun w0 => sel_commit) hc (·.com) (fun m h => h.com) (fun m p => rfl) (fun m => trivial) (fun m => rfl),
   get_num (fun w0 => sel_commit) hc (fun m p => ⟨_, rfl⟩) (fun s m p => rfl) (fun s m => rfl) (fun s m p h => h), clr_num (fun w0 => sel_commit) hc (fun m p => ⟨_, rfl⟩) (fun m p => rfl) (fun m p h => h)⟩
 case rnd =>
  obtain ⟨b, hc, rfl⟩ := h
  exact ⟨_, _, _, _, _, _, rfl, put_num (fun w0 => sel_round) hc (·.rnd) (fun m h => h.rnd) (fun m p => rfl) (fun m => trivial) (fun m => rfl),
   get_num (fun w0 => sel_round) hc (fun m p => ⟨_, rfl⟩) (fun s m p => rfl) (fun s m => rfl) (fun s m p h => h), clr_num (fun w0 => sel_round) hc (fun m p => ⟨_, rfl⟩) (fun m p => rfl) (fun m p h => h)⟩
 case off =>
  obtain ⟨b, hc, rfl⟩ := h
  exact ⟨_, _, _, _, _, _, rfl, put_place (fun w0 => sel_offset) hc (·.off) (fun m p => rfl) (fun m => Iff.rfl) (fun m => rfl),
   get_place (fun w0 => sel_offset) hc (fun m p => ⟨_, rfl⟩) (fun s m p => rfl) (fun s m => rfl) (fun s m p h => h), clr_place (fun w0 => sel_offset) hc (fun m p => ⟨_, rfl⟩) (fun m p => rfl) (fun m p h => h)⟩
 case whole =>
  obtain ⟨b, hc, rfl⟩ := h
  exact ⟨_, _, _, _, _, _, rfl, put_place (fun w0 => sel_whole) hc (·.whole) (fun m p => rfl) (fun m => Iff.rfl) (fun m => rfl),
   get_place (fun w0 => sel_whole) hc (fun m p => ⟨_, rfl⟩) (fun s m p => rfl) (fun s m => rfl) (fun s m p h => h), clr_place (fun w0 => sel_whole) hc (fun m p => ⟨_, rfl⟩) (fun m p => rfl) (fun m p h => h)⟩
 case good =>
  subst h
  exact ⟨_, _, _, _, _, _, rfl, fun w0 h R mb m p ao c1 bs o hb hS hbd => goodPut m p ao c1 bs o hb, fun w0 h hb R rb mb ii m p s _ hR hl rd hS => goodGet m p (.inr ⟨ii + 1, hR⟩) s rd hS, fun w0 R mb m p hS => clrR_at (goodClr m p hS)⟩
 case ents =>
  subst h
  exact ⟨_, _, _, _, _, _, rfl, fun w0 h R mb m p ao c1 bs o hb hS hbd => entsPut m p ao c1 bs o hb hS hbd, fun w0 h hb R rb mb ii m p s he hR hl rd hS => entsGet m p (he rfl).1 (he rfl).2.1 (he rfl).2.2 hR s hl rd hS, fun w0 R mb m p hS => clrR_at (entsClr m p hS)⟩
 case vot =>
  subst h
  exact ⟨_, _, _, _, _, _, rfl, fun w0 h R mb m p ao c1 bs o hb hS hbd => votPut m p ao c1 bs o hb hS hbd, fun w0 h hb R rb mb ii m p s _ hR hl rd hS => votGet m p (.inr ⟨ii + 1, hR⟩) s rd hS, fun w0 R mb m p hS => clrR_at (votClr m p hS)⟩
 case data =>
  subst h
  exact ⟨_, _, _, _, _, _, rfl, fun w0 h R mb m p ao c1 bs o hb hS hbd => dataPut m p ao c1 bs o hb hS hbd, fun w0 h hb R rb mb ii m p s _ hR hl rd hS => dataGet m p (.inr ⟨ii + 1, hR⟩) s hl rd hS, fun w0 R mb m p hS => clrR_at (dataClr m p hS)⟩
theorem FldsS.get {K : PH} {d : Fld} : ∀ {css : List (List Value)} {fs : List Fld} {i : Nat}, All2 (FV K) css fs -> i < fs.length ->
  ∃ cs, FV K cs (fs.getD i d) /\ cs.length = 3 /\ ∀ (j : Nat) v, cs[j]? = some v -> css.flatten[i * 3 + j]? = some v
 | [], [], i, _, h => by simp at h
 | [], _ :: _, _, g, _ => g.elim
 | _ :: _, [], _, g, _ => g.elim
 | c :: css, f :: fs, 0, g, h => by
  obtain ⟨g1, c1, g2, c2, g3, c3, hc, _⟩ := g.1.fns
  refine ⟨c, by simpa using g.1, by rw [hc]; rfl, fun j v hv => ?_⟩
  have hj : j < c.length := (List.getElem?_eq_some_iff.1 hv).1
  rw [List.flatten_cons, Nat.zero_mul, Nat.zero_add, List.getElem?_append_left hj]
  exact hv
 | c :: css, f :: fs, i + 1, g, h => by
  obtain ⟨cs, x, hl, hx⟩ := FldsS.get (d := d) (i := i) g.2 (by simpa using h)
  obtain ⟨g1, c1, g2, c2, g3, c3, hc, _⟩ := g.1.fns
  have hcl : c.length = 3 := by rw [hc]; rfl
  refine ⟨cs, by simpa using x, hl, fun j v hv => ?_⟩
  have := hx j v hv
  rw [List.flatten_cons, List.getElem?_append_right (by omega), show (i + 1) * 3 + j - c.length = i * 3 + j from by omega]
  exact this
end Go.Proofs.YtejkjbkodcamoaaGreatDoor
namespace Go.Proofs.YtejkjbkodcamoaaGreatDoor
open Go.En
attribute [local irreducible] Code.wp wpList Calls
theorem own_b3 (b k f t : Nat) (hk : k < 256) (hf : f < 256) (ht : t < 256) : Own (pt b #[.int .u8 ((k : Nat) : Int), .int .u8 ((f : Nat) : Int), .int .u8 ((t : Nat) : Int)] 5) (some ⟨b, 0, none⟩) ([UInt8.ofNat k, UInt8.ofNat f, UInt8.ofNat t] : List UInt8).length 3 5 1 (bv [UInt8.ofNat k, UInt8.ofNat f, UInt8.ofNat t]) :=
 own_of (Own.ofPt (n := 3) (size := 1) (by simp) (by simp [maxLen])) rfl (by simp [bv, byteV hk, byteV hf, byteV ht])
theorem enc_no {m : Msg} (h : ¬ m.ok) : enc m = none := if_neg h
theorem encodeC {w0 : World} {K : PH} {hs : List PH} (m : Msg) (p : MA) (hS : MsgS K m p) (hbd : m.bd) :
  Ct Tryz.prog w0 6 [.agg (mv m p)] K hs (fun v K' hs' => K' = K /\ OutB (enc m) hs v hs') := by
 have hmx : mxU = 18446744073709551615 := rfl
 have hterm := hbd.term
 have hfl := fieldsOf_len m.kind
 have hfk := fieldsOf_kind (k := m.kind)
 have hhd := hdr_len m hbd
 have hbl := body_len hbd
 refine enter Tryz.func6 (by kernel_rfl) rfl rfl rfl ?_
 refine sq (rg ?_)
 refine bx hT 0 rfl fun b1 => ?_
 refine fin hT 2 rfl (th (sq (rg ?_)))
 refine ldp hT 1 0 rfl rfl rfl ?_
 refine cl hT 0 rfl (fieldsC m.kind) ?_
 rintro v14 K14 hs14 ⟨le, rfl, aof, capf, rfl, css, xF, hA⟩
 have hS' := hS.le le
 generalize hfs : fieldsOf m.kind = fs at hfl hfk hbl xF hA
 refine fin hT 1 rfl (th (sq (sq (rg ?_))))
 refine cmpS hT 2 rfl fun b17 h17 => ?_
 refine' bjo hT 1 5 23 [17, 18] h17 rfl rfl rfl rfl rfl rfl rfl (fun _ => ?x2) (fun b23 h23 => ?_)
 case x2 =>
  refine ldp hT 1 0 rfl rfl rfl ?_
  refine cl hT 0 rfl (placedC m.frm) ?_
  rintro v21 K21 hs21 ⟨rfl, rfl, b21, rfl, h21⟩
  refine cbS hT 0 _ rfl (bnot h21) fun b22 h22 => ?_
  exact fin hT 1 rfl (bjx h22 rfl rfl rfl)
 refine' bjo hT 1 5 29 [23, 24] h23 rfl rfl rfl rfl rfl rfl rfl (fun _ => ?x3) (fun b29 h29 => ?_)
 case x3 =>
  refine ldp hT 1 0 rfl rfl rfl ?_
  refine cl hT 0 rfl (placedC m.to) ?_
  rintro v27 K27 hs27 ⟨rfl, rfl, b27, rfl, h27⟩
  refine cbS hT 0 _ rfl (bnot h27) fun b28 h28 => ?_
  exact fin hT 1 rfl (bjx h28 rfl rfl rfl)
 refine' bjo hT 1 6 36 [29, 30] h29 rfl rfl rfl rfl rfl rfl rfl (fun _ => ?x4) (fun b36 h36 => ?_)
 case x4 =>
  refine ldp hT 1 0 rfl rfl rfl ?_
  refine ldp hT 1 0 rfl rfl rfl ?_
  refine cmpS hT 0 rfl fun b35 h35 => ?_
  exact fin hT 1 rfl (bjx h35 rfl rfl rfl)
 refine' bjo hT 1 4 41 [36, 37] h36 rfl rfl rfl rfl rfl rfl rfl (fun _ => ?x6) (fun b41 h41 => ?_)
 case x6 =>
  refine ldp hT 1 0 rfl rfl rfl ?_
  refine cmpS hT 0 rfl fun b40 h40 => ?_
  exact fin hT 1 rfl (bjx h40 rfl rfl rfl)
 refine fin hT 0 rfl (th (ifP h41 rfl (fun e8 => ?_) (fun e8 => ?_)))
 ·have hno : ¬ m.ok := fun h => by
   obtain ⟨⟨p1, p2, p3, p4, p5⟩, _⟩ := h
   rw [hfs] at p1
   rcases e8 with (((e | e) | e) | e) | e
   ·exact p1 (List.eq_nil_of_length_eq_zero (by omega))
   ·exact e p2
   ·exact e p3
   ·exact p4 e
   ·exact p5 (by omega)
  refine sq (rg ?_)
  refine fin hT 2 rfl (th (rt (rT ?_)))
  refine WQ.drop (WQ.em (WQ.weak le ?_))
  exact ret2 rfl rfl rfl ⟨rfl, outN (enc_no hno)⟩
 ·have hpre : m.pre := ⟨by rw [hfs]; exact fun h => e8 (by rw [h]; exact .inl (.inl (.inl (.inl rfl)))), Decidable.not_not.1 fun h => e8 (.inl (.inl (.inl (.inr h)))), Decidable.not_not.1 fun h => e8 (.inl (.inl (.inr h))), fun h => e8 (.inl (.inr h)), fun h => e8 (.inr (by rw [h]; rfl))⟩
  clear e8
  have hk6 := hfk (by have := hpre.1; rwa [hfs] at this)
  have hpf := hpre.2.1
  have hpt := hpre.2.2.1
  unfold placedP at hpf hpt
  obtain ⟨k, hk⟩ : ∃ k : Nat, m.kind = (k : Nat) := Int.eq_ofNat_of_zero_le (show 0 <= m.kind by omega)
  obtain ⟨f0, hf0⟩ : ∃ k : Nat, m.frm = (k : Nat) := Int.eq_ofNat_of_zero_le hpf.1
  obtain ⟨t0, ht0⟩ : ∃ k : Nat, m.to = (k : Nat) := Int.eq_ofNat_of_zero_le hpt.1
  refine sk (th (sq (rg ?_)))
  refine ldp hT 1 0 rfl rfl rfl ?_
  refine ar hT 0 rfl (v' := .int .u8 ((k : Nat) : Int)) (by rw [hk, u8w (by omega)]) ?_
  refine ldp hT 1 0 rfl rfl rfl ?_
  refine ar hT 0 rfl (v' := .int .u8 ((f0 : Nat) : Int)) (by rw [hf0, u8w (by omega)]) ?_
  refine ldp hT 1 0 rfl rfl rfl ?_
  refine ar hT 0 rfl (v' := .int .u8 ((t0 : Nat) : Int)) (by rw [ht0, u8w (by omega)]) ?_
  refine lit hT 0 #[.int .u8 ((k : Nat) : Int), .int .u8 ((f0 : Nat) : Int), .int .u8 ((t0 : Nat) : Int)] rfl (by decide) (by kernel_rfl) fun b51 => ?_
  refine ldp hT 1 1 rfl rfl rfl ?_
  refine cl hT 0 rfl (putUint _ _ [UInt8.ofNat k, UInt8.ofNat f0, UInt8.ofNat t0] m.term (own_b3 b51 k f0 t0 (by omega) (by omega) (by omega)) (by omega) (by simp)) ?_
  rintro v54 K54 hs54 ⟨g54, rfl, rfl, ao54, c54, rfl, o54⟩
  have hh : [UInt8.ofNat k, UInt8.ofNat f0, UInt8.ofNat t0] ++ uint m.term = hdr m := by rw [hdr, hk, hf0, ht0]; rfl
  rw [hh] at o54 ⊢
  refine fin hT 1 rfl (th (sq (sq (rg ?_))))
  refine fin hT 3 rfl (th (bk ?_))
  refine loop (σ := Nat × Option Addr × Nat × PH) (fun s => [(1, Ptr b1), (4, .slice aof fs.length capf), (5, .slice s.2.1 (hdr m ++ pbyAll m (fs.take s.1)).length s.2.2.1), (55, .slice aof fs.length capf), (56, .int .i64 (fs.length : Nat)), (57, .int .i64 (s.1 : Nat))]) (fun _ => K54) (fun s => s.2.2.2 :: pt b1 (mv m p) 42 :: hs) (fun s => s.1 <= fs.length /\ (∀ f ∈ fs.take s.1, f.pok m) /\ Own s.2.2.2 s.2.1 (hdr m ++ pbyAll m (fs.take s.1)).length s.2.2.1 5 1 (bv (hdr m ++ pbyAll m (fs.take s.1)))) (fun s => fs.length - s.1) (0, ao54, c54, g54) ⟨Nat.zero_le _, by simp, by simpa [pbyAll] using o54⟩ (by simp only [pbyAll, List.take_zero, List.append_nil]; exact ⟨rfl, rfl, rfl, rfl, rfl, rfl, trivial⟩) rfl rfl ?_
  rintro ⟨i, ao, c1, h⟩ ⟨hi, hok, o⟩
  dsimp only at hi hok o ⊢
  have hpl := pbyAll_len hbd hok
  have htl : (fs.take i).length <= 6 := by simp; omega
  refine sq (rg ?_)
  refine cmpS hT 0 rfl fun b58 h58 => ?_
  refine fin hT 0 rfl (th (sq (ifP h58 rfl (fun e10 => ?_) (fun e10 => ?_))))
  ·have hin : i < fs.length := by omega
   refine sk (th (sq (bk (sq (rg ?_)))))
   obtain ⟨cs, hV, hcl, hcell⟩ := FldsS.get (d := .idx) hA hin
   obtain ⟨g1, k1, g2, k2, g3, k3, rfl, hput, hget, hclr⟩ := hV.fns
   have htk := getD_take_succF fs i hin .idx
   have hmem : fs.getD i .idx ∈ fs := by simp [List.getD, hin]
   generalize fs.getD i .idx = f at hV hput hget hclr htk hmem
   refine ixs hT 0 i rfl rfl xF hin (by decide) fun a59 ha59 => ?_
   refine lds hT 0 [.func (.func g1) #[] k1, .func (.func g2) #[] k2, .func (.func g3) #[] k3] rfl (by kernel_rfl) (.inl rfl) (fun j v hv => ?_) ?_
   ·obtain ⟨a', q1, q2⟩ := xF.2.2 (i * 3 + j) v (hcell j v hv)
    rw [ha59] at q1
    cases q1
    rw [Deep.add_add]
    exact q2
   refine al hT 0 (.agg #[.nilFunc, .nilFunc, .nilFunc]) rfl (by kernel_rfl) fun b7 => ?_
   refine stS hT 0 0 rfl rfl (by kernel_rfl) rfl rfl ?_
   refine fin hT 0 rfl (th (sq (rg ?_)))
   refine ldp hT 1 0 rfl rfl rfl ?_
   refine WL.drop ?_
   refine cl hT 1 rfl (hput w0 h hs b1 m p ao c1 _ o (by simp only [List.length_append]; omega) hS' hbd) ?_
   rintro v65 K65 hs65 ⟨rfl, h', ao', c', out, t, rfl, rfl, ht, hout, o'⟩
   refine fin hT 5 rfl (th (sq (sq (rg ?_))))
   refine fin hT 2 rfl (th (ifB rfl (fun h11 => ?_) (fun h11 => ?_)))
   ·refine sq (rg ?_)
    refine fin hT 2 rfl (th (rt (rT (rB (rT (rT (rB (rT ?_))))))))
    refine WQ.drop (WQ.drop (WQ.em (WQ.weak le ?_)))
    exact ret2 rfl rfl rfl ⟨rfl, outN (enc_no fun hh => by have := hh.2.1 f (by rw [hfs]; exact hmem); rw [ht.2 this] at h11; cases h11)⟩
   ·have htt : t = true := by simpa using h11
    obtain rfl := hout htt
    have ee : hdr m ++ pbyAll m (fs.take i) ++ f.pby m = hdr m ++ pbyAll m (fs.take (i + 1)) := by rw [htk, pbyAll_append]; simp [pbyAll]
    rw [ee] at o' ⊢
    refine sk (th (rg ?_))
    refine fin hT 2 rfl (bl (th (rg ?_)))
    refine ar hT 0 rfl (i64w (by omega)) ?_
    refine fin hT 1 rfl ?_
    exact again (x := (i, ao, c1, h)) (i + 1, ao', c', h') ⟨rfl, rfl, rfl, rfl, rfl, rfl, trivial⟩ rfl rfl ⟨by omega, by rw [htk]; intro x hx; exact (List.mem_append.1 hx).elim (hok x) (fun hx => by rw [List.mem_singleton.1 hx]; exact ht.1 htt), o'⟩ (by (try dsimp only); omega)
  ·obtain rfl : i = fs.length := by omega
   refine ex (xt (xt (xb (th (sq (sq (rg ?_)))))))
   rw [List.take_of_length_le (Nat.le_refl _)] at o hok ⊢
   refine fin hT 3 rfl (th (bk ?_))
   refine loop (σ := Nat × MA) (fun s => [(1, Ptr b1), (5, .slice ao (hdr m ++ pbyAll m fs).length c1), (72, .slice aof fs.length capf), (73, .int .i64 (fs.length : Nat)), (74, .int .i64 (s.1 : Nat))]) (fun _ => K54) (fun s => h :: pt b1 (mv (clrAll (fs.take s.1) m) s.2) 42 :: hs) (fun s => s.1 <= fs.length /\ MsgS K54 (clrAll (fs.take s.1) m) s.2) (fun s => fs.length - s.1) (0, p) ⟨Nat.zero_le _, hS'⟩ ⟨rfl, rfl, rfl, rfl, rfl, trivial⟩ rfl rfl ?_
   rintro ⟨i, p2⟩ ⟨hi, hS2⟩
   dsimp only at hi hS2 ⊢
   refine sq (rg ?_)
   refine cmpS hT 0 rfl fun b75 h75 => ?_
   refine fin hT 0 rfl (th (sq (ifP h75 rfl (fun e13 => ?_) (fun e13 => ?_))))
   ·have hin : i < fs.length := by omega
    refine sk (th (sq (bk (sq (rg ?_)))))
    obtain ⟨cs, hV, hcl, hcell⟩ := FldsS.get (d := .idx) hA hin
    obtain ⟨g1, k1, g2, k2, g3, k3, rfl, hput, hget, hclr⟩ := hV.fns
    have htk := getD_take_succF fs i hin .idx
    generalize fs.getD i .idx = f at hV hput hget hclr htk
    refine ixs hT 0 i rfl rfl xF hin (by decide) fun a76 ha76 => ?_
    refine lds hT 0 [.func (.func g1) #[] k1, .func (.func g2) #[] k2, .func (.func g3) #[] k3] rfl (by kernel_rfl) (.inl rfl) (fun j v hv => ?_) ?_
    ·obtain ⟨a', q1, q2⟩ := xF.2.2 (i * 3 + j) v (hcell j v hv)
     rw [ha76] at q1
     cases q1
     rw [Deep.add_add]
     exact q2
    refine al hT 0 (.agg #[.nilFunc, .nilFunc, .nilFunc]) rfl (by kernel_rfl) fun b11 => ?_
    refine stS hT 0 0 rfl rfl (by kernel_rfl) rfl rfl ?_
    refine fin hT 0 rfl (th (rg ?_))
    refine ldp hT 1 0 rfl rfl rfl ?_
    refine WL.drop ?_
    refine cl hT 0 rfl (Ct.at 1 rfl (hclr w0 _ b1 _ _ hS2)) ?_
    rintro v80 K80 hs80 ⟨h', rfl, rfl, p3, rfl, hS3⟩
    have ee : f.clr (clrAll (fs.take i) m) = clrAll (fs.take (i + 1)) m := by rw [htk, clrAll_append]; rfl
    rw [ee] at hS3 ⊢
    refine fin hT 0 rfl (bl (th (rg ?_)))
    refine ar hT 0 rfl (i64w (by omega)) ?_
    refine fin hT 1 rfl ?_
    exact again (x := (i, p2)) (i + 1, p3) ⟨rfl, rfl, rfl, rfl, rfl, trivial⟩ rfl rfl ⟨by omega, hS3⟩ (by (try dsimp only); omega)
   ·obtain rfl : i = fs.length := by omega
    refine ex (xt (xt (xb (th (sq (sq (rg ?_)))))))
    rw [List.take_of_length_le (Nat.le_refl _)] at hS2 ⊢
    refine ldS hT 0 1 rfl rfl (by kernel_rfl) ?_
    refine cl hT 0 rfl (bareC _ _) ?_
    rintro v83 K83 hs83 ⟨rfl, rfl, b83, rfl, h83⟩
    refine cbS hT 0 _ rfl (bnot h83) fun b84 h84 => ?_
    refine fin hT 0 rfl (th (ifP h84 rfl (fun e14 => ?_) (fun e14 => ?_)))
    ·refine sq (rg ?_)
     refine fin hT 2 rfl (th (rt (rT ?_)))
     refine WQ.drop (WQ.drop (WQ.em (WQ.weak le ?_)))
     exact ret2 rfl rfl rfl ⟨rfl, outN (enc_no fun hh => e14 (by have := hh.2.2; rwa [hfs] at this))⟩
    ·have hokk : m.ok := ⟨hpre, by rw [hfs]; exact hok, by rw [hfs]; exact Decidable.not_not.1 e14⟩
     have hbody : m.body = hdr m ++ pbyAll m fs := by rw [Msg.body, hfs]
     have hbl2 := hbl hok
     rw [<- hbody] at o ⊢
     refine sk (th (sq (rg ?_)))
     refine cl hT 1 rfl (sealC ao c1 m.body (.inr ⟨0, rfl⟩) o.isS (by omega)) ?_
     rintro v86 K86 hs86 ⟨rfl, gs, rfl, hor⟩
     obtain ⟨hbig, _⟩ | ⟨hsm, aos, cs, rfl, os⟩ := hor
     ·exact absurd hbig (by omega)
     refine fin hT 4 rfl (th (rt ?_))
     refine WQ.perm (List.perm_middle (l₁ := [_, _])).symm (WQ.drop (WQ.drop (WQ.weak le ?_)))
     exact ret2 rfl rfl rfl ⟨rfl, outS (by rw [enc, if_pos hokk]) os⟩
end Go.Proofs.YtejkjbkodcamoaaGreatDoor
namespace Go.Proofs.YtejkjbkodcamoaaGreatDoor
open Go.En
attribute [local irreducible] Code.wp wpList Calls
def p0 : MA := ⟨none, 0, none, 0, none, 0⟩
theorem MsgS.zero (K : PH) : MsgS K Msg.zero p0 := ⟨EntsS.nil _ _ _, IsS.nil _ _ _ _, IsS.nil _ _ _ _⟩
def OutM (o : Option Msg) (K : PH) (v : Value) (K' : PH) : Prop :=
 Le K K' /\ ∃ p, v = .tuple #[.agg (mv (o.getD Msg.zero) p), .int .i64 (ec o)] /\ MsgS K' (o.getD Msg.zero) p
theorem outM_no {o : Option Msg} {K K' : PH} (h : o = none) (le : Le K K') : OutM o K (.tuple #[.agg (mv Msg.zero p0), .int .i64 170]) K' := by subst h; exact ⟨le, p0, rfl, MsgS.zero _⟩
theorem getAll_drop {fs : List Fld} {i : Nat} (h : i < fs.length) (d : Fld) (s : Rd) (m : Msg) : getAll (fs.drop i) s m = getAll (fs.drop (i + 1)) ((fs.getD i d).get s m).1 ((fs.getD i d).get s m).2 := by
 rw [List.drop_eq_getElem_cons h]
 simp [getAll, List.getD, h]
theorem enc_len (m : Msg) (hbd : m.bd) : (ob (enc m)).length <= 30000 := by
 unfold enc
 split
 ·rename_i hok
  have h1 := body_len hbd hok.2.1
  have h2 := uint_le10 (n := m.body.length) (by omega)
  show (sealed m.body).length <= 30000
  rw [sealed_length]
  omega
 ·exact Nat.zero_le _
theorem decodeC {w0 : World} {K hb : PH} {hs : List PH} (ao : Option Addr) (cap : Nat) (b : List UInt8) (hm : In K hs hb) (x : IsS hb ao b.length cap 1 (bv b)) (hl : b.length < 1099511627776) :
  Ct Tryz.prog w0 7 [.slice ao b.length cap] K hs (fun v K' hs' => hs' = hs /\ OutM (dec b) K v K') := by
 have hmx : mxU = 18446744073709551615 := rfl
 have hul := unsealed_len b
 have hde : dec b = if (unsealed b).2.2 = 0 /\ (unsealed b).2.1 = b.length /\ rEnd (readR (unsealed b).1).1 = 0 /\ enc (readR (unsealed b).1).2 = some b then some (readR (unsealed b).1).2 else none := rfl
 have hrbd := readR_bd (unsealed b).1
 refine enter Tryz.func7 (by kernel_rfl) rfl rfl rfl ?_
 refine sq (rg ?_)
 refine al hT 0 (.agg #[.int .i64 0, .int .i64 0, .int .i64 0, .int .u64 0, .int .u64 0, .int .u64 0, .int .u64 0, .int .u64 0, .bool false, .slice none 0 0, .int .i64 0, .int .i64 0, .slice none 0 0, .slice none 0 0]) rfl (by kernel_rfl) fun b2 => ?_
 refine fin hT 1 rfl (th (sq (rg ?_)))
 refine cl hT 1 rfl (unsealC ao cap b (In.cons hm) x hl) ?_
 rintro v14 K14 hs14 ⟨rfl, gx, rfl, aox, cx, rfl, ox⟩
 generalize hU : unsealed b = U at hul hde hrbd ox ⊢
 obtain ⟨xs, n, e⟩ := U
 dsimp only at hul hde hrbd ox ⊢
 refine fin hT 7 rfl (th (sq (sq (rg ?_))))
 refine cmpS hT 1 rfl fun b19 h19 => ?_
 refine' bjo hT 1 5 25 [19, 20] h19 rfl rfl rfl rfl rfl rfl rfl (fun _ => ?x2) (fun b25 h25 => ?_)
 case x2 =>
  refine cmpS hT 3 rfl fun b24 h24 => ?_
  exact fin hT 1 rfl (bjx h24 rfl rfl rfl)
 refine fin hT 0 rfl (th (ifP h25 rfl (fun e4 => ?_) (fun e4 => ?_)))
 ·have hn : dec b = none := by
   rw [hde, if_neg]
   exact fun h => e4.elim (fun e => e h.1) (fun e => e (by rw [h.2.1]))
  refine sq (rg ?_)
  refine bd hT 0 (.agg (mv Msg.zero p0)) rfl (fun w => by kernel_rfl) ?_
  refine stS hT 0 1 rfl rfl (by kernel_rfl) rfl rfl ?_
  refine fin hT 1 rfl (th (rt (rT ?_)))
  refine WQ.drop ?_
  exact retcP 0 1 rfl rfl rfl rfl (by kernel_rfl) ⟨rfl, outM_no hn (Le.refl _)⟩
 ·have he0 : e = 0 := Decidable.not_not.1 fun h => e4 (.inl h)
  have hn0 : n = b.length := by have := Decidable.not_not.1 fun h => e4 (.inr h); omega
  refine sk (th (sq (rg ?_)))
  refine cl hT 1 rfl (readC aox cx xs (.inr ⟨0, rfl⟩) ox.isS (by omega)) ?_
  rintro v28 K28 hs28 ⟨rfl, rb, h, hb', rfl, rfl, rd⟩
  refine fin hT 1 rfl (th (sq (rg ?_)))
  refine cl hT 1 rfl (byteC (.inr ⟨0, rfl⟩) (xs, 0) rd) ?_
  rintro v30 K30 hs30 ⟨h1, rfl, rfl, rfl, rd1⟩
  have hk1 := rByte_lt (xs, 0)
  have hl1 := rByte_len (xs, 0)
  dsimp only at hl1
  refine ar hT 0 rfl (i64w (by omega)) ?_
  refine cl hT 1 rfl (byteC (.inr ⟨0, rfl⟩) _ rd1) ?_
  rintro v33 K33 hs33 ⟨h2, rfl, rfl, rfl, rd2⟩
  have hk2 := rByte_lt (rByte (xs, 0)).2
  have hl2 := rByte_len (rByte (xs, 0)).2
  refine ar hT 0 rfl (i64w (by omega)) ?_
  refine cl hT 1 rfl (byteC (.inr ⟨0, rfl⟩) _ rd2) ?_
  rintro v36 K36 hs36 ⟨h3, rfl, rfl, rfl, rd3⟩
  have hk3 := rByte_lt (rByte (rByte (xs, 0)).2).2
  have hl3 := rByte_len (rByte (rByte (xs, 0)).2).2
  refine ar hT 0 rfl (i64w (by omega)) ?_
  refine cl hT 1 rfl (uintC (.inr ⟨0, rfl⟩) mxU _ (by omega) rd3) ?_
  rintro v39 K39 hs39 ⟨h4, rfl, rfl, rfl, rd4⟩
  have hl4 := rUint_len mxU (rByte (rByte (rByte (xs, 0)).2).2).2
  refine bd hT 0 (.agg (mv (hdrR xs).2 p0)) rfl (fun w => by kernel_rfl) ?_
  refine al hT 0 (.agg #[.int .i64 0, .int .i64 0, .int .i64 0, .int .u64 0, .int .u64 0, .int .u64 0, .int .u64 0, .int .u64 0, .bool false, .slice none 0 0, .int .i64 0, .int .i64 0, .slice none 0 0, .slice none 0 0]) rfl (by kernel_rfl) fun b8 => ?_
  refine stS hT 0 0 rfl rfl (by kernel_rfl) rfl rfl ?_
  refine WL.perm (List.Perm.swap _ _ _) ?_
  refine fin hT 0 rfl (th (sq (sq (rg ?_))))
  refine ldp hT 1 1 rfl rfl rfl ?_
  refine cl hT 0 rfl (fieldsC (hdrR xs).2.kind) ?_
  rintro v43 K43 hs43 ⟨hle0, rfl, aof, capf, rfl, css, xF, hA⟩
  have hrR : readR xs = getAll (fieldsOf (hdrR xs).2.kind) (hdrR xs).1 (hdrR xs).2 := rfl
  have hnd := fields_nodup (hdrR xs).2.kind
  have hfl := fieldsOf_len (hdrR xs).2.kind
  have hrd4 : IsRd rb hb' (hdrR xs).1 h4 := rd4
  have hln4 : (hdrR xs).1.1.length < 1099511627776 := by show (rUint mxU (rByte (rByte (rByte (xs, 0)).2).2).2).2.1.length < 1099511627776; omega
  have hz : MsgS K43 (hdrR xs).2 p0 := MsgS.zero _
  have hz2 : (hdrR xs).2.ents = [] := rfl
  generalize (hdrR xs).1 = s0 at hrd4 hrR hln4
  generalize (hdrR xs).2 = m0 at hrR hz hz2 hA hnd hfl xF ⊢
  generalize fieldsOf m0.kind = fs at hrR hA hnd hfl xF ⊢
  clear rd rd1 rd2 rd3 rd4 hk1 hk2 hk3 hl1 hl2 hl3 hl4
  refine fin hT 2 rfl (th (bk ?_))
  refine loop (σ := Nat × Rd × Msg × MA × PH × PH) (fun s => [(0, .slice ao b.length cap), (2, Ptr b2), (7, Ptr rb), (8, Ptr b8), (43, .slice aof fs.length capf), (44, .int .i64 (fs.length : Nat)), (45, .int .i64 (s.1 : Nat))]) (fun s => s.2.2.2.2.1) (fun s => s.2.2.2.2.2 :: pt b8 (mv s.2.2.1 s.2.2.2.1) 42 :: hb' :: gx :: pt b2 (mv Msg.zero p0) 42 :: hs)
   (fun s => s.1 <= fs.length /\ Le K43 s.2.2.2.2.1 /\ getAll (fs.drop s.1) s.2.1 s.2.2.1 = getAll fs s0 m0 /\ (Fld.ents ∈ fs.drop s.1 -> s.2.2.1.ents = [] /\ s.2.2.2.1.ae = none /\ s.2.2.2.1.ce = 0) /\ s.2.1.1.length < 1099511627776 /\ IsRd rb hb' s.2.1 s.2.2.2.2.2 /\ MsgS s.2.2.2.2.1 s.2.2.1 s.2.2.2.1) (fun s => fs.length - s.1)
   (0, s0, m0, p0, K43, h4) ⟨Nat.zero_le _, Le.refl _, rfl, fun _ => ⟨hz2, rfl, rfl⟩, hln4, hrd4, hz⟩ ⟨rfl, rfl, rfl, rfl, rfl, rfl, rfl, trivial⟩ rfl rfl ?_
  rintro ⟨i, s, m, p, K', h⟩ ⟨hi, hle, hge, hen, hsl, rd, hS⟩
  dsimp only at hi hle hge hen hsl rd hS ⊢
  refine sq (rg ?_)
  refine cmpS hT 0 rfl fun b46 h46 => ?_
  refine fin hT 0 rfl (th (sq (ifP h46 rfl (fun e6 => ?_) (fun e6 => ?_))))
  ·have hin : i < fs.length := by omega
   refine sk (th (sq (bk (sq (rg ?_)))))
   have hA2 : All2 (FV K') css fs := All2.imp (fun _ _ => FV.le hle) hA
   obtain ⟨cs, hV, hcl, hcell⟩ := FldsS.get (d := .idx) hA2 hin
   obtain ⟨g1, k1, g2, k2, g3, k3, rfl, hput, hget, hclr⟩ := hV.fns
   have hgd := getAll_drop hin .idx s m
   have hdr : fs.drop i = fs.getD i .idx :: fs.drop (i + 1) := by rw [List.drop_eq_getElem_cons hin]; simp [List.getD, hin]
   have hnd2 : (fs.drop i).Nodup := hnd.sublist (List.drop_sublist _ _)
   generalize fs.getD i .idx = f at hV hput hget hclr hgd hdr
   rw [hdr] at hnd2 hen
   obtain ⟨hn1, hn2⟩ := List.nodup_cons.1 hnd2
   refine ixs hT 0 i rfl rfl xF hin (by decide) fun a47 ha47 => ?_
   refine lds hT 0 [.func (.func g1) #[] k1, .func (.func g2) #[] k2, .func (.func g3) #[] k3] rfl (by kernel_rfl) (.inl rfl) (fun j v hv => ?_) ?_
   ·obtain ⟨a', q1, q2⟩ := xF.2.2 (i * 3 + j) v (hcell j v hv)
    rw [ha47] at q1
    cases q1
    rw [Deep.add_add]
    exact q2.le hle
   refine al hT 0 (.agg #[.nilFunc, .nilFunc, .nilFunc]) rfl (by kernel_rfl) fun b10 => ?_
   refine stS hT 0 0 rfl rfl (by kernel_rfl) rfl rfl ?_
   refine fin hT 0 rfl (th (rg ?_))
   refine ldp hT 1 0 rfl rfl rfl ?_
   refine WL.drop ?_
   refine cl hT 1 rfl (hget w0 h hb' _ rb b8 0 m p s (fun hf => hen (by simp [hf])) rfl hsl rd hS) ?_
   rintro v52 K52 hs52 ⟨le2, h', p', rfl, rd', hS2, hkeep⟩
   have hgl := get_len f s m
   refine fin hT 0 rfl (bl (th (rg ?_)))
   refine ar hT 0 rfl (i64w (by omega)) ?_
   refine fin hT 1 rfl ?_
   exact again (x := (i, s, m, p, K', h)) (i + 1, (f.get s m).1, (f.get s m).2, p', K52, h') ⟨rfl, rfl, rfl, rfl, rfl, rfl, rfl, trivial⟩ rfl rfl ⟨by omega, hle.trans le2, by rw [<- hgd]; exact hge, fun hmem => (by
    have hne : f ≠ .ents := fun hf => hn1 (by rw [hf]; exact hmem)
    have h1 := hen (List.mem_cons_of_mem _ hmem)
    have h2 := hkeep hne
    exact ⟨by rw [get_ents hne]; exact h1.1, by rw [h2.1]; exact h1.2.1, by rw [h2.2]; exact h1.2.2⟩), by dsimp only; omega, rd', hS2⟩ (by (try dsimp only); omega)
  ·obtain rfl : i = fs.length := by omega
   refine ex (xt (xt (xb (th (sq (rg ?_))))))
   have hfin : readR xs = (s, m) := by rw [hrR, <- hge, List.drop_length]; rfl
   rw [hfin] at hrbd hde
   dsimp only at hrbd hde
   obtain ⟨hb2, hm2, leb⟩ := hm.le (hle0.trans hle)
   refine ldS hT 0 1 rfl rfl (by kernel_rfl) ?_
   refine cl hT 0 rfl (encodeC m p hS hrbd) ?_
   rintro v56 K56 hs56 ⟨rfl, ge, aoe, ce, rfl, rfl, oe⟩
   refine fin hT 5 rfl (th (sq (sq (rg ?_))))
   refine cl hT 1 rfl (Ct.keep 1 rfl (endC s rd)) ?_
   rintro v60 K60 hs60 ⟨rfl, rfl, rfl⟩
   refine cmpS hT 0 rfl fun b61 h61 => ?_
   refine' bjo hT 1 3 65 [61, 62] h61 rfl rfl rfl rfl rfl rfl rfl (fun _ => ?x8) (fun b65 h65 => ?_)
   case x8 =>
    refine cmpS hT 1 rfl fun b64 h64 => ?_
    exact fin hT 1 rfl (bjx h64 rfl rfl rfl)
   refine' bjo hT 1 5 71 [65, 66] h65 rfl rfl rfl rfl rfl rfl rfl (fun _ => ?x10) (fun b71 h71 => ?_)
   case x10 =>
    refine cl hT 2 rfl (equalC aoe ao ce cap (ob (enc m)) b (.inr ⟨0, rfl⟩) (In.cons4 (In.cons (In.cons hm2))) oe.isS (x.le leb) (by have := enc_len m hrbd; omega)) ?_
    rintro v69 K69 hs69 ⟨rfl, rfl, b69, rfl, h69⟩
    refine cbS hT 0 _ rfl (bnot h69) fun b70 h70 => ?_
    exact fin hT 1 rfl (bjx h70 rfl rfl rfl)
   refine fin hT 0 rfl (th (ifP h71 rfl (fun e11 => ?_) (fun e11 => ?_)))
   ·have hn : dec b = none := by
     rw [hde, if_neg]
     intro hh
     have := ec_ob.2 hh.2.2.2
     exact e11.elim (fun e => e.elim (fun e => e hh.2.2.1) (fun e => e this.1)) (fun e => e this.2)
    refine sq (rg ?_)
    refine bd hT 0 (.agg (mv Msg.zero p0)) rfl (fun w => by kernel_rfl) ?_
    refine stS hT 0 5 rfl rfl (by kernel_rfl) rfl rfl ?_
    refine fin hT 1 rfl (th (rt (rT ?_)))
    refine WQ.drop (WQ.drop (WQ.drop (WQ.drop (WQ.drop ?_))))
    exact retcP 0 1 rfl rfl rfl rfl (by kernel_rfl) ⟨rfl, outM_no hn (hle0.trans hle)⟩
   ·have hn : dec b = some m := by
     simp only [not_or, ne_eq, Decidable.not_not] at e11
     rw [hde, if_pos ⟨he0, hn0, e11.1.1, ec_ob.1 ⟨e11.1.2, e11.2⟩⟩]
    refine sk (th (sq (rg ?_)))
    refine ldS hT 0 2 rfl rfl (by kernel_rfl) ?_
    refine stS hT 0 5 rfl rfl (by kernel_rfl) rfl rfl ?_
    refine fin hT 1 rfl (th (rt ?_))
    refine WQ.drop (WQ.drop (WQ.drop (WQ.drop (WQ.drop ?_))))
    exact retcP 0 1 rfl rfl rfl rfl (by kernel_rfl) ⟨rfl, by rw [hn]; exact ⟨hle0.trans hle, p, rfl, hS⟩⟩
end Go.Proofs.YtejkjbkodcamoaaGreatDoor
end
section
namespace Go.Proofs.YtejkjbkodcamoaaGreatDoor
open Go.En
attribute [local irreducible] Code.wp wpList Calls
def q0 : MA := ⟨none, 0, none, 0, none, 0⟩
end Go.Proofs.YtejkjbkodcamoaaGreatDoor
namespace Go.Proofs.YtejkjbkodcamoaaGreatDoor
open Go.En
attribute [local irreducible] Code.wp wpList Calls
end Go.Proofs.YtejkjbkodcamoaaGreatDoor
namespace Go.Proofs.YtejkjbkodcamoaaGreatDoor
open Go.En
attribute [local irreducible] Code.wp wpList Calls
end Go.Proofs.YtejkjbkodcamoaaGreatDoor
namespace Go.Proofs.YtejkjbkodcamoaaGreatDoor
open Go.En
attribute [local irreducible] Code.wp wpList Calls
end Go.Proofs.YtejkjbkodcamoaaGreatDoor
end
section
namespace Go.Proofs.YtejkjbkodcamoaaGreatDoor
open Go.En
attribute [local irreducible] Code.wp wpList Calls
section drop1
variable {P : Program} {w0 : World} {ops : Array Oper} {Q : Exit -> Act -> World -> Prop} {rest : List Oper} {n : Nat} {l : Sl} {K h x : PH} {hs : List PH} {c : Code} {e : Exit}
end drop1
end Go.Proofs.YtejkjbkodcamoaaGreatDoor
namespace Go.Proofs.YtejkjbkodcamoaaGreatDoor
open Go.En
attribute [local irreducible] Code.wp wpList Calls
end Go.Proofs.YtejkjbkodcamoaaGreatDoor
namespace Go.Proofs.YtejkjbkodcamoaaGreatDoor
open Go.En
attribute [local irreducible] Code.wp wpList Calls
end Go.Proofs.YtejkjbkodcamoaaGreatDoor
namespace Go.Proofs.YtejkjbkodcamoaaGreatDoor
open Go.En
attribute [local irreducible] Code.wp wpList Calls
section joink
variable {P : Program} {w0 : World} {Q : Exit -> Act -> World -> Prop} {n : Nat} {l : Sl} {K : PH} {hs : List PH}
end joink
theorem body_small : ∀ m : Msg, m.bd -> m.ok -> m.body.length <= 2097152 := fun m hbd hok => by have := body_len hbd hok.2.1; omega
end Go.Proofs.YtejkjbkodcamoaaGreatDoor
namespace Go.Proofs.YtejkjbkodcamoaaGreatDoor
open Go.En
attribute [local irreducible] Code.wp wpList Calls
end Go.Proofs.YtejkjbkodcamoaaGreatDoor
end
section
namespace Go.En
theorem cmdB_len {c : Cmd} {b : List UInt8} (h1 : c.ses <= mxU) (h2 : c.seq <= mxU) (h : putCmd c = some b) : b.length <= 200 := by
 unfold putCmd at h
 split at h
 ·rename_i h'
  cases h
  rcases h' with ⟨k, _⟩ | ⟨_, w, a, b, _⟩
  ·unfold Cmd.bytes
   rw [if_pos k]
   decide
  ·exact Cmd.bytes_length c h1 h2 w b
 ·cases h
theorem prm3 {α : Type} (a b c : α) (m hs : List α) : (m ++ (a :: b :: c :: hs)).Perm (a :: b :: c :: (m ++ hs)) :=
 List.perm_middle.trans ((List.perm_middle.trans (List.perm_middle.cons b)).cons a)
theorem prm7 {α : Type} (a b c d e f g : α) (m hs : List α) : (a :: b :: c :: d :: e :: f :: g :: (m ++ hs)).Perm (b :: d :: e :: f :: (m ++ (a :: c :: g :: hs))) := by
 refine (List.Perm.swap b a _).trans (List.Perm.cons b ?_)
 refine (List.perm_append_comm_assoc [a, c] [d, e, f] (g :: (m ++ hs))).trans ?_
 exact (((prm3 a c g m hs).symm.cons f).cons e).cons d
def cmdR (cs : List Value) (c : Cmd) : Prop := cs = c.v.toList
def msgL (term i : Nat) (b : List UInt8) : Msg := ⟨3, 0, 1, term, i, 1, 0, 0, false, [⟨i + 1, term, 1, b⟩], 0, 0, [], []⟩
theorem msgL_ok {term i : Nat} {b : List UInt8} (h1 : term ≠ 0) (h2 : i <= 1000000) (hb : (getCmd b).isSome = true) : (msgL term i b).ok := by
 refine ⟨⟨by show fieldsOf 3 ≠ []; decide, by show placedP 0; decide, by show placedP 1; decide, by show (0 : Int) ≠ 1; decide, h1⟩, fun f hf => ?_, ?_⟩
 ·have hm : f ∈ [Fld.idx, .lt, .com, .rnd, .ents] := hf
  simp only [List.mem_cons, List.not_mem_nil, or_false] at hm
  rcases hm with rfl | rfl | rfl | rfl | rfl
  ·trivial
  ·trivial
  ·trivial
  ·trivial
  ·refine ⟨⟨⟨Nat.succ_ne_zero _, h1, .inr (.inl ⟨rfl, hb⟩)⟩, ?_, ?_, trivial⟩, by show 1 <= 8; decide⟩
   ·show i + 1 = (i + 0 + 1) % 18446744073709551616
    omega
   ·show i <= i + 1
    omega
 ·exact ⟨rfl, rfl, rfl, rfl, rfl, rfl, rfl, rfl, rfl, rfl⟩
theorem msgL_bd {term i : Nat} {b : List UInt8} (h1 : term <= mxU) (h2 : i <= 1000000) (hb : b.length <= 4194304) : (msgL term i b).bd := by
 have hmx : mxU = 18446744073709551615 := rfl
 exact {
  term := h1, idx := by show i <= mxU; omega, lt := by show 1 <= mxU; omega, com := Nat.zero_le _, rnd := Nat.zero_le _,
  off := by show -9223372036854775808 <= (0 : Int) /\ (0 : Int) <= 9223372036854775807; decide, whole := by show -9223372036854775808 <= (0 : Int) /\ (0 : Int) <= 9223372036854775807; decide,
  ents := (fun e he => by
   rcases List.mem_singleton.1 he with rfl
   exact ⟨by show i + 1 <= mxU; omega, h1, hb⟩),
  entsL := by show 1 <= 4194304; decide, vot := (fun v hv => absurd hv (by show ¬ v ∈ ([] : List Int); simp)), votL := by show 0 <= 4194304; decide, dataL := by show 0 <= 4194304; decide }
end Go.En
namespace Go.Proofs.YtejkjbkodcamoaaGreatDoor
open Go.En
attribute [local irreducible] Code.wp wpList Calls
theorem al2_all {α : Type} {R : List Value -> α -> Prop} : ∀ {css : List (List Value)} {xs : List α}, All2 R css xs -> Al2 R css xs
 | [], [], _ => trivial
 | _ :: _, _ :: _, g => ⟨g.1, al2_all g.2⟩
 | [], _ :: _, g => g.elim
 | _ :: _, [], g => g.elim
theorem all2_sz {α : Type} {n : Nat} {R : List Value -> α -> Prop} (h : ∀ c x, R c x -> c.length = n) : ∀ {css : List (List Value)} {xs : List α}, All2 R css xs -> ∀ d ∈ css, d.length = n
 | [], [], _ => by simp
 | c :: cs, x :: xs, g => by
  intro d hd
  rcases List.mem_cons.1 hd with rfl | hd
  ·exact h _ _ g.1
  ·exact all2_sz h g.2 d hd
 | [], _ :: _, g => g.elim
 | _ :: _, [], g => g.elim
theorem entsS_slc {K : PH} {ao : Option Addr} {cap : Nat} {es : List Ent} (h : EntsS K ao cap es) : SlS 4 (EntC K) K ao es.length cap es := by
 obtain ⟨css, h1, h2⟩ := h
 exact ⟨css, rfl, h1, al2_all h2, all2_sz (fun c x hc => by obtain ⟨_, _, rfl, _⟩ := hc; rfl) h2⟩
theorem eqAn (a b : AnP) (w : World) : (Op.equalIn 10000 48 (.agg (anV a).toArray) (.agg (anV b).toArray)).run Tryz.prog w = .ok (decide (a = b)) w := by
 have u3 := Tryz.underlying3
 have a3 := Tryz.isAgg3
 have z3 := Tryz.sizeOf3
 have u4 := Tryz.underlying23
 have a4 := Tryz.isAgg23
 have z4 := Tryz.sizeOf23
 have u5 := Tryz.underlying33
 have a5 := Tryz.isAgg33
 have z5 := Tryz.sizeOf33
 obtain ⟨a1, a2, a3'⟩ := a
 obtain ⟨b1, b2, b3'⟩ := b
 unfold anV
 rw [show (10000 : Nat) = 9999 + 1 from rfl, run_equalIn_agg w 9999 48 _ _ (by kernel_rfl) (by kernel_rfl)]
 simp only [Program.fieldsOf, Tryz.underlying48]
 go_simp
 by_cases h1 : a1 = b1 <;> by_cases h2 : a2 = b2 <;> by_cases h3 : a3' = b3' <;> simp [h1, h2, h3] <;> omega
structure LwS where
 i : Nat
 K : PH
 W : List PairP
 rows : List RwP
 m : List PH
 aW : Option Addr
 cW : Nat
 aR : Option Addr
 cR : Nat
theorem lawCarries {w0 : World} {K : PH} {hs : List PH} (aL : Option Addr) (cL : Nat) (cs : List Cmd) (term : Nat) (x : SlS 5 cmdR K aL cs.length cL cs) (hb : ∀ c ∈ cs, c.ses <= 18446744073709551615 /\ c.seq <= 18446744073709551615 /\ c.word.length < 1099511627776) (ht : term <= 18446744073709551615) (hn : cs.length < 1099511627776) (hG : LeastK K) :
  Ct Tryz.prog w0 3 [.slice aL cs.length cL, .int .u64 ((term : Nat) : Int)] K hs (fun v K' hs' => Le K K' /\ v = .bool true) := by
 have hmx : mxU = 18446744073709551615 := rfl
 obtain ⟨vs, xv⟩ := x.isS
 refine enter Tryz.func3 (by kernel_rfl) rfl rfl rfl ?_
 refine sq (rg ?_)
 refine fin hT 1 rfl (th (sq (rg ?_)))
 refine cl hT 0 rfl (newStC hG) ?_
 rintro v20 K20 hs20 ⟨le20, bS, m0, rfl, hm0, rfl⟩
 refine fin hT 1 rfl (th (sq (sq (rg ?_))))
 refine cbS hT 1 (False) rfl (by simp) fun b22 h22 => ?_
 refine' bjo hT 1 4 27 [22, 23] h22 rfl rfl rfl rfl rfl rfl rfl (fun _ => ?x2) (fun b27 h27 => ?_)
 case x2 =>
  refine cmpS hT 2 rfl fun b26 h26 => ?_
  exact fin hT 1 rfl (bjx h26 rfl rfl rfl)
 refine' bjo hT 1 3 31 [27, 28] h27 rfl rfl rfl rfl rfl rfl rfl (fun _ => ?x4) (fun b31 h31 => ?_)
 case x4 =>
  refine cmpS hT 1 rfl fun b30 h30 => ?_
  exact fin hT 1 rfl (bjx h30 rfl rfl rfl)
 refine fin hT 0 rfl (th (ifP h31 rfl (fun e6 => ?_) (fun e6 => ?_)))
 ·refine sq (rg ?_)
  refine cbS hT 1 (True) rfl (by simp) fun b33 h33 => ?_
  obtain rfl : b33 = true := h33.2 trivial
  refine fin hT 1 rfl (th (rt (rT ?_)))
  exact ret1 rfl rfl ⟨le20, rfl⟩
 ·have hlen : cs.length <= 2000 := by
   rcases Nat.lt_or_ge 2000 cs.length with h | h
   ·exact absurd (.inl (.inr (by omega))) e6
   ·exact h
  have hterm : term ≠ 0 := fun h => e6 (.inr (by omega))
  refine sk (th (sq (rg ?_)))
  refine al hT 0 (.agg #[.slice none 0 0, .slice none 0 0]) rfl (by kernel_rfl) fun b6 => ?_
  refine fin hT 0 rfl (th (sq (sq (rg ?_))))
  refine fin hT 3 rfl (th (bk ?_))
  refine loop (σ := LwS) (fun s => [(1, .int .u64 ((term : Nat) : Int)), (5, .pointer (some ⟨bS, 0, none⟩)), (6, .pointer (some ⟨b6, 0, none⟩)), (34, .slice aL cs.length cL), (35, .int .i64 ((cs.length : Nat) : Int)), (36, .int .i64 ((s.i : Nat) : Int))]) (fun s => s.K) (fun s => pt b6 #[.slice s.aW s.W.length s.cW, .slice s.aR s.rows.length s.cR] 29 :: (s.m ++ hs))
   (fun s => s.i <= cs.length /\ Le K s.K /\ StM s.K bS s.W s.rows s.m /\ SlS 2 pairR s.K s.aW s.W.length s.cW s.W /\ SlS 4 rwR s.K s.aR s.rows.length s.cR s.rows) (fun s => cs.length - s.i) ⟨0, K20, [], [], m0, none, 0, none, 0⟩
   ⟨Nat.zero_le _, le20, hm0, SlS.nil _ _ _ _, SlS.nil _ _ _ _⟩ ⟨rfl, rfl, rfl, rfl, rfl, rfl, trivial⟩ rfl rfl ?_
  rintro ⟨i, K1, W, rows, m, aW, cW, aR, cR⟩ ⟨hi, le1, hSt, xW, xR⟩
  dsimp only at *
  have hG1 : LeastK K1 := LeastK.le' le1 hG
  have hrW : RightD W := by obtain ⟨_, _, _, _, _, _, _, _, _, hI, _⟩ := hSt; exact hI.hr
  have hrR : rows.length <= 4096 := by obtain ⟨_, _, _, _, _, _, _, _, _, _, _, _, h, _⟩ := hSt; exact h
  refine sq (rg ?_)
  refine cmpS hT 0 rfl fun b37 h37 => ?_
  refine fin hT 0 rfl (th (sq (ifP h37 rfl (fun e9 => ?_) (fun e9 => ?_))))
  ·obtain ⟨c, hc⟩ : ∃ c, cs[i]? = some c := ⟨_, List.getElem?_eq_getElem (by omega)⟩
   obtain ⟨q1, q2, q3⟩ := hb c (List.mem_of_getElem? hc)
   have x1 := x.le le1 fun _ _ h => h
   obtain ⟨vs1, xv1⟩ := x1.isS
   refine sk (th (sq (bk (sq (rg ?_)))))
   refine ixs hT 1 i rfl rfl xv1 (by omega) (by decide) fun a39 e39 => ?_
   subst e39
   obtain ⟨cc, hcc, hccl, hccc⟩ := x1.cells hc
   obtain rfl := hcc
   refine lds hT 0 c.v.toList rfl (by kernel_rfl) (.inl rfl) hccc ?_
   refine al hT 0 (.agg #[.int .i64 0, .int .u64 0, .int .u64 0, .string ⟨#[]⟩, .int .i64 0]) rfl (by kernel_rfl) fun b8 => ?_
   refine stS hT 1 0 rfl rfl (by kernel_rfl) rfl rfl ?_
   refine WL.hs (pt b8 c.v 31 :: pt b6 #[.slice aW W.length cW, .slice aR rows.length cR] 29 :: (m ++ hs)) rfl ?_
   refine fin hT 0 rfl (th (sq (rg ?_)))
   refine ldS hT 0 0 rfl rfl (by kernel_rfl) ?_
   refine cl hT 0 rfl (putCmdC c (by omega) (by omega)) ?_
   rintro v43 K43 hs43 ⟨rfl, h43, ao43, c43, rfl, rfl, o43⟩
   refine fin hT 5 rfl (th (sq (sq (rg ?_))))
   cases hp : putCmd c with
   | none =>
    refine cmpS hT 1 rfl fun b47 h47 => ?_
    refine fin hT 0 rfl (th (ifP h47 rfl (fun e11 => ?_) (fun e11 => absurd (show ¬ (170 : Int) = 0 by decide) e11)))
    refine WC.drop (WC.drop (ex (xt (xb (th (rg ?_))))))
    refine ar hT 0 rfl (v' := .int .i64 ((i + 1 : Nat) : Int)) (i64w (by omega)) ?_
    refine fin hT 1 rfl ?_
    exact again (x := (⟨i, K43, W, rows, m, aW, cW, aR, cR⟩ : LwS)) (⟨i + 1, K43, W, rows, m, aW, cW, aR, cR⟩ : LwS) ⟨rfl, rfl, rfl, rfl, rfl, rfl, trivial⟩ rfl rfl ⟨by dsimp only; omega, le1, hSt, xW, xR⟩ (by (try dsimp only); omega)
   | some b =>
    have hbl : b.length <= 200 := cmdB_len q1 q2 hp
    have hgc : getCmd b = some c := get_put (by omega) (by omega) hp
    rw [hp] at o43
    have hmok := msgL_ok (i := i) (b := b) hterm (by omega) (by rw [hgc]; rfl)
    have hmbd := msgL_bd (term := term) (i := i) (b := b) (by omega) (by omega) (by omega)
    obtain ⟨e1, he⟩ : ∃ e1, enc (msgL term i b) = some e1 := ⟨_, if_pos hmok⟩
    have hd : dec e1 = some (msgL term i b) := (dec_iff _ _ body_small).2 ⟨he, hmbd⟩
    have hel := enc_len (msgL term i b) hmbd
    rw [he] at hel
    change e1.length <= 30000 at hel
    refine cmpS hT 1 rfl fun b47 h47 => ?_
    refine fin hT 0 rfl (th (ifP h47 rfl (fun e11 => absurd rfl e11) (fun e11 => ?_)))
    refine WC.frz fun K2 le2 le3 => ?_
    have xb : IsS K2 ao43 b.length c43 1 (bv b) := o43.isS.le le3
    refine sk (th (sq (rg ?_)))
    refine ar hT 1 rfl (v' := .int .i64 ((i + 1 : Nat) : Int)) (i64w (by omega)) ?_
    refine ar hT 0 rfl (v' := .int .u64 ((i + 1 : Nat) : Int)) (u64w (by omega)) ?_
    refine bd hT 2 (.agg (Ent.v ⟨i + 1, term, 1, b⟩ ao43 c43)) rfl (fun w => by kernel_rfl) ?_
    refine al hT 0 (.agg #[.int .u64 0, .int .u64 0, .int .i64 0, .slice none 0 0]) rfl (by kernel_rfl) fun b11 => ?_
    refine stS hT 0 0 rfl rfl (by kernel_rfl) rfl rfl ?_
    refine WL.hs (pt b11 (Ent.v ⟨i + 1, term, 1, b⟩ ao43 c43) 37 :: pt b8 c.v 31 :: pt b6 #[.slice aW W.length cW, .slice aR rows.length cR] 29 :: (m ++ hs)) rfl ?_
    refine fin hT 0 rfl (th (sq (rg ?_)))
    refine ar hT 2 rfl (v' := .int .u64 ((i : Nat) : Int)) (u64w (by omega)) ?_
    refine ldS hT 0 0 rfl rfl (by kernel_rfl) ?_
    refine lit hT 0 (Ent.v ⟨i + 1, term, 1, b⟩ ao43 c43) rfl (by decide) (by kernel_rfl) fun b59 => ?_
    refine WL.frz fun K3 le4 le5 => ?_
    have hMS : MsgS K3 (msgL term i b) ⟨some ⟨b59, 0, none⟩, 1, none, 0, none, 0⟩ := ⟨⟨[(Ent.v ⟨i + 1, term, 1, b⟩ ao43 c43).toList], (by
     have := (Own.ofPt (b := b59) (c := (Ent.v ⟨i + 1, term, 1, b⟩ ao43 c43)) (e := 37) (n := 1) (size := 4) rfl (by simp [maxLen])).isS.le le5
     exact (by simpa using this : IsS K3 (some ⟨b59, 0, none⟩) 1 1 4 [(Ent.v ⟨i + 1, term, 1, b⟩ ao43 c43).toList].flatten)), ⟨⟨ao43, c43, rfl, xb.le le4⟩, trivial⟩⟩, IsS.nil _ _ _ _, IsS.nil _ _ _ _⟩
    refine bd hT 0 (.agg (mv (msgL term i b) ⟨some ⟨b59, 0, none⟩, 1, none, 0, none, 0⟩)) rfl (fun w => by kernel_rfl) ?_
    refine cl hT 0 rfl (encodeC (msgL term i b) ⟨some ⟨b59, 0, none⟩, 1, none, 0, none, 0⟩ hMS hmbd) ?_
    rintro v61 K61 hs61 ⟨rfl, h61, ao61, c61, rfl, rfl, o61⟩
    rw [he] at o61 ⊢
    refine fin hT 5 rfl (th (WC.frz fun K4 le6 le7 => ?_))
    refine sq (rg ?_)
    refine cl hT 1 rfl (decodeC ao61 c61 e1 (.inl rfl) (o61.isS.le le7) (by omega)) ?_
    rintro v66 K66 hs66 ⟨rfl, le8, p2, rfl, hM2⟩
    rw [hd] at hM2 ⊢
    refine al hT 3 (.agg #[.int .i64 0, .int .i64 0, .int .i64 0, .int .u64 0, .int .u64 0, .int .u64 0, .int .u64 0, .int .u64 0, .bool false, .slice none 0 0, .int .i64 0, .int .i64 0, .slice none 0 0, .slice none 0 0]) rfl (by kernel_rfl) fun b14 => ?_
    refine stS hT 0 0 rfl rfl (by kernel_rfl) rfl rfl ?_
    refine WL.hs (pt b14 (mv (msgL term i b) p2) 42 :: pt b11 (Ent.v ⟨i + 1, term, 1, b⟩ ao43 c43) 37 :: pt b8 c.v 31 :: pt b6 #[.slice aW W.length cW, .slice aR rows.length cR] 29 :: (m ++ hs)) rfl ?_
    refine fin hT 1 rfl (th (sq (sq (rg ?_))))
    refine cmpS hT 1 rfl fun b70 h70 => ?_
    refine' bjo hT 1 3 74 [70, 71] h70 rfl rfl rfl rfl rfl rfl rfl (fun _ => ?x13) (fun b74 h74 => ?_)
    case x13 =>
     refine cmpS hT 1 rfl fun b73 h73 => ?_
     exact fin hT 1 rfl (bjx h73 rfl rfl rfl)
    refine' bjo hT 1 5 80 [74, 75] h74 rfl rfl rfl rfl rfl rfl rfl (fun _ => ?x15) (fun b80 h80 => ?_)
    case x15 =>
     refine ldp hT 1 0 rfl rfl rfl ?_
     refine cmpS hT 1 rfl fun b79 h79 => ?_
     exact fin hT 1 rfl (bjx h79 rfl rfl rfl)
    refine fin hT 0 rfl (th (ifP h80 rfl (fun e17 => ?_) (fun e17 => ?_)))
    ·exfalso
     rcases e17 with (h | h) | h
     ·exact h rfl
     ·exact h rfl
     ·exact h rfl
    have sE := entsS_slc hM2.1
    obtain ⟨vsE, xvE⟩ := sE.isS
    have leA : Le K43 K66 := le2.trans (le4.trans (le6.trans le8))
    refine sk (th (sq (rg ?_)))
    refine ldp hT 1 0 rfl rfl rfl ?_
    refine ixs hT 0 0 rfl rfl xvE (by show 0 < 1; decide) (by decide) fun a84 e84 => ?_
    rw [e84] at sE
    obtain ⟨d84, ⟨ao3, c3, rfl, xb3⟩, hdl, hdc⟩ := sE.cells (i := 0) (x := ⟨i + 1, term, 1, b⟩) rfl
    refine ld hT 1 rfl (.inl rfl) (hdc 3 (.slice ao3 b.length c3) rfl) ?_
    refine cl hT 0 rfl (getCmdC ao3 c3 b (.inl rfl) xb3 (by omega)) ?_
    rintro v87 K87 hs87 ⟨rfl, rfl, rfl⟩
    rw [hgc]
    refine al hT 3 (.agg #[.int .i64 0, .int .u64 0, .int .u64 0, .string ⟨#[]⟩, .int .i64 0]) rfl (by kernel_rfl) fun b16 => ?_
    refine stS hT 0 0 rfl rfl (by kernel_rfl) rfl rfl ?_
    refine WL.hs (pt b16 c.v 31 :: pt b14 (mv (msgL term i b) p2) 42 :: pt b11 (Ent.v ⟨i + 1, term, 1, b⟩ ao43 c43) 37 :: pt b8 c.v 31 :: pt b6 #[.slice aW W.length cW, .slice aR rows.length cR] 29 :: (m ++ hs)) rfl ?_
    refine fin hT 1 rfl (th (sq (rg ?_)))
    refine ldS hT 0 4 rfl rfl (by kernel_rfl) ?_
    refine ldS hT 0 3 rfl rfl (by kernel_rfl) ?_
    refine cl hT 0 rfl (doRC aW aR cW cR W rows c (xW.le leA fun _ _ h => h) (xR.le leA fun _ _ h => h) hrW hrR q1 q2 q3) ?_
    rintro v93 K93 hs93 ⟨le93, rfl, aW2, cW2, aR2, cR2, rfl, xW2, xR2⟩
    refine al hT 3 (.agg #[.slice none 0 0, .slice none 0 0]) rfl (by kernel_rfl) fun b18 => ?_
    refine al hT 0 (.agg #[.int .i64 0, .int .u64 0, .int .i64 0]) rfl (by kernel_rfl) fun b19 => ?_
    refine stS hT 0 1 rfl rfl (by kernel_rfl) rfl rfl ?_
    refine stS hT 0 0 rfl rfl (by kernel_rfl) rfl rfl ?_
    refine WL.hs (pt b19 (anV (doP W rows c).2.2).toArray 48 :: pt b18 #[.slice aW2 (doP W rows c).1.length cW2, .slice aR2 (doP W rows c).2.1.length cR2] 29 :: pt b16 c.v 31 :: pt b14 (mv (msgL term i b) p2) 42 :: pt b11 (Ent.v ⟨i + 1, term, 1, b⟩ ao43 c43) 37 :: pt b8 c.v 31 :: pt b6 #[.slice aW W.length cW, .slice aR rows.length cR] 29 :: (m ++ hs)) rfl ?_
    refine fin hT 0 rfl (th (sq (rg ?_)))
    refine ldS hT 0 1 rfl rfl (by kernel_rfl) ?_
    refine stS hT 0 6 rfl rfl (by kernel_rfl) rfl rfl ?_
    refine WL.hs (pt b19 (anV (doP W rows c).2.2).toArray 48 :: pt b18 #[.slice aW2 (doP W rows c).1.length cW2, .slice aR2 (doP W rows c).2.1.length cR2] 29 :: pt b16 c.v 31 :: pt b14 (mv (msgL term i b) p2) 42 :: pt b11 (Ent.v ⟨i + 1, term, 1, b⟩ ao43 c43) 37 :: pt b8 c.v 31 :: pt b6 #[.slice aW2 (doP W rows c).1.length cW2, .slice aR2 (doP W rows c).2.1.length cR2] 29 :: (m ++ hs)) rfl ?_
    refine fin hT 0 rfl (th ?_)
    refine WC.perm (prm7 _ _ _ _ _ _ _ m hs) (WC.drop (WC.drop (WC.drop (WC.drop ?_))))
    have leB : Le K43 K93 := leA.trans le93
    refine sq (rga [pt b16 c.v 31, pt b19 (anV (doP W rows c).2.2).toArray 48] 9 [0, 2, 4, 6, 8, 12, 11, 14, 16] (by simp) (by kernel_rfl) (by kernel_rfl) ?_)
    refine dcmp hT (by kernel_rfl) 1 (¬ (0 : Int) = 0) rfl (by simp [ec]) (fun h18 => absurd rfl h18) (fun h18 => ?_)
    refine dldS hT (by kernel_rfl) 2 0 rfl (by kernel_rfl) rfl (by kernel_rfl) ?_
    refine dldS hT (by kernel_rfl) 0 1 rfl (by kernel_rfl) rfl (by kernel_rfl) ?_
    refine dact hT (by kernel_rfl) 0 rfl ?_
    refine cl hT 0 rfl (doC bS W rows c (hSt.le leB) (LeastK.le' leB hG1) q1 q2 q3) ?_
    rintro v102 K102 hs102 ⟨le102, rfl, m', rfl, hSt'⟩
    refine dnexL [pt b16 c.v 31, pt b19 (anV (doP W rows c).2.2).toArray 48] (by simp) (by simp) le102 ?_
    refine deqs2 hT (by kernel_rfl) 0 rfl (by kernel_rfl) (fun w => eqAn _ _ w) ?_
    refine dend hT (by kernel_rfl) 1 rfl (th (ifB rfl (fun h19 => ?_) (fun h19 => ?_)))
    ·simp at h19
    ·refine sk (bl (th (rg ?_)))
     refine ar hT 0 rfl (v' := .int .i64 ((i + 1 : Nat) : Int)) (i64w (by omega)) ?_
     refine WL.perm (prm3 _ _ _ m' hs) (WL.drop (WL.drop ?_))
     refine fin hT 1 rfl ?_
     exact again (x := (⟨i, K43, W, rows, m, aW, cW, aR, cR⟩ : LwS)) (⟨i + 1, K102, (doP W rows c).1, (doP W rows c).2.1, m', aW2, cW2, aR2, cR2⟩ : LwS) ⟨rfl, rfl, rfl, rfl, rfl, rfl, trivial⟩ rfl rfl
      ⟨by dsimp only; omega, le1.trans (leB.trans le102), hSt', xW2.le le102 fun _ _ h => h, xR2.le le102 fun _ _ h => h⟩ (by (try dsimp only); omega)
  ·refine ex (xt (xt (xb (th ?_))))
   refine sq (rga [pt b6 #[.slice aW W.length cW, .slice aR rows.length cR] 29] 6 [0, 4, 6, 3, 9, 10] (by simp) (by kernel_rfl) (by kernel_rfl) ?_)
   refine dldp hT (by kernel_rfl) 2 0 rfl rfl rfl ?_
   refine dact hT (by kernel_rfl) 0 rfl ?_
   refine WL.perm (List.perm_middle).symm ?_
   refine cl hT 0 rfl (wordsStC bS W rows hSt hG1) ?_
   rintro v108 K108 hs108 ⟨le108, ao8, c8, rfl, rfl, x8⟩
   refine dnexL [pt b6 #[.slice aW W.length cW, .slice aR rows.length cR] 29] (by simp) (by simp) le108 ?_
   refine dact hT (by kernel_rfl) 0 rfl ?_
   refine cl hT 0 rfl (sameRC ao8 aW c8 cW W W x8 (xW.le le108 fun _ _ h => h) (by have := hrW.few; omega)) ?_
   rintro v111 K111 hs111 ⟨rfl, rfl, t, rfl, ht⟩
   obtain rfl : t = true := ht.2 rfl
   refine dnexL [pt b6 #[.slice aW W.length cW, .slice aR rows.length cR] 29] (by simp) (by simp) (Le.refl _) ?_
   refine dend hT (by kernel_rfl) 1 rfl (th (rt ?_))
   exact ret1 rfl rfl ⟨le1.trans le108, rfl⟩
end Go.Proofs.YtejkjbkodcamoaaGreatDoor
end
section
namespace Go.Proofs.YtejkjbkodcamoaaGreatDoor
open Go.En Go.ChangeShapes Go.WideShapes Go.ChangeAt Go.RowKit Go.Deep
set_option maxRecDepth 100000
section opens
variable {H : Type} {enc : TypeId × Value -> H} {W : World}
abbrev CmT : Type := Int × Int × Int × List UInt8 × Int × Unit
def toCmd (x : CmT) : Cmd := ⟨x.1, x.2.1.toNat, x.2.2.1.toNat, x.2.2.2.1, x.2.2.2.2.1⟩
def CmdBd (c : Cmd) : Prop := c.ses <= 18446744073709551615 /\ c.seq <= 18446744073709551615 /\ c.word.length < 1099511627776
theorem cmd_of {cs : List Value} {x : CmT} (hR : RCmd cs x) (hB : mCmd x <= 1048576) : cmdR cs (toCmd x) /\ CmdBd (toCmd x) := by
 obtain ⟨k, s, q, w, t, u⟩ := x
 obtain ⟨c1, c2, e1, h1, c3, c4, e2, h2, c5, c6, e3, h3, c7, c8, e4, h4, c9, c10, e5, h5, h6⟩ := hR
 obtain ⟨rfl, _⟩ := ri_i64 h1
 obtain ⟨rfl, hs⟩ := ri_u64 h2
 obtain ⟨rfl, hq⟩ := ri_u64 h3
 obtain rfl : c7 = [str w] := h4
 obtain ⟨rfl, _⟩ := ri_i64 h5
 obtain rfl : c10 = [] := h6
 have hmx : mxU = 18446744073709551615 := rfl
 refine ⟨by rw [show cs = _ from e1, e2, e3, e4, e5]; rfl, by show s.toNat <= _; dsimp only at hs ⊢; omega, by show q.toNat <= _; dsimp only at hq ⊢; omega, ?_⟩
 show w.length < _
 simp only [mCmd] at hB
 omega
theorem all2_cmds : ∀ {css : List (List Value)} {xs : List CmT}, All2 RCmd css xs -> sumM mCmd xs <= 1048576 -> All2 cmdR css (xs.map toCmd) /\ ∀ c ∈ xs.map toCmd, CmdBd c
 | [], [], _, _ => ⟨trivial, by simp⟩
 | c :: cs, x :: xs, ⟨h1, h2⟩, hB => by
  simp only [sumM] at hB
  obtain ⟨g1, g2⟩ := cmd_of h1 (by omega)
  obtain ⟨k1, k2⟩ := all2_cmds h2 (by omega)
  refine ⟨⟨g1, k1⟩, fun y hy => ?_⟩
  rw [List.map_cons] at hy
  rcases List.mem_cons.1 hy with rfl | hy
  ·exact g2
  ·exact k2 y hy
 | [], _ :: _, g, _ => g.elim
 | _ :: _, [], g, _ => g.elim
theorem cmdsOpens : Opens enc Tryz.prog W 22 1 (RSl W 5 RCmd) (fun xs => sumM mCmd xs + 1) := Opens.slice Tryz.underlying22 (by kernel_rfl) cmdOpens
theorem open_cmds {base : Nat} {v : Value} {d : DataW H} {ps : List MemPlace} (hval : Value.okWide Tryz.prog W .any base 22 v) (h : DataW.Trod enc Tryz.prog W 0 (fun _ => true) true 22 v d ps) (hB : Rows.uptoBulk d <= 1048576) :
  ∃ ao cap, ∃ cs : List Cmd, v = .slice ao cs.length cap /\ SlS 5 cmdR (hp W) ao cs.length cap cs /\ (∀ c ∈ cs, CmdBd c) /\ cs.length < 1099511627776 := by
 obtain ⟨a0, len, cap0, rfl⟩ := okWide_slice Tryz.underlying22 hval
 obtain ⟨xs, hR, hm⟩ := (cmdsOpens (enc := enc) (W := W)).arg h
 have hge := sumM_ge mCmd (fun _ => by simp only [mCmd]; omega) xs
 obtain ⟨ao, cap, css, e, x, h2⟩ := hR
 obtain ⟨g1, g2⟩ := all2_cmds h2 (by omega)
 simp [Value.cells] at e
 obtain ⟨rfl, rfl, rfl⟩ := e
 have e2 : xs.length = (xs.map toCmd).length := by simp
 rw [e2] at x ⊢
 refine ⟨a0, cap0, xs.map toCmd, rfl, ⟨css, rfl, x, al2_all g1, all2_sz (fun c x hc => by obtain rfl := hc; rfl) g1⟩, g2, by rw [List.length_map]; omega⟩
end opens
end Go.Proofs.YtejkjbkodcamoaaGreatDoor
end
