/-
  Part 3 of what the proof needs (texts Lp Pa Va Sa Fa Ft Sz Es Ej Ek Ss Ga Gd Gm Gn Go Eo).
-/
import Derived.ChangeKeysEq
import Derived.Scope
import Derived.Test.YtejkjbkodcamoaaGreatDoorSC2
set_option linter.unusedSectionVars false
set_option linter.unusedSimpArgs false
set_option linter.unusedVariables false
section
namespace Go.En
def scalarP (r : Nat) : Prop := r <= 1114111 /\ (r < 55296 \/ 57343 < r)
instance (r : Nat) : Decidable (scalarP r) := by unfold scalarP; infer_instance
def leastR (n : Nat) : Nat := if n = 2 then 128 else if n = 3 then 2048 else if n = 4 then 65536 else 0
def contR : Nat -> List UInt8 -> Option Nat
 | r, [] => some r
 | r, c :: t => if c.toNat / 64 = 2 then contR (r * 64 + c.toNat % 64) t else none
def headR (k : Nat) : Nat × Nat := if k / 32 = 6 then (k % 32, 2) else if k / 16 = 14 then (k % 16, 3) else if k / 8 = 30 then (k % 8, 4) else (0, 0)
def firstP : List UInt8 -> Nat × Nat
 | [] => (0, 0)
 | c :: t =>
  if c.toNat < 128 then (c.toNat, 1)
  else if (headR c.toNat).2 = 0 \/ t.length + 1 < (headR c.toNat).2 then (0, 0)
  else match contR (headR c.toNat).1 (t.take ((headR c.toNat).2 - 1)) with
   | none => (0, 0)
   | some r => if r < leastR (headR c.toNat).2 \/ ¬ scalarP r then (0, 0) else (r, (headR c.toNat).2)
theorem firstP_cons (c : UInt8) (t : List UInt8) : firstP (c :: t) = if c.toNat < 128 then (c.toNat, 1)
  else if (headR c.toNat).2 = 0 \/ t.length + 1 < (headR c.toNat).2 then (0, 0)
  else match contR (headR c.toNat).1 (t.take ((headR c.toNat).2 - 1)) with
   | none => (0, 0)
   | some r => if r < leastR (headR c.toNat).2 \/ ¬ scalarP r then (0, 0) else (r, (headR c.toNat).2) := rfl
def by8 (n : Nat) : UInt8 := UInt8.ofNat n
def wr (r : Nat) : List UInt8 :=
 if r < 128 then [by8 r] else if r < 2048 then [by8 (192 + r / 64), by8 (128 + r % 64)] else if r < 65536 then [by8 (224 + r / 4096), by8 (128 + r / 64 % 64), by8 (128 + r % 64)]
 else [by8 (240 + r / 262144), by8 (128 + r / 4096 % 64), by8 (128 + r / 64 % 64), by8 (128 + r % 64)]
theorem by8_eq {c : UInt8} {n : Nat} (h : c.toNat = n) : by8 n = c := by subst h; simp [by8]
theorem headR_n (k : Nat) : (headR k).2 = 0 \/ (headR k).2 = 2 \/ (headR k).2 = 3 \/ (headR k).2 = 4 := by
 unfold headR
 repeat' split
 all_goals simp
theorem firstP_n (s : List UInt8) : (firstP s).2 <= 4 /\ (firstP s).2 <= s.length := by
 cases s with
 | nil => simp [firstP]
 | cons c t =>
  rw [firstP_cons]
  have := headR_n c.toNat
  by_cases h1 : c.toNat < 128
  ·rw [if_pos h1]; simp
  ·rw [if_neg h1]
   by_cases h2 : (headR c.toNat).2 = 0 \/ t.length + 1 < (headR c.toNat).2
   ·rw [if_pos h2]; simp
   ·rw [if_neg h2]
    cases contR (headR c.toNat).1 (t.take ((headR c.toNat).2 - 1)) with
    | none => simp
    | some r =>
     dsimp only
     split
     ·simp
     ·simp only [List.length_cons]; omega
theorem firstP_wr {s : List UInt8} (h : (firstP s).2 ≠ 0) : scalarP (firstP s).1 /\ wr (firstP s).1 = s.take (firstP s).2 := by
 cases s with
 | nil => simp [firstP] at h
 | cons c t =>
  have hc := c.toNat_lt
  rw [firstP_cons] at h ⊢
  by_cases h1 : c.toNat < 128
  ·rw [if_pos h1] at h ⊢
   refine ⟨⟨by dsimp only; omega, by dsimp only; omega⟩, ?_⟩
   dsimp only
   rw [wr, if_pos h1, by8_eq rfl]
   rfl
  ·rw [if_neg h1] at h ⊢
   by_cases h2 : (headR c.toNat).2 = 0 \/ t.length + 1 < (headR c.toNat).2
   ·rw [if_pos h2] at h; exact absurd rfl h
   ·rw [if_neg h2] at h ⊢
    cases h3 : contR (headR c.toNat).1 (t.take ((headR c.toNat).2 - 1)) with
    | none => rw [h3] at h; exact absurd rfl h
    | some r =>
     rw [h3] at h
     dsimp only at h ⊢
     by_cases h4 : r < leastR (headR c.toNat).2 \/ ¬ scalarP r
     ·rw [if_pos h4] at h; exact absurd rfl h
     ·rw [if_neg h4]
      have hs : scalarP r := Classical.not_not.1 fun g => h4 (.inr g)
      refine ⟨hs, ?_⟩
      have hl : ¬ r < leastR (headR c.toNat).2 := fun g => h4 (.inl g)
      dsimp only
      unfold headR at h2 h3 hl ⊢
      by_cases k1 : c.toNat / 32 = 6
      ·simp only [if_pos k1] at h2 h3 hl ⊢
       obtain ⟨c1, t1, rfl⟩ : ∃ c1 t1, t = c1 :: t1 := by cases t with
        | nil => simp at h2
        | cons a b => exact ⟨a, b, rfl⟩
       simp [contR] at h3
       simp [leastR] at hl
       obtain ⟨g1, rfl⟩ := h3
       have hc1 := c1.toNat_lt
       rw [wr, if_neg (by omega), if_pos (by omega), by8_eq (c := c) (by omega), by8_eq (c := c1) (by omega)]
       rfl
      ·simp only [if_neg k1] at h2 h3 hl ⊢
       by_cases k2 : c.toNat / 16 = 14
       ·simp only [if_pos k2] at h2 h3 hl ⊢
        obtain ⟨c1, c2, t1, rfl⟩ : ∃ c1 c2 t1, t = c1 :: c2 :: t1 := by
         match t, h2 with
         | [], h2 => simp at h2
         | [_], h2 => simp at h2
         | a :: b :: d, _ => exact ⟨a, b, d, rfl⟩
        simp [contR] at h3
        simp [leastR] at hl
        obtain ⟨g1, g2, rfl⟩ := h3
        have hc1 := c1.toNat_lt
        have hc2 := c2.toNat_lt
        rw [wr, if_neg (by omega), if_neg (by omega), if_pos (by omega), by8_eq (c := c) (by omega), by8_eq (c := c1) (by omega), by8_eq (c := c2) (by omega)]
        rfl
       ·simp only [if_neg k2] at h2 h3 hl ⊢
        by_cases k3 : c.toNat / 8 = 30
        ·simp only [if_pos k3] at h2 h3 hl ⊢
         obtain ⟨c1, c2, c3, t1, rfl⟩ : ∃ c1 c2 c3 t1, t = c1 :: c2 :: c3 :: t1 := by
          match t, h2 with
          | [], h2 => simp at h2
          | [_], h2 => simp at h2
          | [_, _], h2 => simp at h2
          | a :: b :: d :: e, _ => exact ⟨a, b, d, e, rfl⟩
         simp [contR] at h3
         simp [leastR] at hl
         obtain ⟨g1, g2, g3, rfl⟩ := h3
         have hc1 := c1.toNat_lt
         have hc2 := c2.toNat_lt
         have hc3 := c3.toNat_lt
         rw [wr, if_neg (by omega), if_neg (by omega), if_neg (by omega), by8_eq (c := c) (by omega), by8_eq (c := c1) (by omega), by8_eq (c := c2) (by omega), by8_eq (c := c3) (by omega)]
         rfl
        ·simp only [if_neg k3] at h2
         exact absurd h2 (by simp)
def runesF : Nat -> List UInt8 -> Option (List Nat)
 | 0, _ => some []
 | k + 1, s => if s = [] then some [] else if (firstP s).2 = 0 then none else (runesF k (s.drop (firstP s).2)).map ((firstP s).1 :: ·)
def runesP (s : List UInt8) : Option (List Nat) := runesF s.length s
def textP : List Nat -> List UInt8
 | [] => []
 | r :: l => wr r ++ textP l
theorem runesF_text : ∀ (k : Nat) (s : List UInt8) (l : List Nat), s.length <= k -> runesF k s = some l -> textP l = s /\ (∀ r ∈ l, scalarP r) /\ l.length <= s.length
 | 0, s, l, hk, h => by
  simp only [runesF, Option.some.injEq] at h
  subst h
  have : s = [] := List.length_eq_zero_iff.1 (by omega)
  subst this
  simp [textP]
 | k + 1, s, l, hk, h => by
  unfold runesF at h
  by_cases h1 : s = []
  ·rw [if_pos h1] at h
   simp only [Option.some.injEq] at h
   subst h h1
   simp [textP]
  ·rw [if_neg h1] at h
   by_cases h2 : (firstP s).2 = 0
   ·rw [if_pos h2] at h; cases h
   ·rw [if_neg h2] at h
    obtain ⟨l', h3, rfl⟩ := Option.map_eq_some_iff.1 h
    have hn := firstP_n s
    obtain ⟨g1, g2⟩ := firstP_wr h2
    obtain ⟨k1, k2, k3⟩ := runesF_text k _ l' (by simp; omega) h3
    refine ⟨by rw [textP, g2, k1, List.take_append_drop], fun r hr => ?_, by simp at k3 ⊢; omega⟩
    rcases List.mem_cons.1 hr with rfl | hr
    ·exact g1
    ·exact k2 r hr
theorem runesP_text {s : List UInt8} {l : List Nat} (h : runesP s = some l) : textP l = s /\ (∀ r ∈ l, scalarP r) /\ l.length <= s.length := runesF_text _ _ _ (Nat.le_refl _) h
end Go.En
namespace Go.Proofs.YtejkjbkodcamoaaGreatDoor
open Go.En
attribute [local irreducible] Code.wp wpList Calls
theorem i32w {x : Int} (h : -2147483648 <= x /\ x <= 2147483647) : Value.int .i32 (IntKind.i32.wrap x) = .int .i32 x := by rw [IntWalk.i32_in _ h]
def LeastK (K : PH) : Prop := ∀ j : Nat, j < 5 -> Cell K ((⟨0, 0, none⟩ : Addr).add j) (.int .i32 ((leastR j : Nat) : Int))
theorem u8shr (c k : Nat) (hk : k <= 8) : Value.int .u8 (((c : Nat) : Int).fdiv (2 ^ (min ((k : Nat) : Int).toNat IntKind.u8.bits))) = .int .u8 ((c / 2 ^ k : Nat) : Int) := by
 have e : min ((k : Nat) : Int).toNat IntKind.u8.bits = k := by
  have : IntKind.u8.bits = 8 := rfl
  omega
 rw [e]
 congr 1
 rw [show ((2 : Int) ^ k) = ((2 ^ k : Nat) : Int) from by push_cast; rfl, Int.fdiv_eq_ediv_of_nonneg _ (Int.natCast_nonneg _)]
 exact (Int.natCast_ediv c (2 ^ k)).symm
theorem i32and (a m k : Nat) (ha : a < 2147483648) (hm : m + 1 = 2 ^ k) (hk : k <= 16) : Value.int .i32 (IntKind.i32.wrap ((BitVec.ofInt 32 ((a : Nat) : Int) &&& BitVec.ofInt 32 ((m : Nat) : Int)).toNat : Nat)) = .int .i32 ((a % 2 ^ k : Nat) : Int) := by
 have hp : 2 ^ k <= 2 ^ 16 := Nat.pow_le_pow_right (by decide) hk
 have hm' : m = 2 ^ k - 1 := by omega
 have e : (BitVec.ofInt 32 ((a : Nat) : Int) &&& BitVec.ofInt 32 ((m : Nat) : Int)).toNat = a % 2 ^ k := by
  rw [BitVec.toNat_and, BitVec.ofInt_natCast, BitVec.ofInt_natCast, BitVec.toNat_ofNat, BitVec.toNat_ofNat, Nat.mod_eq_of_lt (by omega), Nat.mod_eq_of_lt (by omega), hm', Nat.and_two_pow_sub_one_eq_mod]
 have h1 := Nat.mod_le a (2 ^ k)
 rw [e, i32w (by omega)]
theorem i32or (a b : Nat) (ha : a < 1048576) (hb : b < 64) : Value.int .i32 (IntKind.i32.wrap ((BitVec.ofInt 32 ((a * 64 : Nat) : Int) ||| BitVec.ofInt 32 ((b : Nat) : Int)).toNat : Nat)) = .int .i32 ((a * 64 + b : Nat) : Int) := by
 have e : (BitVec.ofInt 32 ((a * 64 : Nat) : Int) ||| BitVec.ofInt 32 ((b : Nat) : Int)).toNat = a * 64 + b := by
  rw [BitVec.toNat_or, BitVec.ofInt_natCast, BitVec.ofInt_natCast, BitVec.toNat_ofNat, BitVec.toNat_ofNat, Nat.mod_eq_of_lt (by omega), Nat.mod_eq_of_lt (by omega)]
  have := Nat.shiftLeft_add_eq_or_of_lt (i := 6) (b := b) hb a
  rw [Nat.shiftLeft_eq] at this
  exact this.symm
 rw [e, i32w (by omega)]
theorem i32shl6 (a : Nat) (ha : a < 1048576) : Value.int .i32 (IntKind.i32.wrap (((a : Nat) : Int) * 2 ^ (min ((6 : Nat) : Int).toNat IntKind.i32.bits))) = .int .i32 ((a * 64 : Nat) : Int) := by
 rw [show min ((6 : Nat) : Int).toNat IntKind.i32.bits = 6 from rfl, show (2 : Int) ^ 6 = 64 from rfl, i32w (by omega)]
 congr 1
theorem u8and63 (c : Nat) (hc : c < 256) : Value.int .u8 (IntKind.u8.wrap ((BitVec.ofInt 8 ((c : Nat) : Int) &&& BitVec.ofInt 8 63).toNat : Nat)) = .int .u8 ((c % 64 : Nat) : Int) := by
 have e : (BitVec.ofInt 8 ((c : Nat) : Int) &&& BitVec.ofInt 8 63).toNat = c % 64 := by
  rw [show BitVec.ofInt 8 63 = 63#8 from by decide, BitVec.toNat_and, BitVec.ofInt_natCast, BitVec.toNat_ofNat, Nat.mod_eq_of_lt (by omega), show (63#8).toNat = 2 ^ 6 - 1 from rfl, Nat.and_two_pow_sub_one_eq_mod]
 rw [e, u8w (by omega)]
theorem leastS {K : PH} (hG : LeastK K) (j : Nat) (hj : j < 5) : Cell K ((⟨0, 0, none⟩ : Addr).add (j * 1)) (.int .i32 ((leastR j : Nat) : Int)) := by rw [Nat.mul_one]; exact hG j hj
theorem scalarC {w0 : World} {K : PH} {hs : List PH} (r : Nat) : Ct Tryz.prog w0 128 [.int .i32 (r : Nat)] K hs (fun v K' hs' => K' = K /\ hs' = hs /\ ∃ t : Bool, v = .bool t /\ (t = true ↔ scalarP r)) := by
 refine enter Tryz.func128 (by kernel_rfl) rfl rfl rfl ?_
 refine sq (rg ?_)
 refine fin hT 1 rfl (th (sq (rg ?_)))
 refine cmpS hT 1 rfl fun b4 h4 => ?_
 refine' bja hT 1 3 8 [4, 5] h4 rfl rfl rfl rfl rfl rfl rfl (fun _ => ?x2) (fun b8 h8 => ?_)
 case x2 =>
  refine cmpS hT 1 rfl fun b7 h7 => ?_
  exact fin hT 1 rfl (bjx h7 rfl rfl rfl)
 refine' bja hT 1 7 16 [8, 9] h8 rfl rfl rfl rfl rfl rfl rfl (fun _ => ?x4) (fun b16 h16 => ?_)
 case x4 =>
  refine cmpS hT 1 rfl fun b11 h11 => ?_
  refine' bjo hT 1 3 15 [11, 12] h11 rfl rfl rfl rfl rfl rfl rfl (fun _ => ?x6) (fun b15 h15 => ?_)
  case x6 =>
   refine cmpS hT 1 rfl fun b14 h14 => ?_
   exact fin hT 1 rfl (bjx h14 rfl rfl rfl)
  exact fin hT 1 rfl (bjx h15 rfl rfl rfl)
 refine fin hT 1 rfl (th (rt ?_))
 exact ret1 rfl rfl ⟨rfl, rfl, b16, rfl, by rw [h16]; unfold scalarP; omega⟩
theorem firstC {w0 : World} {K : PH} {hs : List PH} (s : List UInt8) (h0 : s ≠ []) (hG : LeastK K) (hl : s.length < 1099511627776) : Ct Tryz.prog w0 110 [str s] K hs (fun v K' hs' => K' = K /\ hs' = hs /\ v = .tuple #[.int .i32 ((firstP s).1 : Nat), .int .i64 ((firstP s).2 : Nat)]) := by
 obtain ⟨c, t, rfl⟩ : ∃ c t, s = c :: t := by cases s with
  | nil => exact absurd rfl h0
  | cons c t => exact ⟨c, t, rfl⟩
 have hc := c.toNat_lt
 have hf := firstP_cons c t
 refine enter Tryz.func110 (by kernel_rfl) rfl rfl rfl ?_
 refine sq (rg ?_)
 refine fin hT 2 rfl (th (sq (rg ?_)))
 refine six hT 1 (c :: t) 0 rfl rfl rfl rfl ?_
 refine fin hT 1 rfl (th (sq (rg ?_)))
 refine ar hT 1 rfl (i32w (by omega)) ?_
 refine fin hT 2 rfl (th (jn (σ := Nat × Nat) (fun s => [(0, str (c :: t)), (5, .int .i32 ((s.1 : Nat) : Int)), (6, .int .i64 ((s.2 : Nat) : Int))]) (fun s => hs) (fun s => s = headR c.toNat /\ s.2 ≠ 0 /\ ¬ c.toNat < 128 /\ s.1 < 32) ?_ ?_))
 ·refine bk (sq (rg ?_))
  refine cmpS hT 1 rfl fun b15 h15 => ?_
  refine fin hT 1 rfl (th (ifP h15 rfl (fun e2 => ?_) (fun e2 => ?_)))
  ·refine sq (rg ?_)
   refine fin hT 3 rfl (th (rt (rB (jr ?_))))
   exact ret2 rfl rfl rfl ⟨rfl, rfl, by rw [hf, if_pos (by omega)]; rfl⟩
  ·refine sq (rg ?_)
   refine ar hT 1 rfl (u8shr c.toNat 5 (by decide)) ?_
   refine cmpS hT 0 rfl fun b20 h20 => ?_
   refine fin hT 1 rfl (th (ifP h20 rfl (fun e4 => ?_) (fun e4 => ?_)))
   ·refine rg ?_
    refine ar hT 1 rfl (i32and c.toNat 31 5 (by omega) rfl (by decide)) ?_
    refine fin hT 2 rfl (bl ?_)
    exact jx ((c.toNat % 32, 2)) ⟨by unfold headR; rw [if_pos (by omega)], (by dsimp only; decide), by omega, by dsimp only; omega⟩ ⟨rfl, rfl, rfl, trivial⟩ rfl rfl
   ·refine sq (rg ?_)
    refine ar hT 1 rfl (u8shr c.toNat 4 (by decide)) ?_
    refine cmpS hT 0 rfl fun b26 h26 => ?_
    refine fin hT 1 rfl (th (ifP h26 rfl (fun e6 => ?_) (fun e6 => ?_)))
    ·refine rg ?_
     refine ar hT 1 rfl (i32and c.toNat 15 4 (by omega) rfl (by decide)) ?_
     refine fin hT 2 rfl (bl ?_)
     exact jx ((c.toNat % 16, 3)) ⟨by unfold headR; rw [if_neg (by omega), if_pos (by omega)], (by dsimp only; decide), by omega, by dsimp only; omega⟩ ⟨rfl, rfl, rfl, trivial⟩ rfl rfl
    ·refine sq (rg ?_)
     refine ar hT 1 rfl (u8shr c.toNat 3 (by decide)) ?_
     refine cmpS hT 0 rfl fun b32 h32 => ?_
     refine fin hT 1 rfl (th (ifP h32 rfl (fun e8 => ?_) (fun e8 => ?_)))
     ·refine rg ?_
      refine ar hT 1 rfl (i32and c.toNat 7 3 (by omega) rfl (by decide)) ?_
      refine fin hT 2 rfl (bl ?_)
      exact jx ((c.toNat % 8, 4)) ⟨by unfold headR; rw [if_neg (by omega), if_neg (by omega), if_pos (by omega)], (by dsimp only; decide), by omega, by dsimp only; omega⟩ ⟨rfl, rfl, rfl, trivial⟩ rfl rfl
     ·refine sq (rg ?_)
      refine fin hT 2 rfl (th (rt (rB (jr ?_))))
      exact ret2 rfl rfl rfl ⟨rfl, rfl, by rw [hf, if_neg (by omega), if_pos (.inl (by unfold headR; rw [if_neg (by omega), if_neg (by omega), if_neg (by omega)]))]; rfl⟩
 ·rintro ⟨r0, n⟩ ⟨hh, hn0, hc1, hr0⟩
  dsimp only at hn0 hr0 ⊢
  have hsz : (⟨(c :: t).toArray⟩ : ByteArray).size = t.length + 1 := by simp [ByteArray.size]
  have hn := headR_n c.toNat
  rw [<- hh] at hf hn
  rw [if_neg hc1] at hf
  dsimp only at hf hn
  refine sq (sq (rg ?_))
  refine cmpS hT 3 rfl fun b38 h38 => ?_
  rw [hsz] at h38
  refine fin hT 0 rfl (th (ifP h38 rfl (fun e10 => ?_) (fun e10 => ?_)))
  ·refine sq (rg ?_)
   refine fin hT 2 rfl (th (rt (rT ?_)))
   exact ret2 rfl rfl rfl ⟨rfl, rfl, by rw [hf, if_pos (by omega)]; rfl⟩
  ·refine sk (th (sq (sq (rg ?_))))
   refine ssl hT 2 (c :: t) 1 n rfl rfl rfl rfl (by omega) (by simp only [List.length_cons]; omega) ?_
   have eq : ((c :: t).drop 1).take (n - 1) = t.take (n - 1) := rfl
   rw [eq]
   have hql : (t.take (n - 1)).length = n - 1 := by rw [List.length_take]; omega
   rw [if_neg (by omega)] at hf
   generalize t.take (n - 1) = q at hql hf ⊢
   refine cvb hT 0 rfl (by kernel_rfl) fun b42 c42 g42 x42 => ?_
   refine fin hT 2 rfl (th (bk ?_))
   refine loop (σ := Nat × Nat) (fun s => [(6, .int .i64 ((n : Nat) : Int)), (5, .int .i32 ((s.2 : Nat) : Int)), (42, .slice (some ⟨b42, 0, none⟩) q.length c42), (43, .int .i64 (q.length : Nat)), (44, .int .i64 (s.1 : Nat))]) (fun _ => K) (fun s => g42 :: hs) (fun s => s.1 <= q.length /\ contR s.2 (q.drop s.1) = contR r0 q /\ s.2 < 32 * 64 ^ s.1) (fun s => q.length - s.1) (0, r0) ⟨Nat.zero_le _, rfl, by dsimp only; omega⟩ ⟨rfl, rfl, rfl, rfl, rfl, trivial⟩ rfl rfl ?_
   rintro ⟨i, r⟩ ⟨hi, hco, hrb⟩
   dsimp only at hi hco hrb ⊢
   refine sq (rg ?_)
   refine cmpS hT 0 rfl fun b45 h45 => ?_
   refine fin hT 0 rfl (th (sq (ifP h45 rfl (fun e12 => ?_) (fun e12 => ?_))))
   ·have hiq : i < q.length := by omega
    have hpow : 64 ^ i <= 64 ^ 2 := Nat.pow_le_pow_right (by decide) (by omega)
    have hget : (bv q)[i]? = some (.int .u8 (q[i].toNat : Nat)) := by simp [bv, List.getElem?_eq_getElem hiq, hiq]
    have hc8 := q[i].toNat_lt
    rw [List.drop_eq_getElem_cons hiq, contR] at hco
    refine sk (th (sq (bk (sq (rg ?_)))))
    refine ix1 hT 0 i rfl rfl rfl x42 hget fun a46 hc46 => ?_
    refine ld hT 0 rfl (.inr ⟨0, rfl⟩) hc46 ?_
    refine fin hT 1 rfl (th (sq (sq (rg ?_))))
    refine ar hT 1 rfl (u8shr q[i].toNat 6 (by decide)) ?_
    refine cmpS hT 0 rfl fun b50 h50 => ?_
    refine fin hT 0 rfl (th (ifP h50 rfl (fun e14 => ?_) (fun e14 => ?_)))
    ·refine sq (rg ?_)
     refine fin hT 2 rfl (th (rt (rT (rB (rT (rT (rB (rT ?_))))))))
     refine WQ.drop ?_
     exact ret2 rfl rfl rfl ⟨rfl, rfl, by rw [if_neg (by omega)] at hco; rw [hf, <- hco]; rfl⟩
    ·refine sk (th (rg ?_))
     refine ar hT 1 rfl (i32shl6 r (by omega)) ?_
     refine ar hT 1 rfl (u8and63 q[i].toNat (by omega)) ?_
     refine ar hT 0 rfl (i32w (by omega)) ?_
     refine ar hT 0 rfl (i32or r (q[i].toNat % 64) (by omega) (by omega)) ?_
     refine fin hT 1 rfl (bl (th (rg ?_)))
     refine ar hT 0 rfl (i64w (by omega)) ?_
     refine fin hT 1 rfl ?_
     exact again (x := (i, r)) (i + 1, r * 64 + q[i].toNat % 64) ⟨rfl, rfl, rfl, rfl, rfl, trivial⟩ rfl rfl ⟨by omega, by dsimp only; rw [if_pos (by omega)] at hco; exact hco, by dsimp only; rw [Nat.pow_succ]; omega⟩ (by (try dsimp only); omega)
   ·obtain rfl : i = q.length := by omega
    have hpow : 64 ^ q.length <= 64 ^ 3 := Nat.pow_le_pow_right (by decide) (by omega)
    rw [List.drop_length, contR] at hco
    rw [<- hco] at hf
    dsimp only at hf
    refine ex (xt (xt (xb (th (sq (sq (rg ?_)))))))
    refine ixa hT 2 (sz := 1) n rfl Tryz.underlying211 (by kernel_rfl) rfl (by omega) ?_
    refine ld hT 0 (v := .int .i32 ((leastR n : Nat) : Int)) rfl (.inl rfl) (leastS hG n (by omega)) ?_
    refine cmpS hT 0 rfl fun b62 h62 => ?_
    refine' bjo hT 1 4 67 [62, 63] h62 rfl rfl rfl rfl rfl rfl rfl (fun _ => ?x16) (fun b67 h67 => ?_)
    case x16 =>
     refine cl hT 1 rfl (scalarC r) ?_
     rintro v65 K65 hs65 ⟨rfl, rfl, b65, rfl, h65⟩
     refine cbS hT 0 _ rfl (bnot h65) fun b66 h66 => ?_
     exact fin hT 1 rfl (bjx h66 rfl rfl rfl)
    refine fin hT 0 rfl (th (ifP h67 rfl (fun e17 => ?_) (fun e17 => ?_)))
    ·refine sq (rg ?_)
     refine fin hT 2 rfl (th (rt (rT ?_)))
     refine WQ.drop ?_
     exact ret2 rfl rfl rfl ⟨rfl, rfl, by rw [hf, if_pos (e17.imp (fun h => by omega) id)]; rfl⟩
    ·refine sk (th (sq (rg ?_)))
     refine fin hT 4 rfl (th (rt ?_))
     refine WQ.drop ?_
     exact ret2 rfl rfl rfl ⟨rfl, rfl, by rw [hf, if_neg (fun h => e17 (h.imp (fun h => by omega) id))]⟩
end Go.Proofs.YtejkjbkodcamoaaGreatDoor
namespace Go.En
theorem runesF_enough : ∀ (k : Nat) (s : List UInt8), s.length <= k -> runesF k s = runesF s.length s
 | 0, s, h => by rw [show s.length = 0 from by omega]
 | k + 1, s, h => by
  cases s with
  | nil => rfl
  | cons c t =>
   show runesF (k + 1) (c :: t) = runesF (t.length + 1) (c :: t)
   have hn := firstP_n (c :: t)
   simp only [List.length_cons] at h hn
   simp only [runesF]
   by_cases h2 : (firstP (c :: t)).2 = 0
   ·simp [h2]
   ·have e1 := runesF_enough k ((c :: t).drop (firstP (c :: t)).2) (by simp; omega)
    have e2 := runesF_enough t.length ((c :: t).drop (firstP (c :: t)).2) (by simp; omega)
    rw [e1, e2]
 termination_by k => k
theorem runesP_nil : runesP [] = some [] := rfl
theorem runesP_step {s : List UInt8} (h : s ≠ []) : runesP s = if (firstP s).2 = 0 then none else (runesP (s.drop (firstP s).2)).map ((firstP s).1 :: ·) := by
 cases s with
 | nil => exact absurd rfl h
 | cons c t =>
  have hn := firstP_n (c :: t)
  show runesF (t.length + 1) (c :: t) = _
  simp only [runesF]
  rw [if_neg h]
  by_cases h2 : (firstP (c :: t)).2 = 0
  ·simp [h2]
  ·rw [if_neg h2, if_neg h2, runesF_enough t.length _ (by simp; omega)]
   rfl
def rvv (l : List Nat) : List Value := l.map fun r => Value.int .i32 ((r : Nat) : Int)
theorem rvv_append (l r : List Nat) : rvv (l ++ r) = rvv l ++ rvv r := by simp [rvv]
theorem rvv_one (l : List Nat) : ∀ u ∈ rvv l, u.oneCell' = true := by
 intro u hu
 obtain ⟨b, _, rfl⟩ := List.mem_map.1 hu
 rfl
end Go.En
namespace Go.Proofs.YtejkjbkodcamoaaGreatDoor
open Go.En
attribute [local irreducible] Code.wp wpList Calls
theorem isS_ptL {b n ty : Nat} {c : Array Value} {fr : Nat × Nat} {xs : List Value} (h1 : c.toList = xs) (h2 : c.size = n) : IsS (pt b c ty fr) (some ⟨b, 0, none⟩) n n 1 xs := by
 subst h1
 refine ⟨by simpa using h2, Nat.le_refl _, fun j u hu => ⟨_, rfl, ?_⟩⟩
 rw [add_mk]
 exact Cell.pt (by simpa using hu)
theorem appR {P : Program} {T : Tab} {w0 : World} {ops : Array Oper} {Q : Exit -> Act -> World -> Prop} {rest rest' : List Oper} {n : Nat} {l l' : Sl} {K : PH} {hs : List PH}
  (hT : TabOK P T) (k i : Nat) (xs : List Nat) (y : Nat) {d : Nat} {si : SlI} {ao ao2 : Option Addr} {c1 c2 : Nat} {h h2 : PH} (h0 : apAt T ops n k rest l = some (d, si, (ao, xs.length, c1), (ao2, 1, c2), rest', l'))
  (hi : hs[i]? = some h) (hsz : (si.size, si.bytes, si.zero.cells.size) = (1, 4, 1)) (o : Own h ao xs.length c1 si.elem 1 (rvv xs)) (hm : In K hs h2) (x : IsS h2 ao2 1 c2 1 (rvv [y])) (hb : xs.length <= 17592186044415)
  (hk : ∀ ao' cap' h', Own h' ao' (xs ++ [y]).length cap' si.elem 1 (rvv (xs ++ [y])) -> WL P w0 ops Q rest' n ((d, .slice ao' (xs ++ [y]).length cap') :: l') K (hs.set i h')) : WL P w0 ops Q rest n l K hs := by
 simp only [Prod.mk.injEq] at hsz
 obtain ⟨e1, e2, e3⟩ := hsz
 refine app hT k i h0 hi (by rw [e1]; exact o) hm (by rw [e1]; exact x) (by rw [e1, e3]) (by rw [e1]; decide) (rvv_one _) (by rw [e2]; omega) (by simp only [maxLen]; omega) fun ao' cap' h' o' => ?_
 have e : (xs ++ [y]).length = xs.length + 1 := by simp
 rw [e1, <- rvv_append, <- e] at o'
 have := hk ao' cap' h' o'
 rwa [e] at this
theorem runesC {w0 : World} {K : PH} {hs : List PH} (s : List UInt8) (hG : LeastK K) (hl : s.length < 1099511627776) : Ct Tryz.prog w0 92 [str s] K hs
  (fun v K' hs' => K' = K /\ ∃ h ao c, hs' = h :: hs /\ v = .tuple #[.slice ao ((runesP s).getD []).length c, .bool (runesP s).isSome] /\ Own h ao ((runesP s).getD []).length c 21 1 (rvv ((runesP s).getD []))) := by
 refine enter Tryz.func92 (by kernel_rfl) rfl rfl rfl ?_
 refine sq (rg ?_)
 refine fin hT 2 rfl (th (sq (rg ?_)))
 refine fin hT 1 rfl (th (sq (bk (WC.em ?_))))
 refine loop (σ := List Nat × List UInt8 × PH × Option Addr × Nat) (fun x => [(0, str x.2.1), (4, .slice x.2.2.2.1 x.1.length x.2.2.2.2)]) (fun _ => K) (fun x => x.2.2.1 :: hs) (fun x => runesP s = (runesP x.2.1).map (x.1 ++ ·) /\ x.1.length + x.2.1.length <= s.length /\ Own x.2.2.1 x.2.2.2.1 x.1.length x.2.2.2.2 21 1 (rvv x.1)) (fun x => x.2.1.length) ([], s, em, none, 0) ⟨by cases runesP s <;> rfl, by simp, Own.nil _ _⟩ ⟨rfl, rfl, trivial⟩ rfl rfl ?_
 rintro ⟨l, s', g, ao, c⟩ ⟨hr, hlen, o⟩
 dsimp only at hr hlen o ⊢
 have hsz : (⟨s'.toArray⟩ : ByteArray).size = s'.length := by simp [ByteArray.size]
 refine sq (sq (rg ?_))
 refine cmpS hT 2 rfl fun b9 h9 => ?_
 rw [hsz] at h9
 refine fin hT 0 rfl (th (ifP h9 rfl (fun e2 => ?_) (fun e2 => ?_)))
 ·have hne : s' ≠ [] := by rintro rfl; simp at e2
  have hst := runesP_step hne
  have hn := firstP_n s'
  refine sk (th (bk (sq (rg ?_))))
  refine cl hT 1 rfl (firstC s' hne hG (by omega)) ?_
  rintro v12 K12 hs12 ⟨rfl, rfl, rfl⟩
  refine fin hT 5 rfl (th (sq (sq (rg ?_))))
  refine cmpS hT 1 rfl fun b16 h16 => ?_
  refine fin hT 0 rfl (th (ifP h16 rfl (fun e4 => ?_) (fun e4 => ?_)))
  ·refine sq (rg ?_)
   refine fin hT 2 rfl (th (rt (rT (rB (rT (rB (rT ?_)))))))
   refine WQ.drop (WQ.em ?_)
   exact ret2 rfl rfl rfl ⟨rfl, em, none, 0, rfl, by rw [hr, hst, if_pos (by omega)]; rfl, by rw [hr, hst, if_pos (by omega)]; exact Own.nil _ _⟩
  ·refine sk (th (sq (rg ?_)))
   refine lit hT 2 #[.int .i32 ((firstP s').1 : Nat)] rfl (by decide) (by kernel_rfl) fun b19 => ?_
   refine appR hT 0 1 l (firstP s').1 rfl rfl rfl o (.inr ⟨0, rfl⟩) (isS_ptL rfl rfl) (by omega) fun ao20 c20 g20 o20 => ?_
   refine fin hT 1 rfl (th (WC.drop (rg ?_)))
   refine ssl hT 2 s' (firstP s').2 s'.length rfl rfl rfl rfl (by omega) (Nat.le_refl _) ?_
   have eq : (s'.drop (firstP s').2).take (s'.length - (firstP s').2) = s'.drop (firstP s').2 := List.take_of_length_le (by simp)
   rw [eq]
   refine fin hT 1 rfl (bl ?_)
   exact again (x := (l, s', g, ao, c)) (l ++ [(firstP s').1], s'.drop (firstP s').2, g20, ao20, c20) ⟨rfl, rfl, trivial⟩ rfl rfl ⟨by dsimp only; rw [hr, hst, if_neg (by omega)]; cases runesP (s'.drop (firstP s').2) <;> simp, by simp only [List.length_append, List.length_singleton, List.length_drop]; omega, o20⟩ (by (try dsimp only); simp only [List.length_drop]; omega)
 ·obtain rfl : s' = [] := List.length_eq_zero_iff.1 (by omega)
  refine ex (xt (xt (xb (th (sq (rg ?_))))))
  refine fin hT 3 rfl (th (rt ?_))
  exact ret2 rfl rfl rfl ⟨rfl, g, ao, c, rfl, by rw [hr, runesP_nil]; simp, by rw [hr, runesP_nil]; simpa using o⟩
end Go.Proofs.YtejkjbkodcamoaaGreatDoor
namespace Go.Proofs.YtejkjbkodcamoaaGreatDoor
open Go.En
attribute [local irreducible] Code.wp wpList Calls
theorem i32shr (c k : Nat) (hk : k <= 32) : Value.int .i32 (((c : Nat) : Int).fdiv (2 ^ (min ((k : Nat) : Int).toNat IntKind.i32.bits))) = .int .i32 ((c / 2 ^ k : Nat) : Int) := by
 have e : min ((k : Nat) : Int).toNat IntKind.i32.bits = k := by
  have : IntKind.i32.bits = 32 := rfl
  omega
 rw [e]
 congr 1
 rw [show ((2 : Int) ^ k) = ((2 ^ k : Nat) : Int) from by push_cast; rfl, Int.fdiv_eq_ediv_of_nonneg _ (Int.natCast_nonneg _)]
 exact (Int.natCast_ediv c (2 ^ k)).symm
theorem i32orK (a A b k : Nat) (ha : a = A * 2 ^ k) (hb : b < 2 ^ k) (hs : a + b < 2147483648) : Value.int .i32 (IntKind.i32.wrap ((BitVec.ofInt 32 ((a : Nat) : Int) ||| BitVec.ofInt 32 ((b : Nat) : Int)).toNat : Nat)) = .int .i32 ((a + b : Nat) : Int) := by
 have e : (BitVec.ofInt 32 ((a : Nat) : Int) ||| BitVec.ofInt 32 ((b : Nat) : Int)).toNat = a + b := by
  rw [BitVec.toNat_or, BitVec.ofInt_natCast, BitVec.ofInt_natCast, BitVec.toNat_ofNat, BitVec.toNat_ofNat, Nat.mod_eq_of_lt (by omega), Nat.mod_eq_of_lt (by omega)]
  have := Nat.shiftLeft_add_eq_or_of_lt (i := k) (b := b) hb A
  rw [Nat.shiftLeft_eq, <- ha] at this
  exact this.symm
 rw [e, i32w (by omega)]
theorem wrQ {K g : PH} {R : List PH} {ao : Option Addr} {c : Nat} {bs X ys : List UInt8} (hp : X = ys) (o : Own g ao (bs ++ ys).length c 5 1 (bv (bs ++ ys))) :
  ∃ h', g :: R = h' :: R /\ K = K /\ ∃ ao' c', Value.slice ao (bs ++ ys).length c = .slice ao' (bs ++ X).length c' /\ Own h' ao' (bs ++ X).length c' 5 1 (bv (bs ++ X)) := by
 subst hp; exact ⟨g, rfl, rfl, ao, c, rfl, o⟩
theorem writeC {w0 : World} {K h : PH} {R : List PH} (ao : Option Addr) (c1 : Nat) (bs : List UInt8) (r : Nat) (hr : r <= 1114111) (hG : LeastK K) (o : Own h ao bs.length c1 5 1 (bv bs)) (hb : bs.length <= 68719476736) :
  Ct Tryz.prog w0 132 [.slice ao bs.length c1, .int .i32 (r : Nat)] K (h :: R)
   (fun v K' hs' => ∃ h', hs' = h' :: R /\ K' = K /\ ∃ ao' c', v = .slice ao' (bs ++ wr r).length c' /\ Own h' ao' (bs ++ wr r).length c' 5 1 (bv (bs ++ wr r))) := by
 refine enter Tryz.func132 (by kernel_rfl) rfl rfl rfl ?_
 refine sq (rg ?_)
 refine fin hT 1 rfl (th (sq (bk (sq (rg ?_)))))
 refine ixa hT 1 (sz := 1) 2 rfl Tryz.underlying211 (by kernel_rfl) rfl (by decide) ?_
 refine ld hT 0 (v := .int .i32 ((leastR 2 : Nat) : Int)) rfl (.inl rfl) (leastS hG 2 (by decide)) ?_
 refine cmpS hT 0 rfl fun b9 h9 => ?_
 rw [show leastR 2 = 128 from rfl] at h9
 refine fin hT 1 rfl (th (ifP h9 rfl (fun e2 => ?_) (fun e2 => ?_)))
 ·refine sq (rg ?_)
  refine ar hT 2 rfl (u8w (by omega)) ?_
  refine lit hT 0 #[.int .u8 ((r : Nat) : Int)] rfl (by decide) (by kernel_rfl) fun b13 => ?_
  refine appB hT 0 1 bs [by8 (r)] rfl rfl rfl o (.inr ⟨0, rfl⟩) (isS_ptL (by simp [bv, by8, byteV (show r < 256 by omega)]) rfl) (by simp only [List.length_cons, List.length_nil]; omega) fun ao14 c14 g14 o14 => ?_
  refine fin hT 1 rfl (th (rt (rB (rT ?_))))
  refine WQ.drop ?_
  exact ret1 rfl rfl (wrQ (by rw [wr, if_pos (by omega)]) o14)
 ·refine sq (rg ?_)
  refine ixa hT 1 (sz := 1) 3 rfl Tryz.underlying211 (by kernel_rfl) rfl (by decide) ?_
  refine ld hT 0 (v := .int .i32 ((leastR 3 : Nat) : Int)) rfl (.inl rfl) (leastS hG 3 (by decide)) ?_
  refine cmpS hT 0 rfl fun b19 h19 => ?_
  rw [show leastR 3 = 2048 from rfl] at h19
  refine fin hT 1 rfl (th (ifP h19 rfl (fun e4 => ?_) (fun e4 => ?_)))
  ·refine sq (rg ?_)
   refine ar hT 2 rfl (i32shr r 6 (by decide)) ?_
   refine ar hT 0 rfl (i32orK 192 3 (r / 64) 6 rfl (by omega) (by omega)) ?_
   refine ar hT 0 rfl (u8w (by omega)) ?_
   refine ar hT 1 rfl (i32and r 63 6 (by omega) rfl (by decide)) ?_
   refine ar hT 0 rfl (i32orK 128 2 (r % 64) 6 rfl (by omega) (by omega)) ?_
   refine ar hT 0 rfl (u8w (by omega)) ?_
   refine lit hT 0 #[.int .u8 ((192 + r / 64 : Nat) : Int), .int .u8 ((128 + r % 64 : Nat) : Int)] rfl (by decide) (by kernel_rfl) fun b29 => ?_
   refine appB hT 0 1 bs [by8 (192 + r / 64), by8 (128 + r % 64)] rfl rfl rfl o (.inr ⟨0, rfl⟩) (isS_ptL (by simp [bv, by8, byteV (show 192 + r / 64 < 256 by omega), byteV (show 128 + r % 64 < 256 by omega)]; omega) rfl) (by simp only [List.length_cons, List.length_nil]; omega) fun ao30 c30 g30 o30 => ?_
   refine fin hT 1 rfl (th (rt (rB (rT ?_))))
   refine WQ.drop ?_
   exact ret1 rfl rfl (wrQ (by rw [wr, if_neg (by omega), if_pos (by omega)]) o30)
  ·refine sq (rg ?_)
   refine ixa hT 1 (sz := 1) 4 rfl Tryz.underlying211 (by kernel_rfl) rfl (by decide) ?_
   refine ld hT 0 (v := .int .i32 ((leastR 4 : Nat) : Int)) rfl (.inl rfl) (leastS hG 4 (by decide)) ?_
   refine cmpS hT 0 rfl fun b35 h35 => ?_
   rw [show leastR 4 = 65536 from rfl] at h35
   refine fin hT 1 rfl (th (ifP h35 rfl (fun e6 => ?_) (fun e6 => ?_)))
   ·refine sq (rg ?_)
    refine ar hT 2 rfl (i32shr r 12 (by decide)) ?_
    refine ar hT 0 rfl (i32orK 224 7 (r / 4096) 5 rfl (by omega) (by omega)) ?_
    refine ar hT 0 rfl (u8w (by omega)) ?_
    refine ar hT 1 rfl (i32shr r 6 (by decide)) ?_
    refine ar hT 0 rfl (i32and (r / 64) 63 6 (by omega) rfl (by decide)) ?_
    refine ar hT 0 rfl (i32orK 128 2 (r / 64 % 64) 6 rfl (by omega) (by omega)) ?_
    refine ar hT 0 rfl (u8w (by omega)) ?_
    refine ar hT 1 rfl (i32and r 63 6 (by omega) rfl (by decide)) ?_
    refine ar hT 0 rfl (i32orK 128 2 (r % 64) 6 rfl (by omega) (by omega)) ?_
    refine ar hT 0 rfl (u8w (by omega)) ?_
    refine lit hT 0 #[.int .u8 ((224 + r / 4096 : Nat) : Int), .int .u8 ((128 + r / 64 % 64 : Nat) : Int), .int .u8 ((128 + r % 64 : Nat) : Int)] rfl (by decide) (by kernel_rfl) fun b50 => ?_
    refine appB hT 0 1 bs [by8 (224 + r / 4096), by8 (128 + r / 64 % 64), by8 (128 + r % 64)] rfl rfl rfl o (.inr ⟨0, rfl⟩) (isS_ptL (by simp [bv, by8, byteV (show 224 + r / 4096 < 256 by omega), byteV (show 128 + r / 64 % 64 < 256 by omega), byteV (show 128 + r % 64 < 256 by omega)]; omega) rfl) (by simp only [List.length_cons, List.length_nil]; omega) fun ao51 c51 g51 o51 => ?_
    refine fin hT 1 rfl (th (rt (rB (rT ?_))))
    refine WQ.drop ?_
    exact ret1 rfl rfl (wrQ (by rw [wr, if_neg (by omega), if_neg (by omega), if_pos (by omega)]) o51)
   ·refine sk (bl (th (sq (rg ?_))))
    refine ar hT 2 rfl (i32shr r 18 (by decide)) ?_
    refine ar hT 0 rfl (i32orK 240 15 (r / 262144) 4 rfl (by omega) (by omega)) ?_
    refine ar hT 0 rfl (u8w (by omega)) ?_
    refine ar hT 1 rfl (i32shr r 12 (by decide)) ?_
    refine ar hT 0 rfl (i32and (r / 4096) 63 6 (by omega) rfl (by decide)) ?_
    refine ar hT 0 rfl (i32orK 128 2 (r / 4096 % 64) 6 rfl (by omega) (by omega)) ?_
    refine ar hT 0 rfl (u8w (by omega)) ?_
    refine ar hT 1 rfl (i32shr r 6 (by decide)) ?_
    refine ar hT 0 rfl (i32and (r / 64) 63 6 (by omega) rfl (by decide)) ?_
    refine ar hT 0 rfl (i32orK 128 2 (r / 64 % 64) 6 rfl (by omega) (by omega)) ?_
    refine ar hT 0 rfl (u8w (by omega)) ?_
    refine ar hT 1 rfl (i32and r 63 6 (by omega) rfl (by decide)) ?_
    refine ar hT 0 rfl (i32orK 128 2 (r % 64) 6 rfl (by omega) (by omega)) ?_
    refine ar hT 0 rfl (u8w (by omega)) ?_
    refine lit hT 0 #[.int .u8 ((240 + r / 262144 : Nat) : Int), .int .u8 ((128 + r / 4096 % 64 : Nat) : Int), .int .u8 ((128 + r / 64 % 64 : Nat) : Int), .int .u8 ((128 + r % 64 : Nat) : Int)] rfl (by decide) (by kernel_rfl) fun b71 => ?_
    refine appB hT 0 1 bs [by8 (240 + r / 262144), by8 (128 + r / 4096 % 64), by8 (128 + r / 64 % 64), by8 (128 + r % 64)] rfl rfl rfl o (.inr ⟨0, rfl⟩) (isS_ptL (by simp [bv, by8, byteV (show 240 + r / 262144 < 256 by omega), byteV (show 128 + r / 4096 % 64 < 256 by omega), byteV (show 128 + r / 64 % 64 < 256 by omega), byteV (show 128 + r % 64 < 256 by omega)]; omega) rfl) (by simp only [List.length_cons, List.length_nil]; omega) fun ao72 c72 g72 o72 => ?_
    refine fin hT 1 rfl (th (rt ?_))
    refine WQ.drop ?_
    exact ret1 rfl rfl (wrQ (by rw [wr, if_neg (by omega), if_neg (by omega), if_neg (by omega)]) o72)
end Go.Proofs.YtejkjbkodcamoaaGreatDoor
namespace Go.En
theorem textP_append : ∀ (l r : List Nat), textP (l ++ r) = textP l ++ textP r
 | [], r => rfl
 | x :: l, r => by simp [textP, textP_append l r]
theorem wr_len (r : Nat) : (wr r).length <= 4 := by
 unfold wr
 repeat' split
 all_goals simp
theorem textP_len : ∀ (l : List Nat), (textP l).length <= 4 * l.length
 | [] => Nat.le_refl _
 | x :: l => by have := textP_len l; have := wr_len x; simp only [textP, List.length_append, List.length_cons]; omega
end Go.En
namespace Go.Proofs.YtejkjbkodcamoaaGreatDoor
open Go.En
attribute [local irreducible] Code.wp wpList Calls
theorem textC {w0 : World} {K hv : PH} {hs : List PH} (ai : Option Addr) (ci : Nat) (l : List Nat) (hm : In K hs hv) (x : IsS hv ai l.length ci 1 (rvv l)) (hsc : ∀ r ∈ l, scalarP r) (hG : LeastK K) (hl : l.length <= 1073741824) :
  Ct Tryz.prog w0 117 [.slice ai l.length ci] K hs (fun v K' hs' => K' = K /\ hs' = hs /\ v = .tuple #[str (textP l), .bool true]) := by
 refine enter Tryz.func117 (by kernel_rfl) rfl rfl rfl ?_
 refine sq (rg ?_)
 refine fin hT 2 rfl (th (sq (rg ?_)))
 refine fin hT 1 rfl (th (sq (sq (rg ?_))))
 refine fin hT 3 rfl (th (bk (WC.em ?_)))
 refine loop (σ := Nat × PH × Option Addr × Nat) (fun s => [(4, .slice s.2.2.1 (textP (l.take s.1)).length s.2.2.2), (7, .slice ai l.length ci), (8, .int .i64 (l.length : Nat)), (9, .int .i64 (s.1 : Nat))]) (fun _ => K) (fun s => s.2.1 :: hs) (fun s => s.1 <= l.length /\ Own s.2.1 s.2.2.1 (textP (l.take s.1)).length s.2.2.2 5 1 (bv (textP (l.take s.1)))) (fun s => l.length - s.1) (0, em, none, 0) ⟨Nat.zero_le _, Own.nil _ _⟩ ⟨rfl, rfl, rfl, rfl, trivial⟩ rfl rfl ?_
 rintro ⟨i, g, ao, c⟩ ⟨hi, o⟩
 dsimp only at hi o ⊢
 refine sq (rg ?_)
 refine cmpS hT 0 rfl fun b10 h10 => ?_
 refine fin hT 0 rfl (th (sq (ifP h10 rfl (fun e2 => ?_) (fun e2 => ?_))))
 ·have hil : i < l.length := by omega
  have htl := textP_len (l.take i)
  have hti : (l.take i).length = i := by simp; omega
  have hget : (rvv l)[i]? = some (.int .i32 ((l[i] : Nat) : Int)) := by simp [rvv, List.getElem?_eq_getElem hil, hil]
  have hsi := hsc l[i] (List.getElem_mem hil)
  have hts : l.take (i + 1) = l.take i ++ [l[i]] := by rw [List.take_add_one, List.getElem?_eq_getElem hil]; rfl
  refine sk (th (sq (bk (sq (rg ?_)))))
  refine ix1 hT 0 i rfl rfl rfl x hget fun a11 hc11 => ?_
  refine ld hT 0 rfl (In.cons hm) hc11 ?_
  refine fin hT 1 rfl (th (sq (sq (rg ?_))))
  refine cl hT 1 rfl (scalarC l[i]) ?_
  rintro v14 K14 hs14 ⟨rfl, rfl, b14, rfl, h14⟩
  refine cbS hT 0 _ rfl (bnot h14) fun b15 h15 => ?_
  refine fin hT 0 rfl (th (ifP h15 rfl (fun e3 => ?_) (fun e3 => ?_)))
  ··exact absurd hsi e3
  ·refine sk (th (rg ?_))
   refine cl hT 2 rfl (writeC ao c _ l[i] hsi.1 hG o (by omega)) ?_
   rintro v18 K18 hs18 ⟨g18, rfl, rfl, ao18, c18, rfl, o18⟩
   have ee : textP (l.take i) ++ wr l[i] = textP (l.take (i + 1)) := by rw [hts, textP_append]; simp [textP]
   rw [ee] at o18 ⊢
   refine fin hT 1 rfl (bl (th (rg ?_)))
   refine ar hT 0 rfl (i64w (by omega)) ?_
   refine fin hT 1 rfl ?_
   exact again (x := (i, g, ao, c)) (i + 1, g18, ao18, c18) ⟨rfl, rfl, rfl, rfl, trivial⟩ rfl rfl ⟨by omega, o18⟩ (by (try dsimp only); omega)
 ·obtain rfl : i = l.length := by omega
  refine ex (xt (xt (xb (th (sq (rg ?_))))))
  rw [List.take_length] at o ⊢
  refine cvs hT 1 (textP l) rfl (.inr ⟨0, rfl⟩) o.isS (by kernel_rfl) ?_
  refine fin hT 2 rfl (th (rt ?_))
  refine WQ.drop ?_
  exact ret2 rfl rfl rfl ⟨rfl, rfl, rfl⟩
end Go.Proofs.YtejkjbkodcamoaaGreatDoor
namespace Go.En
def rl (s : List UInt8) : List Nat := (runesP s).getD []
def wordP (s : List UInt8) : Prop := s.length <= 96 /\ (runesP s).isSome = true /\ (∀ r ∈ rl s, 32 < r /\ r ≠ 127) /\ 0 < (rl s).length /\ (rl s).length <= 24
instance (s : List UInt8) : Decidable (wordP s) := by unfold wordP; infer_instance
end Go.En
namespace Go.Proofs.YtejkjbkodcamoaaGreatDoor
open Go.En
attribute [local irreducible] Code.wp wpList Calls
theorem word_step {A : Prop} {l : List Nat} {x : Nat} : (((A /\ ∀ r ∈ l, 32 < r /\ r ≠ 127) /\ (32 : Int) < ((x : Nat) : Int)) /\ ¬ ((x : Nat) : Int) = 127) ↔ A /\ ∀ r ∈ l ++ [x], 32 < r /\ r ≠ 127 := by
 simp only [List.mem_append, List.mem_singleton]
 constructor
 ·rintro ⟨⟨⟨a, h⟩, h1⟩, h2⟩
  refine ⟨a, fun r hr => hr.elim (h r) fun e => ?_⟩
  subst e
  omega
 ·rintro ⟨a, h⟩
  have h1 := h x (.inr rfl)
  exact ⟨⟨⟨a, fun r hr => h r (.inl hr)⟩, by omega⟩, by omega⟩
theorem wordC {w0 : World} {K : PH} {hs : List PH} (s : List UInt8) (hG : LeastK K) : Ct Tryz.prog w0 58 [str s] K hs (fun v K' hs' => K' = K /\ hs' = hs /\ ∃ t : Bool, v = .bool t /\ (t = true ↔ wordP s)) := by
 have hsz : (⟨s.toArray⟩ : ByteArray).size = s.length := by simp [ByteArray.size]
 refine enter Tryz.func58 (by kernel_rfl) rfl rfl rfl ?_
 refine sq (rg ?_)
 refine fin hT 1 rfl (th (sq (sq (rg ?_))))
 refine cmpS hT 2 rfl fun b9 h9 => ?_
 rw [hsz] at h9
 refine fin hT 0 rfl (th (ifP h9 rfl (fun e2 => ?_) (fun e2 => ?_)))
 ·refine sq (rg ?_)
  refine fin hT 1 rfl (th (rt (rT ?_)))
  exact ret1 rfl rfl ⟨rfl, rfl, false, rfl, fun h => (by cases h), fun h => by have := h.1; omega⟩
 ·refine sk (th (sq (rg ?_)))
  refine cl hT 1 rfl (runesC s hG (by omega)) ?_
  rintro v12 K12 hs12 ⟨rfl, g, ao, c, rfl, rfl, o⟩
  have hll : (rl s).length <= s.length := by
   unfold rl
   cases h : runesP s with
   | none => exact Nat.zero_le _
   | some l => exact (runesP_text h).2.2
  rw [show (runesP s).getD [] = rl s from rfl] at o ⊢
  refine fin hT 5 rfl (th (sq (sq (rg ?_))))
  refine fin hT 3 rfl (th (bk ?_))
  refine loop (σ := Nat × Bool) (fun x => [(3, .slice ao (rl s).length c), (4, .bool x.2), (15, .slice ao (rl s).length c), (16, .int .i64 ((rl s).length : Nat)), (17, .int .i64 (x.1 : Nat))]) (fun _ => K12) (fun x => g :: hs) (fun x => x.1 <= (rl s).length /\ (x.2 = true ↔ (runesP s).isSome = true /\ ∀ r ∈ (rl s).take x.1, 32 < r /\ r ≠ 127)) (fun x => (rl s).length - x.1) (0, (runesP s).isSome) ⟨Nat.zero_le _, by simp⟩ ⟨rfl, rfl, rfl, rfl, rfl, trivial⟩ rfl rfl ?_
  rintro ⟨i, b⟩ ⟨hi, hb⟩
  dsimp only at hi hb ⊢
  refine sq (rg ?_)
  refine cmpS hT 0 rfl fun b18 h18 => ?_
  refine fin hT 0 rfl (th (sq (ifP h18 rfl (fun e4 => ?_) (fun e4 => ?_))))
  ·have hil : i < (rl s).length := by omega
   have hget : (rvv (rl s))[i]? = some (.int .i32 (((rl s)[i] : Nat) : Int)) := by simp [rvv, List.getElem?_eq_getElem hil, hil]
   have hts : (rl s).take (i + 1) = (rl s).take i ++ [(rl s)[i]] := by rw [List.take_add_one, List.getElem?_eq_getElem hil]; rfl
   refine sk (th (sq (bk (sq (rg ?_)))))
   refine ix1 hT 0 i rfl rfl rfl o.isS hget fun a19 hc19 => ?_
   refine ld hT 0 rfl (.inr ⟨0, rfl⟩) hc19 ?_
   refine fin hT 1 rfl (th (rg ?_))
   refine' bja hT 2 3 25 [4, 21, 22] hb rfl rfl rfl rfl rfl rfl rfl (fun _ => ?y1) (fun b25 h25 => ?_)
   case y1 =>
    refine cmpS hT 1 rfl fun b24 h24 => ?_
    exact fin hT 1 rfl (bjx h24 rfl rfl rfl)
   refine' bja hT 1 3 29 [25, 26] h25 rfl rfl rfl rfl rfl rfl rfl (fun _ => ?y2) (fun b29 h29 => ?_)
   case y2 =>
    refine cmpS hT 1 rfl fun b28 h28 => ?_
    exact fin hT 1 rfl (bjx h28 rfl rfl rfl)
   refine fin hT 1 rfl (bl (th (rg ?_)))
   refine ar hT 0 rfl (i64w (by omega)) ?_
   refine fin hT 1 rfl ?_
   exact again (x := (i, b)) (i + 1, b29) ⟨rfl, rfl, rfl, rfl, rfl, trivial⟩ rfl rfl ⟨by omega, by dsimp only; rw [h29, hts]; exact word_step⟩ (by (try dsimp only); omega)
  ·obtain rfl : i = (rl s).length := by omega
   rw [List.take_length] at hb
   refine ex (xt (xt (xb (th (sq (rg ?_))))))
   refine' bja hT 2 4 36 [4, 31, 32] hb rfl rfl rfl rfl rfl rfl rfl (fun _ => ?y3) (fun b36 h36 => ?_)
   case y3 =>
    refine cmpS hT 2 rfl fun b35 h35 => ?_
    exact fin hT 1 rfl (bjx h35 rfl rfl rfl)
   refine' bja hT 1 4 41 [36, 37] h36 rfl rfl rfl rfl rfl rfl rfl (fun _ => ?y4) (fun b41 h41 => ?_)
   case y4 =>
    refine cmpS hT 2 rfl fun b40 h40 => ?_
    exact fin hT 1 rfl (bjx h40 rfl rfl rfl)
   refine fin hT 1 rfl (th (rt ?_))
   refine WQ.drop ?_
   exact ret1 rfl rfl ⟨rfl, rfl, b41, rfl, by rw [h41]; unfold wordP; exact ⟨fun h => ⟨by omega, h.1.1.1, h.1.1.2, by omega, by omega⟩, fun h => ⟨⟨⟨h.2.1, h.2.2.1⟩, by have := h.2.2.2; omega⟩, by have := h.2.2.2; omega⟩⟩⟩
end Go.Proofs.YtejkjbkodcamoaaGreatDoor
namespace Go.En
theorem by8_nat {n : Nat} (h : n < 256) : (by8 n).toNat = n := by simp only [by8, UInt8.toNat_ofNat']; omega
theorem firstP_of {r : Nat} (h : scalarP r) (x : List UInt8) : firstP (wr r ++ x) = (r, (wr r).length) := by
 obtain ⟨h1, h2⟩ := h
 have hs : scalarP r := ⟨h1, h2⟩
 unfold wr
 split
 ·rw [List.cons_append, firstP_cons, by8_nat (by omega), if_pos (by omega)]; rfl
 ·split
  ·have e : headR (192 + r / 64) = (r / 64, 2) := by unfold headR; rw [if_pos (by omega)]; simp only [Prod.mk.injEq, and_true]; omega
   rw [List.cons_append, firstP_cons, by8_nat (by omega), if_neg (by omega), e]
   simp only [List.cons_append, List.nil_append, List.take_succ_cons, List.take_zero, List.length_cons]
   rw [if_neg (by omega)]
   simp only [contR, by8_nat (show 128 + r % 64 < 256 by omega)]
   rw [if_pos (by omega), show r / 64 * 64 + (128 + r % 64) % 64 = r from by omega]
   simp only
   rw [if_neg (by simp only [leastR]; intro h; rcases h with h | h; (simp at h; omega); exact h hs)]
   rfl
  ·split
   ·have e : headR (224 + r / 4096) = (r / 4096, 3) := by unfold headR; rw [if_neg (by omega), if_pos (by omega)]; simp only [Prod.mk.injEq, and_true]; omega
    rw [List.cons_append, firstP_cons, by8_nat (by omega), if_neg (by omega), e]
    simp only [List.cons_append, List.nil_append, List.take_succ_cons, List.take_zero, List.length_cons]
    rw [if_neg (by omega)]
    simp only [contR, by8_nat (show 128 + r / 64 % 64 < 256 by omega), by8_nat (show 128 + r % 64 < 256 by omega)]
    rw [if_pos (by omega), if_pos (by omega), show (r / 4096 * 64 + (128 + r / 64 % 64) % 64) * 64 + (128 + r % 64) % 64 = r from by omega]
    simp only
    rw [if_neg (by simp only [leastR]; intro h; rcases h with h | h; (simp at h; omega); exact h hs)]
    rfl
   ·have e : headR (240 + r / 262144) = (r / 262144, 4) := by unfold headR; rw [if_neg (by omega), if_neg (by omega), if_pos (by omega)]; simp only [Prod.mk.injEq, and_true]; omega
    rw [List.cons_append, firstP_cons, by8_nat (by omega), if_neg (by omega), e]
    simp only [List.cons_append, List.nil_append, List.take_succ_cons, List.take_zero, List.length_cons]
    rw [if_neg (by omega)]
    simp only [contR, by8_nat (show 128 + r / 4096 % 64 < 256 by omega), by8_nat (show 128 + r / 64 % 64 < 256 by omega), by8_nat (show 128 + r % 64 < 256 by omega)]
    rw [if_pos (by omega), if_pos (by omega), if_pos (by omega), show ((r / 262144 * 64 + (128 + r / 4096 % 64) % 64) * 64 + (128 + r / 64 % 64) % 64) * 64 + (128 + r % 64) % 64 = r from by omega]
    simp only
    rw [if_neg (by simp only [leastR]; intro h; rcases h with h | h; (simp at h; omega); exact h hs)]
    rfl
theorem wr_pos (r : Nat) : 0 < (wr r).length := by
 unfold wr
 repeat' split
 all_goals simp
theorem runesF_of : ∀ (l : List Nat) (k : Nat), (∀ r ∈ l, scalarP r) -> (textP l).length <= k -> runesF k (textP l) = some l
 | [], k, _, _ => by cases k <;> simp [runesF, textP]
 | r :: l, k, h, hk => by
  have h1 := wr_pos r
  simp only [textP, List.length_append] at hk ⊢
  obtain ⟨k, rfl⟩ : ∃ k', k = k' + 1 := ⟨k - 1, by omega⟩
  unfold runesF
  rw [if_neg (fun e => by have := congrArg List.length e; rw [List.length_append, List.length_nil] at this; omega), firstP_of (h r (by simp))]
  simp only
  rw [if_neg (by omega), List.drop_left, runesF_of l k (fun x hx => h x (by simp [hx])) (by omega)]
  rfl
theorem text_runes {l : List Nat} (h : ∀ r ∈ l, scalarP r) : runesP (textP l) = some l := runesF_of l _ h (Nat.le_refl _)
end Go.En
end
section
namespace Go.Proofs.YtejkjbkodcamoaaGreatDoor
open Go.En
attribute [local irreducible] Code.wp wpList Calls
end Go.Proofs.YtejkjbkodcamoaaGreatDoor
namespace Go.En
def dd (a b : List Nat) : Nat -> Nat -> Nat
 | 0, j => j
 | i + 1, 0 => i + 1
 | i + 1, j + 1 => if a.getD i 0 = b.getD j 0 then dd a b i j else 1 + min (min (dd a b i j) (dd a b i (j + 1))) (dd a b (i + 1) j)
end Go.En
namespace Go.En
def FL (a b : List Nat) (W S : Nat) (cur : Array Value) (p0 : Nat) : Prop := cur.size = S /\ ∀ p, p < p0 -> cur[p]? = some (.int .i64 ((dd a b (p / W) (p % W) : Nat) : Int))
theorem FL.set {a b : List Nat} {W S p0 : Nat} {cur : Array Value} (h : FL a b W S cur p0) (hp : p0 < S) {v : Nat} (hv : v = dd a b (p0 / W) (p0 % W)) : FL a b W S (cur.setIfInBounds p0 (.int .i64 ((v : Nat) : Int))) (p0 + 1) := by
 obtain ⟨h1, h2⟩ := h
 refine ⟨by simpa using h1, fun p hlt => ?_⟩
 rw [Array.getElem?_setIfInBounds]
 by_cases e : p0 = p
 ·subst e hv
  rw [if_pos rfl, if_pos (by omega)]
 ·rw [if_neg e]
  exact h2 p (by omega)
end Go.En
namespace Go.Proofs.YtejkjbkodcamoaaGreatDoor
open Go.En
attribute [local irreducible] Code.wp wpList Calls
theorem rvvD {l : List Nat} {k : Nat} (h : k < l.length) : (rvv l)[k]? = some (.int .i32 ((l.getD k 0 : Nat) : Int)) := by simp [rvv, List.getD, h]
theorem cellD {K : PH} {l : List Nat} {a : Addr} {c : Nat} (x : IsS K (some a) l.length c 1 (rvv l)) {k : Nat} (h : k < l.length) : Cell K (a.add (k * 1)) (.int .i32 ((l.getD k 0 : Nat) : Int)) := by
 obtain ⟨a', e, hc⟩ := x.2.2 k _ (rvvD h)
 cases e
 rw [Nat.mul_one]
 exact hc
end Go.Proofs.YtejkjbkodcamoaaGreatDoor
namespace Go.En
end Go.En
namespace Go.Proofs.YtejkjbkodcamoaaGreatDoor
open Go.En
attribute [local irreducible] Code.wp wpList Calls
end Go.Proofs.YtejkjbkodcamoaaGreatDoor
end
section
namespace Go.En
def RF (f : Nat -> Nat) (cur : Array Value) (k : Nat) : Prop := cur.size = 25 /\ ∀ j, j < 25 -> cur[j]? = some (.int .u8 (((if j < k then f j else 0) : Nat) : Int))
theorem RF.set {f : Nat -> Nat} {cur : Array Value} {k : Nat} (h : RF f cur k) (hk : k < 25) {v : Nat} (hv : v = f k) : RF f (cur.setIfInBounds k (.int .u8 ((v : Nat) : Int))) (k + 1) := by
 obtain ⟨h1, h2⟩ := h
 refine ⟨by simpa using h1, fun j hj => ?_⟩
 rw [Array.getElem?_setIfInBounds]
 by_cases e : k = j
 ·subst e hv
  rw [if_pos rfl, if_pos (by omega), if_pos (by omega)]
 ·rw [if_neg e, h2 j hj]
  by_cases h3 : j < k
  ·rw [if_pos h3, if_pos (by omega)]
  ·rw [if_neg h3, if_neg (by omega)]
end Go.En
namespace Go.Proofs.YtejkjbkodcamoaaGreatDoor
open Go.En
attribute [local irreducible] Code.wp wpList Calls
end Go.Proofs.YtejkjbkodcamoaaGreatDoor
namespace Go.Proofs.YtejkjbkodcamoaaGreatDoor
open Go.En
attribute [local irreducible] Code.wp wpList Calls
end Go.Proofs.YtejkjbkodcamoaaGreatDoor
namespace Go.En
end Go.En
namespace Go.Proofs.YtejkjbkodcamoaaGreatDoor
open Go.En
attribute [local irreducible] Code.wp wpList Calls
end Go.Proofs.YtejkjbkodcamoaaGreatDoor
namespace Go.Proofs.YtejkjbkodcamoaaGreatDoor
open Go.En
attribute [local irreducible] Code.wp wpList Calls
end Go.Proofs.YtejkjbkodcamoaaGreatDoor
namespace Go.Proofs.YtejkjbkodcamoaaGreatDoor
open Go.En
attribute [local irreducible] Code.wp wpList Calls
structure LF (x : Value) (o : Nat) (cur : Array Value) (k : Nat) : Prop where
 size : cur.size = 27
 runes : cur[0]? = some x
 out : cur[1]? = some (.int .u8 ((o : Nat) : Int))
 dead : ∀ j, j < 25 -> cur[2 + j]? = some (.int .u8 (((if j < k then o else 0) : Nat) : Int))
theorem LF.set {x : Value} {o : Nat} {cur : Array Value} {k : Nat} (h : LF x o cur k) (hk : k < 25) : LF x o (cur.setIfInBounds (2 + k) (.int .u8 ((o : Nat) : Int))) (k + 1) := by
 obtain ⟨h1, h2, h3, h4⟩ := h
 refine ⟨by simpa using h1, by rw [Array.getElem?_setIfInBounds, if_neg (by omega)]; exact h2, by rw [Array.getElem?_setIfInBounds, if_neg (by omega)]; exact h3, fun j hj => ?_⟩
 rw [Array.getElem?_setIfInBounds]
 by_cases e : k = j
 ·subst e
  rw [if_pos rfl, if_pos (by omega), if_pos (by omega)]
 ·rw [if_neg (by omega), h4 j hj]
  by_cases h5 : j < k
  ·rw [if_pos h5, if_pos (by omega)]
  ·rw [if_neg h5, if_neg (by omega)]
end Go.Proofs.YtejkjbkodcamoaaGreatDoor
namespace Go.En
open Go.Proofs.YtejkjbkodcamoaaGreatDoor
end Go.En
namespace Go.Proofs.YtejkjbkodcamoaaGreatDoor
open Go.En
attribute [local irreducible] Code.wp wpList Calls
end Go.Proofs.YtejkjbkodcamoaaGreatDoor
end
section
namespace Go.En
theorem rvv_len (l : List Nat) : (rvv l).length = l.length := by simp [rvv]
end Go.En
namespace Go.Proofs.YtejkjbkodcamoaaGreatDoor
open Go.En
attribute [local irreducible] Code.wp wpList Calls
end Go.Proofs.YtejkjbkodcamoaaGreatDoor
namespace Go.En
def OneC (off n : Nat) (cur : Array Value) : Prop := ∀ (q : Nat) (v : Value), q < n -> cur[off + q]? = some v -> v.oneCell' = true
theorem OneC.set {off n : Nat} {cur : Array Value} (h : OneC off n cur) {p : Nat} {x : Value} (hx : x.oneCell' = true) : OneC off n (cur.setIfInBounds p x) := by
 intro q v hq hv
 rw [Array.getElem?_setIfInBounds] at hv
 split at hv
 ·split at hv
  ·cases hv; exact hx
  ·cases hv
 ·exact h q v hq hv
end Go.En
namespace Go.Proofs.YtejkjbkodcamoaaGreatDoor
open Go.En
attribute [local irreducible] Code.wp wpList Calls
end Go.Proofs.YtejkjbkodcamoaaGreatDoor
namespace Go.En
end Go.En
namespace Go.Proofs.YtejkjbkodcamoaaGreatDoor
open Go.En
attribute [local irreducible] Code.wp wpList Calls
end Go.Proofs.YtejkjbkodcamoaaGreatDoor
namespace Go.En
end Go.En
namespace Go.Proofs.YtejkjbkodcamoaaGreatDoor
open Go.En
attribute [local irreducible] Code.wp wpList Calls
end Go.Proofs.YtejkjbkodcamoaaGreatDoor
end
section
namespace Go.En
structure ArcP where
 lb : Int
 out : Int
 to : Int
deriving DecidableEq
structure StP where
 fin : Bool
 out : Int
 arcs : List ArcP
deriving DecidableEq
structure LkP where
 e : Bool
 out : Int
 lb : Int
 arc : Int
 to : Int
 nx : Int
deriving DecidableEq
def encL (k : LkP) : Value := .agg #[.bool k.e, .int .i64 k.out, .int .i64 k.lb, .int .i64 k.arc, .int .i64 k.to, .int .i64 k.nx]
def i64V (n : Int) : Value := .int .i64 n
def knownP (L : List (LkP × Int)) (k : LkP) : List (LkP × Int) × Int :=
 match mget k L with
 | some n => (L, n)
 | none => (mset k (L.length : Int) L, (L.length : Int))
end Go.En
namespace Go.Proofs.YtejkjbkodcamoaaGreatDoor
open Go.En
attribute [local irreducible] Code.wp wpList Calls
theorem eqLk (c d : LkP) (w : World) : (Op.equal 218 (encL c) (encL d)).run Tryz.prog w = .ok (decide (c = d)) w := by
 have u3 := Tryz.underlying3
 have a3 := Tryz.isAgg3
 have z3 := Tryz.sizeOf3
 have u4 := Tryz.underlying4
 have a4 := Tryz.isAgg4
 have z4 := Tryz.sizeOf4
 have hS : Tryz.prog.underlying 218 = some (.struct (Tryz.prog.fieldsOf 218)) := by kernel_rfl
 unfold Op.equal Op.maxDepth encL
 rw [show (10000 : Nat) = 9999 + 1 from rfl, run_equalIn_agg w 9999 218 _ _ hS (by kernel_rfl)]
 simp only [Program.fieldsOf, Tryz.underlying218]
 go_simp
 obtain ⟨k, s, q, l, t, x⟩ := c
 obtain ⟨k', s', q', l', t', x'⟩ := d
 by_cases h1 : k = k' <;> by_cases h2 : s = s' <;> by_cases h3 : q = q' <;> by_cases h4 : l = l' <;> by_cases h5 : t = t' <;> by_cases h6 : x = x' <;> simp [h1, h2, h3, h4, h5, h6]
theorem keyLk : KeyOK Tryz.prog 218 encL :=
 KeyOK.ofAgg Tryz.underlying218 (fun a b => rfl) eqLk (fun e k w => by unfold encL; kernel_rfl) (fun k => by simp [encL, Instr.sameBits])
theorem knownC {w0 : World} {K hL : PH} {hs : List PH} (b lm : Nat) (sv mv : Value) (L : List (LkP × Int)) (k : LkP) (hm : MpO encL i64V hL lm L) :
  Ct Tryz.prog w0 133 [.pointer (some ⟨b, 0, none⟩), encL k] K (pt b #[sv, .map (some lm), mv] 172 :: hL :: hs)
   (fun v K' hs' => K' = K /\ ∃ hL', hs' = pt b #[sv, .map (some lm), mv] 172 :: hL' :: hs /\ MpO encL i64V hL' lm (knownP L k).1 /\ v = .int .i64 (knownP L k).2) := by
 refine enter Tryz.func133 (by kernel_rfl) rfl rfl rfl ?_
 refine sq (rg ?_)
 refine bx hT 0 rfl fun b3 => ?_
 refine fin hT 1 rfl (th (sq (rga [pt b3 (encL k).cells 218, pt b #[sv, .map (some lm), mv] 172, hL] 11 [0, 2, 4, 6, 8, 10, 12, 14, 16, 18, 20] (by simp) (by kernel_rfl) (by kernel_rfl) ?_)))
 refine dldp hT (by kernel_rfl) 3 1 rfl rfl rfl ?_
 refine dldS hT (by kernel_rfl) 0 0 rfl (by kernel_rfl) rfl (by kernel_rfl) ?_
 refine dlku hT (by kernel_rfl) 0 k rfl Tryz.underlying169 (zv := .int .i64 0) (by kernel_rfl) keyLk rfl (.inr ⟨2, rfl⟩) hm ?_
 cases hg : mget k L with
 | none =>
  refine dend hT (by kernel_rfl) 5 rfl (th (sq (sq (rg ?_))))
  refine fin hT 2 rfl (th (ifT rfl ?_))
  refine sq (rg ?_)
  refine ldp hT 3 1 rfl rfl rfl ?_
  refine mln hT 0 rfl Tryz.underlying169 (.inr ⟨2, rfl⟩) hm ?_
  refine fin hT 1 rfl (th (rga [pt b3 (encL k).cells 218, pt b #[sv, .map (some lm), mv] 172] 7 [0, 2, 4, 6, 8, 10, 13] (by simp) (by kernel_rfl) (by kernel_rfl) ?_))
  refine dldp hT (by kernel_rfl) 3 1 rfl rfl rfl ?_
  refine dldS hT (by kernel_rfl) 0 0 rfl (by kernel_rfl) rfl (by kernel_rfl) ?_
  refine dact hT (by kernel_rfl) 1 rfl ?_
  refine mpu hT 0 2 k (L.length : Int) rfl rfl Tryz.underlying169 keyLk rfl rfl hm fun hL' hm' => ?_
  refine dnex [pt b3 (encL k).cells 218, pt b #[sv, .map (some lm), mv] 172] (by simp) (by simp) rfl ?_
  refine dend hT (by kernel_rfl) 0 rfl (th (sq (rg ?_)))
  refine fin hT 2 rfl (th (rt (WQ.drop ?_)))
  exact ret1 rfl rfl ⟨rfl, hL', rfl, by simp only [knownP, hg]; exact hm', by simp [knownP, hg]⟩
 | some n =>
  refine dend hT (by kernel_rfl) 5 rfl (th (sq (sq (rg ?_))))
  refine fin hT 2 rfl (th (ifF rfl ?_))
  refine sk (th (sq (rg ?_)))
  refine fin hT 2 rfl (th (rt (WQ.drop ?_)))
  exact ret1 rfl rfl ⟨rfl, hL, rfl, by simp only [knownP, hg]; exact hm, by simp [knownP, hg, i64V]⟩
end Go.Proofs.YtejkjbkodcamoaaGreatDoor
namespace Go.En
def arcV (x : ArcP) : List Value := [.int .i32 x.lb, .int .i64 x.out, .int .i64 x.to]
def arcR (c : List Value) (x : ArcP) : Prop := c = arcV x
def backV {α : Type} (f : α -> List Value) (l : List α) : List (List Value) := (l.zipIdx.map fun x => [.int .i64 ((x.2 : Nat) : Int), .agg (f x.1).toArray]).reverse
theorem backV_len {α : Type} (f : α -> List Value) (l : List α) : (backV f l).length = l.length := by simp [backV]
theorem backV_get {α : Type} (f : α -> List Value) {l : List α} {i : Nat} (h : i < l.length) : (backV f l)[i]? = some [.int .i64 ((l.length - 1 - i : Nat) : Int), .agg (f (l[l.length - 1 - i]'(by omega))).toArray] := by
 unfold backV
 rw [List.getElem?_reverse (by simpa using h)]
 simp only [List.length_map, List.length_zipIdx]
 rw [List.getElem?_map, List.getElem?_zipIdx, List.getElem?_eq_getElem (show l.length - 1 - i < l.length by omega)]
 simp
def BackRd {α : Type} (size : Nat) (R : List Value -> α -> Prop) (b : Nat) (ao : Option Addr) (c : Nat) (l : List α) (K : PH) (hs : List PH) : Prop :=
 (∃ h, In K hs h /\ Cell h ⟨b, 0, none⟩ (.slice ao l.length c)) /\ ∃ h, In K hs h /\ SlS size R h ao l.length c l
end Go.En
namespace Go.Proofs.YtejkjbkodcamoaaGreatDoor
open Go.En
attribute [local irreducible] Code.wp wpList Calls
theorem backAC {w0 : World} {K : PH} {hs : List PH} (ao : Option Addr) (n c : Nat) : Ct Tryz.prog w0 134 [.slice ao n c] K hs
  (fun v K' hs' => K' = K /\ ∃ b, hs' = pt b #[.slice ao n c] 175 :: hs /\ v = .func (.func 139) #[] #[.pointer (some ⟨b, 0, none⟩)]) := by
 refine enter Tryz.func134 (by kernel_rfl) rfl rfl rfl ?_
 refine sq (rg ?_)
 refine bx hT 0 rfl fun b1 => ?_
 refine fin hT 1 rfl (th (sq (rg ?_)))
 refine fin hT 2 rfl (th (rt ?_))
 exact ret1 rfl rfl ⟨rfl, b1, rfl, rfl⟩
theorem backAI {w0 : World} (b : Nat) (ao : Option Addr) (c : Nat) (l : List ArcP) (hl : l.length <= 1099511627776) : ItCt Tryz.prog w0 139 [.pointer (some ⟨b, 0, none⟩)] (backV arcV l) (BackRd 3 arcR b ao c l) := by
 intro L St Sp hRd hY K hs h0
 refine enterX Tryz.func139 (by kernel_rfl) rfl rfl rfl ?_
 obtain ⟨⟨h1, m1, c1⟩, _⟩ := hRd 0 K hs h0
 refine sqX (rgX ?_)
 refine ld hT 0 rfl m1 c1 ?_
 refine ar hT 1 rfl (v' := .int .i64 ((l.length : Int) - 1 - ((0 : Nat) : Int))) (by rw [i64w (by omega)]; simp) ?_
 refine fin hT 1 rfl (nxX (thX (bkX ?_)))
 refine loopX (σ := Nat × PH × List PH) (fun s => [(0, .func (.yield L) #[] #[]), (1, .pointer (some ⟨b, 0, none⟩)), (3, .int .i64 ((l.length : Int) - 1 - ((s.1 : Nat) : Int)))]) (fun s => s.2.1) (fun s => s.2.2) (fun s => s.1 <= l.length /\ St s.1 s.2.1 s.2.2) (fun s => l.length - s.1) (0, K, hs) ⟨Nat.zero_le _, h0⟩ ⟨rfl, rfl, rfl, trivial⟩ rfl rfl ?_
 rintro ⟨i, K, hs⟩ ⟨hi, hst⟩
 dsimp only at *
 obtain ⟨⟨h1, m1, c1⟩, h2, m2, c2⟩ := hRd i K hs hst
 refine sqX (sqX (rgX ?_))
 refine cmpS hT 1 rfl fun b8 h8 => ?_
 refine fin hT 0 rfl (nxX (thX (ifPX h8 rfl (fun e2 => ?_) (fun e2 => ?_))))
 ·have hil : i < l.length := by omega
  obtain ⟨a, rfl⟩ := c2.addr (by omega) (by decide)
  obtain ⟨vs, xs⟩ := c2.isS
  obtain ⟨cs, hc, hcl, hcell⟩ := c2.cells (i := l.length - 1 - i) (x := l[l.length - 1 - i]'(by omega)) (List.getElem?_eq_getElem _)
  refine skX (thX (sqX (bkX (sqX (rgI (WLI.cut 6 ?_))))))
  refine ld hT 2 rfl m1 c1 ?_
  refine ixs hT 1 (l.length - 1 - i) rfl (show _ = ((l.length - 1 - i : Nat) : Int) by omega) xs (by omega) (by decide) fun a15 ha => ?_
  cases ha
  refine lds hT 0 cs rfl (by rw [hcl]; kernel_rfl) m2 hcell ?_
  refine fin hT 0 rfl (cutX ?_)
  have hv : (backV arcV l)[i]? = some [.int .i64 ((l.length : Int) - 1 - ((i : Nat) : Int)), .agg cs.toArray] := by
   rw [backV_get arcV hil, hc, show ((l.length - 1 - i : Nat) : Int) = (l.length : Int) - 1 - ((i : Nat) : Int) from by omega]
  refine yld rfl (hY i _ K hs hv hst) ?_
  rintro v17 K17 hs17 (⟨rfl, hn⟩ | ⟨rfl, hp⟩)
  ·refine WLI.fin ?_
   refine fin hT 1 rfl (nxX (thX (ifFX rfl ?_)))
   refine skX (blX (thX (rgX ?_)))
   refine ar hT 1 rfl (v' := .int .i64 ((l.length : Int) - 1 - ((i + 1 : Nat) : Int))) (by rw [i64w (by omega)]; congr 1; omega) ?_
   refine fin hT 1 rfl (nxX ?_)
   exact againX (x := (i, K, hs)) (i + 1, K17, hs17) ⟨rfl, rfl, rfl, trivial⟩ rfl rfl ⟨by dsimp only; omega, hn⟩ (by dsimp only; omega)
  ·refine WLI.fin ?_
   refine fin hT 1 rfl (nxX (thX (ifTX rfl ?_)))
   refine rtX (rBX (rTX (rTX (rBX ?_))))
   exact ret0X rfl (.inr hp)
 ·refine exX (xtX (xtX (xbX ?_)))
  obtain rfl : i = l.length := by omega
  exact end0X rfl (.inl (by rw [backV_len]; exact hst))
end Go.Proofs.YtejkjbkodcamoaaGreatDoor
namespace Go.En
abbrev w64 (n : Int) : Int := IntKind.i64.wrap n
structure Bld where
 L : List (LkP × Int)
 sts : List StP
 B : List (Int × Int)
def stV (s : StP) (ao : Option Addr) (n c : Nat) : List Value := [.bool s.fin, .int .i64 s.out, .slice ao n c]
def stR (H : PH) (c : List Value) (s : StP) : Prop := ∃ ao n cap, c = stV s ao n cap /\ SlS 3 arcR H ao n cap s.arcs
theorem stR.le {H H' : PH} (l : Le H H') {c : List Value} {s : StP} (h : stR H c s) : stR H' c s := by
 obtain ⟨ao, n, cap, h1, h2⟩ := h
 exact ⟨ao, n, cap, h1, h2.le l fun _ _ h => h⟩
def chS (x : List (LkP × Int) × Int) (a : ArcP) : List (LkP × Int) × Int := knownP x.1 ⟨false, 0, w64 a.lb, a.out, a.to, w64 (x.2 + 1)⟩
def ch0 (L : List (LkP × Int)) (s : StP) : List (LkP × Int) × Int := knownP L ⟨s.fin, s.out, 0, 0, -1, 0⟩
def chP (L : List (LkP × Int)) (s : StP) : List (LkP × Int) × Int := s.arcs.reverse.foldl chS (ch0 L s)
def addP (x : Bld) (s : StP) : Bld × Int :=
 match mget (chP x.L s).2 x.B with
 | some n => (⟨(chP x.L s).1, x.sts, x.B⟩, n)
 | none => (⟨(chP x.L s).1, x.sts ++ [s], mset (chP x.L s).2 (x.sts.length : Int) x.B⟩, (x.sts.length : Int))
theorem Ct.split {P : Program} {w0 : World} {f : FuncId} {args : List Value} {K : PH} {m hs : List PH} {R : Value -> PH -> List PH -> Prop} (d : Djs m) (c : Ct P w0 f args K (m ++ hs) R) : Ct P w0 f args K (uns m :: hs) R :=
 ⟨c.1, fun w hw => c.2 w (hw.split d)⟩
theorem Ct.fixs {P : Program} {w0 : World} {f : FuncId} {args : List Value} {K : PH} {hs : List PH} {R R' : Value -> PH -> List PH -> Prop} (c : Ct P w0 f args K hs R)
  (h : ∀ w v K' hs', Sat w0 w K' hs' -> R v K' hs' -> ∃ K2 hs2, R' v K2 hs2 /\ Sat w0 w K2 hs2) : Ct P w0 f args K hs R' :=
 ⟨c.1, fun w hw => (c.2 w hw).mono fun e w' he => by
  obtain ⟨v, K', hs', rfl, hR, hS⟩ := he
  obtain ⟨K2, hs2, h1, h2⟩ := h w' v K' hs' hS hR
  exact ⟨v, K2, hs2, rfl, h1, h2⟩⟩
end Go.En
namespace Go.Proofs.YtejkjbkodcamoaaGreatDoor
open Go.En
attribute [local irreducible] Code.wp wpList Calls
def bldL (b lm bm : Nat) (ao : Option Addr) (n c : Nat) (hL hB gS : PH) : List PH := [pt b #[.slice ao n c, .map (some lm), .map (some bm)] 172, hL, hB, gS]
def BldH (K : PH) (b : Nat) (x : Bld) (h : PH) : Prop :=
 ∃ lm bm hL hB gS ao n c, h = uns (bldL b lm bm ao n c hL hB gS) /\ Djs (bldL b lm bm ao n c hL hB gS) /\ MpO encL i64V hL lm x.L /\ MpO i64V i64V hB bm x.B /\ SlO 3 177 (stR K) gS ao n c x.sts
theorem BldH.le {K K' : PH} (l : Le K K') {b : Nat} {x : Bld} {h : PH} (y : BldH K b x h) : BldH K' b x h := by
 obtain ⟨lm, bm, hL, hB, gS, ao, n, c, h1, h2, h3, h4, h5⟩ := y
 exact ⟨lm, bm, hL, hB, gS, ao, n, c, h1, h2, h3, h4, h5.imp fun _ _ h => h.le l⟩
theorem knownB {w0 : World} {K h : PH} {hs : List PH} (b : Nat) (x : Bld) (k : LkP) (y : BldH K b x h) :
  Ct Tryz.prog w0 133 [.pointer (some ⟨b, 0, none⟩), encL k] K (h :: hs)
   (fun v K' hs' => ∃ h', hs' = h' :: hs /\ K' = K /\ BldH K b ⟨(knownP x.L k).1, x.sts, x.B⟩ h' /\ v = .int .i64 (knownP x.L k).2) := by
 obtain ⟨lm, bm, hL, hB, gS, ao, n, c, rfl, d, h3, h4, h5⟩ := y
 refine Ct.split d ((knownC b lm (.slice ao n c) (.map (some bm)) x.L k h3).fixs ?_)
 rintro w v K' hs' hS ⟨rfl, hL', rfl, hm', rfl⟩
 obtain ⟨d', hS'⟩ := Sat.join (bldL b lm bm ao n c hL' hB gS) (hs := hs) hS
 exact ⟨K', _, ⟨_, rfl, rfl, ⟨lm, bm, hL', hB, gS, ao, n, c, rfl, d', hm', h4, h5⟩, rfl⟩, hS'⟩
theorem keyI : KeyOK Tryz.prog 3 (κ := Int) i64V := keyInt Tryz.underlying3
theorem addC {w0 : World} {K h : PH} {hs : List PH} (b : Nat) (x : Bld) (s : StP) (ao : Option Addr) (n c : Nat) (y : BldH K b x h) (hs1 : SlS 3 arcR K ao n c s.arcs) (hb : x.sts.length <= 1000000) (ha : s.arcs.length <= 1000000) :
  Ct Tryz.prog w0 118 [.pointer (some ⟨b, 0, none⟩), .agg (stV s ao n c).toArray] K (h :: hs)
   (fun v K' hs' => ∃ h', hs' = h' :: hs /\ Le K K' /\ BldH K' b (addP x s).1 h' /\ v = .int .i64 (addP x s).2) := by
 obtain rfl := hs1.len
 refine enterX Tryz.func118 (by kernel_rfl) rfl rfl rfl ?_
 refine sqX (rgX ?_)
 refine bx hT 0 rfl fun b2 => ?_
 refine bx hT 0 rfl fun b3 => ?_
 refine fin hT 1 rfl (nxX (thX (sqX (rgX ?_))))
 refine ldp hT 0 1 rfl rfl rfl ?_
 refine ldp hT 1 0 rfl rfl rfl ?_
 refine ldp hT 1 0 rfl rfl rfl ?_
 refine bd hT 0 (encL ⟨s.fin, s.out, 0, 0, -1, 0⟩) rfl (fun w => by kernel_rfl) ?_
 refine cl hT 0 rfl (Ct.at 2 rfl (knownB b x ⟨s.fin, s.out, 0, 0, -1, 0⟩ y)) ?_
 rintro v16 K16 hs16 ⟨h1, rfl, rfl, y1, rfl⟩
 refine al hT 0 (.int .i64 0) rfl (by kernel_rfl) fun b5 => ?_
 refine stp hT 0 0 rfl rfl rfl rfl ?_
 refine fin hT 0 rfl (nxX (thX (sqX (sqX (rgX ?_)))))
 refine ldp hT 1 1 rfl rfl rfl ?_
 refine cl hT 0 rfl (backAC ao s.arcs.length c) ?_
 rintro v19 K19 hs19 ⟨rfl, b1, rfl, rfl⟩
 refine fin hT 0 rfl (nxX (thX (bkX (WX.frz fun K1 le1 le2 => ?_))))
 have hs2 : SlS 3 arcR K1 ao s.arcs.length c s.arcs := hs1.le le1 fun _ _ h => h
 refine rgf [.pointer (some ⟨b1, 0, none⟩)] (backV arcV s.arcs) (BackRd 3 arcR b1 ao c s.arcs) rfl (backAI b1 ao c s.arcs (by omega)) (by kernel_rfl) (fun vs hv => ?_) rfl
  (fun i K' hs' => K' = K1 /\ ∃ h' Lk, hs' = pt b5 #[.int .i64 Lk.2] 3 :: pt b3 (stV s ao s.arcs.length c).toArray 177 :: pt b2 #[.pointer (some ⟨b, 0, none⟩)] 168 :: h' :: hs /\ Lk = (s.arcs.reverse.take i).foldl chS (ch0 x.L s) /\ BldH K1 b ⟨Lk.1, x.sts, x.B⟩ h')
  (fun _ _ _ => False) ⟨rfl, h1, ch0 x.L s, rfl, rfl, y1.le le1⟩ (fun i K' hs' t u h => by obtain ⟨rfl, _⟩ := h; exact ⟨⟨K', .inl rfl, (Cell.pt rfl).le le2⟩, K', .inl rfl, hs2⟩) ?_ ?_ ?_
 ·obtain ⟨y, _, rfl⟩ := List.mem_map.1 (List.mem_reverse.1 hv)
  rfl
 ·rintro L i vs K hs' t u hvs ⟨rfl, h', Lk, rfl, hLk, y2⟩
  have hi : i < s.arcs.length := by have := (List.getElem?_eq_some_iff.1 hvs).1; rw [backV_len] at this; exact this
  rw [backV_get arcV hi] at hvs
  cases hvs
  obtain ⟨a, haa⟩ : ∃ a, a = s.arcs[s.arcs.length - 1 - i]'(by omega) := ⟨_, rfl⟩
  rw [<- haa]
  refine rgX ?_
  refine al hT 0 (.agg #[.int .i32 0, .int .i64 0, .int .i64 0]) rfl (by kernel_rfl) fun b7 => ?_
  refine stS hT 0 0 rfl rfl (by kernel_rfl) rfl rfl ?_
  refine fin hT 0 rfl (nxX (asgX (hs' := pt b7 (arcV a).toArray 180 :: pt b5 #[.int .i64 Lk.2] 3 :: pt b3 (stV s ao s.arcs.length c).toArray 177 :: pt b2 #[.pointer (some ⟨b, 0, none⟩)] 168 :: h' :: hs) rfl fun u => ?_))
  refine bkX (rgX ?_)
  refine ldp hT 0 3 rfl rfl rfl ?_
  refine ldp hT 1 0 rfl rfl rfl ?_
  refine ar hT 0 rfl rfl ?_
  refine ldp hT 1 0 rfl rfl rfl ?_
  refine ldp hT 1 0 rfl rfl rfl ?_
  refine ldp hT 0 1 rfl rfl rfl ?_
  refine ar hT 0 rfl rfl ?_
  refine bd hT 0 (encL ⟨false, 0, w64 a.lb, a.out, a.to, w64 (Lk.2 + 1)⟩) rfl (fun w => by kernel_rfl) ?_
  refine cl hT 0 rfl (Ct.at 4 rfl (knownB b ⟨Lk.1, x.sts, x.B⟩ ⟨false, 0, w64 a.lb, a.out, a.to, w64 (Lk.2 + 1)⟩ y2)) ?_
  rintro v33 K33 hs33 ⟨h2, rfl, rfl, y3, rfl⟩
  refine stp hT 0 1 rfl rfl rfl rfl ?_
  refine fin hT 0 rfl (nxX (blX (WQX.drop (rndX (hs' := pt b5 #[.int .i64 (chS Lk a).2] 3 :: pt b3 (stV s ao s.arcs.length c).toArray 177 :: pt b2 #[.pointer (some ⟨b, 0, none⟩)] 168 :: h2 :: hs) rfl ?_))))
  refine ⟨rfl, h2, chS Lk a, rfl, ?_, y3⟩
  have : s.arcs.reverse.take (i + 1) = s.arcs.reverse.take i ++ [a] := by
   rw [List.take_add_one, List.getElem?_reverse hi, List.getElem?_eq_getElem (show s.arcs.length - 1 - i < s.arcs.length by omega), haa]
   rfl
  rw [this, List.foldl_append, <- hLk]
  rfl
 ·rintro D K hs' ⟨rfl, h', Lk, rfl, hLk, y2⟩
  rw [backV_len, List.take_of_length_le (by simp)] at hLk
  have hLk' : Lk = chP x.L s := hLk
  subst hLk'
  obtain ⟨lm, bm, hL, hB, gS, aoS, nS, cS, rfl, d, q3, q4, q5⟩ := y2
  obtain rfl := q5.len
  refine blX (thX (sqX (WX.perm (perm_front _ 3 _ rfl) (WX.split d ?_))))
  refine rgaX [pt b #[.slice aoS x.sts.length cS, .map (some lm), .map (some bm)] 172, hB, pt b5 #[.int .i64 (chP x.L s).2] 3, pt b2 #[.pointer (some ⟨b, 0, none⟩)] 168] 11 [0, 2, 4, 6, 8, 10, 12, 14, 16, 18, 20] (by simp [bldL]) (by kernel_rfl) (by kernel_rfl) ?_
  refine dldp hT (by kernel_rfl) 0 3 rfl rfl rfl ?_
  refine dldp hT (by kernel_rfl) 2 0 rfl rfl rfl ?_
  refine dldp hT (by kernel_rfl) 0 2 rfl rfl rfl ?_
  refine dlku hT (by kernel_rfl) 0 (chP x.L s).2 rfl Tryz.underlying170 (zv := .int .i64 0) (by kernel_rfl) keyI rfl (.inr ⟨1, rfl⟩) q4 ?_
  cases hg : mget (chP x.L s).2 x.B with
  | none =>
   refine dend hT (by kernel_rfl) 5 rfl (nxX (thX (sqX (sqX (rgX ?_)))))
   refine fin hT 2 rfl (nxX (thX (ifTX rfl ?_)))
   refine sqX (rgX ?_)
   refine ldp hT 0 6 rfl rfl rfl ?_
   refine ldp hT 2 0 rfl rfl rfl ?_
   refine fin hT 2 rfl (nxX (thX (sqX (rgaX [pt b #[.slice aoS x.sts.length cS, .map (some lm), .map (some bm)] 172, pt b2 #[.pointer (some ⟨b, 0, none⟩)] 168, pt b3 (stV s ao s.arcs.length c).toArray 177] 10 [0, 2, 4, 6, 8, 10, 13, 15, 16, 18, 21] (by simp [bldL]) (by kernel_rfl) (by kernel_rfl) ?_))))
   refine dldpw hT (by kernel_rfl) 0 1 rfl (by kernel_rfl) rfl rfl ?_
   refine dldpw hT (by kernel_rfl) 0 1 rfl (by kernel_rfl) rfl rfl ?_
   refine dldpw hT (by kernel_rfl) 2 0 rfl (by kernel_rfl) rfl rfl ?_
   refine dldS hT (by kernel_rfl) 0 2 rfl (by kernel_rfl) rfl (by kernel_rfl) ?_
   refine dact hT (by kernel_rfl) 0 rfl ?_
   refine lit hT 0 (stV s ao s.arcs.length c).toArray rfl (by decide) (by kernel_rfl) fun b56 => ?_
   refine dnex [pt b #[.slice aoS x.sts.length cS, .map (some lm), .map (some bm)] 172, pt b2 #[.pointer (some ⟨b, 0, none⟩)] 168, pt b3 (stV s ao s.arcs.length c).toArray 177] (by simp [bldL]) (by simp) rfl ?_
   refine dact hT (by kernel_rfl) 0 rfl ?_
   refine appS hT 0 4 (stV s ao s.arcs.length c) s rfl rfl rfl q5 ⟨ao, _, c, rfl, hs2⟩ rfl (by simp [stV, Value.oneCell']) rfl (by decide) (by show _ * 40 <= _; omega) (by simp only [maxLen]; omega) fun ao57 c57 g57 o57 => ?_
   refine dnex [pt b #[.slice aoS x.sts.length cS, .map (some lm), .map (some bm)] 172, pt b2 #[.pointer (some ⟨b, 0, none⟩)] 168, pt b3 (stV s ao s.arcs.length c).toArray 177] (by simp [bldL]) (by simp) rfl ?_
   refine dact hT (by kernel_rfl) 2 rfl ?_
   refine stp hT 0 1 rfl rfl rfl rfl ?_
   refine dnext (.inl (by kernel_rfl)) ?_
   refine dend hT (by kernel_rfl) 0 rfl (nxX (thX (WX.drop (rgaX [pt b #[.slice ao57 (x.sts.length + 1) c57, .map (some lm), .map (some bm)] 172, pt b5 #[.int .i64 (chP x.L s).2] 3, pt b2 #[.pointer (some ⟨b, 0, none⟩)] 168] 7 [0, 2, 4, 6, 8, 10, 13] (by simp [bldL]) (by kernel_rfl) (by kernel_rfl) ?_))))
   refine dldp hT (by kernel_rfl) 0 2 rfl rfl rfl ?_
   refine dldp hT (by kernel_rfl) 2 0 rfl rfl rfl ?_
   refine dldp hT (by kernel_rfl) 0 1 rfl rfl rfl ?_
   refine dact hT (by kernel_rfl) 1 rfl ?_
   refine mpu hT 0 2 (chP x.L s).2 (x.sts.length : Int) rfl rfl Tryz.underlying170 keyI rfl rfl q4 fun hB' q4' => ?_
   refine dnex [pt b #[.slice ao57 (x.sts.length + 1) c57, .map (some lm), .map (some bm)] 172, pt b5 #[.int .i64 (chP x.L s).2] 3, pt b2 #[.pointer (some ⟨b, 0, none⟩)] 168] (by simp [bldL]) (by simp) rfl ?_
   refine dend hT (by kernel_rfl) 0 rfl (nxX (thX (sqX (rgX ?_))))
   refine fin hT 2 rfl (nxX (thX (rtX ?_)))
   refine WQX.join (bldL b lm bm ao57 (x.sts.length + 1) c57 hL hB' g57) fun d' => WQX.drop1 (WQX.drop1 (WQX.drop1 ?_))
   refine ret1M D (hs' := _ :: hs) rfl rfl rfl ⟨_, rfl, le1, ⟨lm, bm, hL, hB', g57, ao57, _, c57, rfl, d', by simp only [addP, hg]; exact q3, by simp only [addP, hg]; exact q4', by simp only [addP, hg]; exact o57⟩, by simp [addP, hg]⟩
  | some m =>
   refine dend hT (by kernel_rfl) 5 rfl (nxX (thX (sqX (sqX (rgX ?_)))))
   refine fin hT 2 rfl (nxX (thX (ifFX rfl ?_)))
   refine skX (thX (sqX (rgX ?_)))
   refine fin hT 2 rfl (nxX (thX (rtX ?_)))
   refine WQX.join (bldL b lm bm aoS x.sts.length cS hL hB gS) fun d' => WQX.drop1 (WQX.drop1 (WQX.drop1 ?_))
   refine ret1M D (hs' := _ :: hs) rfl rfl rfl ⟨_, rfl, le1, ⟨lm, bm, hL, hB, gS, aoS, _, cS, rfl, d', by simp only [addP, hg]; exact q3, by simp only [addP, hg]; exact q4, by simp only [addP, hg]; exact q5⟩, by simp [addP, hg, i64V]⟩
 ·rintro D c' K hs' hj
  exact hj.elim
end Go.Proofs.YtejkjbkodcamoaaGreatDoor
namespace Go.En
structure RstP where
 rs : List Nat
 w : Int
def tlR (r : RstP) : RstP := ⟨r.rs.tail, r.w⟩
def minG (a b : Int) : Int := if b < a then b else a
def leastP : List RstP -> Int
 | [] => 0
 | r :: l => (r :: l).foldl (fun n x => minG n x.w) r.w
def spanP (lb : Nat) : List RstP -> List RstP × List RstP
 | [] => ([], [])
 | r :: l => if r.rs.head? = some lb then (tlR r :: (spanP lb l).1, (spanP lb l).2) else ([], r :: l)
def arcsP (rec : Bld -> List RstP -> Bld × Int) (low : Int) : Nat -> Bld -> List RstP -> List ArcP -> Bld × List ArcP
 | 0, x, _, acc => (x, acc)
 | _ + 1, x, [], acc => (x, acc)
 | m + 1, x, r :: l, acc => arcsP rec low m (rec x (spanP (r.rs.headD 0) (r :: l)).1).1 (spanP (r.rs.headD 0) (r :: l)).2
   (acc ++ [⟨((r.rs.headD 0 : Nat) : Int), leastP (spanP (r.rs.headD 0) (r :: l)).1 - low, (rec x (spanP (r.rs.headD 0) (r :: l)).1).2⟩])
def finR : List RstP -> Bool
 | [] => false
 | r :: _ => r.rs.isEmpty
def outR (l : List RstP) : Int := if finR l = true then (l.headD ⟨[], 0⟩).w - leastP l else 0
def bodyR (l : List RstP) : List RstP := if finR l = true then l.tail else l
def stateP : Nat -> Bld -> List RstP -> Bld × Int
 | 0, x, _ => (x, 0)
 | k + 1, x, l => addP (arcsP (stateP k) (leastP l) (bodyR l).length x (bodyR l) []).1 ⟨finR l, outR l, (arcsP (stateP k) (leastP l) (bodyR l).length x (bodyR l) []).2⟩
def ltR : List Nat -> List Nat -> Prop
 | [], [] => False
 | [], _ :: _ => True
 | _ :: _, [] => False
 | a :: l, b :: m => a < b \/ (a = b /\ ltR l m)
def SLr (l : List RstP) : Prop := l.Pairwise fun a b => ltR a.rs b.rs
def totR (l : List RstP) : Nat := (l.map fun r => r.rs.length).sum
structure OkR (k : Nat) (l : List RstP) : Prop where
 sl : SLr l
 dep : ∀ r ∈ l, r.rs.length <= k
 wt : ∀ r ∈ l, 0 <= r.w /\ r.w <= 1073741824
theorem minG_mem (a b : Int) : minG a b = a \/ minG a b = b := by unfold minG; split <;> simp
theorem fold_min_bd : ∀ (l : List RstP) (n : Int) {lo hi : Int}, lo <= n /\ n <= hi -> (∀ r ∈ l, lo <= r.w /\ r.w <= hi) -> lo <= l.foldl (fun n x => minG n x.w) n /\ l.foldl (fun n x => minG n x.w) n <= hi
 | [], n, lo, hi, h, _ => h
 | r :: l, n, lo, hi, h, hl => by
  have hr := hl r (by simp)
  refine fold_min_bd l (minG n r.w) ?_ (fun x hx => hl x (by simp [hx]))
  rcases minG_mem n r.w with e | e <;> rw [e] <;> assumption
theorem leastP_bd {l : List RstP} (h : ∀ r ∈ l, 0 <= r.w /\ r.w <= 1073741824) : 0 <= leastP l /\ leastP l <= 1073741824 := by
 cases l with
 | nil => simp [leastP]
 | cons r l => exact fold_min_bd _ _ (h r (by simp)) h
theorem SLr.ne {r : RstP} {l : List RstP} (h : SLr (r :: l)) : ∀ x ∈ l, x.rs ≠ [] := by
 intro x hx e
 have := (List.pairwise_cons.1 h).1 x hx
 rw [e] at this
 cases hr : r.rs with
 | nil => rw [hr] at this; exact this
 | cons a m => rw [hr] at this; exact this
theorem spanP_sub (lb : Nat) : ∀ l : List RstP, ∃ m : List RstP, l = m ++ (spanP lb l).2 /\ (spanP lb l).1 = m.map tlR /\ ∀ r ∈ m, r.rs.head? = some lb
 | [] => ⟨[], rfl, rfl, by simp⟩
 | r :: l => by
  obtain ⟨m, h1, h2, h3⟩ := spanP_sub lb l
  by_cases h : r.rs.head? = some lb
  ·refine ⟨r :: m, ?_, ?_, ?_⟩
   ·simp only [spanP, h, if_true, List.cons_append]; rw [<- h1]
   ·simp only [spanP, h, if_true, List.map_cons, h2]
   ·intro x hx
    rcases List.mem_cons.1 hx with rfl | hx
    ·exact h
    ·exact h3 x hx
  ·exact ⟨[], by simp [spanP, h], by simp [spanP, h], by simp⟩
theorem head_tail {lb : Nat} {l : List Nat} (h : l.head? = some lb) : l = lb :: l.tail := by
 cases l with
 | nil => simp at h
 | cons a l => simp at h; subst h; rfl
theorem SLr.span {lb : Nat} {l : List RstP} (h : SLr l) : SLr (spanP lb l).1 /\ SLr (spanP lb l).2 := by
 obtain ⟨m, h1, h2, h3⟩ := spanP_sub lb l
 rw [SLr, h1, List.pairwise_append] at h
 refine ⟨?_, h.2.1⟩
 rw [h2]
 refine List.pairwise_map.2 (List.Pairwise.imp_of_mem ?_ h.1)
 intro a b ha hb hab
 rw [head_tail (h3 a ha), head_tail (h3 b hb)] at hab
 simp only [ltR, Nat.lt_irrefl, false_or, true_and] at hab
 exact hab
theorem OkR.span {k lb : Nat} {l : List RstP} (h : OkR (k + 1) l) : OkR k (spanP lb l).1 /\ OkR (k + 1) (spanP lb l).2 := by
 obtain ⟨m, h1, h2, h3⟩ := spanP_sub lb l
 have hm : ∀ r ∈ m, r ∈ l := fun r hr => by rw [h1]; simp [hr]
 have hm2 : ∀ r ∈ (spanP lb l).2, r ∈ l := fun r hr => by rw [h1]; simp [hr]
 refine ⟨⟨h.sl.span.1, ?_, ?_⟩, ⟨h.sl.span.2, fun r hr => h.dep r (hm2 r hr), fun r hr => h.wt r (hm2 r hr)⟩⟩
 ·rw [h2]
  intro r hr
  obtain ⟨x, hx, rfl⟩ := List.mem_map.1 hr
  have := h.dep x (hm x hx)
  rw [head_tail (h3 x hx)] at this
  simp only [tlR, List.length_cons] at this ⊢
  omega
 ·rw [h2]
  intro r hr
  obtain ⟨x, hx, rfl⟩ := List.mem_map.1 hr
  exact h.wt x (hm x hx)
theorem totR_append (l m : List RstP) : totR (l ++ m) = totR l + totR m := by simp [totR]
theorem span_tot {lb : Nat} {l : List RstP} (h : (spanP lb l).1 ≠ []) : totR (spanP lb l).1 + 1 + totR (spanP lb l).2 <= totR l := by
 obtain ⟨m, h1, h2, h3⟩ := spanP_sub lb l
 have h4 : totR l = totR m + totR (spanP lb l).2 := by rw [<- totR_append, <- h1]
 have key : ∀ m : List RstP, (∀ r ∈ m, r.rs.head? = some lb) -> totR (m.map tlR) + m.length <= totR m := by
  intro m
  induction m with
  | nil => intro _; simp [totR]
  | cons r m ih =>
   intro h3
   have := ih (fun x hx => h3 x (by simp [hx]))
   have hr : r.rs.length = r.rs.tail.length + 1 := by rw [head_tail (h3 r (by simp))]; simp
   simp only [totR, List.map_cons, List.sum_cons, List.length_cons, tlR] at this ⊢
   omega
 have k1 := key m h3
 have k2 : m ≠ [] := fun e => h (by rw [h2, e]; rfl)
 have k3 := List.length_pos_iff.2 k2
 rw [h2, h4]
 omega
theorem span_head {r : RstP} {l : List RstP} (h : r.rs ≠ []) : (spanP (r.rs.headD 0) (r :: l)).1 ≠ [] /\ (spanP (r.rs.headD 0) (r :: l)).2.length <= l.length := by
 have hr : r.rs.head? = some (r.rs.headD 0) := by cases e : r.rs with | nil => exact absurd e h | cons a m => rfl
 obtain ⟨m, h1, _, _⟩ := spanP_sub (r.rs.headD 0) l
 simp only [spanP, hr, if_true]
 refine ⟨by simp, ?_⟩
 have := congrArg List.length h1
 rw [List.length_append] at this
 omega
theorem addP_sts (x : Bld) (s : StP) : (addP x s).1.sts.length <= x.sts.length + 1 := by unfold addP; split <;> simp
theorem arcsP_sts {k : Nat} {low : Int} {rec : Bld -> List RstP -> Bld × Int} (ih : ∀ x l, OkR k l -> l ≠ [] -> (rec x l).1.sts.length <= x.sts.length + totR l + 1) : ∀ (m : Nat) (x : Bld) (l : List RstP) (acc : List ArcP), OkR (k + 1) l -> (∀ r ∈ l, r.rs ≠ []) ->
  (arcsP (rec) low m x l acc).1.sts.length <= x.sts.length + totR l /\ (arcsP (rec) low m x l acc).2.length <= acc.length + l.length
 | 0, x, l, acc, _, _ => by simp [arcsP]
 | _ + 1, x, [], acc, _, _ => by simp [arcsP]
 | m + 1, x, r :: l, acc, h, hne => by
  have h1 := span_head (l := l) (hne r (by simp))
  have h2 := h.span (lb := r.rs.headD 0)
  have h3 := span_tot h1.1
  have h4 := ih x _ h2.1 h1.1
  obtain ⟨mm, e1, _, _⟩ := spanP_sub (r.rs.headD 0) (r :: l)
  have h5 := arcsP_sts ih (low := low) m (rec x (spanP (r.rs.headD 0) (r :: l)).1).1 (spanP (r.rs.headD 0) (r :: l)).2 (acc ++ [⟨((r.rs.headD 0 : Nat) : Int), leastP (spanP (r.rs.headD 0) (r :: l)).1 - low, (rec x (spanP (r.rs.headD 0) (r :: l)).1).2⟩]) h2.2
   (fun y hy => hne y (by rw [e1]; exact List.mem_append_right _ hy))
  have h6 := h1.2
  refine ⟨Nat.le_trans h5.1 ?_, Nat.le_trans h5.2 ?_⟩
  ·omega
  ·rw [List.length_append, List.length_singleton, List.length_cons]
   omega
theorem bodyR_ok {k : Nat} {l : List RstP} (h : OkR k l) (hl : l ≠ []) : OkR k (bodyR l) /\ (∀ r ∈ bodyR l, r.rs ≠ []) /\ totR (bodyR l) = totR l /\ (bodyR l).length <= l.length := by
 cases l with
 | nil => exact absurd rfl hl
 | cons r l =>
  unfold bodyR
  by_cases hf : finR (r :: l) = true
  ·rw [if_pos hf]
   have he : r.rs = [] := by simpa [finR] using hf
   refine ⟨⟨(List.pairwise_cons.1 h.sl).2, fun x hx => h.dep x (by simp [List.tail] at hx; simp [hx]), fun x hx => h.wt x (by simp [List.tail] at hx; simp [hx])⟩, h.sl.ne, by simp [totR, he], by simp⟩
  ·rw [if_neg hf]
   have he : r.rs ≠ [] := by simpa [finR] using hf
   refine ⟨h, ?_, rfl, Nat.le_refl _⟩
   intro x hx
   rcases List.mem_cons.1 hx with rfl | hx
   ·exact he
   ·exact h.sl.ne x hx
theorem stateP_sts : ∀ (k : Nat) (x : Bld) (l : List RstP), OkR k l -> l ≠ [] -> (stateP (k + 1) x l).1.sts.length <= x.sts.length + totR l + 1
 | k, x, l, h, hl => by
  obtain ⟨h1, h2, h3, _⟩ := bodyR_ok h hl
  unfold stateP
  have ha := addP_sts (arcsP (stateP k) (leastP l) (bodyR l).length x (bodyR l) []).1 ⟨finR l, outR l, (arcsP (stateP k) (leastP l) (bodyR l).length x (bodyR l) []).2⟩
  cases k with
  | zero =>
   have hb : bodyR l = [] := by
    cases hb : bodyR l with
    | nil => rfl
    | cons r m =>
     have := h1.dep r (by rw [hb]; simp)
     exact absurd (List.eq_nil_of_length_eq_zero (by omega)) (h2 r (by rw [hb]; simp))
   rw [hb] at ha ⊢
   simp only [arcsP, List.length_nil] at ha ⊢
   omega
  | succ k =>
   have h5 := arcsP_sts (k := k) (low := leastP l) (rec := stateP (k + 1)) (fun x l h hl => stateP_sts k x l h hl) (bodyR l).length x (bodyR l) [] h1 h2
   omega
end Go.En
namespace Go.En
def rstV (r : RstP) (ao : Option Addr) (n c : Nat) : List Value := [.slice ao n c, .int .i64 r.w]
def rstR (H : PH) (c : List Value) (r : RstP) : Prop := ∃ ao cap, c = rstV r ao r.rs.length cap /\ IsS H ao r.rs.length cap 1 (rvv r.rs)
theorem rstR.le {H H' : PH} (l : Le H H') {c : List Value} {r : RstP} (h : rstR H c r) : rstR H' c r := by
 obtain ⟨ao, cap, h1, h2⟩ := h
 exact ⟨ao, cap, h1, h2.le l⟩
theorem rvv_tail (l : List Nat) : rvv l.tail = (rvv l).drop 1 := by cases l <;> simp [rvv]
end Go.En
namespace Go.Proofs.YtejkjbkodcamoaaGreatDoor
open Go.En
attribute [local irreducible] Code.wp wpList Calls
theorem leastC {w0 : World} {K h : PH} {hs : List PH} (ao : Option Addr) (n c : Nat) (l : List RstP) (hm : In K hs h) (x : SlS 2 (rstR K) h ao n c l) (hl : l ≠ []) (hb : l.length <= 1000000) :
  Ct Tryz.prog w0 104 [.slice ao n c] K hs (fun v K' hs' => K' = K /\ hs' = hs /\ v = .int .i64 (leastP l)) := by
 obtain rfl := x.len
 have hlp := List.length_pos_iff.2 hl
 obtain ⟨a, rfl⟩ := x.addr hlp (by decide)
 obtain ⟨vs, xv⟩ := x.isS
 obtain ⟨r0, m, rfl⟩ : ∃ r0 m, l = r0 :: m := by cases l with | nil => exact absurd rfl hl | cons r m => exact ⟨r, m, rfl⟩
 obtain ⟨c0, hc0, hl0, hcell0⟩ := x.cells (i := 0) (x := r0) rfl
 obtain ⟨ao0, cap0, rfl, _⟩ := hc0
 refine enter Tryz.func104 (by kernel_rfl) rfl rfl rfl ?_
 refine sq (rg ?_)
 refine fin hT 1 rfl (th (sq (rg ?_)))
 refine ixs hT 1 0 rfl rfl xv hlp (by decide) fun a7 ha => ?_
 cases ha
 refine ld hT 1 rfl hm (hcell0 1 _ rfl) ?_
 refine fin hT 1 rfl (th (sq (sq (rg ?_))))
 refine fin hT 3 rfl (th (bk ?_))
 refine loop (σ := Nat) (fun i => [(3, .int .i64 (((r0 :: m).take i).foldl (fun n x => minG n x.w) r0.w)), (10, .slice (some a) (r0 :: m).length c), (11, .int .i64 (((r0 :: m).length : Nat) : Int)), (12, .int .i64 ((i : Nat) : Int))]) (fun _ => K) (fun _ => hs) (fun i => i <= (r0 :: m).length) (fun i => (r0 :: m).length - i) 0 (Nat.zero_le _) ⟨rfl, rfl, rfl, rfl, trivial⟩ rfl rfl ?_
 intro i hi
 refine sq (rg ?_)
 refine cmpS hT 0 rfl fun b13 h13 => ?_
 refine fin hT 0 rfl (th (sq (ifP h13 rfl (fun e2 => ?_) (fun e2 => ?_))))
 ·have hil : i < (r0 :: m).length := by omega
  obtain ⟨ri, hri⟩ : ∃ ri, ri = (r0 :: m)[i] := ⟨_, rfl⟩
  obtain ⟨ci, hci, hli, hcelli⟩ := x.cells (i := i) (x := ri) (by rw [List.getElem?_eq_getElem hil, hri])
  obtain ⟨aoi, capi, rfl, _⟩ := hci
  refine sk (th (sq (bk (sq (rg ?_)))))
  refine ixs hT 0 i rfl rfl xv hil (by decide) fun a14 ha => ?_
  cases ha
  refine lds hT 0 (rstV ri aoi ri.rs.length capi) rfl (by kernel_rfl) hm hcelli ?_
  refine al hT 0 (.agg #[.slice none 0 0, .int .i64 0]) rfl (by kernel_rfl) fun b5 => ?_
  refine stS hT 0 0 rfl rfl (by kernel_rfl) rfl rfl ?_
  refine fin hT 0 rfl (th (rg ?_))
  refine ldp hT 2 0 rfl rfl rfl ?_
  refine fin hT 2 rfl (bl (th (rg ?_)))
  refine ar hT 0 rfl (i64w (x := ((i + 1 : Nat) : Int)) (by omega)) ?_
  refine fin hT 1 rfl (WQ.drop ?_)
  have ht : (r0 :: m).take (i + 1) = (r0 :: m).take i ++ [ri] := by rw [List.take_add_one, List.getElem?_eq_getElem hil, hri]; rfl
  exact again (x := i) (i + 1) ⟨by rw [ht, List.foldl_append]; rfl, rfl, rfl, rfl, trivial⟩ rfl rfl hil (by omega)
 ·refine ex (xt (xt (xb (th (sq (rg ?_))))))
  refine fin hT 2 rfl (th (rt ?_))
  refine ret1 rfl rfl ⟨rfl, rfl, ?_⟩
  rw [List.take_of_length_le (by omega)]
  rfl
def GrpC (k : Nat) (b : Nat) (rec : Bld -> List RstP -> Bld × Int) : Prop :=
 ∀ {w0 : World} {K h : PH} {hs : List PH} (x : Bld) (ao : Option Addr) (n c lb : Nat) (l : List RstP), OkR k l -> (∀ r ∈ l, r.rs ≠ []) -> (spanP lb l).1 ≠ [] -> (spanP lb l).1.length <= 1000000 -> x.sts.length + totR (spanP lb l).1 + 1 <= 1000000 ->
  BldH K b x h -> SlS 2 (rstR K) K ao n c (spanP lb l).1 -> Ct Tryz.prog w0 103 [.pointer (some ⟨b, 0, none⟩), .slice ao n c] K (h :: hs)
   (fun v K' hs' => ∃ h', hs' = h' :: hs /\ Le K K' /\ BldH K' b (rec x (spanP lb l).1).1 h' /\ v = .int .i64 (rec x (spanP lb l).1).2)
theorem stateS {w0 : World} {K h : PH} {hs : List PH} (k b : Nat) (x : Bld) (ao : Option Addr) (n c : Nat) (l : List RstP) (hg : GrpC k b (stateP k)) (hst : ∀ x l' lb, OkR k l' -> (∀ r ∈ l', r.rs ≠ []) -> (spanP lb l').1 ≠ [] -> (stateP k x (spanP lb l').1).1.sts.length <= x.sts.length + totR (spanP lb l').1 + 1)
  (y : BldH K b x h) (xl : SlS 2 (rstR K) K ao n c l) (ok : OkR k l) (hl : l ≠ []) (hb : l.length <= 1000000) (hsz : x.sts.length + totR l + 1 <= 1000000) :
  Ct Tryz.prog w0 103 [.pointer (some ⟨b, 0, none⟩), .slice ao n c] K (h :: hs)
   (fun v K' hs' => ∃ h', hs' = h' :: hs /\ Le K K' /\ BldH K' b (stateP (k + 1) x l).1 h' /\ v = .int .i64 (stateP (k + 1) x l).2) := by
 obtain rfl := xl.len
 have hlp := List.length_pos_iff.2 hl
 have hlow := leastP_bd ok.wt
 obtain ⟨ok1, ne1, tot1, len1⟩ := bodyR_ok ok hl
 refine enter Tryz.func103 (by kernel_rfl) rfl rfl rfl ?_
 refine sq (rg ?_)
 refine fin hT 1 rfl (th (sq (rg ?_)))
 refine cl hT 1 rfl (leastC ao l.length c l (.inl rfl) xl hl hb) ?_
 rintro v10 K10 hs10 ⟨rfl, rfl, rfl⟩
 refine fin hT 1 rfl (th (sq (rg ?_)))
 refine al hT 0 (.agg #[.bool false, .int .i64 0, .slice none 0 0]) rfl (by kernel_rfl) fun b6 => ?_
 refine fin hT 0 rfl (th (jn (σ := Option Addr × Nat) (fun s => [(0, .pointer (some ⟨b, 0, none⟩)), (1, .slice s.1 (bodyR l).length s.2), (5, .int .i64 (leastP l)), (6, .pointer (some ⟨b6, 0, none⟩))]) (fun _ => pt b6 #[.bool (finR l), .int .i64 (outR l), .slice none 0 0] 177 :: h :: hs) (fun s => SlS 2 (rstR K10) K10 s.1 (bodyR l).length s.2 (bodyR l)) ?_ ?_))
 ·obtain ⟨a, rfl⟩ := xl.addr hlp (by decide)
  obtain ⟨vs, xv⟩ := xl.isS
  obtain ⟨r0, m, rfl⟩ : ∃ r0 m, l = r0 :: m := by cases l with | nil => exact absurd rfl hl | cons r m => exact ⟨r, m, rfl⟩
  obtain ⟨c0, hc0, hl0, hcell0⟩ := xl.cells (i := 0) (x := r0) rfl
  obtain ⟨ao0, cap0, rfl, xr0⟩ := hc0
  refine sq (rg ?_)
  refine ixs hT 1 0 rfl rfl xv hlp (by decide) fun a12 ha => ?_
  cases ha
  refine ld hT 1 rfl (.inl rfl) (hcell0 0 _ rfl) ?_
  refine cmpS hT 1 rfl fun b16 h16 => ?_
  refine fin hT 0 rfl (ifP h16 rfl (fun e2 => ?_) (fun e2 => ?_))
  ·have hf : finR (r0 :: m) = true := by simp only [finR, List.isEmpty_iff]; exact List.eq_nil_of_length_eq_zero (by omega)
   have hbody : bodyR (r0 :: m) = m := by simp [bodyR, hf]
   have hout : outR (r0 :: m) = r0.w - leastP (r0 :: m) := by simp [outR, hf]
   have hw0 := ok.wt r0 (by simp)
   refine sq (rga [] 10 [0, 2, 4, 6, 8, 10, 12, 15, 16, 19] (by simp) (by kernel_rfl) (by kernel_rfl) ?_)
   refine dixs hT (by kernel_rfl) 1 0 rfl rfl hlp ?_
   refine dld hT (by kernel_rfl) 1 rfl (.inl rfl) (hcell0 1 _ rfl) ?_
   refine dar hT (by kernel_rfl) 1 rfl (i64w (x := r0.w - leastP (r0 :: m)) (by omega)) ?_
   refine dact hT (by kernel_rfl) 1 rfl ?_
   refine stp hT 0 0 rfl rfl rfl rfl ?_
   refine dnex [] (by simp) (by simp) rfl ?_
   refine dact hT (by kernel_rfl) 1 rfl ?_
   refine stp hT 0 0 rfl rfl rfl rfl ?_
   refine dnex [] (by simp) (by simp) rfl ?_
   refine dend hT (by kernel_rfl) 0 rfl (th (rg ?_))
   refine slx hT 1 1 m.length rfl rfl (show (((r0 :: m).length : Nat) : Int) = _ by simp only [List.length_cons]; omega) (by have := xv.2.1; simp only [List.length_cons] at this; omega) ?_
   have xc := xl.cut 1 hlp
   rw [hbody, hf, hout]
   refine fin hT 1 rfl (jx (_, _) (show SlS 2 (rstR K10) K10 _ m.length _ m from xc) ⟨rfl, rfl, rfl, rfl, trivial⟩ rfl rfl)
  ·have hf : finR (r0 :: m) = false := by
    cases hf : finR (r0 :: m) with
    | false => rfl
    | true => exfalso; apply e2; simp only [finR, List.isEmpty_iff] at hf; simp [hf]
   have hbody : bodyR (r0 :: m) = r0 :: m := by simp [bodyR, hf]
   have hout : outR (r0 :: m) = 0 := by simp [outR, hf]
   rw [hbody, hf, hout]
   exact sk (jx (some a, c) xl ⟨rfl, rfl, rfl, rfl, trivial⟩ rfl rfl)
 ·rintro ⟨ao1, c1⟩ xB
  dsimp only at xB ⊢
  refine sq (bk (WC.em ?_))
  refine loop (σ := (Bld × List ArcP × List RstP × Nat) × (PH × PH × PH) × (Option Addr × Nat) × (Option Addr × Nat)) (fun s => [(0, .pointer (some ⟨b, 0, none⟩)), (1, .slice s.2.2.1.1 s.1.2.2.1.length s.2.2.1.2), (5, .int .i64 (leastP l)), (6, .pointer (some ⟨b6, 0, none⟩))]) (fun s => s.2.1.1)
   (fun s => s.2.1.2.1 :: pt b6 #[.bool (finR l), .int .i64 (outR l), .slice s.2.2.2.1 s.1.2.1.length s.2.2.2.2] 177 :: s.2.1.2.2 :: hs)
   (fun s => Le K10 s.2.1.1 /\ BldH s.2.1.1 b s.1.1 s.2.1.2.2 /\ SlO 3 180 arcR s.2.1.2.1 s.2.2.2.1 s.1.2.1.length s.2.2.2.2 s.1.2.1 /\ SlS 2 (rstR s.2.1.1) s.2.1.1 s.2.2.1.1 s.1.2.2.1.length s.2.2.1.2 s.1.2.2.1 /\ OkR k s.1.2.2.1 /\ (∀ r ∈ s.1.2.2.1, r.rs ≠ []) /\ s.1.2.2.1.length <= s.1.2.2.2 /\
    s.1.2.1.length + s.1.2.2.1.length <= (bodyR l).length /\ s.1.1.sts.length + totR s.1.2.2.1 + 1 <= 1000000 /\ arcsP (stateP k) (leastP l) s.1.2.2.2 s.1.1 s.1.2.2.1 s.1.2.1 = arcsP (stateP k) (leastP l) (bodyR l).length x (bodyR l) [])
   (fun s => s.1.2.2.1.length) ((x, [], bodyR l, (bodyR l).length), (K10, em, h), (ao1, c1), (none, 0))
   ⟨Le.refl _, y, SlO.nil _ _, xB, ok1, ne1, Nat.le_refl _, by simp, by dsimp only; omega, rfl⟩ ⟨rfl, rfl, rfl, rfl, trivial⟩ rfl rfl ?_
  rintro ⟨⟨x', acc, l', m⟩, ⟨K', gA, h'⟩, ⟨ao', c'⟩, ⟨aoA, cA⟩⟩ ⟨leK, y', oA, xs', ok', ne', hm, hacc, hst', hE⟩
  dsimp only at *
  refine sq (sq (rg ?_))
  refine cmpS hT 2 rfl fun b29 h29 => ?_
  refine fin hT 0 rfl (th (ifP h29 rfl (fun e4 => ?_) (fun e4 => ?_)))
  ·have hlp' : 0 < l'.length := by omega
   obtain ⟨r0, l1, rfl⟩ : ∃ r0 m, l' = r0 :: m := by cases l' with | nil => simp at hlp' | cons r m => exact ⟨r, m, rfl⟩
   obtain ⟨m, rfl⟩ : ∃ m', m = m' + 1 := ⟨m - 1, by simp only [List.length_cons] at hm; omega⟩
   have hr0 := ne' r0 (by simp)
   have hr0l := List.length_pos_iff.2 hr0
   obtain ⟨a, rfl⟩ := xs'.addr hlp' (by decide)
   obtain ⟨vs, xv⟩ := xs'.isS
   obtain ⟨c0, hc0, hl0, hcell0⟩ := xs'.cells (i := 0) (x := r0) rfl
   obtain ⟨ao0, cap0, rfl, xr0⟩ := hc0
   obtain ⟨a0, rfl⟩ := xr0.addr hr0l (by decide)
   refine sk (th (bk (sq (rg ?_))))
   refine ixs hT 1 0 rfl rfl xv hlp' (by decide) fun a31 ha => ?_
   cases ha
   refine ld hT 1 rfl (.inl rfl) (hcell0 0 _ rfl) ?_
   refine ixs hT 0 0 rfl rfl xr0 hr0l (by decide) fun a34 ha => ?_
   cases ha
   refine ld hT 0 rfl (.inl rfl) (cellD xr0 hr0l) ?_
   have hhd : r0.rs.getD 0 0 = r0.rs.headD 0 := by cases r0.rs <;> rfl
   rw [hhd]
   obtain ⟨lb, hlb⟩ : ∃ lb, lb = r0.rs.headD 0 := ⟨_, rfl⟩
   rw [<- hlb]
   refine fin hT 1 rfl (th (sq (rg ?_)))
   refine fin hT 1 rfl (th (sq (bk (WC.em ?_))))
   refine loop (σ := (List RstP × List RstP) × PH × (Option Addr × Nat) × (Option Addr × Nat)) (fun s => [(0, .pointer (some ⟨b, 0, none⟩)), (1, .slice s.2.2.1.1 s.1.2.length s.2.2.1.2), (5, .int .i64 (leastP l)), (6, .pointer (some ⟨b6, 0, none⟩)), (7, .int .i32 ((lb : Nat) : Int)), (8, .slice s.2.2.2.1 s.1.1.length s.2.2.2.2)]) (fun _ => K')
    (fun s => s.2.1 :: gA :: pt b6 #[.bool (finR l), .int .i64 (outR l), .slice aoA acc.length cA] 177 :: h' :: hs)
    (fun s => SlO 2 167 (rstR K') s.2.1 s.2.2.2.1 s.1.1.length s.2.2.2.2 s.1.1 /\ SlS 2 (rstR K') K' s.2.2.1.1 s.1.2.length s.2.2.1.2 s.1.2 /\ (∀ r ∈ s.1.2, r.rs ≠ []) /\ s.1.1.length + s.1.2.length <= (r0 :: l1).length /\ spanP lb (r0 :: l1) = (s.1.1 ++ (spanP lb s.1.2).1, (spanP lb s.1.2).2))
    (fun s => s.1.2.length) (([], r0 :: l1), em, (some a, c'), (none, 0)) ⟨SlO.nil _ _, xs', ne', by simp, rfl⟩ ⟨rfl, rfl, rfl, rfl, rfl, rfl, trivial⟩ rfl rfl ?_
   rintro ⟨⟨U, l2⟩, gU, ⟨ao2, c2⟩, ⟨aoU, cU⟩⟩ ⟨oU, xs2, ne2, hUl, hsp⟩
   dsimp only at *
   refine sq (sq (rg ?_))
   refine cmpS hT 2 rfl fun b38 h38 => ?_
   have hcell2 : ∀ (hp : 0 < l2.length), ∃ r2 l3 a2 vs2 ao0' cap0', l2 = r2 :: l3 /\ ao2 = some a2 /\ IsS K' (some a2) l2.length c2 2 vs2 /\ IsS K' (some ao0') r2.rs.length cap0' 1 (rvv r2.rs) /\ 0 < r2.rs.length /\ ∀ (j : Nat) v, (rstV r2 (some ao0') r2.rs.length cap0')[j]? = some v -> Cell K' ((a2.add (0 * 2)).add j) v := by
    intro hp
    obtain ⟨r2, l3, rfl⟩ : ∃ r0 m, l2 = r0 :: m := by cases l2 with | nil => simp at hp | cons r m => exact ⟨r, m, rfl⟩
    obtain ⟨a2, rfl⟩ := xs2.addr hp (by decide)
    obtain ⟨vs2, xv2⟩ := xs2.isS
    obtain ⟨c0, hc0, hl0, hcell0⟩ := xs2.cells (i := 0) (x := r2) rfl
    obtain ⟨ao0', cap0', rfl, xr0'⟩ := hc0
    have hr2 := List.length_pos_iff.2 (ne2 r2 (by simp))
    obtain ⟨a0', rfl⟩ := xr0'.addr hr2 (by decide)
    exact ⟨r2, l3, a2, vs2, a0', cap0', rfl, rfl, xv2, xr0', hr2, hcell0⟩
   refine' bja hT 1 9 48 [38, 39] h38 rfl rfl rfl rfl rfl rfl rfl (q := (l2.headD ⟨[], 0⟩).rs.headD 0 = lb) (fun hp => ?x6) (fun b48 h48 => ?_)
   case x6 =>
    obtain ⟨r2, l3, a2, vs2, ao0', cap0', rfl, rfl, xv2, xr2, hr2, hc2⟩ := hcell2 (by omega)
    refine ixs hT 1 0 rfl rfl xv2 (by omega) (by decide) fun a41 ha => ?_
    cases ha
    refine ld hT 1 rfl (.inl rfl) (hc2 0 _ rfl) ?_
    refine ixs hT 0 0 rfl rfl xr2 hr2 (by decide) fun a44 ha => ?_
    cases ha
    refine ld hT 0 rfl (.inl rfl) (cellD xr2 hr2) ?_
    refine cmpS hT 1 rfl fun b47 h47 => ?_
    have hh2 : r2.rs.getD 0 0 = r2.rs.headD 0 := by cases r2.rs <;> rfl
    exact fin hT 1 rfl (bjx (h47.trans ⟨fun h => by rw [hh2] at h; show r2.rs.headD 0 = lb; omega, fun h => by rw [hh2]; have h' : r2.rs.headD 0 = lb := h; omega⟩) rfl rfl rfl)
   refine fin hT 0 rfl (th (ifP h48 rfl (fun e8 => ?_) (fun e8 => ?_)))
   ·obtain ⟨e81, e82⟩ := e8
    obtain ⟨r2, l3, a2, vs2, ao0', cap0', rfl, rfl, xv2, xr2, hr2, hc2⟩ := hcell2 (by omega)
    have e82' : r2.rs.headD 0 = lb := e82
    have hhead : r2.rs.head? = some lb := by rw [<- e82']; cases e : r2.rs with | nil => rw [e] at hr2; simp at hr2 | cons a m => rfl
    have hspan : spanP lb (r2 :: l3) = (tlR r2 :: (spanP lb l3).1, (spanP lb l3).2) := by simp [spanP, hhead]
    refine sk (th (bk (sq (rga [] 14 [0, 2, 4, 6, 8, 10, 12, 14, 16, 18, 20, 23, 25, 26] (by simp) (by kernel_rfl) (by kernel_rfl) ?_))))
    refine dixs hT (by kernel_rfl) 2 0 rfl rfl (by omega) ?_
    refine dld hT (by kernel_rfl) 1 rfl (.inl rfl) (hc2 0 _ rfl) ?_
    refine dsl hT (by kernel_rfl) 0 1 (r2.rs.length - 1) rfl rfl xr2 rfl (show ((r2.rs.length : Nat) : Int) = _ by omega) (by omega) (ys := rvv r2.rs.tail) (by rw [rvv_tail]; simp only [Nat.mul_one]; exact List.take_of_length_le (by simp [rvv_len])) fun ao54 c54 x54 => ?_
    refine dixs hT (by kernel_rfl) 1 0 rfl rfl (by omega) ?_
    refine dld hT (by kernel_rfl) 1 rfl (.inl rfl) (hc2 1 _ rfl) ?_
    refine dbd hT (by kernel_rfl) 0 (.agg (rstV (tlR r2) ao54 (r2.rs.length - 1) c54).toArray) rfl (fun w => by kernel_rfl) ?_
    refine dact hT (by kernel_rfl) 0 rfl ?_
    refine lit hT 0 (rstV (tlR r2) ao54 (r2.rs.length - 1) c54).toArray rfl (by decide) (by kernel_rfl) fun b60 => ?_
    refine dnex [] (by simp) (by simp) rfl ?_
    refine dact hT (by kernel_rfl) 0 rfl ?_
    have htl : (tlR r2).rs.length = r2.rs.length - 1 := by simp [tlR]
    have hbig : U.length + 1 <= 1000000 := by simp only [List.length_cons] at hUl hacc; omega
    refine appS hT 0 1 (rstV (tlR r2) ao54 (r2.rs.length - 1) c54) (tlR r2) rfl rfl rfl oU ⟨ao54, c54, by rw [htl], by rw [htl]; exact x54⟩ rfl (by simp [rstV, Value.oneCell']) rfl (by decide) (by show _ * 32 <= _; omega) (by simp only [maxLen]; omega) fun ao61 c61 g61 o61 => ?_
    refine dnex [] (by simp) (by simp) rfl ?_
    refine dend hT (by kernel_rfl) 1 rfl (th (rg ?_))
    refine slx hT 1 1 l3.length rfl rfl (show (((r2 :: l3).length : Nat) : Int) = _ by simp only [List.length_cons]; omega) (by have := xv2.2.1; simp only [List.length_cons] at this; omega) ?_
    have xc := xs2.cut 1 (by simp)
    refine fin hT 1 rfl (bl (WQ.drop ?_))
    refine again (x := ((U, r2 :: l3), gU, (some a2, c2), (aoU, cU))) ((U ++ [tlR r2], l3), g61, (_, _), (ao61, c61)) ⟨rfl, rfl, rfl, rfl, rfl, by dsimp only; rw [List.length_append]; rfl, trivial⟩ rfl rfl ⟨by dsimp only; rw [List.length_append]; exact o61, xc, fun r hr => ne2 r (by simp [hr]), by simp only [List.length_append, List.length_cons, List.length_nil] at hUl ⊢; omega, ?_⟩ (by simp)
    dsimp only
    rw [hsp, hspan]
    simp
   ·have hspan : spanP lb l2 = ([], l2) := by
     cases l2 with
     | nil => rfl
     | cons r2 l3 =>
      have : ¬ r2.rs.head? = some lb := fun hh => e8 ⟨by simp, by show r2.rs.headD 0 = lb; rw [List.headD_eq_head?_getD, hh]; rfl⟩
      simp [spanP, this]
    rw [hspan, List.append_nil] at hsp
    have hU : (spanP lb (r0 :: l1)).1 = U := by rw [hsp]
    have hL2 : (spanP lb (r0 :: l1)).2 = l2 := by rw [hsp]
    have hUne : U ≠ [] := by rw [<- hU, hlb]; exact (span_head hr0).1
    have hbU : ∀ r ∈ U, 0 <= r.w /\ r.w <= 1073741824 := by
     obtain ⟨mm, g1, g2, _⟩ := spanP_sub lb (r0 :: l1)
     intro r hr
     rw [<- hU, g2] at hr
     obtain ⟨z, hz, rfl⟩ := List.mem_map.1 hr
     exact ok'.wt z (by rw [g1]; simp [hz])
    have hlU := leastP_bd hbU
    have hbig : U.length <= 1000000 := by simp only [List.length_cons] at hUl hacc; omega
    have htot : totR U + 1 + totR l2 <= totR (r0 :: l1) := by have := span_tot (lb := lb) (l := r0 :: l1) (by rw [hU]; exact hUne); rw [hU, hL2] at this; exact this
    refine ex (xt (xt (xb (th (WC.frz fun K2 le1 le2 => ?_)))))
    have xU : SlS 2 (rstR K2) K2 aoU U.length cU U := oU.slS.le le2 fun _ _ h => h.le le1
    refine rga [pt b6 #[.bool (finR l), .int .i64 (outR l), .slice aoA acc.length cA] 177] 14 [0, 2, 4, 6, 10, 14, 16, 9, 12, 19, 20, 23, 25, 26, 29] (by simp) (by kernel_rfl) (by kernel_rfl) ?_
    refine dldpw hT (by kernel_rfl) 1 0 rfl (by kernel_rfl) rfl rfl ?_
    refine dact hT (by kernel_rfl) 5 rfl ?_
    refine cl hT 0 rfl (leastC aoU U.length cU U (.inl rfl) xU hUne hbig) ?_
    rintro v68 K68 hs68 ⟨rfl, rfl, rfl⟩
    refine dnex [pt b6 #[.bool (finR l), .int .i64 (outR l), .slice aoA acc.length cA] 177] (by simp) (by simp) rfl ?_
    refine dar hT (by kernel_rfl) 0 rfl (i64w (x := leastP U - leastP l) (by omega)) ?_
    refine dact hT (by kernel_rfl) 0 rfl ?_
    refine cl hT 0 rfl (Ct.at 2 rfl (by
     have := hg (w0 := w0) (K := K68) (h := h') (hs := gA :: pt b6 #[.bool (finR l), .int .i64 (outR l), .slice aoA acc.length cA] 177 :: hs) x' aoU U.length cU lb (r0 :: l1) ok' ne' (by rw [hU]; exact hUne) (by rw [hU]; exact hbig) (by rw [hU]; omega) (y'.le le1) (by rw [hU]; exact xU)
     rw [hU] at this
     exact this)) ?_
    rintro v73 K73 hs73 ⟨h2, rfl, le3, y2, rfl⟩
    have hst2 := hst x' (r0 :: l1) lb ok' ne' (by rw [hU]; exact hUne)
    rw [hU] at hst2
    refine dnexL [pt b6 #[.bool (finR l), .int .i64 (outR l), .slice aoA acc.length cA] 177] (by simp) (by simp) le3 ?_
    refine dbd hT (by kernel_rfl) 0 (.agg (arcV ⟨((lb : Nat) : Int), leastP U - leastP l, (stateP k x' U).2⟩).toArray) rfl (fun w => by kernel_rfl) ?_
    refine dact hT (by kernel_rfl) 0 rfl ?_
    refine lit hT 0 (arcV ⟨((lb : Nat) : Int), leastP U - leastP l, (stateP k x' U).2⟩).toArray rfl (by decide) (by kernel_rfl) fun b75 => ?_
    refine dnex [pt b6 #[.bool (finR l), .int .i64 (outR l), .slice aoA acc.length cA] 177] (by simp) (by simp) rfl ?_
    refine dact hT (by kernel_rfl) 0 rfl ?_
    refine appS hT 0 1 (arcV ⟨((lb : Nat) : Int), leastP U - leastP l, (stateP k x' U).2⟩) (⟨((lb : Nat) : Int), leastP U - leastP l, (stateP k x' U).2⟩ : ArcP) rfl rfl rfl oA rfl rfl (by simp [arcV, Value.oneCell']) rfl (by decide) (by show _ * 24 <= _; omega) (by simp only [maxLen]; omega) fun ao76 c76 g76 o76 => ?_
    refine dnex [pt b6 #[.bool (finR l), .int .i64 (outR l), .slice aoA acc.length cA] 177] (by simp) (by simp) rfl ?_
    refine dact hT (by kernel_rfl) 1 rfl ?_
    refine stp hT 0 2 rfl rfl rfl rfl ?_
    refine dnext (.inl (by kernel_rfl)) ?_
    refine dend hT (by kernel_rfl) 0 rfl (bl (WQ.drop ?_))
    have hl2 : l2.length <= l1.length := by have := (span_head (l := l1) hr0).2; rw [<- hlb, hL2] at this; exact this
    have hmem : ∀ r ∈ l2, r ∈ r0 :: l1 := by
     obtain ⟨mm, g1, _, _⟩ := spanP_sub lb (r0 :: l1)
     intro r hr
     rw [g1, hL2]
     exact List.mem_append_right _ hr
    refine again (x := ((x', acc, r0 :: l1, m + 1), (K', gA, h'), (some a, c'), (aoA, cA))) (((stateP k x' U).1, acc ++ [⟨((lb : Nat) : Int), leastP U - leastP l, (stateP k x' U).2⟩], l2, m), (K73, g76, h2), (ao2, c2), (ao76, c76)) ⟨rfl, rfl, rfl, rfl, trivial⟩ rfl (by dsimp only; rw [List.length_append]; rfl)
     ⟨leK.trans (le1.trans le3), y2, by dsimp only; rw [List.length_append]; exact o76, xs2.le (le1.trans le3) fun _ _ h => h.le (le1.trans le3), ?_, fun r hr => ne2 r hr, by simp only [List.length_cons] at hm; dsimp only; omega, by simp only [List.length_append, List.length_cons, List.length_nil] at hacc ⊢; omega, by dsimp only; omega, ?_⟩ (by dsimp only [List.length_cons]; omega)
    ·dsimp only
     cases k with
     | zero =>
      have := ok'.dep r0 (by simp)
      omega
     | succ k => have := (OkR.span (lb := lb) ok').2; rw [hL2] at this; exact this
    ·dsimp only
     rw [<- hE]
     conv => rhs; unfold arcsP
     rw [<- hlb, hU, hL2]
  ·obtain rfl : l' = [] := List.eq_nil_of_length_eq_zero (by omega)
   have hE' : arcsP (stateP k) (leastP l) (bodyR l).length x (bodyR l) [] = (x', acc) := by rw [<- hE]; cases m <;> rfl
   refine ex (xt (xt (xb (th (sq (WC.frz fun K2 le1 le2 => rg ?_))))))
   refine ldS hT 1 0 rfl rfl (by kernel_rfl) ?_
   refine cl hT 0 rfl (Ct.at 1 rfl (addC b x' ⟨finR l, outR l, acc⟩ aoA acc.length cA (y'.le le1) (oA.slS.le le2 fun _ _ h => h) (by omega) (by dsimp only; omega))) ?_
   rintro v80 K80 hs80 ⟨h2, rfl, le3, y2, rfl⟩
   refine fin hT 1 rfl (th (rt (WQ.drop ?_)))
   refine ret1 rfl rfl ⟨h2, rfl, leK.trans (le1.trans le3), ?_, ?_⟩
   ·unfold stateP; rw [hE']; exact y2
   ·unfold stateP; rw [hE']
theorem okR_pred {k lb : Nat} {l : List RstP} (h : OkR k l) (hne : ∀ r ∈ l, r.rs ≠ []) (hs : (spanP lb l).1 ≠ []) : ∃ j, k = j + 1 /\ OkR j (spanP lb l).1 := by
 cases k with
 | zero =>
  exfalso
  cases l with
  | nil => exact hs rfl
  | cons r l =>
   have := h.dep r (by simp)
   exact hne r (by simp) (List.eq_nil_of_length_eq_zero (by omega))
 | succ k => exact ⟨k, rfl, h.span.1⟩
theorem stateC : ∀ (k : Nat) {w0 : World} {K h : PH} {hs : List PH} (b : Nat) (x : Bld) (ao : Option Addr) (n c : Nat) (l : List RstP), BldH K b x h -> SlS 2 (rstR K) K ao n c l -> OkR k l -> l ≠ [] -> l.length <= 1000000 -> x.sts.length + totR l + 1 <= 1000000 ->
  Ct Tryz.prog w0 103 [.pointer (some ⟨b, 0, none⟩), .slice ao n c] K (h :: hs)
   (fun v K' hs' => ∃ h', hs' = h' :: hs /\ Le K K' /\ BldH K' b (stateP (k + 1) x l).1 h' /\ v = .int .i64 (stateP (k + 1) x l).2)
 | k, w0, K, h, hs, b, x, ao, n, c, l, y, xl, ok, hl, hb, hsz => by
  refine stateS k b x ao n c l ?_ ?_ y xl ok hl hb hsz
  ·intro w0 K h hs x ao n c lb l' h1 h2 h3 h4 h5 h6 h7
   obtain ⟨j, rfl, h8⟩ := okR_pred h1 h2 h3
   exact stateC j b x ao n c _ h6 h7 h8 h3 h4 h5
  ·intro x l' lb h1 h2 h3
   obtain ⟨j, rfl, h8⟩ := okR_pred h1 h2 h3
   exact stateP_sts j x _ h8 h3
termination_by k => k
end Go.Proofs.YtejkjbkodcamoaaGreatDoor
end
section
namespace Go.En
structure PairP where
 word : List UInt8
 w : Int
deriving DecidableEq
def pairV (p : PairP) : List Value := [str p.word, .int .i64 p.w]
def pairR (c : List Value) (p : PairP) : Prop := c = pairV p
def restP (p : PairP) : RstP := ⟨rl p.word, p.w⟩
structure RightD (l : List PairP) : Prop where
 few : l.length <= 4096
 one : ∀ p ∈ l, wordP p.word /\ 1 <= p.w /\ p.w <= 1048576
 ord : l.Pairwise fun a b => Op.bytesLess a.word b.word = true
def bld0 : Bld := ⟨[], [], []⟩
def buildP (l : List PairP) : Int × List StP := if l = [] then (0, []) else (leastP (l.map restP), (stateP 25 bld0 (l.map restP)).1.sts)
theorem bl_cons (a b : UInt8) (x y : List UInt8) : Op.bytesLess (a :: x) (b :: y) = (decide (a < b) || (a == b && Op.bytesLess x y)) := rfl
theorem bl_same : ∀ (p x y : List UInt8), Op.bytesLess (p ++ x) (p ++ y) = Op.bytesLess x y
 | [], x, y => rfl
 | a :: p, x, y => by simp [bl_cons, bl_same p x y, UInt8.lt_irrefl]
theorem by8_lt {a b : Nat} (ha : a < 256) (hb : b < 256) : (by8 a < by8 b) ↔ a < b := by
 rw [UInt8.lt_iff_toNat_lt]
 simp only [by8, UInt8.toNat_ofNat']
 omega
theorem by8_eqi {a b : Nat} (ha : a < 256) (hb : b < 256) : (by8 a = by8 b) ↔ a = b := by
 constructor
 ·intro h
  have := congrArg UInt8.toNat h
  simp only [by8, UInt8.toNat_ofNat'] at this
  omega
 ·rintro rfl; rfl
theorem wr_lt {r s : Nat} (h : r < s) (hs : s <= 1114111) (x y : List UInt8) : Op.bytesLess (wr r ++ x) (wr s ++ y) = true /\ ¬ Op.bytesLess (wr s ++ y) (wr r ++ x) = true := by
 unfold wr
 repeat' split
 all_goals first
  | (exfalso; omega)
  | (
    simp only [List.cons_append, List.nil_append, bl_cons, Bool.or_eq_true, Bool.and_eq_true, decide_eq_true_eq, beq_iff_eq]
    repeat (rw [by8_lt (by omega) (by omega)])
    repeat (rw [by8_eqi (by omega) (by omega)])
    constructor <;> omega)
theorem wr_ne (r : Nat) : wr r ≠ [] := by
 unfold wr
 repeat' split
 all_goals simp
theorem text_lt : ∀ (l m : List Nat), (∀ r ∈ l, scalarP r) -> (∀ r ∈ m, scalarP r) -> Op.bytesLess (textP l) (textP m) = true -> ltR l m
 | [], [], _, _, h => by simp [textP, Op.bytesLess] at h
 | [], _ :: _, _, _, _ => trivial
 | r :: l, [], _, _, h => by
  simp only [textP] at h
  cases e : wr r ++ textP l with
  | nil => simp [wr_ne] at e
  | cons a t => rw [e] at h; simp [Op.bytesLess] at h
 | r :: l, s :: m, hl, hm, h => by
  simp only [textP] at h
  have h1 := hl r (by simp)
  have h2 := hm s (by simp)
  rcases Nat.lt_trichotomy r s with g | g | g
  ·exact .inl g
  ·subst g
   rw [bl_same] at h
   exact .inr ⟨rfl, text_lt l m (fun x hx => hl x (by simp [hx])) (fun x hx => hm x (by simp [hx])) h⟩
  ·exact absurd h (wr_lt g h1.1 _ _).2
theorem wsome {s : List UInt8} (h : wordP s) : runesP s = some (rl s) := by
 obtain ⟨_, h1, _⟩ := h
 unfold rl
 cases hh : runesP s with
 | none => rw [hh] at h1; cases h1
 | some l => rfl
theorem word_lt {a b : List UInt8} (ha : wordP a) (hb : wordP b) (h : Op.bytesLess a b = true) : ltR (rl a) (rl b) := by
 have ea := runesP_text (wsome ha)
 have eb := runesP_text (wsome hb)
 exact text_lt _ _ ea.2.1 eb.2.1 (by rw [ea.1, eb.1]; exact h)
theorem RightD.ok {l : List PairP} (h : RightD l) : OkR 24 (l.map restP) := by
 refine ⟨?_, ?_, ?_⟩
 ·refine List.pairwise_map.2 (List.Pairwise.imp_of_mem ?_ h.ord)
  intro a b ha hb hab
  exact word_lt (h.one a ha).1 (h.one b hb).1 hab
 ·intro r hr
  obtain ⟨p, hp, rfl⟩ := List.mem_map.1 hr
  exact (h.one p hp).1.2.2.2.2
 ·intro r hr
  obtain ⟨p, hp, rfl⟩ := List.mem_map.1 hr
  have := (h.one p hp).2
  show 0 <= p.w /\ p.w <= 1073741824
  omega
theorem RightD.tot {l : List PairP} (h : RightD l) : totR (l.map restP) <= 24 * l.length := by
 have key : ∀ l : List PairP, (∀ p ∈ l, wordP p.word) -> totR (l.map restP) <= 24 * l.length := by
  intro l
  induction l with
  | nil => intro _; simp [totR]
  | cons p l ih =>
   intro h
   have h1 := ih (fun x hx => h x (by simp [hx]))
   have h2 := (h p (by simp)).2.2.2.2
   simp only [totR, List.map_cons, List.sum_cons, List.length_cons, restP] at h1 ⊢
   omega
 exact key l fun p hp => (h.one p hp).1
end Go.En
namespace Go.Proofs.YtejkjbkodcamoaaGreatDoor
open Go.En
attribute [local irreducible] Code.wp wpList Calls
theorem lessC {w0 : World} {K : PH} {hs : List PH} (a b : List UInt8) : Ct Tryz.prog w0 102 [str a, str b] K hs (fun v K' hs' => K' = K /\ hs' = hs /\ v = .bool (Op.bytesLess a b)) := by
 refine enter Tryz.func102 (by kernel_rfl) rfl rfl rfl ?_
 refine sq (rg ?_)
 refine fin hT 1 rfl (th (sq (rg ?_)))
 refine opv hT 2 rfl (v := .bool (Op.bytesLess a b)) (fun A w ha => ?_) ?_
 ·have e1 := ha.ev (x := .tmp 5) (v := str a) rfl
  have e2 := ha.ev (x := .tmp 6) (v := str b) rfl
  simp [execOp, e1, e2, str, eqGuard, binOp, Op.stringOp, ByteArray.toList_eq]
 refine fin hT 1 rfl (th (rt ?_))
 exact ret1 rfl rfl ⟨rfl, rfl, rfl⟩
theorem RightD.run {l : List PairP} (h : RightD l) {i : Nat} (hi : i < l.length) (hi0 : 0 < i) : Op.bytesLess (l[i - 1]'(by omega)).word (l[i]).word = true :=
 (List.pairwise_iff_getElem.1 h.ord) (i - 1) i (by omega) hi (by omega)
set_option maxHeartbeats 1000000 in
theorem buildC {w0 : World} {K : PH} {hs : List PH} (ao : Option Addr) (n c : Nat) (l : List PairP) (x : SlS 2 pairR K ao n c l) (hr : RightD l) (hG : LeastK K) :
  Ct Tryz.prog w0 64 [.slice ao n c] K hs (fun v K' hs' => hs' = hs /\ Le K K' /\ ∃ aoS cS, v = .tuple #[.agg #[.int .i64 (buildP l).1, .slice aoS (buildP l).2.length cS], .int .i64 0] /\ SlS 3 (stR K') K' aoS (buildP l).2.length cS (buildP l).2) := by
 obtain rfl := x.len
 have hfew := hr.few
 refine enter Tryz.func64 (by kernel_rfl) rfl rfl rfl ?_
 refine sq (rg ?_)
 refine al hT 0 (.agg #[.int .i64 0, .slice none 0 0]) rfl (by kernel_rfl) fun b2 => ?_
 refine fin hT 1 rfl (th (sq (sq (rg ?_))))
 refine cmpS hT 2 rfl fun b12 h12 => ?_
 refine fin hT 0 rfl (th (ifP h12 rfl (fun e2 => absurd e2 (by omega)) (fun e2 => ?_)))
 refine sk (th (sq (rg ?_)))
 refine fin hT 1 rfl (th (sq (sq (rg ?_))))
 refine fin hT 3 rfl (th (bk (WC.em ?_)))
 refine loop (σ := Nat × PH × PH × Option Addr × Nat) (fun s => [(0, .slice ao l.length c), (2, .pointer (some ⟨b2, 0, none⟩)), (3, .int .i64 0), (4, .slice s.2.2.2.1 s.1 s.2.2.2.2), (14, .slice ao l.length c), (15, .int .i64 ((l.length : Nat) : Int)), (16, .int .i64 ((s.1 : Nat) : Int))]) (fun s => s.2.1)
  (fun s => s.2.2.1 :: pt b2 #[.int .i64 0, .slice none 0 0] 137 :: hs) (fun s => s.1 <= l.length /\ Le K s.2.1 /\ SlO 2 167 (rstR s.2.1) s.2.2.1 s.2.2.2.1 s.1 s.2.2.2.2 ((l.take s.1).map restP)) (fun s => l.length - s.1) (0, K, em, none, 0) ⟨Nat.zero_le _, Le.refl _, SlO.nil _ _⟩ ⟨rfl, rfl, rfl, rfl, rfl, rfl, rfl, trivial⟩ rfl rfl ?_
 rintro ⟨i, K1, gA, aoA, cA⟩ ⟨hi, le1, oA⟩
 dsimp only at *
 have x1 : SlS 2 pairR K1 ao l.length c l := x.le le1 fun _ _ h => h
 refine sq (rg ?_)
 refine cmpS hT 0 rfl fun b17 h17 => ?_
 refine fin hT 0 rfl (th (sq (ifP h17 rfl (fun e4 => ?_) (fun e4 => ?_))))
 ·have hil : i < l.length := by omega
  obtain ⟨p, hp⟩ : ∃ p, p = l[i] := ⟨_, rfl⟩
  have hpm : p ∈ l := by rw [hp]; exact List.getElem_mem hil
  obtain ⟨hw, hw1, hw2⟩ := hr.one p hpm
  obtain ⟨a, rfl⟩ := x1.addr (by omega) (by decide)
  obtain ⟨vs, xv⟩ := x1.isS
  obtain ⟨ci, hci, hli, hcell⟩ := x1.cells (i := i) (x := p) (by rw [List.getElem?_eq_getElem hil, hp])
  obtain rfl := hci
  refine sk (th (sq (bk (sq (rg ?_)))))
  refine ixs hT 1 i rfl rfl xv hil (by decide) fun a19 ha => ?_
  cases ha
  refine lds hT 0 (pairV p) rfl (by kernel_rfl) (.inl rfl) hcell ?_
  refine al hT 0 (.agg #[.string ⟨#[]⟩, .int .i64 0]) rfl (by kernel_rfl) fun b6 => ?_
  refine stS hT 1 0 rfl rfl (by kernel_rfl) rfl rfl ?_
  refine fin hT 0 rfl (th (sq (rg ?_)))
  refine ldp hT 1 0 rfl rfl rfl ?_
  refine cl hT 0 rfl (runesC p.word (fun j hj => (hG j hj).le le1) (by have := hw.1; omega)) ?_
  rintro v24 K24 hs24 ⟨rfl, hR, aoR, cR, rfl, rfl, oR⟩
  rw [wsome hw] at oR ⊢
  simp only [Option.getD_some, Option.isSome_some] at oR ⊢
  refine fin hT 5 rfl (th (WC.frz fun K2 le2 le3 => jn (σ := Unit) (fun s => [(0, .slice (some a) l.length c), (2, .pointer (some ⟨b2, 0, none⟩)), (3, .int .i64 0), (4, .slice aoA i cA), (6, .pointer (some ⟨b6, 0, none⟩)), (7, .slice aoR (rl p.word).length cR), (14, .slice (some a) l.length c), (15, .int .i64 ((l.length : Nat) : Int)), (16, .int .i64 ((i : Nat) : Int))]) (fun _ => pt b6 (pairV p).toArray 100 :: gA :: pt b2 #[.int .i64 0, .slice none 0 0] 137 :: hs) (fun _ => True) ?_ ?_))
  ·refine bk (sq (rg ?_))
   refine ldp hT 1 0 rfl rfl rfl ?_
   refine cl hT 0 rfl (wordC p.word (fun j hj => (hG j hj).le (le1.trans le2))) ?_
   rintro v30 K30 hs30 ⟨rfl, rfl, t30, rfl, h30⟩
   refine cbS hT 0 _ rfl (bnot h30) fun b31 h31 => ?_
   refine fin hT 1 rfl (th (ifP h31 rfl (fun e5 => absurd hw e5) (fun e5 => ?_)))
   refine sq (rg ?_)
   refine ldp hT 1 0 rfl rfl rfl ?_
   refine cmpS hT 0 rfl fun b36 h36 => ?_
   refine' bjo hT 1 4 41 [36, 37] h36 rfl rfl rfl rfl rfl rfl rfl (fun _ => ?x7) (fun b41 h41 => ?_)
   case x7 =>
    refine ldp hT 1 0 rfl rfl rfl ?_
    refine cmpS hT 0 rfl fun b40 h40 => ?_
    exact fin hT 1 rfl (bjx h40 rfl rfl rfl)
   refine fin hT 1 rfl (th (ifP h41 rfl (fun e9 => absurd e9 (by omega)) (fun e9 => ?_)))
   refine sq (rga [pt b6 (pairV p).toArray 100] 15 [0, 2, 4, 6, 8, 10, 12, 14, 16, 18, 20, 23, 24, 26, 28] (by simp) (by kernel_rfl) (by kernel_rfl) ?_)
   refine dcmp hT (by kernel_rfl) 1 ((0 : Int) < ((i : Nat) : Int)) rfl (by simp) (fun h10 => ?_) (fun h10 => ?_)
   ·obtain ⟨cj, hcj, hlj, hcellj⟩ := x1.cells (i := i - 1) (x := l[i - 1]'(by omega)) (List.getElem?_eq_getElem _)
    obtain rfl := hcj
    refine dar hT (by kernel_rfl) 3 rfl (v' := .int .i64 ((i - 1 : Nat) : Int)) (by rw [i64w (by omega)]; congr 1; omega) ?_
    refine dixs hT (by kernel_rfl) 0 (i - 1) rfl rfl (by omega) ?_
    refine dld hT (by kernel_rfl) 1 rfl (.inl rfl) ((hcellj 0 _ rfl).le le2) ?_
    refine dldp hT (by kernel_rfl) 1 0 rfl rfl rfl ?_
    refine dact hT (by kernel_rfl) 0 rfl ?_
    refine cl hT 0 rfl (lessC (l[i - 1]'(by omega)).word p.word) ?_
    rintro v55 K55 hs55 ⟨rfl, rfl, rfl⟩
    rw [hp, RightD.run hr hil (by omega)]
    refine dnex [pt b6 (pairV l[i]).toArray 100] (by simp) (by simp) rfl ?_
    refine dend hT (by kernel_rfl) 3 rfl (th (ifF rfl (sk (bl ?_))))
    exact jx () trivial ⟨rfl, rfl, rfl, rfl, rfl, rfl, rfl, rfl, rfl, trivial⟩ rfl rfl
   ·refine dact hT (by kernel_rfl) 9 rfl ?_
    refine WL.pures hT 1 rfl ?_
    refine dnex [pt b6 (pairV p).toArray 100] (by simp) (by simp) rfl ?_
    refine dend hT (by kernel_rfl) 3 rfl (th (ifF rfl (sk (bl ?_))))
    exact jx () trivial ⟨rfl, rfl, rfl, rfl, rfl, rfl, rfl, rfl, rfl, trivial⟩ rfl rfl
  ·rintro - -
   refine rg ?_
   refine ldp hT 3 0 rfl rfl rfl ?_
   refine bd hT 0 (.agg (rstV (restP p) aoR (rl p.word).length cR).toArray) rfl (fun w => by kernel_rfl) ?_
   refine lit hT 0 (rstV (restP p) aoR (rl p.word).length cR).toArray rfl (by decide) (by kernel_rfl) fun b64 => ?_
   refine appS hT 0 2 (rstV (restP p) aoR (rl p.word).length cR) (restP p) rfl rfl rfl (oA.imp fun _ _ h => h.le le2) ⟨aoR, cR, rfl, oR.isS.le le3⟩ rfl (by simp [rstV, Value.oneCell']) rfl (by decide) (by show _ * 32 <= _; omega) (by simp only [maxLen]; omega) fun ao65 c65 g65 o65 => ?_
   refine fin hT 1 rfl (bl (th (rg ?_)))
   refine ar hT 0 rfl (i64w (x := ((i + 1 : Nat) : Int)) (by omega)) ?_
   refine fin hT 1 rfl (WQ.drop (WQ.drop ?_))
   refine again (x := (i, K24, gA, aoA, cA)) (i + 1, K2, g65, ao65, c65) ⟨rfl, rfl, rfl, rfl, rfl, rfl, rfl, trivial⟩ rfl rfl ⟨hil, le1.trans le2, ?_⟩ (by dsimp only; omega)
   dsimp only
   rw [List.take_add_one, List.getElem?_eq_getElem hil, <- hp, List.map_append]
   exact o65
 ·obtain rfl : i = l.length := by omega
  rw [List.take_of_length_le (Nat.le_refl _)] at oA
  refine ex (xt (xt (xb (th (sq (sq (rg ?_)))))))
  refine cmpS hT 2 rfl fun b69 h69 => ?_
  refine fin hT 0 rfl (th (ifP h69 rfl (fun e13 => ?_) (fun e13 => ?_)))
  ·obtain rfl : l = [] := List.eq_nil_of_length_eq_zero (by omega)
   refine sq (rg ?_)
   refine bd hT 0 (.agg #[.int .i64 0, .slice none 0 0]) rfl (fun w => by kernel_rfl) ?_
   refine stS hT 0 1 rfl rfl (by kernel_rfl) rfl rfl ?_
   refine fin hT 1 rfl (th (rt (rT ?_)))
   exact retcP 1 2 rfl rfl rfl rfl (by kernel_rfl) ⟨rfl, le1, none, 0, rfl, SlS.nil 3 _ none 0⟩
  ·have hne : l ≠ [] := fun e => e13 (by simp [e])
   have hok := hr.ok
   have htot := hr.tot
   refine sk (th (WC.frz fun K2 le2 le3 => sq (rg ?_)))
   refine mkm hT 0 rfl fun b71 => ?_
   refine mkm hT 0 rfl fun b72 => ?_
   refine bd hT 0 (.agg #[.slice none 0 0, .map (some b71), .map (some b72)]) rfl (fun w => by kernel_rfl) ?_
   refine bx hT 0 rfl fun b74 => ?_
   refine fin hT 1 rfl (th (sq (rg ?_)))
   have xA : SlS 2 (rstR K2) K2 aoA l.length cA (l.map restP) := oA.slS.le le3 fun _ _ h => h.le le2
   refine WL.em ?_
   refine WL.perm (hs' := bldL b74 b71 b72 none 0 0 (sg b71 (.map #[] 0)) (sg b72 (.map #[] 0)) em ++ pt b2 #[.int .i64 0, .slice none 0 0] 137 :: hs) ((List.Perm.swap _ _ _).trans (List.Perm.cons _ ((List.reverse_perm [_, _, _]).symm.append_right (_ :: hs)))) ?_
   refine WL.join (bldL b74 b71 b72 none 0 0 (sg b71 (.map #[] 0)) (sg b72 (.map #[] 0)) em) fun d => ?_
   refine cl hT 2 rfl (stateC 24 b74 bld0 aoA l.length cA (l.map restP) ⟨b71, b72, _, _, em, none, 0, 0, rfl, d, MpO.empty _ _, MpO.empty _ _, SlO.nil _ _⟩ xA hok (by simpa using hne) (by simp; omega) (by simp only [bld0, List.length_nil]; omega)) ?_
   rintro v77 K77 hs77 ⟨h2, rfl, le4, y2, rfl⟩
   obtain ⟨lm, bm, hL, hB, gS, aoS, nS, cS, rfl, d2, q3, q4, q5⟩ := y2
   obtain rfl := q5.len
   refine fin hT 0 rfl (th (WC.split d2 (sq (rga [pt b74 #[.slice aoS (stateP 25 bld0 (l.map restP)).1.sts.length cS, .map (some lm), .map (some bm)] 172] 7 [0, 4, 6, 8, 10, 3, 12, 15, 16] (by simp [bldL]) (by kernel_rfl) (by kernel_rfl) ?_))))
   refine dldpw hT (by kernel_rfl) 4 0 rfl (by kernel_rfl) rfl rfl ?_
   refine dact hT (by kernel_rfl) 0 rfl ?_
   refine cl hT 0 rfl (leastC aoA l.length cA (l.map restP) (.inl rfl) (xA.le le4 fun _ _ h => h.le le4) (by simpa using hne) (by simp; omega)) ?_
   rintro v79 K79 hs79 ⟨rfl, rfl, rfl⟩
   refine dnex [pt b74 #[.slice aoS (stateP 25 bld0 (l.map restP)).1.sts.length cS, .map (some lm), .map (some bm)] 172] (by simp [bldL]) (by simp) rfl ?_
   refine dbd hT (by kernel_rfl) 0 (.agg #[.int .i64 (leastP (l.map restP)), .slice aoS (stateP 25 bld0 (l.map restP)).1.sts.length cS]) rfl (fun w => by kernel_rfl) ?_
   refine dact hT (by kernel_rfl) 0 rfl ?_
   refine stS hT 0 4 rfl rfl (by kernel_rfl) rfl rfl ?_
   refine dnext (.inl (by kernel_rfl)) ?_
   refine dend hT (by kernel_rfl) 1 rfl (th (rt ?_))
   refine WQ.perm (perm_front _ 3 _ rfl) (WQ.frz fun K4 le5 le6 => ?_)
   refine retcP 3 4 rfl rfl rfl rfl (by kernel_rfl) ⟨rfl, le1.trans (le2.trans (le4.trans le5)), aoS, cS, ?_, ?_⟩
   ·rw [buildP, if_neg hne]
   ·rw [buildP, if_neg hne]
    exact q5.slS.le le6 fun _ _ h => h.le le5
end Go.Proofs.YtejkjbkodcamoaaGreatDoor
namespace Go.En
theorem w64_in {n : Int} (h : -9223372036854775808 <= n /\ n <= 9223372036854775807) : w64 n = n := IntWalk.i64_in _ h
structure LI (L : List (LkP × Int)) : Prop where
 num : ∀ (i : Nat) k n, L[i]? = some (k, n) -> n = (i : Int)
 nodup : (L.map (·.1)).Nodup
 nx : ∀ (i : Nat) k n, L[i]? = some (k, n) -> 0 <= k.nx /\ k.nx <= (i : Int)
theorem mget_idx {κ ν : Type} [DecidableEq κ] {k : κ} {v : ν} : ∀ {m : List (κ × ν)}, mget k m = some v -> ∃ i : Nat, m[i]? = some (k, v)
 | [], h => by simp [mget] at h
 | (k', v') :: m, h => by
  simp only [mget] at h
  split at h
  ·rename_i e; subst e; simp only [Option.some.injEq] at h; subst h; exact ⟨0, rfl⟩
  ·obtain ⟨i, hi⟩ := mget_idx h; exact ⟨i + 1, by simpa using hi⟩
theorem mset_new {κ ν : Type} [DecidableEq κ] {k : κ} {v : ν} : ∀ {m : List (κ × ν)}, mget k m = none -> mset k v m = m ++ [(k, v)]
 | [], _ => rfl
 | (k', v') :: m, h => by
  simp only [mget] at h
  split at h
  ·cases h
  ·rename_i e; simp [mset, e, mset_new h]
theorem knownP_spec {L : List (LkP × Int)} (h : LI L) {k : LkP} (hk : 0 <= k.nx /\ k.nx <= (L.length : Int)) :
  LI (knownP L k).1 /\ (∃ t, (knownP L k).1 = L ++ t /\ t.length <= 1) /\ ∃ i : Nat, (knownP L k).2 = (i : Int) /\ (knownP L k).1[i]? = some (k, (i : Int)) := by
 unfold knownP
 cases hg : mget k L with
 | some n =>
  obtain ⟨i, hi⟩ := mget_idx hg
  have := h.num i k n hi
  subst this
  exact ⟨h, ⟨[], by simp, by simp⟩, i, rfl, hi⟩
 | none =>
  simp only
  rw [mset_new hg]
  refine ⟨⟨?_, ?_, ?_⟩, ⟨[(k, (L.length : Int))], rfl, by simp⟩, L.length, rfl, by simp⟩
  ·intro i k' n hi
   rcases Nat.lt_trichotomy i L.length with g | g | g
   ·rw [List.getElem?_append_left g] at hi; exact h.num i k' n hi
   ·subst g; simp at hi; exact hi.2.symm
   ·rw [List.getElem?_eq_none (by simp; omega)] at hi; cases hi
  ·rw [List.map_append, List.nodup_append]
   refine ⟨h.nodup, by simp, ?_⟩
   intro a ha b hb e
   simp only [List.map_cons, List.map_nil, List.mem_singleton] at hb
   subst hb e
   exact mget_none.1 hg ha
  ·intro i k' n hi
   rcases Nat.lt_trichotomy i L.length with g | g | g
   ·rw [List.getElem?_append_left g] at hi; exact h.nx i k' n hi
   ·subst g; simp at hi; obtain ⟨rfl, _⟩ := hi; exact hk
   ·rw [List.getElem?_eq_none (by simp; omega)] at hi; cases hi
inductive Dec (L : List (LkP × Int)) : Nat -> StP -> Prop
 | base {v : Nat} {f : Bool} {o : Int} (h : L[v]? = some (⟨f, o, 0, 0, -1, 0⟩, (v : Int))) : Dec L v ⟨f, o, []⟩
 | step {v u : Nat} {f : Bool} {o : Int} {a : ArcP} {l : List ArcP} (h : L[v]? = some (⟨false, 0, a.lb, a.out, a.to, (u : Int) + 1⟩, (v : Int))) (ht : 0 <= a.to) (hd : Dec L u ⟨f, o, l⟩) : Dec L v ⟨f, o, a :: l⟩
theorem Dec.mono {L t : List (LkP × Int)} {v : Nat} {s : StP} (h : Dec L v s) : Dec (L ++ t) v s := by
 induction h with
 | base h => exact .base (by rw [List.getElem?_append_left (List.getElem?_eq_some_iff.1 h).1]; exact h)
 | step h ht _ ih => exact .step (by rw [List.getElem?_append_left (List.getElem?_eq_some_iff.1 h).1]; exact h) ht ih
theorem Dec.inj {L : List (LkP × Int)} (hL : LI L) {v u : Nat} {s : StP} (h : Dec L v s) (g : Dec L u s) : v = u := by
 have key : ∀ (i j : Nat) k m n, L[i]? = some (k, m) -> L[j]? = some (k, n) -> i = j := by
  intro i j k m n hi hj
  have h1 : (L.map (·.1))[i]? = some k := by simp [hi]
  have h2 : (L.map (·.1))[j]? = some k := by simp [hj]
  exact (List.getElem?_inj (List.getElem?_eq_some_iff.1 h1).1 hL.nodup).1 (h1.trans h2.symm)
 induction h generalizing u with
 | base h => cases g with | base g => exact key _ _ _ _ _ h g
 | step h ht hd ih =>
  cases g with
  | step g gt gd =>
   have := ih gd
   subst this
   exact key _ _ _ _ _ h g
theorem Dec.fn {L : List (LkP × Int)} {v : Nat} {s t : StP} (h : Dec L v s) (g : Dec L v t) : s = t := by
 induction h generalizing t with
 | base h =>
  cases g with
  | base g => rw [h] at g; cases g; rfl
  | step g gt gd => rw [h] at g; simp only [Option.some.injEq, Prod.mk.injEq, LkP.mk.injEq] at g; omega
 | step h ht hd ih =>
  cases g with
  | base g => rw [h] at g; simp only [Option.some.injEq, Prod.mk.injEq, LkP.mk.injEq] at g; omega
  | step g gt gd =>
   rename_i v u f o a l u' f' o' a' l'
   rw [h] at g
   simp only [Option.some.injEq, Prod.mk.injEq, LkP.mk.injEq, true_and] at g
   obtain ⟨⟨e1, e2, e3, e4⟩, _⟩ := g
   have : u = u' := by omega
   subst this
   have := ih gd
   simp only [StP.mk.injEq] at this
   obtain ⟨rfl, rfl, rfl⟩ := this
   cases a; cases a'; simp_all
def ArcOK (a : ArcP) : Prop := 0 <= a.to /\ 0 <= a.lb /\ a.lb <= 2147483647
theorem chS_fold {L : List (LkP × Int)} {f : Bool} {o : Int} : ∀ (r l : List ArcP) (v : Nat), LI L -> L.length + r.length <= 1152921504606846976 -> (∀ a ∈ r, ArcOK a) -> Dec L v ⟨f, o, l⟩ ->
  LI (r.foldl chS (L, (v : Int))).1 /\ (∃ t, (r.foldl chS (L, (v : Int))).1 = L ++ t /\ t.length <= r.length) /\ ∃ i : Nat, (r.foldl chS (L, (v : Int))).2 = (i : Int) /\ Dec (r.foldl chS (L, (v : Int))).1 i ⟨f, o, r.reverse ++ l⟩
 | [], l, v, hL, _, _, hd => ⟨hL, ⟨[], by simp, by simp⟩, v, rfl, by simpa using hd⟩
 | a :: r, l, v, hL, hb, ha, hd => by
  have hv : v < L.length := by cases hd with | base h => exact (List.getElem?_eq_some_iff.1 h).1 | step h _ _ => exact (List.getElem?_eq_some_iff.1 h).1
  have h1 := ha a (by simp)
  have e1 : w64 a.lb = a.lb := w64_in (by have := h1.2; omega)
  have e2 : w64 ((v : Int) + 1) = (v : Int) + 1 := w64_in (by simp only [List.length_cons] at hb; omega)
  obtain ⟨g1, ⟨t, g2, g3⟩, i, g4, g5⟩ := knownP_spec hL (k := ⟨false, 0, w64 a.lb, a.out, a.to, w64 ((v : Int) + 1)⟩) (by rw [e2]; dsimp only; omega)
  have hd' : Dec (knownP L ⟨false, 0, w64 a.lb, a.out, a.to, w64 ((v : Int) + 1)⟩).1 i ⟨f, o, a :: l⟩ := by
   refine .step (u := v) ?_ h1.1 (by rw [g2]; exact hd.mono)
   rw [g5, e1, e2]
  simp only [List.foldl_cons]
  have e3 : chS (L, (v : Int)) a = ((knownP L ⟨false, 0, w64 a.lb, a.out, a.to, w64 ((v : Int) + 1)⟩).1, (i : Int)) := by unfold chS; rw [<- g4]
  rw [e3]
  obtain ⟨k1, ⟨t', k2, k3⟩, j, k4, k5⟩ := chS_fold r (a :: l) i g1 (by rw [g2]; simp only [List.length_append, List.length_cons] at hb ⊢; omega) (fun x hx => ha x (by simp [hx])) hd'
  refine ⟨k1, ⟨t ++ t', by rw [k2, g2, List.append_assoc], by simp only [List.length_append, List.length_cons]; omega⟩, j, k4, by simpa using k5⟩
theorem chP_spec {L : List (LkP × Int)} {s : StP} (hL : LI L) (hb : L.length + s.arcs.length + 1 <= 1152921504606846976) (ha : ∀ a ∈ s.arcs, ArcOK a) :
  LI (chP L s).1 /\ (∃ t, (chP L s).1 = L ++ t /\ t.length <= s.arcs.length + 1) /\ ∃ i : Nat, (chP L s).2 = (i : Int) /\ Dec (chP L s).1 i s := by
 obtain ⟨g1, ⟨t, g2, g3⟩, i, g4, g5⟩ := knownP_spec hL (k := ⟨s.fin, s.out, 0, 0, -1, 0⟩) (by dsimp only; omega)
 have e3 : ch0 L s = ((knownP L ⟨s.fin, s.out, 0, 0, -1, 0⟩).1, (i : Int)) := by unfold ch0; rw [<- g4]
 unfold chP
 rw [e3]
 obtain ⟨k1, ⟨t', k2, k3⟩, j, k4, k5⟩ := chS_fold s.arcs.reverse [] i g1 (by rw [g2]; simp only [List.length_append, List.length_reverse]; omega) (fun x hx => ha x (by simpa using hx)) (.base g5)
 refine ⟨k1, ⟨t ++ t', by rw [k2, g2, List.append_assoc], by simp only [List.length_append, List.length_reverse] at k3 ⊢; omega⟩, j, k4, by simpa using k5⟩
structure BI (x : Bld) : Prop where
 li : LI x.L
 snd : ∀ v n, mget v x.B = some n -> ∃ (i u : Nat) (s : StP), n = (i : Int) /\ v = (u : Int) /\ x.sts[i]? = some s /\ Dec x.L u s
 all : ∀ (i : Nat) s, x.sts[i]? = some s -> ∃ u : Nat, mget (u : Int) x.B = some (i : Int) /\ Dec x.L u s
 nodup : x.sts.Nodup
theorem addP_spec {x : Bld} {s : StP} (h : BI x) (hb : x.L.length + s.arcs.length + 1 <= 1152921504606846976) (ha : ∀ a ∈ s.arcs, ArcOK a) :
  BI (addP x s).1 /\ (addP x s).1.L.length <= x.L.length + s.arcs.length + 1 /\
   ((∃ i : Nat, x.sts[i]? = some s /\ (addP x s).1.sts = x.sts /\ (addP x s).2 = (i : Int)) \/ (s ∉ x.sts /\ (addP x s).1.sts = x.sts ++ [s] /\ (addP x s).2 = (x.sts.length : Int))) := by
 obtain ⟨g1, ⟨t, g2, g3⟩, u, g4, g5⟩ := chP_spec h.li hb ha
 have hlen : (chP x.L s).1.length <= x.L.length + s.arcs.length + 1 := by rw [g2]; simp; omega
 unfold addP
 rw [g4]
 cases hg : mget (u : Int) x.B with
 | some n =>
  obtain ⟨i, v, s', h1, h2, h3, h4⟩ := h.snd _ _ hg
  have : v = u := by omega
  subst this
  have hs : s' = s := (by rw [g2]; exact h4.mono : Dec (chP x.L s).1 v s').fn g5
  subst hs
  refine ⟨⟨g1, fun v n hv => ?_, fun i s hi => ?_, h.nodup⟩, hlen, .inl ⟨i, h3, rfl, h1⟩⟩
  ·obtain ⟨i, u, s, a1, a2, a3, a4⟩ := h.snd v n hv
   exact ⟨i, u, s, a1, a2, a3, by show Dec (chP x.L s').1 u s; rw [g2]; exact a4.mono⟩
  ·obtain ⟨u, a1, a2⟩ := h.all i s hi
   exact ⟨u, a1, by show Dec (chP x.L s').1 u s; rw [g2]; exact a2.mono⟩
 | none =>
  have hnew : s ∉ x.sts := by
   intro hm
   obtain ⟨i, hi⟩ := List.getElem?_of_mem hm
   obtain ⟨v, a1, a2⟩ := h.all i s hi
   have : v = u := (by rw [g2]; exact a2.mono : Dec (chP x.L s).1 v s).inj g1 g5
   subst this
   rw [hg] at a1; cases a1
  refine ⟨⟨g1, fun v n hv => ?_, fun i s' hi => ?_, ?_⟩, hlen, .inr ⟨hnew, rfl, rfl⟩⟩
  ·simp only at hv
   rw [mget_mset] at hv
   split at hv
   ·rename_i e
    simp only [Option.some.injEq] at hv
    exact ⟨x.sts.length, u, s, hv.symm, e, by simp, g5⟩
   ·obtain ⟨i, u', s', a1, a2, a3, a4⟩ := h.snd v n hv
    exact ⟨i, u', s', a1, a2, by simp only; rw [List.getElem?_append_left (List.getElem?_eq_some_iff.1 a3).1]; exact a3, by show Dec (chP x.L s).1 u' s'; rw [g2]; exact a4.mono⟩
  ·simp only at hi
   rcases Nat.lt_trichotomy i x.sts.length with g | g | g
   ·rw [List.getElem?_append_left g] at hi
    obtain ⟨v, a1, a2⟩ := h.all i s' hi
    refine ⟨v, ?_, by show Dec (chP x.L s).1 v s'; rw [g2]; exact a2.mono⟩
    simp only
    rw [mget_mset, if_neg (fun e => by rw [e, hg] at a1; cases a1)]
    exact a1
   ·subst g
    simp at hi
    subst hi
    exact ⟨u, by simp only; rw [mget_mset, if_pos rfl], g5⟩
   ·rw [List.getElem?_eq_none (by simp; omega)] at hi; cases hi
  ·simp only
   rw [List.nodup_append]
   refine ⟨h.nodup, by simp, ?_⟩
   intro a hm b hb e
   simp only [List.mem_singleton] at hb
   subst hb e
   exact hnew hm
end Go.En
namespace Go.En
abbrev Wd := List Nat × Int
def pre1 (a : ArcP) (x : Wd) : Wd := (a.lb.toNat :: x.1, a.out + x.2)
def wa (tb : List (List Wd)) (l : List ArcP) : List Wd := l.flatMap fun a => (tb.getD a.to.toNat []).map (pre1 a)
def ws (tb : List (List Wd)) (s : StP) : List Wd := (if s.fin = true then [([], s.out)] else []) ++ wa tb s.arcs
def wt (sts : List StP) : List (List Wd) := sts.foldl (fun tb s => tb ++ [ws tb s]) []
theorem wt_snoc (l : List StP) (s : StP) : wt (l ++ [s]) = wt l ++ [ws (wt l) s] := by simp [wt, List.foldl_append]
theorem wt_fold : ∀ (t : List StP) (tb : List (List Wd)), ∃ r, t.foldl (fun tb s => tb ++ [ws tb s]) tb = tb ++ r /\ r.length = t.length
 | [], tb => ⟨[], by simp, rfl⟩
 | s :: t, tb => by
  obtain ⟨r, h, hl⟩ := wt_fold t (tb ++ [ws tb s])
  exact ⟨ws tb s :: r, by simp [h], by simp [hl]⟩
theorem wt_len (l : List StP) : (wt l).length = l.length := by
 obtain ⟨r, h, hl⟩ := wt_fold l []
 unfold wt
 rw [h]; simpa using hl
theorem wt_pre (l t : List StP) : ∃ r, wt (l ++ t) = wt l ++ r := by
 obtain ⟨r, h, _⟩ := wt_fold t (wt l)
 exact ⟨r, by rw [wt, List.foldl_append]; exact h⟩
theorem wt_get (l t : List StP) {i : Nat} (h : i < l.length) : (wt (l ++ t))[i]? = (wt l)[i]? := by
 obtain ⟨r, e⟩ := wt_pre l t
 rw [e, List.getElem?_append_left (by rw [wt_len]; exact h)]
theorem wt_getD (l t : List StP) {i : Nat} (h : i < l.length) : (wt (l ++ t)).getD i [] = (wt l).getD i [] := by
 rw [List.getD_eq_getElem?_getD, List.getD_eq_getElem?_getD, wt_get l t h]
theorem wa_cong {tb tb' : List (List Wd)} {l : List ArcP} (h : ∀ a ∈ l, tb.getD a.to.toNat [] = tb'.getD a.to.toNat []) : wa tb l = wa tb' l := by
 induction l with
 | nil => rfl
 | cons a l ih =>
  simp only [wa, List.flatMap_cons] at ih ⊢
  rw [h a (by simp), ih (fun x hx => h x (by simp [hx]))]
mutual
inductive Vis (sts : List StP) : Nat -> Nat -> Prop
 | mk {i k : Nat} {s : StP} (h : sts[i]? = some s) (g : Vas sts s.arcs k i) : Vis sts i k
inductive Vas (sts : List StP) : List ArcP -> Nat -> Nat -> Prop
 | nil (k : Nat) : Vas sts [] k k
 | old {a : ArcP} {l : List ArcP} {k m : Nat} (h : a.to.toNat < k) (g : Vas sts l k m) : Vas sts (a :: l) k m
 | new {a : ArcP} {l : List ArcP} {k m : Nat} (h : k <= a.to.toNat) (v : Vis sts a.to.toNat k) (g : Vas sts l (a.to.toNat + 1) m) : Vas sts (a :: l) k m
end
theorem vis_mono {sts t : List StP} {i k : Nat} (h : Vis sts i k) : Vis (sts ++ t) i k := by
 refine Vis.rec (motive_1 := fun i k _ => Vis (sts ++ t) i k) (motive_2 := fun l k m _ => Vas (sts ++ t) l k m) ?_ ?_ ?_ ?_ h
 ·intro i k s h g ih
  exact .mk (by rw [List.getElem?_append_left (List.getElem?_eq_some_iff.1 h).1]; exact h) ih
 ·intro k; exact .nil k
 ·intro a l k m h g ih; exact .old h ih
 ·intro a l k m h v g ih1 ih2; exact .new h ih1 ih2
theorem vas_mono {sts t : List StP} {l : List ArcP} {k m : Nat} (h : Vas sts l k m) : Vas (sts ++ t) l k m := by
 induction l generalizing k with
 | nil => cases h; exact .nil _
 | cons a l ih =>
  cases h with
  | old h g => exact .old h (ih g)
  | new h v g => exact .new h (vis_mono v) (ih g)
theorem vas_snoc {sts : List StP} {l : List ArcP} {a : ArcP} {k m : Nat} (h : Vas sts l k m) : (a.to.toNat < m -> Vas sts (l ++ [a]) k m) /\ (m <= a.to.toNat -> Vis sts a.to.toNat m -> Vas sts (l ++ [a]) k (a.to.toNat + 1)) := by
 induction l generalizing k with
 | nil => cases h; exact ⟨fun h => .old h (.nil _), fun h v => .new h v (.nil _)⟩
 | cons b l ih =>
  cases h with
  | old h g => exact ⟨fun h' => .old h ((ih g).1 h'), fun h' v => .old h ((ih g).2 h' v)⟩
  | new h w g => exact ⟨fun h' => .new h w ((ih g).1 h'), fun h' v => .new h w ((ih g).2 h' v)⟩
theorem vas_le {sts : List StP} {l : List ArcP} {k m : Nat} (h : Vas sts l k m) : k <= m /\ (k < m -> ∃ a ∈ l, a.to.toNat + 1 = m) := by
 induction l generalizing k with
 | nil => cases h; exact ⟨Nat.le_refl _, fun h => absurd h (Nat.lt_irrefl _)⟩
 | cons b l ih =>
  cases h with
  | old h g =>
   obtain ⟨h1, h2⟩ := ih g
   exact ⟨h1, fun h' => by obtain ⟨a, ha, e⟩ := h2 h'; exact ⟨a, by simp [ha], e⟩⟩
  | new h w g =>
   obtain ⟨h1, h2⟩ := ih g
   refine ⟨by omega, fun h' => ?_⟩
   by_cases e : b.to.toNat + 1 = m
   ·exact ⟨b, by simp, e⟩
   ·obtain ⟨a, ha, e⟩ := h2 (by omega)
    exact ⟨a, by simp [ha], e⟩
structure AFm (i : Nat) (a : ArcP) : Prop where
 to : 0 <= a.to /\ a.to < (i : Int)
 out : 0 <= a.out /\ a.out <= 1048576
 lb : 32 < a.lb /\ a.lb ≠ 127 /\ scalarP a.lb.toNat
structure SFm (i : Nat) (s : StP) : Prop where
 arc : ∀ a ∈ s.arcs, AFm i a
 ord : s.arcs.Pairwise fun a b => a.lb < b.lb
 out : 0 <= s.out /\ s.out <= 1048576
 fin : s.fin = true \/ s.out = 0
 low : (s.fin = true /\ s.out = 0) \/ ∃ a ∈ s.arcs, a.out = 0
def LFm (sts : List StP) : Prop := ∀ (i : Nat) s, sts[i]? = some s -> SFm i s
theorem AFm.up {i j : Nat} {a : ArcP} (h : AFm i a) (hij : i <= j) : AFm j a := ⟨by have := h.to; omega, h.out, h.lb⟩
theorem AFm.ok {i : Nat} {a : ArcP} (h : AFm i a) : ArcOK a := by
 have h1 := h.to
 have h2 := h.lb
 have h3 := h2.2.2.1
 exact ⟨h1.1, by omega, by omega⟩
theorem fold_min_le : ∀ (l : List RstP) (n : Int), l.foldl (fun n x => minG n x.w) n <= n /\ ∀ r ∈ l, l.foldl (fun n x => minG n x.w) n <= r.w
 | [], n => ⟨Int.le_refl _, by simp⟩
 | x :: l, n => by
  obtain ⟨h1, h2⟩ := fold_min_le l (minG n x.w)
  have h3 : minG n x.w <= n /\ minG n x.w <= x.w := by unfold minG; split <;> omega
  simp only [List.foldl_cons]
  refine ⟨by omega, fun r hr => ?_⟩
  rcases List.mem_cons.1 hr with rfl | hr
  ·omega
  ·exact h2 r hr
theorem fold_min_mem : ∀ (l : List RstP) (n : Int), l.foldl (fun n x => minG n x.w) n = n \/ ∃ r ∈ l, l.foldl (fun n x => minG n x.w) n = r.w
 | [], n => .inl rfl
 | x :: l, n => by
  simp only [List.foldl_cons]
  rcases fold_min_mem l (minG n x.w) with h | ⟨r, hr, h⟩
  ·rcases minG_mem n x.w with e | e
   ·exact .inl (h.trans e)
   ·exact .inr ⟨x, by simp, h.trans e⟩
  ·exact .inr ⟨r, by simp [hr], h⟩
theorem leastP_le {l : List RstP} {r : RstP} (h : r ∈ l) : leastP l <= r.w := by
 cases l with
 | nil => cases h
 | cons x l => exact (fold_min_le (x :: l) x.w).2 r h
theorem leastP_mem {l : List RstP} (h : l ≠ []) : ∃ r ∈ l, r.w = leastP l := by
 cases l with
 | nil => exact absurd rfl h
 | cons x l =>
  rcases fold_min_mem (x :: l) x.w with e | ⟨r, hr, e⟩
  ·exact ⟨x, by simp, e.symm⟩
  ·exact ⟨r, hr, e.symm⟩
structure OkX (k : Nat) (l : List RstP) : Prop where
 ok : OkR k l
 rune : ∀ r ∈ l, ∀ c ∈ r.rs, 32 < c /\ c ≠ 127 /\ scalarP c
 wt : ∀ r ∈ l, r.w <= 1048576
theorem OkX.sub {k : Nat} {l l' : List RstP} (h : OkX k l) (hs : SLr l') (hm : ∀ r ∈ l', r ∈ l) : OkX k l' :=
 ⟨⟨hs, fun r hr => h.ok.dep r (hm r hr), fun r hr => h.ok.wt r (hm r hr)⟩, fun r hr => h.rune r (hm r hr), fun r hr => h.wt r (hm r hr)⟩
theorem OkX.span {k lb : Nat} {l : List RstP} (h : OkX (k + 1) l) : OkX k (spanP lb l).1 /\ OkX (k + 1) (spanP lb l).2 := by
 obtain ⟨m, h1, h2, h3⟩ := spanP_sub lb l
 have g := h.ok.span (lb := lb)
 refine ⟨⟨g.1, ?_, ?_⟩, h.sub g.2.sl fun r hr => by rw [h1]; exact List.mem_append_right _ hr⟩
 ·rw [h2]
  intro r hr c hc
  obtain ⟨x, hx, rfl⟩ := List.mem_map.1 hr
  exact h.rune x (by rw [h1]; simp [hx]) c (List.mem_of_mem_tail hc)
 ·rw [h2]
  intro r hr
  obtain ⟨x, hx, rfl⟩ := List.mem_map.1 hr
  exact h.wt x (by rw [h1]; simp [hx])
def wdsR (low : Int) (l : List RstP) : List Wd := l.map fun r => (r.rs, r.w - low)
theorem wdsR_span {lb : Nat} {low g : Int} : ∀ {m : List RstP}, (∀ r ∈ m, r.rs.head? = some lb) -> (wdsR g (m.map tlR)).map (fun x : Wd => (lb :: x.1, g - low + x.2)) = wdsR low m
 | [], _ => rfl
 | r :: m, h => by
  have ih := wdsR_span (low := low) (g := g) (m := m) (fun x hx => h x (by simp [hx]))
  have hr := head_tail (h r (by simp))
  simp only [wdsR, List.map_cons, tlR] at ih ⊢
  rw [ih]
  congr 1
  rw [<- hr]
  congr 1
  omega
structure Built (x : Bld) (l : List RstP) (y : Bld × Int) : Prop where
 bi : BI y.1
 Ll : y.1.L.length <= x.L.length + 3 * totR l + 1
 pre : ∃ t, y.1.sts = x.sts ++ t
 fm : LFm y.1.sts
 idx : ∃ n : Nat, y.2 = (n : Int) /\ (wt y.1.sts)[n]? = some (wdsR (leastP l) l) /\ ((y.1.sts = x.sts /\ n < x.sts.length) \/ (n + 1 = y.1.sts.length /\ x.sts.length <= n /\ Vis y.1.sts n x.sts.length))
structure ArcsB (x0 x : Bld) (low : Int) (done : List RstP) (acc : List ArcP) : Prop where
 bi : BI x
 Ll : x.L.length + 2 * acc.length <= x0.L.length + 3 * totR done
 pre : ∃ t, x.sts = x0.sts ++ t
 fm : LFm x.sts
 vas : Vas x.sts acc x0.sts.length x.sts.length
 wds : wa (wt x.sts) acc = wdsR low done
 arc : ∀ a ∈ acc, AFm x.sts.length a
 ord : acc.Pairwise fun a b => a.lb < b.lb
 low : (∃ r ∈ done, r.w = low) -> ∃ a ∈ acc, a.out = 0
 len : acc.length <= done.length
theorem span_gt {lb : Nat} {r : RstP} {l : List RstP} (h : SLr (r :: l)) (hne : ∀ x ∈ r :: l, x.rs ≠ []) (hr : r.rs.head? = some lb) : ∀ x ∈ (spanP lb (r :: l)).2, lb < x.rs.headD 0 := by
 have key : ∀ (l : List RstP), SLr l -> (∀ x ∈ l, x.rs ≠ []) -> (∀ x ∈ l, lb <= x.rs.headD 0) -> ∀ x ∈ (spanP lb l).2, lb < x.rs.headD 0 := by
  intro l
  induction l with
  | nil => intro _ _ _ x hx; simp [spanP] at hx
  | cons y l ih =>
   intro hs hn hge x hx
   by_cases hy : y.rs.head? = some lb
   ·simp only [spanP, hy, if_true] at hx
    exact ih (List.pairwise_cons.1 hs).2 (fun z hz => hn z (by simp [hz])) (fun z hz => hge z (by simp [hz])) x hx
   ·simp only [spanP, hy, if_false] at hx
    have hy1 : lb < y.rs.headD 0 := by
     have h1 := hge y (by simp)
     have h2 := hn y (by simp)
     cases e : y.rs with
     | nil => exact absurd e h2
     | cons c m =>
      rw [e] at hy h1
      simp only [List.head?_cons, Option.some.injEq, List.headD_cons] at hy h1 ⊢
      omega
    rcases List.mem_cons.1 hx with rfl | hx
    ·exact hy1
    ·have h3 := (List.pairwise_cons.1 hs).1 x hx
     have h4 := hn x (by simp [hx])
     cases e1 : y.rs with
     | nil => exact absurd e1 (hn y (by simp))
     | cons c m =>
      cases e2 : x.rs with
      | nil => exact absurd e2 h4
      | cons d n =>
       rw [e1, e2] at h3
       rw [e1] at hy1
       simp only [ltR, List.headD_cons] at h3 hy1 ⊢
       omega
 refine key (r :: l) h hne ?_
 intro x hx
 rcases List.mem_cons.1 hx with rfl | hx
 ·rw [List.headD_eq_head?_getD, hr]; exact Nat.le_refl _
 ·have h3 := (List.pairwise_cons.1 h).1 x hx
  cases e1 : r.rs with
  | nil => rw [e1] at hr; cases hr
  | cons c m =>
   cases e2 : x.rs with
   | nil => exact absurd e2 (hne x (by simp [hx]))
   | cons d n =>
    rw [e1] at hr h3
    rw [e2] at h3
    simp only [List.head?_cons, Option.some.injEq] at hr
    simp only [ltR, List.headD_cons] at h3 ⊢
    omega
theorem arcsP_spec {k : Nat} {x0 : Bld} {low : Int} {rec : Bld -> List RstP -> Bld × Int} (hrec : ∀ x l, BI x -> LFm x.sts -> OkX k l -> l ≠ [] -> x.L.length + 3 * totR l + 1 <= 1000000000 -> Built x l (rec x l)) (hlow : 0 <= low) :
  ∀ (m : Nat) (x : Bld) (l done : List RstP) (acc : List ArcP), l.length <= m -> OkX (k + 1) l -> (∀ r ∈ l, r.rs ≠ []) -> (∀ r ∈ l, low <= r.w) -> x0.L.length + 3 * (totR done + totR l) <= 1000000000 -> (∀ a ∈ acc, ∀ r ∈ l, a.lb < (r.rs.headD 0 : Nat)) -> ArcsB x0 x low done acc ->
   ArcsB x0 (arcsP rec low m x l acc).1 low (done ++ l) (arcsP rec low m x l acc).2
 | 0, x, [], done, acc, _, _, _, _, _, _, h => by simpa [arcsP] using h
 | 0, x, _ :: _, done, acc, hm, _, _, _, _, _, h => by simp at hm
 | _ + 1, x, [], done, acc, _, _, _, _, _, _, h => by simpa [arcsP] using h
 | m + 1, x, r :: l, done, acc, hm, ok, hne, hge, hb, hlt, h => by
  obtain ⟨lb, hlb⟩ : ∃ lb, lb = r.rs.headD 0 := ⟨_, rfl⟩
  have hr0 := hne r (by simp)
  have hhead : r.rs.head? = some lb := by rw [hlb]; cases e : r.rs with | nil => exact absurd e hr0 | cons c m => rfl
  have hsh := span_head (l := l) hr0
  rw [<- hlb] at hsh
  obtain ⟨mm, g1, g2, g3⟩ := spanP_sub lb (r :: l)
  have htot := span_tot hsh.1
  have hmt : totR mm + totR (spanP lb (r :: l)).2 = totR (r :: l) := by rw [<- totR_append, <- g1]
  obtain ⟨okU, okR⟩ := ok.span (lb := lb)
  obtain ⟨U, hU⟩ : ∃ U, U = (spanP lb (r :: l)).1 := ⟨_, rfl⟩
  obtain ⟨l2, hl2⟩ : ∃ l2, l2 = (spanP lb (r :: l)).2 := ⟨_, rfl⟩
  rw [<- hU] at g2 htot hsh okU
  rw [<- hl2] at g1 htot hmt hsh okR
  have hUne := hsh.1
  have B := hrec x U h.bi h.fm okU hUne (by have := h.Ll; omega)
  obtain ⟨t, ht⟩ := B.pre
  obtain ⟨n, hn, hw, hnum⟩ := B.idx
  have hmem2 : ∀ y ∈ l2, y ∈ r :: l := fun y hy => by rw [g1]; exact List.mem_append_right _ hy
  have hmemm : ∀ y ∈ mm, y ∈ r :: l := fun y hy => by rw [g1]; exact List.mem_append_left _ hy
  have hn2 : n < (rec x U).1.sts.length := by
   have := (List.getElem?_eq_some_iff.1 hw).1
   rwa [wt_len] at this
  have hwU : ∀ z ∈ U, low <= z.w /\ z.w <= 1048576 := by
   intro z hz
   rw [g2] at hz
   obtain ⟨y, hy, rfl⟩ := List.mem_map.1 hz
   exact ⟨hge y (hmemm y hy), ok.wt y (hmemm y hy)⟩
  obtain ⟨z0, hz0, ez0⟩ := leastP_mem hUne
  have hz0' := hwU z0 hz0
  have hAF : AFm (rec x U).1.sts.length ⟨((lb : Nat) : Int), leastP U - low, (rec x U).2⟩ := by
   refine ⟨by rw [hn]; dsimp only; omega, by dsimp only; omega, ?_⟩
   have hc : lb ∈ r.rs := List.mem_of_mem_head? hhead
   have := ok.rune r (by simp) lb hc
   refine ⟨by dsimp only; omega, by dsimp only; omega, by simpa using this.2.2⟩
  have hA : ArcsB x0 (rec x U).1 low (done ++ mm) (acc ++ [⟨((lb : Nat) : Int), leastP U - low, (rec x U).2⟩]) := by
   obtain ⟨t0, ht0⟩ := h.pre
   refine ⟨B.bi, ?_, ⟨t0 ++ t, by rw [ht, ht0, List.append_assoc]⟩, B.fm, ?_, ?_, ?_, ?_, ?_, ?_⟩
   ·have h1 := B.Ll
    have h2 := h.Ll
    rw [totR_append]
    have : totR U + 1 <= totR mm := by omega
    simp only [List.length_append, List.length_singleton]
    omega
   ·have hv : Vas (rec x U).1.sts acc x0.sts.length x.sts.length := by rw [ht]; exact vas_mono h.vas
    have hto : ((⟨((lb : Nat) : Int), leastP U - low, (rec x U).2⟩ : ArcP).to).toNat = n := by rw [hn]; simp
    rcases hnum with ⟨e1, e2⟩ | ⟨e1, e2, e3⟩
    ·rw [e1] at hv ⊢
     exact (vas_snoc hv).1 (by rw [hto]; exact e2)
    ·have := (vas_snoc (a := ⟨((lb : Nat) : Int), leastP U - low, (rec x U).2⟩) hv).2 (by rw [hto]; exact e2) (by rw [hto]; exact e3)
     rw [hto, e1] at this
     exact this
   ·have e1 : wa (wt (rec x U).1.sts) acc = wdsR low done := by
     rw [<- h.wds]
     refine wa_cong fun a ha => ?_
     have := (h.arc a ha).to
     rw [ht, wt_getD _ _ (by omega)]
    have e2 : wa (wt (rec x U).1.sts) [⟨((lb : Nat) : Int), leastP U - low, (rec x U).2⟩] = wdsR low mm := by
     simp only [wa, List.flatMap_cons, List.flatMap_nil, List.append_nil]
     rw [hn, List.getD_eq_getElem?_getD]
     simp only [Int.toNat_natCast]
     rw [hw, Option.getD_some]
     have := wdsR_span (lb := lb) (low := low) (g := leastP U) (m := mm) g3
     rw [<- g2] at this
     rw [<- this]
     rfl
    have e3 : wa (wt (rec x U).1.sts) (acc ++ [⟨((lb : Nat) : Int), leastP U - low, (rec x U).2⟩]) = wa (wt (rec x U).1.sts) acc ++ wa (wt (rec x U).1.sts) [⟨((lb : Nat) : Int), leastP U - low, (rec x U).2⟩] := by simp [wa]
    rw [e3, e1, e2]
    simp [wdsR]
   ·intro a ha
    rcases List.mem_append.1 ha with ha | ha
    ·exact (h.arc a ha).up (by rw [ht]; simp)
    ·simp only [List.mem_singleton] at ha; subst ha; exact hAF
   ·rw [List.pairwise_append]
    refine ⟨h.ord, by simp, ?_⟩
    intro a ha b hb'
    simp only [List.mem_singleton] at hb'
    subst hb'
    have := hlt a ha r (by simp)
    rw [<- hlb] at this
    exact this
   ·rintro ⟨y, hy, ey⟩
    rcases List.mem_append.1 hy with hy | hy
    ·obtain ⟨a, ha, ea⟩ := h.low ⟨y, hy, ey⟩
     exact ⟨a, by simp [ha], ea⟩
    ·refine ⟨⟨((lb : Nat) : Int), leastP U - low, (rec x U).2⟩, by simp, ?_⟩
     have h1 : leastP U <= low := by
      have := leastP_le (l := U) (r := tlR y) (by rw [g2]; exact List.mem_map.2 ⟨y, hy, rfl⟩)
      have e : (tlR y).w = y.w := rfl
      omega
     dsimp only
     omega
   ·have : 0 < mm.length := by
     refine List.length_pos_iff.2 fun e => hUne ?_
     rw [g2, e]; rfl
    have := h.len
    simp only [List.length_append, List.length_singleton]
    omega
  have IH := arcsP_spec hrec hlow m (rec x U).1 l2 (done ++ mm) _ (by simp only [List.length_cons] at hm; omega) okR (fun y hy => hne y (hmem2 y hy)) (fun y hy => hge y (hmem2 y hy)) (by rw [totR_append]; omega) (by
   intro a ha y hy
   rcases List.mem_append.1 ha with ha | ha
   ·exact hlt a ha y (hmem2 y hy)
   ·simp only [List.mem_singleton] at ha
    subst ha
    have := span_gt ok.ok.sl hne hhead y (by rw [<- hl2]; exact hy)
    dsimp only
    omega) hA
  have eq : arcsP rec low (m + 1) x (r :: l) acc = arcsP rec low m (rec x U).1 l2 (acc ++ [⟨((lb : Nat) : Int), leastP U - low, (rec x U).2⟩]) := by
   conv => lhs; unfold arcsP
   rw [<- hlb, <- hU, <- hl2]
  rw [eq]
  rw [List.append_assoc, <- g1] at IH
  exact IH
theorem wt_at {sts : List StP} {i : Nat} {s : StP} (h : sts[i]? = some s) (ht : ∀ a ∈ s.arcs, 0 <= a.to /\ a.to < (i : Int)) : (wt sts)[i]? = some (ws (wt sts) s) := by
 have hi := (List.getElem?_eq_some_iff.1 h).1
 have hs : sts[i] = s := (List.getElem?_eq_some_iff.1 h).2
 have e : sts = sts.take i ++ [s] ++ sts.drop (i + 1) := by
  rw [<- hs, List.append_assoc, List.singleton_append, List.getElem_cons_drop, List.take_append_drop]
 have hl : (sts.take i).length = i := by simp; omega
 have e2 : ws (wt (sts.take i)) s = ws (wt sts) s := by
  unfold ws
  congr 1
  refine wa_cong fun a ha => ?_
  have := ht a ha
  conv => rhs; rw [e, List.append_assoc]
  rw [wt_getD _ _ (by omega)]
 rw [<- e2]
 conv => lhs; rw [e]
 rw [wt_get _ _ (by simp; omega), wt_snoc, List.getElem?_append_right (by rw [wt_len]; omega), wt_len, hl]
 simp
theorem stateP_built : ∀ (k : Nat) (x : Bld) (l : List RstP), BI x -> LFm x.sts -> OkX k l -> l ≠ [] -> x.L.length + 3 * totR l + 1 <= 1000000000 -> Built x l (stateP (k + 1) x l)
 | k, x, l, hb, hf, ok, hl, hsz => by
  obtain ⟨ok1, ne1, tot1, len1⟩ := bodyR_ok ok.ok hl
  have hmem : ∀ r ∈ bodyR l, r ∈ l := by
   intro r hr
   unfold bodyR at hr
   split at hr
   ·exact List.mem_of_mem_tail hr
   ·exact hr
  have okb : OkX k (bodyR l) := ok.sub ok1.sl hmem
  have hlow := leastP_bd ok.ok.wt
  have A : ArcsB x (arcsP (stateP k) (leastP l) (bodyR l).length x (bodyR l) []).1 (leastP l) (bodyR l) (arcsP (stateP k) (leastP l) (bodyR l).length x (bodyR l) []).2 := by
   have A0 : ArcsB x x (leastP l) [] [] := ⟨hb, by simp, ⟨[], by simp⟩, hf, .nil _, rfl, by simp, by simp, by simp, by simp⟩
   cases k with
   | zero =>
    have hbe : bodyR l = [] := by
     cases hbe : bodyR l with
     | nil => rfl
     | cons r m =>
      have := ok1.dep r (by rw [hbe]; simp)
      exact absurd (List.eq_nil_of_length_eq_zero (by omega)) (ne1 r (by rw [hbe]; simp))
    rw [hbe]
    exact A0
   | succ k =>
    have := arcsP_spec (k := k) (x0 := x) (low := leastP l) (rec := stateP (k + 1)) (fun x l h1 h2 h3 h4 h5 => stateP_built k x l h1 h2 h3 h4 h5) hlow.1 (bodyR l).length x (bodyR l) [] [] (Nat.le_refl _) okb ne1 (fun r hr => leastP_le (hmem r hr)) (by simp only [totR, List.map_nil, List.sum_nil] at *; omega) (by simp) A0
    simpa using this
  obtain ⟨x1, hx1⟩ : ∃ x1, x1 = (arcsP (stateP k) (leastP l) (bodyR l).length x (bodyR l) []).1 := ⟨_, rfl⟩
  obtain ⟨acc, hacc⟩ : ∃ acc, acc = (arcsP (stateP k) (leastP l) (bodyR l).length x (bodyR l) []).2 := ⟨_, rfl⟩
  have hst : stateP (k + 1) x l = addP x1 ⟨finR l, outR l, acc⟩ := by rw [hx1, hacc]; rfl
  rw [<- hx1, <- hacc] at A
  rw [hst]
  have hA1 := A.Ll
  obtain ⟨t, ht⟩ := A.pre
  obtain ⟨r0, hr0, er0⟩ := leastP_mem hl
  have hout : 0 <= outR l /\ outR l <= 1048576 /\ (finR l = true \/ outR l = 0) := by
   unfold outR
   split
   ·rename_i hfin
    cases l with
    | nil => exact absurd rfl hl
    | cons r m =>
     have h1 := leastP_le (l := r :: m) (r := r) (by simp)
     have h2 := ok.wt r (by simp)
     simp only [List.headD_cons]
     exact ⟨by omega, by omega, .inl hfin⟩
   ·exact ⟨by omega, by omega, .inr rfl⟩
  have hS : SFm x1.sts.length ⟨finR l, outR l, acc⟩ := by
   refine ⟨A.arc, A.ord, ⟨hout.1, hout.2.1⟩, hout.2.2, ?_⟩
   by_cases hfin : finR l = true
   ·cases l with
    | nil => exact absurd rfl hl
    | cons r m =>
     by_cases hr : r0 = r
     ·left
      refine ⟨hfin, ?_⟩
      subst hr
      simp only [outR, hfin, if_true, List.headD_cons]
      omega
     ·right
      refine A.low ⟨r0, ?_, er0⟩
      simp only [bodyR, hfin, if_true, List.tail_cons]
      rcases List.mem_cons.1 hr0 with h | h
      ·exact absurd h hr
      ·exact h
   ·right
    refine A.low ⟨r0, ?_, er0⟩
    simp only [bodyR, hfin]
    exact hr0
  have hW : ws (wt x1.sts) ⟨finR l, outR l, acc⟩ = wdsR (leastP l) l := by
   unfold ws
   simp only
   rw [A.wds]
   cases l with
   | nil => exact absurd rfl hl
   | cons r m =>
    by_cases hfin : finR (r :: m) = true
    ·have he : r.rs = [] := by simpa [finR] using hfin
     simp [bodyR, outR, hfin, wdsR, he]
    ·simp [bodyR, hfin]
  obtain ⟨g1, g2, g3⟩ := addP_spec (x := x1) (s := ⟨finR l, outR l, acc⟩) A.bi (by dsimp only; omega) (fun a ha => (A.arc a ha).ok)
  dsimp only at g2
  rcases g3 with ⟨i, h1, h2, h3⟩ | ⟨h1, h2, h3⟩
  ·have hi := (List.getElem?_eq_some_iff.1 h1).1
   have hv := vas_le A.vas
   have hlen : x1.sts.length = x.sts.length := by
    rcases Nat.lt_or_ge x.sts.length x1.sts.length with hlt | hge
    ·obtain ⟨a, ha, ea⟩ := hv.2 hlt
     have := ((A.fm i _ h1).arc a ha).to
     omega
    ·omega
   have hsame : x1.sts = x.sts := by
    rw [ht] at hlen
    have : t = [] := List.eq_nil_of_length_eq_zero (by simp at hlen; simpa using hlen)
    rw [ht, this, List.append_nil]
   refine ⟨g1, by omega, ⟨[], by rw [h2, hsame, List.append_nil]⟩, by rw [h2]; exact A.fm, i, h3, ?_, .inl ⟨by rw [h2, hsame], by omega⟩⟩
   rw [h2, wt_at h1 (fun a ha => ((A.fm i _ h1).arc a ha).to), hW]
  ·refine ⟨g1, by omega, ⟨t ++ [⟨finR l, outR l, acc⟩], by rw [h2, ht, List.append_assoc]⟩, ?_, x1.sts.length, h3, ?_, .inr ⟨by rw [h2]; simp, by rw [ht]; simp, ?_⟩⟩
   ·rw [h2]
    intro i s hi
    rcases Nat.lt_trichotomy i x1.sts.length with g | g | g
    ·rw [List.getElem?_append_left g] at hi; exact A.fm i s hi
    ·subst g; simp at hi; subst hi; exact hS
    ·rw [List.getElem?_eq_none (by simp; omega)] at hi; cases hi
   ·rw [h2, wt_snoc, List.getElem?_append_right (by rw [wt_len]; exact Nat.le_refl _), wt_len, Nat.sub_self, hW]
    rfl
   ·rw [h2]
    exact .mk (s := ⟨finR l, outR l, acc⟩) (by simp) (vas_mono A.vas)
end Go.En
end
section
namespace Go.En
theorem bl_irr : ∀ (x : List UInt8), Op.bytesLess x x = false
 | [] => rfl
 | a :: x => by rw [bl_cons, bl_irr x]; simp [UInt8.lt_irrefl]
theorem bl_tr : ∀ (x y z : List UInt8), Op.bytesLess x y = true -> Op.bytesLess y z = true -> Op.bytesLess x z = true
 | [], y, [], h1, h2 => by cases y <;> simp [Op.bytesLess] at h1 h2
 | [], y, c :: z, h1, h2 => rfl
 | a :: x, [], z, h1, h2 => by simp [Op.bytesLess] at h1
 | a :: x, b :: y, [], h1, h2 => by simp [Op.bytesLess] at h2
 | a :: x, b :: y, c :: z, h1, h2 => by
  rw [bl_cons] at h1 h2 ⊢
  simp only [Bool.or_eq_true, Bool.and_eq_true, decide_eq_true_eq, beq_iff_eq] at h1 h2 ⊢
  rcases h1 with h1 | ⟨rfl, h1⟩
  ·rcases h2 with h2 | ⟨rfl, h2⟩
   ·exact .inl (UInt8.lt_trans h1 h2)
   ·exact .inl h1
  ·rcases h2 with h2 | ⟨rfl, h2⟩
   ·exact .inl h2
   ·exact .inr ⟨rfl, bl_tr x y z h1 h2⟩
theorem bl_eq : ∀ (x y : List UInt8), Op.bytesLess x y = false -> Op.bytesLess y x = false -> x = y
 | [], [], _, _ => rfl
 | [], b :: y, h1, h2 => by simp [Op.bytesLess] at h1
 | a :: x, [], h1, h2 => by simp [Op.bytesLess] at h2
 | a :: x, b :: y, h1, h2 => by
  rw [bl_cons] at h1 h2
  simp only [Bool.or_eq_false_iff, Bool.and_eq_false_iff, decide_eq_false_iff_not, beq_eq_false_iff_ne, ne_eq] at h1 h2
  have e : a = b := by
   apply UInt8.toNat_inj.1
   have g1 := h1.1
   have g2 := h2.1
   rw [UInt8.lt_iff_toNat_lt] at g1 g2
   omega
  subst e
  rw [bl_eq x y (h1.2.resolve_left fun g => g rfl) (h2.2.resolve_left fun g => g rfl)]
def ltP (a b : PairP) : Bool := Op.bytesLess a.word b.word
theorem wkoP : Wko ltP where
 irr a := bl_irr _
 tr a b c := bl_tr _ _ _
 ng a b c h1 h2 := by
  cases g : ltP a c with
  | false => rfl
  | true =>
   unfold ltP at h1 h2 g
   cases g1 : Op.bytesLess b.word a.word with
   | true => rw [bl_tr _ _ _ g1 g] at h2; exact h2
   | false => rw [bl_eq _ _ h1 g1] at g; rw [g] at h2; exact h2
theorem eqvP (a b : PairP) : eqv ltP a b = decide (a.word = b.word) := by
 unfold eqv ltP
 by_cases h : a.word = b.word
 ·rw [h, bl_irr]; simp
 ·rw [decide_eq_false h]
  cases g1 : Op.bytesLess a.word b.word with
  | true => rfl
  | false => cases g2 : Op.bytesLess b.word a.word with
   | true => rfl
   | false => exact absurd (bl_eq _ _ g1 g2) h
end Go.En
end
section
namespace Go.En
section
variable {P : Program} {T : Tab} {w0 : World} {ops : Array Oper} {Q : Exit -> Act -> World -> Prop} {rest rest' : List Oper} {n : Nat} {l l' : Sl} {K : PH} {hs : List PH}
theorem scp {c : Code} (h : WC P w0 c (Exit.noGoto Q) n l K hs) : WC P w0 (.scope c) Q n l K hs := fun a w ha hw => wp_scope_straight (h a w ha hw)
theorem lab {i : Nat} (h : WQ w0 Q .normal n l K hs) : WC P w0 (.label i) Q n l K hs := fun a w ha hw => wp_label (h a w ha hw)
theorem ngR (h : WQ w0 Q .ret n l K hs) : WQ w0 (Exit.noGoto Q) .ret n l K hs := h
def meAt (T : Tab) (ops : Array Oper) (n k : Nat) (rest : List Oper) (l : Sl) : Option (Nat × Oper × Nat × Value × Value × List Oper × Sl) :=
 match ovAt T ops n k rest l with
 | some (d, o, r, l') => match o.op with
  | .mapEntry t x y => match ev l' x, ev l' y with
   | some u, some v => some (d, o, t, u, v, r, l')
   | _, _ => none
  | _ => none
 | none => none
theorem meAt_spec {k d t : Nat} {o : Oper} {u v : Value} (h : meAt T ops n k rest l = some (d, o, t, u, v, rest', l')) : ovAt T ops n k rest l = some (d, o, rest', l') /\ ∀ a, Ag n l' a -> execOp a.eval o = (do let x <- Instr.mapEntry t u v; pure (.value x)) := by
 unfold meAt at h
 split at h
 ·rename_i d' o' r l2 ho
  split at h
  ·rename_i t' x y hop
   split at h
   ·rename_i u' v' hx hy
    simp only [Option.some.injEq, Prod.mk.injEq] at h
    obtain ⟨rfl, rfl, rfl, rfl, rfl, rfl, rfl⟩ := h
    exact ⟨ho, fun a ha => by simp only [execOp, hop, ha.ev hx, ha.ev hy]⟩
   ·simp at h
  ·simp at h
 ·simp at h
def etsAt (T : Tab) (ops : Array Oper) (n k : Nat) (rest : List Oper) (l : Sl) : Option (Oper × Nat × Value × Value × Value × List Oper × Sl) :=
 match osAt T ops n k rest l with
 | some (o, r, l') => match o.op with
  | .entryStore t x y z => match ev l' x, ev l' y, ev l' z with
   | some u, some v, some w => some (o, t, u, v, w, r, l')
   | _, _, _ => none
  | _ => none
 | none => none
theorem etsAt_spec {k t : Nat} {o : Oper} {u v y : Value} (h : etsAt T ops n k rest l = some (o, t, u, v, y, rest', l')) : osAt T ops n k rest l = some (o, rest', l') /\ ∀ a, Ag n l' a -> execOp a.eval o = (do Instr.entryStore t u v y; pure .skip) := by
 unfold etsAt at h
 split at h
 ·rename_i o' r l2 ho
  split at h
  ·rename_i t' x1 x2 x3 hop
   split at h
   ·rename_i u' v' y' h1 h2 h3
    simp only [Option.some.injEq, Prod.mk.injEq] at h
    obtain ⟨rfl, rfl, rfl, rfl, rfl, rfl, rfl⟩ := h
    exact ⟨ho, fun a ha => by simp only [execOp, hop, ha.ev h1, ha.ev h2, ha.ev h3]⟩
   ·simp at h
  ·simp at h
 ·simp at h
variable {κ : Type} [DecidableEq κ] {enc : κ -> Value} {h : PH} {b : Nat} {m : List (κ × Value)}
def MpE (enc : κ -> Value) (h : PH) (b : Nat) (m : List (κ × Value)) (k : κ) (c : Nat) : Prop :=
 ∃ es z, h = sg b (.map (es.push { key := enc k, val := z, born := c }) (c + 1)) /\ MpO enc id (sg b (.map es c)) b m
omit [DecidableEq κ] in
theorem MpO.sg_eq {es : Array MapEntry} {c : Nat} (hm : MpO enc (id : Value -> Value) (sg b (.map es c)) b m) : es.toList.map (fun e => (e.key, e.val)) = m.map (fun x => (enc x.1, x.2)) /\ (es.toList.map (·.born)).Pairwise (· < ·) /\ ∀ e ∈ es.toList, e.born < c := by
 obtain ⟨es', c', h1, h2, h3, h4⟩ := hm
 have h5 : (sg b (.map es c)) b = (sg b (.map es' c')) b := by rw [h1]
 simp only [sg, if_pos, Option.some.injEq, Obj.map.injEq] at h5
 obtain ⟨rfl, rfl⟩ := h5
 exact ⟨h2, h3, h4⟩
theorem mpe (hT : TabOK P T) (k i : Nat) {d t kt et : Nat} {o : Oper} {z v : Value} (j : κ) (h0 : meAt T ops n k rest l = some (d, o, t, .map (some b), v, rest', l')) (hi : hs[i]? = some h) (hu : P.underlying t = some (.map kt et)) (hz : (P.info? et).bind (·.zero) = some z) (hK : KeyOK P kt enc) (hv : v = enc j) (hm : MpO enc id h b m)
  (hno : mget j m = none) (hk : ∀ h' c, MpE enc h' b m j c -> WL P w0 ops Q rest' n ((d, .tuple #[z, .int .i64 ((c : Nat) : Int)]) :: l') K (hs.set i h')) : WL P w0 ops Q rest n l K hs := by
 obtain ⟨h1, h2⟩ := meAt_spec h0
 subst hv
 refine opa hT k (R := fun v K' hs' => ∃ h' c, MpE enc h' b m j c /\ v = .tuple #[z, .int .i64 ((c : Nat) : Int)] /\ K' = K /\ hs' = hs.set i h') h1 (fun a w ha hw => ?_) ?_
 ·have hm0 := hm
  obtain ⟨es, c, rfl, g2, g3, g4⟩ := hm
  have hb : w.heap[b]? = some (.map es c) := hw.own i _ hi b _ (by simp)
  have hf := hK.fnd j es.toList (m.map fun x => (x.1, x.2)) w (by rw [g2]; simp)
  have hfn : fk j (m.map fun x => (x.1, x.2)) 0 = none := by
   have := fk_get (encv := (id : Value -> Value)) j m 0
   rw [hno] at this
   simpa using this
  have hset : ∀ o : Obj, (setObj b o).run P w = .ok () (w.putObj b o) := fun o => by simp [setObj, Sem.run, hb, World.putObj]
  obtain ⟨iz, hiz, hz'⟩ := Option.bind_eq_some_iff.1 hz
  have hzz : (zeroValue et).run P w = .ok z w := by simp [zeroValue, typeInfo, hiz, hz']
  refine ⟨.tuple #[z, .int .i64 ((c : Nat) : Int)], w.putObj b (.map (es.push { key := enc j, val := z, born := c }) (c + 1)), K, hs.set i (sg b (.map (es.push { key := enc j, val := z, born := c }) (c + 1))), ?_, hw.putObj hi _, _, c, ⟨es, z, rfl, hm0⟩, rfl, rfl, rfl⟩
  rw [h2 a ha]
  unfold Instr.mapEntry
  simp only [Sem.run_bind, run_underlying hu, Result.andThen, run_getMap hb, Sem.run_pure, hK.chk, hf, hfn, hzz, hset]
  rfl
 ·rintro v K' hs' ⟨h', c, g1, rfl, rfl, rfl⟩
  exact hk h' c g1
omit [DecidableEq κ] in
theorem ets (hT : TabOK P T) (k i : Nat) {t : Nat} {o : Oper} {x y : Value} {c : Nat} {j : κ} (h0 : etsAt T ops n k rest l = some (o, t, .map (some b), x, y, rest', l')) (hi : hs[i]? = some h) (hx : x = .int .i64 ((c : Nat) : Int)) (hm : MpE enc h b m j c)
  (hk : ∀ h', MpO enc id h' b (m ++ [(j, y)]) -> WL P w0 ops Q rest' n l' K (hs.set i h')) : WL P w0 ops Q rest n l K hs := by
 obtain ⟨h1, h2⟩ := etsAt_spec h0
 subst hx
 refine opu hT k (R := fun K' hs' => ∃ h', MpO enc id h' b (m ++ [(j, y)]) /\ K' = K /\ hs' = hs.set i h') h1 (fun a w ha hw => ?_) ?_
 ·obtain ⟨es, z, rfl, hm0⟩ := hm
  obtain ⟨g2, g3, g4⟩ := hm0.sg_eq
  have hb : w.heap[b]? = some (.map (es.push { key := enc j, val := z, born := c }) (c + 1)) := hw.own i _ hi b _ (by simp)
  have hset : ∀ o : Obj, (setObj b o).run P w = .ok () (w.putObj b o) := fun o => by simp [setObj, Sem.run, hb, World.putObj]
  have hfi : (es.push { key := enc j, val := z, born := c }).findIdx? (fun e => (e.born : Int) == ((c : Nat) : Int)) = some es.size := by
   rw [Array.findIdx?_eq_some_iff_getElem]
   refine ⟨by simp, by simp, fun q hq => ?_⟩
   rw [Array.getElem_push_lt hq]
   have := g4 es[q] (by simp)
   simp only [beq_eq_false_iff_ne, ne_eq, Bool.not_eq_true]
   omega
  have hmod : (es.push { key := enc j, val := z, born := c }).modify es.size (fun e => { e with val := y }) = es.push { key := enc j, val := y, born := c } := by
   apply Array.ext_getElem?
   intro q
   rw [Array.getElem?_modify]
   by_cases e : es.size = q
   ·subst e
    simp
   ·rw [if_neg e]
    simp only [Array.getElem?_push]
    rw [if_neg (Ne.symm e), if_neg (Ne.symm e)]
  refine ⟨w.putObj b (.map (es.push { key := enc j, val := y, born := c }) (c + 1)), K, hs.set i (sg b (.map (es.push { key := enc j, val := y, born := c }) (c + 1))), ?_, hw.putObj hi _, _, ⟨es.push { key := enc j, val := y, born := c }, c + 1, rfl, ?_, ?_, ?_⟩, rfl, rfl⟩
  ·rw [h2 a ha]
   unfold Instr.entryStore
   have hai : (asInt (.int .i64 ((c : Nat) : Int))).run P w = .ok ((c : Nat) : Int) w := rfl
   simp only [Sem.run_bind, run_getMap hb, Result.andThen, hai, hfi, hmod, hset]
   rfl
  ·rw [Array.toList_push, List.map_append, List.map_append, g2]; rfl
  ·rw [Array.toList_push, List.map_append]
   rw [List.pairwise_append]
   refine ⟨g3, by simp, fun q hq r hr => ?_⟩
   obtain ⟨e, he, rfl⟩ := List.mem_map.1 hq
   simp only [List.map_cons, List.map_nil, List.mem_singleton] at hr
   subst hr
   exact g4 e he
  ·intro e he
   rw [Array.toList_push] at he
   rcases List.mem_append.1 he with he | he
   ·have := g4 e he; omega
   ·simp only [List.mem_singleton] at he; subst he; exact Nat.lt_succ_self c
 ·rintro K' hs' ⟨h', g1, rfl, rfl⟩
  exact hk h' g1
end
end Go.En
namespace Go.En
attribute [local irreducible] Code.wp wpList Calls
theorem flat_set {size : Nat} {cs : List (List Value)} (h : ∀ d ∈ cs, d.length = size) {i : Nat} (hi : i < cs.length) {v : List Value} (hv : v.length = size) :
  cs.flatten.take (i * size) ++ v ++ cs.flatten.drop (i * size + v.length) = (cs.set i v).flatten := by
 rw [flat_take i h, hv, show i * size + size = (i + 1) * size from by rw [Nat.add_mul, Nat.one_mul], flat_drop (i + 1) h, List.set_eq_take_append_cons_drop, if_pos hi]
 simp
theorem mksG {P : Program} {T : Tab} {w0 : World} {ops : Array Oper} {Q : Exit -> Act -> World -> Prop} {rest rest' : List Oper} {n : Nat} {l l' : Sl} {K : PH} {hs : List PH}
  (hT : TabOK P T) (k : Nat) {d : Nat} {si : SlI} {i j : Int} (N : Nat) (zs : Array Value) (h0 : mslAt T ops n k rest l = some (d, si, i, j, rest', l')) (hi : i = (N : Int)) (hj : j = (N : Int)) (hz : si.zero.cells = zs) (hzl : zs.size = si.size) (hz0 : 0 < si.size) (hr : N * si.bytes <= roomBytes) (hN0 : 0 < N) (hN : N <= 16777216) (hb2 : si.bytes <= 1024)
  (hk : ∀ b, WL P w0 ops Q rest' n ((d, .slice (some ⟨b, 0, none⟩) N N) :: l') K (pt b (List.replicate N zs.toList).flatten.toArray si.elem :: hs)) : WL P w0 ops Q rest n l K hs := by
 unfold mslAt at h0
 split at h0
 ·rename_i o r l2 ho
  split at h0
  ·rename_i d' t x y hd hop
   split at h0
   ·rename_i si' ii jj hb hsi hx hy
    simp only [Option.some.injEq, Prod.mk.injEq] at h0
    obtain ⟨rfl, rfl, rfl, rfl, rfl, rfl⟩ := h0
    subst hi hj
    obtain ⟨h1, im, h2, h3, h4, h5⟩ := hT.sl hsi
    refine WL.at' hT ho fun hg => WL.val (R := fun u K' hs' => ∃ b, u = .slice (some ⟨b, 0, none⟩) N N /\ K' = K /\ hs' = pt b (List.replicate N zs.toList).flatten.toArray si'.elem :: hs) hd hb hg
     (fun A w ha hw => ⟨.slice (some ⟨w.heap.size, 0, none⟩) N N, _, K, _, ?_, hw.alloc _, w.heap.size, rfl, rfl, rfl⟩) ?_
    ·have e1 : IntKind.i64.wrap ((N : Nat) : Int) = (N : Int) := by simp [IntKind.wrap, IntKind.bits, IntKind.signed]; omega
     simp only [execOp, hop, ha.ev hx, ha.ev hy]
     rw [h5.symm] at hr hb2
     have hm : im.bytes * N <= 1024 * 16777216 := Nat.mul_le_mul hb2 hN
     have c2 : ¬ (281474976710656 : Int) < (im.bytes : Int) * (N : Int) := by
      have : ((im.bytes * N : Nat) : Int) = (im.bytes : Int) * (N : Int) := by push_cast; rfl
      omega
     have c1 : ¬ ((N : Nat) : Int) < 0 := by omega
     have c3 : ¬ roomBytes < N * im.bytes := by omega
     have hzz : N ≠ 0 := by omega
     have hfl : ∀ d ∈ List.replicate N zs.toList, d.length = si'.size := fun d hd => by rw [(List.mem_replicate.1 hd).2]; simpa using hzl
     have hlen : (List.replicate N zs.toList).flatten.length = N * si'.size := by rw [flat_len hfl]; simp
     have hz2 : (Array.map (fun x => zs[x % zs.size]!) (Array.range (N * si'.size))) = (List.replicate N zs.toList).flatten.toArray := by
      apply Array.ext
      ·simp [hlen]
      ·intro i g1 g2
       have g3 : i < N * si'.size := by simpa using g1
       have g4 : i % si'.size < si'.size := Nat.mod_lt _ hz0
       have g5 : i / si'.size < N := (Nat.div_lt_iff_lt_mul hz0).2 g3
       have g6 := flat_get hfl (i := i / si'.size) (c := zs.toList) (by simp [g5]) (i % si'.size) (zs[i % si'.size]'(by omega)) (by simp [hzl, g4])
       rw [Nat.div_add_mod'] at g6
       simp only [Array.getElem_map, Array.getElem_range, List.getElem_toArray]
       have g7 := (List.getElem?_eq_some_iff.1 g6).2
       rw [g7, <- getElem!_pos zs (i % si'.size) (by omega)]
       exact congrArg (fun q => zs[i % q]!) hzl
     have hz4 : N * si'.size ≠ 0 := Nat.mul_ne_zero hzz (by omega)
     simp [Instr.makeSlice, asInt, asIntOf, run_underlying h1, sizeOf, typeInfo, h2, h4, e1, c1, c2, c3, askRoom, newRow, zeroValue, h3, hz, hz4, hz2, pt]
    ·rintro u K' hs' ⟨b, rfl, rfl, rfl⟩
     exact hk b
   ·simp at h0
  ·simp at h0
 ·simp at h0
end Go.En
namespace Go.En
attribute [local irreducible] Code.wp wpList Calls
theorem run_append_full {P : Program} {w0 w : World} {K : PH} {hs : List PH} (t ty e : TypeId) (i : TypeInfo) (z : Value) (ht : P.underlying t = some (.slice e)) (hi : P.info? e = some i) (hz : i.zero = some z)
  (hzs : z.cells.size = i.size) (s0 : Sat w0 w K hs) {hv h2 : PH} {ao ao2 : Option Addr} {n cap m c2 : Nat} {xs news : List Value} (hm1 : In K hs hv) (o : IsS hv ao n cap i.size xs) (hnone : ao = none -> cap = 0)
  (hm : In K hs h2) (x : IsS h2 ao2 m c2 i.size news) (hsz : 0 < i.size) (hroom : ¬ n + m <= cap) (hb : (n + m) * i.bytes <= 140737488355328) (h63 : n + m <= maxLen) :
  ∃ ao' cap' h' w', (Builtin.append_ #[t, t] ty #[.slice ao n cap, .slice ao2 m c2]).run P w = .ok (.slice ao' (n + m) cap') w' /\ Own h' ao' (n + m) cap' e i.size (xs ++ news) /\ Sat w0 w' K (h' :: hs) := by
 have hlen : (xs ++ news).length = (n + m) * i.size := by rw [List.length_append, o.1, x.1, Nat.add_mul]
 have s : Sat w0 w K (em :: hs) := s0.addEm
 have hm0 : 0 < m := by have := o.2.1; omega
 obtain ⟨a2, rfl⟩ := x.addr hm0 hsz
 have hnews : ∀ (j : Nat) v, news[j]? = some v -> w.cell? (a2.add j) = some v := fun j v hv => by
  obtain ⟨a', ha, hc⟩ := x.2.2 j v hv
  cases ha
  exact s0.cell hm hc
 have grown : ∀ old, old < n + m -> Own (pt w.heap.size (xs.toArray ++ news.toArray ++ Builtin.zeroCells z.cells (grownCap w (n + m) old e - (n + m))) e) (some ⟨w.heap.size, 0, none⟩) (n + m) (grownCap w (n + m) old e) e i.size (xs ++ news) /\
   Sat w0 (w.drew.alloc (.cells (xs.toArray ++ news.toArray ++ Builtin.zeroCells z.cells (grownCap w (n + m) old e - (n + m))) e)) K ((em :: hs).set 0 (pt w.heap.size (xs.toArray ++ news.toArray ++ Builtin.zeroCells z.cells (grownCap w (n + m) old e - (n + m))) e)) := by
  intro old ho
  have hge := grownCap_ge w (n + m) old e
  have hcm : grownCap w (n + m) old e <= maxLen := grownCap_le_maxLen w (n + m) old e h63
  refine ⟨⟨hlen, hge, hcm, .inr ⟨_, 0, _, rfl, rfl, ?_, ?_⟩⟩, ?_⟩
  ·simp only [Array.size_append, List.size_toArray, size_zeroCells, hzs, o.1, x.1, <- Nat.add_mul, Nat.zero_add]
   congr 1
   omega
  ·simp only [Array.toList_append, List.append_assoc, List.drop_zero]
   rw [<- List.append_assoc, <- hlen]
   exact List.take_left
  ·refine s.upd (i := 0) rfl rfl rfl rfl (by simp) ?_ ?_ ?_
   ·intro b ob hb'
    simp only [pt, sg] at hb'
    split at hb'
    ·rename_i e1; subst e1; cases hb'; exact heap_alloc_new w.drew _
    ·cases hb'
   ·intro b hb' _
    exact RowKit.Below.heap_alloc w.drew _ b hb'
   ·intro b ob hb' _
    simp only [pt, sg] at hb'
    split at hb'
    ·rename_i e1; omega
    ·cases hb'
 cases ao with
 | none =>
  obtain rfl := hnone rfl
  obtain rfl : n = 0 := by have := o.2.1; omega
  obtain rfl : xs = [] := List.eq_nil_of_length_eq_zero (by simpa using o.1)
  have hr := run_append_nil (P := P) w t ty e i z ht hi hz a2 m c2 news x.1 hnews hm0 (by simp only [maxLen] at h63; omega) (by simp only [Nat.zero_add] at hb; omega)
  have hgr := grown 0 (by omega)
  simp only [Nat.zero_add, List.nil_append, Array.empty_append] at hgr ⊢
  exact ⟨_, _, _, _, hr, hgr.1, hgr.2⟩
 | some a =>
  have holds : ∀ (k : Nat) u, xs[k]? = some u -> w.cell? (a.add k) = some u := fun k u hu => by
   obtain ⟨a', ha, hc⟩ := o.2.2 k u hu
   cases ha
   exact s0.cell hm1 hc
  have hr := run_append_grow (P := P) w t ty e i z ht hi hz a n cap xs o.1 holds a2 m c2 news x.1 hnews (by omega) (by simp only [maxLen] at h63; omega) (growslice_fits (by omega) hb)
  have hgr := grown cap (by omega)
  exact ⟨_, _, _, _, hr, hgr.1, hgr.2⟩
theorem appf {P : Program} {T : Tab} {w0 : World} {ops : Array Oper} {Q : Exit -> Act -> World -> Prop} {rest rest' : List Oper} {n : Nat} {l l' : Sl} {K : PH} {hs : List PH}
  (hT : TabOK P T) (k : Nat) {d : Nat} {si : SlI} {ao ao2 : Option Addr} {n1 c1 n2 c2 : Nat} {hv h2 : PH} {xs news : List Value} (h0 : apAt T ops n k rest l = some (d, si, (ao, n1, c1), (ao2, n2, c2), rest', l'))
  (hm1 : In K hs hv) (o : IsS hv ao n1 c1 si.size xs) (hnone : ao = none -> c1 = 0) (hm : In K hs h2) (x : IsS h2 ao2 n2 c2 si.size news) (hz : si.zero.cells.size = si.size) (hsz : 0 < si.size) (hroom : ¬ n1 + n2 <= c1)
  (hb : (n1 + n2) * si.bytes <= 140737488355328) (h63 : n1 + n2 <= maxLen)
  (hk : ∀ ao' cap' h', Own h' ao' (n1 + n2) cap' si.elem si.size (xs ++ news) -> WL P w0 ops Q rest' n ((d, .slice ao' (n1 + n2) cap') :: l') K (h' :: hs)) : WL P w0 ops Q rest n l K hs := by
 unfold apAt at h0
 split at h0
 ·rename_i oo r l2 ho
  split at h0
  ·rename_i d' args argTypes hd hop
   split at h0
   ·rename_i x' y' t t' e1 e2
    split at h0
    ·rename_i si' a1 m1 k1 a2 m2 k2 hb' htt hsi hx hy
     simp only [Option.some.injEq, Prod.mk.injEq] at h0
     obtain ⟨rfl, rfl, ⟨rfl, rfl, rfl⟩, ⟨rfl, rfl, rfl⟩, rfl, rfl⟩ := h0
     have htt' : t = t' := Nat.eq_of_beq_eq_true htt
     subst htt'
     have a1' : args = #[x', y'] := by cases args; simp_all
     have a2' : argTypes = #[t, t] := by cases argTypes; simp_all
     subst a1'
     subst a2'
     obtain ⟨g1, ii, g2, g3, g4, g5⟩ := hT.sl hsi
     refine WL.at' hT ho fun hg => WL.val (R := fun u K' hs' => ∃ ao' cap' h', u = .slice ao' (m1 + m2) cap' /\ Own h' ao' (m1 + m2) cap' si'.elem si'.size (xs ++ news) /\ K' = K /\ hs' = h' :: hs) hd hb' hg
      (fun A w ha hw => ?_) ?_
     ·rw [<- g4] at o x hz hsz
      rw [<- g5] at hb
      obtain ⟨ao', cap', h', w', hr, ho', hs'⟩ := run_append_full (P := P) t oo.type si'.elem ii si'.zero g1 g2 g3 hz hw hm1 o hnone hm x hsz hroom hb h63
      refine ⟨_, w', K, _, ?_, hs', ao', cap', h', rfl, by rw [<- g4]; exact ho', rfl, rfl⟩
      simp only [execOp, hop]
      simp [resolve, invoke, builtin, ha.ev hx, ha.ev hy, hr]
     ·rintro u K' hs' ⟨ao', cap', h', rfl, ho', rfl, rfl⟩
      exact hk ao' cap' h' ho'
    ·simp at h0
   ·simp at h0
  ·simp at h0
 ·simp at h0
end Go.En
end
section
namespace Go.En
attribute [local irreducible] Code.wp wpList Calls
def ItG (P : Program) (w0 : World) (f : Nat) (cap : List Value) {σ : Type} (step : σ -> List Value -> σ -> Prop) (over : σ -> Prop) (s0 : σ) (Rd : PH -> List PH -> Prop) : Prop :=
 ∀ (L : Nat) (St : σ -> PH -> List PH -> Prop) (Sp : PH -> List PH -> Prop), (∀ s K hs, St s K hs -> Rd K hs) ->
  (∀ s vs s' K hs fr, step s vs s' -> St s K hs -> YCt P w0 L vs K (hs ++ fr) (fun v K' hs' => ∃ hs1, hs' = hs1 ++ fr /\ ((v = .bool true /\ St s' K' hs1) \/ (v = .bool false /\ Sp K' hs1)))) ->
  ∀ K hs, St s0 K hs -> Ct P w0 f (.func (.yield L) #[] #[] :: cap) K hs (fun _ K' hs' => (∃ s, over s /\ St s K' hs') \/ Sp K' hs')
section it
variable {P : Program} {T : Tab} {w0 : World} {r : Option Nat} {ds : List Deferred} {ops : Array Oper} {Q : Exit -> Act -> World -> Prop} {rest rest' : List Oper} {n : Nat} {l : Sl} {K : PH} {hs : List PH}
theorem YCt.perm {L : Nat} {vs : List Value} {R : Value -> PH -> List PH -> Prop} {hs' : List PH} (p : hs.Perm hs') (h : YCt P w0 L vs K hs' R) : YCt P w0 L vs K hs R := fun w hw => h w (hw.perm p)
theorem rgG {g : Operand} {ps : Array Tmp} {assign body : Code} {f : Nat} (cap : List Value) {σ : Type} (step : σ -> List Value -> σ -> Prop) (over : σ -> Prop) (s0 : σ) (Rd : PH -> List PH -> Prop) (hg : ev l g = some (.func (.func f) #[] cap.toArray)) (it : ItG P w0 f cap step over s0 Rd) (hcal : callable P f = true)
  (hps : ∀ s vs s', step s vs s' -> vs.length = ps.size) (hpn : (ps.toList.all fun t => Nat.blt t n) = true) (St : σ -> PH -> List PH -> Prop) (Jm : Code -> PH -> List PH -> Prop) (h0 : St s0 K hs) (hRd : ∀ s K hs t u, St s K hs -> Rd K (hs ++ [t, u]))
  (round : ∀ L s vs s' K hs fr t u, step s vs s' -> St s K hs -> WX P w0 (some L) [] assign (Exit.then (aQ P w0 L n body (fun _ K hs => ∃ hs1, hs = hs1 ++ fr /\ St s' K hs1) (fun c K hs => ∃ hs1, hs = hs1 ++ fr /\ Jm c K hs1) t u 0) (fun _ _ _ => False)) n (prm ps.toList vs l) K ((hs ++ fr) ++ [t, u]))
  (done : ∀ D s K' hs', over s -> St s K' hs' -> WQX (mkd D :: ds) w0 Q .normal n l K' (hs' ++ [dfr D]))
  (stop : ∀ D c K' hs', Jm c K' hs' -> WX P w0 none (mkd D :: ds) c Q n l K' (hs' ++ [dfr D])) : WX P w0 none ds (.rangeFunc g ps assign body) Q n l K hs := by
 intro a w ha hw
 refine wpIn_rangeFunc ?_
 intro fn _
 obtain ⟨rec, hrec⟩ : ∃ rec : LoopState -> Option Code -> Loop, rec = fun st pe => { state := st, pending := pe, fn, tmps := a.tmps, params := ps, assign, body, defers := w.heap.size } := ⟨_, rfl⟩
 obtain ⟨D, hD⟩ : ∃ D, D = w.heap.size := ⟨_, rfl⟩
 obtain ⟨W1, hW1⟩ : ∃ W1, (w.alloc (.deferred (some []))).alloc (.loop (rec .ready none)) = W1 := ⟨_, rfl⟩
 have hS1 : Sat w0 W1 K (hs ++ [dfr D, sg (D + 1) (.loop (rec .ready none))]) := by
  have h1 := (hw.alloc (.deferred (some []))).alloc (.loop (rec .ready none))
  rw [World.size_alloc, <- hD, hW1] at h1
  refine h1.perm ?_
  rw [app2]
  exact ((List.perm_append_singleton _ _).symm.cons _).trans (List.perm_append_singleton _ _).symm
 refine ⟨D + 1, [mkd D], W1, { target := .fn (.func f) cap.toArray, args := #[.func (.yield (D + 1)) #[] #[]] }, W1, f, #[.func (.yield (D + 1)) #[] #[]] ++ cap.toArray, W1, ?_, ?_, ?_, ?_, fun h => by simp [fz] at h, ?_⟩
 ·rw [<- hW1, hrec, hD]; exact run_enterLoop_outer _ _ _ _ _
 ·simp only [resolve, evX ha hg]
  simp [Deferred.ofValue]
  rfl
 ·intro f' _; trivial
 ·have hcal' := hcal
  unfold callable at hcal'
  cases hfn : P.funcs[f]? with
  | none => simp [hfn] at hcal'
  | some fn =>
   simp only [hfn, Bool.and_eq_true, Bool.not_eq_true'] at hcal'
   have hbn : ¬ fn.body = none := fun e => by simp [e] at hcal'
   have hnm : ¬ fn.name = "runtime.NumGoroutine" := by simpa using hcal'.2
   simp [invoke, callFunc, hfn, hbn, hnm]
 ·have hargs : (#[Value.func (.yield (D + 1)) #[] #[]] ++ cap.toArray : Array Value) = (Value.func (.yield (D + 1)) #[] #[] :: cap).toArray := by simp
  rw [hargs]
  have key := it (D + 1) (fun s K hs => ∃ hs', hs = hs' ++ [dfr D, sg (D + 1) (.loop (rec .ready none))] /\ St s K hs') (fun K hs => ∃ c hs', hs = hs' ++ [dfr D, sg (D + 1) (.loop (rec .done (some c)))] /\ Jm c K hs')
   (by rintro i K hs ⟨hs', rfl, h⟩; exact hRd i K hs' _ _ h) ?_ K _ ⟨hs, rfl, h0⟩
  ·refine (callsIn_wide.2 (key.2 _ hS1)).mono ?_
   rintro e w2 ⟨v, K2, hs2, rfl, hh, hw2⟩
   rcases hh with ⟨s, hov, hs', rfl, hst⟩ | ⟨c, hs', rfl, hjm⟩
   ·rw [app2] at hw2
    have h1 := run_endLoop (P := P) hw2.last (by rw [hrec]; simp)
    rw [hrec] at h1
    exact ⟨none, _, h1, done D s K2 hs' hov hst a _ ha (hw2.putLast _).dropLast⟩
   ·rw [app2] at hw2
    have h1 := run_endLoop (P := P) hw2.last (by rw [hrec]; simp)
    rw [hrec] at h1
    exact ⟨some c, _, h1, stop D c K2 hs' hjm a _ ha (hw2.putLast _).dropLast⟩
  ·rintro s vs s' K1 hs1 fr hvs ⟨hs', rfl, hst⟩ w1 hw1
   have pf : ∀ (X : List PH) (t u : PH), (X ++ [t, u] ++ fr).Perm ((X ++ fr) ++ [t, u]) := fun X t u => by
    rw [List.append_assoc, List.append_assoc]
    exact List.perm_append_comm.append_left X
   replace hw1 := hw1.perm (pf hs' _ _)
   have hl1 : w1.heap[D + 1]? = some (.loop (rec .ready none)) := by rw [app2] at hw1; exact hw1.last
   have hsz : vs.toArray.size = (rec .ready none).params.size := by rw [hrec]; simpa using hps s vs s' hvs
   have hy := run_yield (P := P) hl1 hsz
   refine ⟨_, _, _, _, hy, roundIn_of_wpIn (F := fz none) trivial ?_⟩
   have hA : Ag n (prm ps.toList vs l) { tmps := ((rec .ready none).params.zip vs.toArray).foldl (fun tmps (t, a) => tmps.setIfInBounds t a) (rec .ready none).tmps, defers := [] } := by
    have h1 := Ag.prm ps.toList vs ha (fun t ht => Nat.le_of_ble_eq_true (List.all_eq_true.1 hpn t ht))
    rw [hrec]
    have e1 : (ps.zip vs.toArray).foldl (fun tmps (x : Nat × Value) => tmps.setIfInBounds x.1 x.2) a.tmps = (ps.toList.zip vs).foldl (fun tmps (x : Nat × Value) => tmps.setIfInBounds x.1 x.2) a.tmps := by
     rw [<- Array.foldl_toList]; simp
    show Ag n _ { tmps := (ps.zip vs.toArray).foldl (fun tmps (x : Nat × Value) => tmps.setIfInBounds x.1 x.2) a.tmps, defers := [] }
    rw [e1]; exact h1
   have h2 := round (D + 1) s vs s' K1 hs' fr (dfr D) (sg (D + 1) (.loop (rec .ready none))) hvs hst _ w1 hA hw1
   rw [hrec] at h2 ⊢
   refine wpIn_mono h2 ?_
   intro e a3 w3 hq
   cases e with
   | normal =>
    obtain ⟨l', K', hs3, hA3, hS3, hb⟩ := hq
    rw [app2] at hS3
    refine ⟨_, run_beginRound hS3.last rfl, ?_⟩
    have hS4 := hS3.putLast (.loop { rec .ready none with state := .busy })
    rw [hrec] at hS4
    have h5 := hb _ a3 _ hA3 (by rw [app2]; exact hS4)
    rw [wd_nil hA3] at h5
    refine wpIn_mono h5 ?_
    intro e a4 w4 hq4
    cases e with
    | normal =>
     obtain ⟨K5, hs5, hS5, hs6, rfl, hst5⟩ := hq4
     rw [app2] at hS5
     refine ⟨_, _, run_endRound none hS5.last, _, K5, _, rfl, ⟨_, rfl, .inl ⟨rfl, hs6, rfl, hst5⟩⟩, ?_⟩
     refine Sat.perm (pf hs6 _ _).symm ?_
     rw [app2]; exact hS5.putLast _
    | ret =>
     obtain ⟨K5, hs5, hS5, hs6, rfl, hst5⟩ := hq4
     rw [app2] at hS5
     refine ⟨_, _, run_endRound (some .ret) hS5.last, _, K5, _, rfl, ⟨_, rfl, .inr ⟨rfl, .ret, hs6, rfl, hst5⟩⟩, ?_⟩
     refine Sat.perm (pf hs6 _ _).symm ?_
     rw [app2]; exact hS5.putLast _
    | exit id =>
     obtain ⟨K5, hs5, hS5, hs6, rfl, hst5⟩ := hq4
     rw [app2] at hS5
     refine ⟨_, _, run_endRound (some (.exit id)) hS5.last, _, K5, _, rfl, ⟨_, rfl, .inr ⟨rfl, .exit id, hs6, rfl, hst5⟩⟩, ?_⟩
     refine Sat.perm (pf hs6 _ _).symm ?_
     rw [app2]; exact hS5.putLast _
    | goto l => exact hq4.elim
    | panic ch => exact hq4.elim
    | outgrown => exact hq4.elim
   | exit id => exact hq.elim
   | goto l => exact hq.elim
   | ret => exact hq.elim
   | panic ch => exact hq.elim
   | outgrown => exact hq.elim
end it
end Go.En
end
section
namespace Go.En
attribute [local irreducible] Code.wp wpList Calls
section loss
variable {P : Program} {T : Tab} {w0 : World} {ops : Array Oper} {Q : Exit -> Act -> World -> Prop} {rest : List Oper} {n : Nat} {l : Sl} {K : PH} {hs : List PH} {c : Code} {e : Exit}
end loss
def OwnZ (h : PH) (ao : Option Addr) (n cap e size : Nat) (xs : List Value) : Prop := Own h ao n cap e size xs \/ (n = 0 /\ cap = 0 /\ xs = [] /\ h = em)
theorem OwnZ.nil (e size : Nat) : OwnZ em none 0 0 e size [] := .inl (Own.nil e size)
theorem OwnZ.isS {h : PH} {ao : Option Addr} {n cap e size : Nat} {xs : List Value} (o : OwnZ h ao n cap e size xs) : IsS h ao n cap size xs := by
 rcases o with o | ⟨rfl, rfl, rfl, rfl⟩
 ·exact o.isS
 ·exact IsS.nil _ _ _ _
section rules
variable {P : Program} {T : Tab} {w0 : World} {ops : Array Oper} {Q : Exit -> Act -> World -> Prop} {rest rest' : List Oper} {n : Nat} {l l' : Sl} {K : PH} {hs : List PH}
theorem appq (hT : TabOK P T) (k i : Nat) {d : Nat} {si : SlI} {ao ao2 : Option Addr} {n1 c1 n2 c2 : Nat} {h h2 : PH} {xs news : List Value} (h0 : apAt T ops n k rest l = some (d, si, (ao, n1, c1), (ao2, n2, c2), rest', l'))
  (hi : hs[i]? = some h) (o : OwnZ h ao n1 c1 si.elem si.size xs) (hm : In K hs h2) (x : IsS h2 ao2 n2 c2 si.size news) (hz : si.zero.cells.size = si.size) (hsz : 0 < si.size) (h1 : ∀ u ∈ news, u.oneCell' = true) (hn2 : 0 < n2)
  (hb : (n1 + n2) * si.bytes <= 140737488355328) (h63 : n1 + n2 <= maxLen)
  (hk : ∀ ao' cap' h', Own h' ao' (n1 + n2) cap' si.elem si.size (xs ++ news) -> WL P w0 ops Q rest' n ((d, .slice ao' (n1 + n2) cap') :: l') K (hs.set i h')) : WL P w0 ops Q rest n l K hs := by
 rcases o with o | ⟨rfl, rfl, rfl, rfl⟩
 ·exact app hT k i h0 hi o hm x hz hsz h1 hb h63 hk
 ·refine appf hT k h0 (.inl rfl) (IsS.nil _ _ _ _) (fun _ => rfl) hm x hz hsz (by omega) hb h63 fun ao' cap' h' o' => ?_
  have p : (h' :: hs).Perm (em :: hs.set i h') := ((perm_front hs i em hi).cons h').trans ((List.Perm.swap em h' _).trans ((perm_set hs i em h' hi).cons em))
  exact WL.perm p (WL.drop (hk ao' cap' h' o'))
end rules
def SlZ {α : Type} (size e : Nat) (R : List Value -> α -> Prop) (h : PH) (ao : Option Addr) (n cap : Nat) (xs : List α) : Prop :=
 ∃ css : List (List Value), n = xs.length /\ OwnZ h ao n cap e size css.flatten /\ Al2 R css xs /\ ∀ d ∈ css, d.length = size
section slz
variable {α : Type} {R R' : List Value -> α -> Prop} {size e : Nat} {h : PH} {ao : Option Addr} {n cap : Nat} {xs : List α}
theorem SlZ.nil (size e : Nat) : SlZ size e R em none 0 0 [] := ⟨[], rfl, OwnZ.nil e size, trivial, by simp⟩
theorem SlZ.slS (x : SlZ size e R h ao n cap xs) : SlS size R h ao n cap xs := by
 obtain ⟨css, h1, h2, h3, h4⟩ := x
 exact ⟨css, h1, h2.isS, h3, h4⟩
theorem SlZ.len (x : SlZ size e R h ao n cap xs) : n = xs.length := let ⟨_, h1, _⟩ := x; h1
theorem appSq {P : Program} {T : Tab} {w0 : World} {ops : Array Oper} {Q : Exit -> Act -> World -> Prop} {rest rest' : List Oper} {n : Nat} {l l' : Sl} {K : PH} {hs : List PH}
  (hT : TabOK P T) (k i : Nat) {d : Nat} {si : SlI} {ao : Option Addr} {n1 c1 b : Nat} {h : PH} {xs : List α} (c : List Value) (x : α) (h0 : apAt T ops n k rest l = some (d, si, (ao, n1, c1), (some ⟨b, 0, none⟩, 1, 1), rest', l'))
  (h2 : hs[0]? = some (pt b c.toArray si.elem)) (hi : hs[i]? = some h) (o : SlZ si.size si.elem R h ao n1 c1 xs) (hc : R c x) (hl : c.length = si.size) (h1 : ∀ u ∈ c, u.oneCell' = true) (hz : si.zero.cells.size = si.size) (hsz : 0 < si.size) (hb : (n1 + 1) * si.bytes <= 140737488355328) (h63 : n1 + 1 <= maxLen)
  (hk : ∀ ao' cap' h', SlZ si.size si.elem R h' ao' (n1 + 1) cap' (xs ++ [x]) -> WL P w0 ops Q rest' n ((d, .slice ao' (n1 + 1) cap') :: l') K (hs.set i h')) : WL P w0 ops Q rest n l K hs := by
 obtain ⟨css, q1, q2, q3, q4⟩ := o
 have xv : IsS (pt b c.toArray si.elem) (some ⟨b, 0, none⟩) 1 1 si.size c := by
  simpa using (Own.ofPt (b := b) (c := c.toArray) (e := si.elem) (n := 1) (size := si.size) (by simpa using hl) (by simp [maxLen])).isS
 refine appq hT k i h0 hi q2 (.inr ⟨0, h2⟩) xv hz hsz h1 (by omega) hb h63 fun ao' cap' h' o' => hk ao' cap' h' ?_
 refine ⟨css ++ [c], by simp [q1], .inl (by simpa using o'), q3.append ⟨hc, trivial⟩, ?_⟩
 intro d hd
 rcases List.mem_append.1 hd with hd | hd
 ·exact q4 d hd
 ·simp only [List.mem_singleton] at hd; rw [hd]; exact hl
end slz
def waitsP (ops : Array Oper) (z : Nat) : List Nat -> Nat -> Bool
 | [], i => Region.waitsFor .any ops z i
 | y :: ys, i => Region.waitsFor .any ops z y && waitsP ops y ys i
theorem waits1 {ops : Array Oper} {L : Array Bool} (c : Closed .any ops L) {z i : Nat} (hw : Region.waitsFor .any ops z i = true) (hz : L.getD z false = true) : L.getD i false = true := by
 obtain ⟨oj, hoj, e, he, hbb, hon⟩ := Region.waitsFor_spec hw
 have := c.2 z oj hoj hz e he hbb
 rwa [hon] at this
theorem waitsP_spec {ops : Array Oper} {L : Array Bool} (c : Closed .any ops L) : ∀ (ys : List Nat) {z i : Nat}, waitsP ops z ys i = true -> L.getD z false = true -> L.getD i false = true
 | [], z, i, hw, hz => waits1 c hw hz
 | y :: ys, z, i, hw, hz => by
  simp only [waitsP, Bool.and_eq_true] at hw
  exact waitsP_spec c ys hw.2 (waits1 c hw.1 hz)
theorem closed_waitsP {ops : Array Oper} {L : Array Bool} {i z : Nat} (c : Closed .any ops L) (ys : List Nat) (hi : L.getD i true = false) (hw : waitsP ops z ys i = true) : L.getD z false = false := by
 cases hz : L.getD z false with
 | false => rfl
 | true =>
  have := waitsP_spec c ys hw hz
  rcases Nat.lt_or_ge i L.size with h' | h'
  ·simp [h'] at hi this; rw [hi] at this; cases this
  ·simp [Array.getElem?_eq_none h'] at this
section path
variable {P : Program} {T : Tab} {w0 : World} {ops : Array Oper} {Q : Exit -> Act -> World -> Prop} {plan plan' : List Nat} {z : Nat} {listed listed' : Array Bool} {n : Nat} {l l' : Sl} {K K0 : PH} {hs A : List PH}
theorem dldt (ys : List Nat) (hT : TabOK P T) (hsel : Region.noSelect ops = true) (k : Nat) {p d : Nat} {a : Addr} {v : Value} {h : PH} (h0 : dldwAt T ops n z k plan listed l = some (p, d, a, plan', listed', l')) (hwf : waitsP ops z ys (p / 2) = true) (hm : In K0 A h) (hc : Cell h a v)
  (hk : WA P w0 ops Q K0 A z plan' listed' n ((d, v) :: l') K hs) : WA P w0 ops Q K0 A z plan listed n l K hs := by
 unfold dldwAt at h0
 split at h0
 ·rename_i p' o r L' l2 hh
  split at h0
  ·rename_i dd t x hp hz hg hd hop
   split at h0
   ·rename_i kd a' hb hkd hx
    cases h1 : kd.one with
    | false => simp [h1] at h0
    | true =>
     simp only [h1, cond_true, Option.some.injEq, Prod.mk.injEq] at h0
     obtain ⟨rfl, rfl, rfl, rfl, rfl, rfl⟩ := h0
     obtain ⟨g1, g2⟩ := headAt_spec hh
     refine WA.pures hT hsel k g1 ?_
     have hp2 : p' = 2 * (p' / 2) := by have := Nat.eq_of_beq_eq_true hp; omega
     rw [hp2]
     refine WA.look g2 hsel hz hd hb (fun A' ha => .inl ⟨gOK_wanted ha hg, fun w hw => ?_⟩) hk
     obtain ⟨L, hcl, hun, hst⟩ := hw
     have hcell := (hst (closed_waitsP hcl ys hun hwf)).cell hm hc
     have h2 := run_load1 (P := P) hT hkd h1 hcell
     simp only [execOp, hop, ha.ev hx]
     simp [h2]
   ·simp at h0
  ·simp at h0
 ·simp at h0
end path
end Go.En
end
section
namespace Go.En
structure AnP where
 code : Int
 ses : Nat
 had : Int
deriving DecidableEq
structure RwP where
 seq : Nat
 ans : AnP
deriving DecidableEq
def an0 : AnP := ⟨0, 0, 0⟩
def rw0 : RwP := ⟨0, an0⟩
def anV (a : AnP) : List Value := [.int .i64 a.code, .int .u64 ((a.ses : Nat) : Int), .int .i64 a.had]
def rwV (r : RwP) : List Value := .int .u64 ((r.seq : Nat) : Int) :: anV r.ans
def rwR (c : List Value) (r : RwP) : Prop := c = rwV r
def chkT (l : List RwP) (id seq : Nat) : AnP × Bool × Int :=
 if id = 0 \/ l.length < id then (an0, false, 150)
 else if seq = 0 \/ seq < (l.getD (id - 1) rw0).seq then (an0, false, 151)
 else if seq = (l.getD (id - 1) rw0).seq then ((l.getD (id - 1) rw0).ans, true, 0)
 else (an0, false, 0)
theorem cells_sub2 {b off : Nat} {c : Array Value} {ty : Nat} {fr : Nat × Nat} (cs : List Value) (h : (c.toList.drop off).take cs.length = cs) : ∀ (j : Nat) v, cs[j]? = some v -> Cell (pt b c ty fr) ((⟨b, off, none⟩ : Addr).add j) v := by
 refine cells_pt cs fun j v hv => ?_
 have hj := (List.getElem?_eq_some_iff.1 hv).1
 rw [<- h, List.getElem?_take_of_lt hj, List.getElem?_drop] at hv
 simpa using hv
def kpT (l : List RwP) (id seq : Nat) : Prop := (1 <= id /\ id <= l.length) /\ (l.getD (id - 1) rw0).seq < seq
instance (l : List RwP) (id seq : Nat) : Decidable (kpT l id seq) := by unfold kpT; infer_instance
theorem retcP3 {P : Program} {fn : Func} {w0 : World} {n : Nat} {l : Sl} {K : PH} {hs : List PH} {R : Value -> PH -> List PH -> Prop} (i m : Nat) {t ty u p b ty' : Nat} {x y : Value} {c : Array Value} {fr : Nat × Nat} (hr : fn.results = #[.cell t ty, .tmp u, .tmp p]) (hv : look l t = some (.pointer (some ⟨b, 0, none⟩))) (hx : look l u = some x) (hy : look l p = some y) (hi : hs[i]? = some (pt b c ty' fr)) (hm : aggOK P ty c.size = true)
  (hk : R (.tuple #[.agg c, x, y]) K (hs.drop m)) : WQ w0 (bodyPost P fn (endR w0 R)) .ret n l K hs :=
 fun _ w ha hw => bodyPost_ret (v := .tuple #[.agg c, x, y]) (by
  have h2 := run_loadVarS (P := P) (w := w) (t := ty) (a := ⟨b, 0, none⟩) (cs := c.toList) (by simpa using hm) rfl (fun j v hv => hw.cell (.inr ⟨i, hi⟩) (cells_pt c.toList (fun j v h => by simpa using h) j v hv))
  have e : c.toList.toArray = c := by simp
  rw [e] at h2
  simp [results, hr, ha.slot t _ hv, ha.slot u x hx, ha.slot p y hy, asAddr, h2]) ha.defers ⟨_, _, _, rfl, hk, hw.dropN m⟩
theorem SlZ.pts {α : Type} {R : List Value -> α -> Prop} {size e : Nat} {h : PH} {ao : Option Addr} {n cap : Nat} {xs : List α} (x : SlZ size e R h ao n cap xs) (hn : 0 < n) : ∃ g off cur, ao = some ⟨g, off, none⟩ /\ h = pt g cur e /\ cur.size = off + cap * size /\ n <= cap /\
  ∀ (i : Nat) (c : List Value) y, i < n -> R c y -> c.length = size -> SlZ size e R (pt g (cur.toList.take (off + i * size) ++ c ++ cur.toList.drop (off + i * size + c.length)).toArray e) (some ⟨g, off, none⟩) n cap (xs.set i y) := by
 obtain ⟨css, h1, h2, h3, h4⟩ := x
 rcases h2 with h2 | ⟨_, _, _, h2⟩
 ·obtain ⟨g1, g2, g3, ⟨_, g4, _⟩ | ⟨g, off, cur, rfl, rfl, g5, g6⟩⟩ := h2
  ·omega
  refine ⟨g, off, cur, rfl, rfl, g5, g2, fun i c y hi hR hc => ?_⟩
  have hcl : css.length = n := by rw [h3.len, h1]
  have hin : i * size + size <= n * size := by rw [<- Nat.succ_mul]; exact Nat.mul_le_mul_right _ hi
  have hnc : n * size <= cap * size := Nat.mul_le_mul_right _ g2
  have hL : cur.toList.length = off + cap * size := by simpa using g5
  have hM : (cur.toList.drop off).length = cap * size := by rw [List.length_drop]; omega
  have hnew : ((cur.toList.take (off + i * size) ++ c ++ cur.toList.drop (off + i * size + c.length)).drop off).take (n * size) = (css.set i c).flatten := by
   have e1 := flat_set h4 (i := i) (by omega) hc
   rw [<- e1, <- g6]
   generalize hMM : cur.toList.drop off = M at *
   have e2 : (cur.toList.take (off + i * size) ++ c ++ cur.toList.drop (off + i * size + c.length)).drop off = M.take (i * size) ++ (c ++ M.drop (i * size + size)) := by
    rw [List.append_assoc, List.drop_append_of_le_length (by rw [List.length_take]; omega), List.drop_take, hMM, Nat.add_sub_cancel_left, <- hMM, List.drop_drop, hc, Nat.add_assoc]
   have a1 : (M.take (i * size)).take (n * size) = M.take (i * size) := by rw [List.take_take, show min (n * size) (i * size) = i * size by omega]
   have a2 : c.take (n * size - i * size) = c := List.take_of_length_le (by omega)
   have a3 : (M.take (n * size)).take (i * size) = M.take (i * size) := by rw [List.take_take, show min (i * size) (n * size) = i * size by omega]
   rw [e2, List.take_append, a1, List.length_take, show min (i * size) M.length = i * size by omega, List.take_append, a2, hc, a3, List.append_assoc, List.drop_take, Nat.sub_sub]
  refine ⟨css.set i c, by simp [h1], .inl ⟨?_, g2, g3, .inr ⟨g, off, _, rfl, rfl, ?_, by simpa using hnew⟩⟩, ?_, ?_⟩
  ·rw [<- hnew, List.length_take, List.length_drop]
   simp only [List.length_append, List.length_take, List.length_drop]
   omega
  ·simp only [List.size_toArray, List.length_append, List.length_take, List.length_drop]
   omega
  ·exact Al2.set hR i h3
  ·intro d hd
   rcases List.mem_or_eq_of_mem_set hd with hd | rfl
   ·exact h4 d hd
   ·exact hc
 ·omega
end Go.En
namespace Go.Proofs.YtejkjbkodcamoaaGreatDoor
open Go.En
attribute [local irreducible] Code.wp wpList Calls
def TblM (b : Nat) (l : List RwP) (m : List PH) : Prop := ∃ ao cap g, m = [pt b #[.slice ao l.length cap] 105, g] /\ SlZ 4 128 rwR g ao l.length cap l
theorem newTC {w0 : World} {K : PH} {hs : List PH} : Ct Tryz.prog w0 14 [] K hs (fun v K' hs' => K' = K /\ ∃ b m, hs' = m ++ hs /\ TblM b [] m /\ v = .pointer (some ⟨b, 0, none⟩)) := by
 refine enter Tryz.func14 (by kernel_rfl) rfl rfl rfl ?_
 refine sq (rg ?_)
 refine fin hT 1 rfl (th (sq (rg ?_)))
 refine bd hT 0 (.agg #[.slice none 0 0]) rfl (fun w => by kernel_rfl) ?_
 refine bx hT 0 rfl fun b => ?_
 refine fin hT 1 rfl (th (rt (WQ.em (WQ.perm (List.Perm.swap _ _ _) ?_))))
 exact ret1 rfl rfl ⟨rfl, b, [_, em], rfl, ⟨none, 0, em, rfl, SlZ.nil _ _⟩, rfl⟩
theorem openTC {w0 : World} {K : PH} {hs m : List PH} (b : Nat) (l : List RwP) (hm : TblM b l m) (hl : l.length <= 4096) : Ct Tryz.prog w0 32 [.pointer (some ⟨b, 0, none⟩)] K (m ++ hs)
  (fun v K' hs' => K' = K /\ ∃ m', hs' = m' ++ hs /\ TblM b (if l.length = 4096 then l else l ++ [rw0]) m' /\ v = .tuple #[.int .u64 ((if l.length = 4096 then 0 else l.length + 1 : Nat) : Int), .int .i64 (if l.length = 4096 then 152 else 0)]) := by
 obtain ⟨ao, cap, g, rfl, o⟩ := hm
 refine enter Tryz.func32 (by kernel_rfl) rfl rfl rfl ?_
 refine sq (rg ?_)
 refine fin hT 2 rfl (th (sq (sq (rg ?_))))
 refine ldp hT 3 0 rfl rfl rfl ?_
 refine cmpS hT 1 rfl fun b9 h9 => ?_
 refine fin hT 0 rfl (th (ifP h9 rfl (fun e2 => ?_) (fun e2 => ?_)))
 ·have e : l.length = 4096 := by omega
  refine sq (rg ?_)
  refine fin hT 2 rfl (th (rt (rT ?_)))
  exact ret2 rfl rfl rfl ⟨rfl, _, rfl, by rw [if_pos e]; exact ⟨ao, cap, g, rfl, o⟩, by rw [if_pos e, if_pos e]; rfl⟩
 ·have e : ¬ l.length = 4096 := by omega
  refine sk (th (sq (rg ?_)))
  refine ldp hT 4 0 rfl rfl rfl ?_
  refine bd hT 0 (.agg (rwV rw0).toArray) rfl (fun w => by kernel_rfl) ?_
  refine lit hT 0 (rwV rw0).toArray rfl (by decide) (by kernel_rfl) fun b16 => ?_
  refine appSq hT 0 2 (rwV rw0) rw0 rfl rfl rfl o rfl rfl (by intro u hu; simp [rwV, anV] at hu; rcases hu with rfl | rfl | rfl | rfl <;> rfl) rfl (by decide) (by show (l.length + 1) * 32 <= _; omega) (by simp only [maxLen]; omega) fun ao17 c17 g17 o17 => ?_
  refine WL.drop ?_
  refine stp hT 2 0 rfl rfl rfl rfl ?_
  refine fin hT 0 rfl (th (sq (rg ?_)))
  refine ldp hT 3 0 rfl rfl rfl ?_
  refine ar hT 1 rfl (u64w (x := ((l.length + 1 : Nat) : Int)) (by omega)) ?_
  refine fin hT 2 rfl (th (rt ?_))
  exact ret2 rfl rfl rfl ⟨rfl, _, rfl, by rw [if_neg e]; exact ⟨ao17, c17, g17, by rw [List.length_append], by rw [List.length_append]; exact o17⟩, by rw [if_neg e, if_neg e]⟩
theorem thereC {w0 : World} {K : PH} {hs : List PH} (b : Nat) (ao : Option Addr) (n cap : Nat) (hn : n <= 4096) (ty : Nat) (hin : In K hs (pt b #[.slice ao n cap] ty)) (id : Nat) (hid : id <= 18446744073709551615) : Ct Tryz.prog w0 60 [.pointer (some ⟨b, 0, none⟩), .int .u64 ((id : Nat) : Int)] K hs
  (fun v K' hs' => K' = K /\ hs' = hs /\ v = .bool (decide (1 <= id /\ id <= n))) := by
 refine enter Tryz.func60 (by kernel_rfl) rfl rfl rfl ?_
 refine sq (rg ?_)
 refine fin hT 1 rfl (th (sq (rg ?_)))
 refine cmpS hT 1 rfl fun b6 h6 => ?_
 refine' bja (q := ((id : Nat) : Int) <= ((n : Nat) : Int)) hT 1 9 16 [6, 7] h6 rfl rfl rfl rfl rfl rfl rfl (fun _ => ?x1) (fun b16 h16 => ?_)
 case x1 =>
  refine ld hT 4 rfl hin (Cell.pt rfl) ?_
  refine ar hT 1 rfl (u64w (x := ((n : Nat) : Int)) (by omega)) ?_
  refine cmpS hT 0 rfl fun b15 h15 => ?_
  exact fin hT 1 rfl (bjx h15 rfl rfl rfl)
 refine fin hT 1 rfl (th (rt ?_))
 exact ret1 rfl rfl ⟨rfl, rfl, by rw [show b16 = decide (1 <= id /\ id <= n) from by rw [Bool.eq_iff_iff, h16, decide_eq_true_iff]; omega]⟩
theorem checkC {w0 : World} {K : PH} {hs m : List PH} (b : Nat) (l : List RwP) (hm : TblM b l m) (hl : l.length <= 4096) (id seq : Nat) (hid : id <= 18446744073709551615) (hsq : seq <= 18446744073709551615) (hb : ∀ r ∈ l, r.seq <= 18446744073709551615) :
  Ct Tryz.prog w0 35 [.pointer (some ⟨b, 0, none⟩), .int .u64 ((id : Nat) : Int), .int .u64 ((seq : Nat) : Int)] K (m ++ hs)
  (fun v K' hs' => K' = K /\ hs' = m ++ hs /\ v = .tuple #[.agg (anV (chkT l id seq).1).toArray, .bool (chkT l id seq).2.1, .int .i64 (chkT l id seq).2.2]) := by
 obtain ⟨ao, cap, g, rfl, o⟩ := hm
 refine enter Tryz.func35 (by kernel_rfl) rfl rfl rfl ?_
 refine sq (rg ?_)
 refine al hT 0 (.agg #[.int .i64 0, .int .u64 0, .int .i64 0]) rfl (by kernel_rfl) fun b6 => ?_
 refine fin hT 2 rfl (th (sq (sq (rg ?_))))
 refine cl hT 2 rfl (thereC b ao l.length cap hl 105 (.inr ⟨1, rfl⟩) id hid) ?_
 rintro v12 K12 hs12 ⟨rfl, rfl, rfl⟩
 refine cbS hT 0 (¬ (1 <= id /\ id <= l.length)) rfl (by simp; omega) fun b13 h13 => ?_
 refine fin hT 0 rfl (th (ifP h13 rfl (fun e1 => ?_) (fun e1 => ?_)))
 ·have hc : chkT l id seq = (an0, false, 150) := by unfold chkT; rw [if_pos (by omega)]
  refine sq (rg ?_)
  refine bd hT 0 (.agg (anV an0).toArray) rfl (fun w => by kernel_rfl) ?_
  refine stS hT 0 0 rfl rfl (by kernel_rfl) rfl rfl ?_
  refine fin hT 2 rfl (th (rt (rT ?_)))
  exact retcP3 0 1 rfl rfl rfl rfl rfl (by kernel_rfl) ⟨rfl, rfl, by rw [hc]⟩
 ·have e1' := Decidable.not_not.1 e1
  have hi : id - 1 < l.length := by omega
  obtain ⟨r, hr⟩ : ∃ r, l[id - 1]? = some r := ⟨_, List.getElem?_eq_getElem hi⟩
  have hrD : l.getD (id - 1) rw0 = r := by rw [List.getD_eq_getElem?_getD, hr]; rfl
  have hrs := hb r (List.mem_of_getElem? hr)
  have xS := o.slS
  obtain ⟨ad, rfl⟩ := xS.addr (by omega) (by decide)
  obtain ⟨vs, xv⟩ := xS.isS
  obtain ⟨cs, hcr, hcl, hcell⟩ := xS.cells hr
  obtain rfl := hcr
  have hchk : chkT l id seq = if seq = 0 \/ seq < r.seq then (an0, false, 151) else if seq = r.seq then (r.ans, true, 0) else (an0, false, 0) := by
   unfold chkT
   rw [if_neg (by omega), hrD]
  refine sk (th (sq (rg ?_)))
  refine ldp hT 3 1 rfl rfl rfl ?_
  refine ar hT 1 rfl (v' := .int .u64 ((id - 1 : Nat) : Int)) (by rw [show ((id : Nat) : Int) - 1 = ((id - 1 : Nat) : Int) by omega]; exact u64w (by omega)) ?_
  refine ixs hT 0 (id - 1) rfl rfl xv hi (by decide) fun a21 ha => ?_
  cases ha
  refine lds hT 0 (rwV r) rfl (by kernel_rfl) (.inr ⟨2, rfl⟩) hcell ?_
  refine al hT 0 (.agg #[.int .u64 0, .int .i64 0, .int .u64 0, .int .i64 0]) rfl (by kernel_rfl) fun b9 => ?_
  refine stS hT 0 0 rfl rfl (by kernel_rfl) rfl rfl ?_
  refine WL.hs (pt b9 (rwV r).toArray 128 :: pt b6 #[.int .i64 0, .int .u64 0, .int .i64 0] 48 :: pt b #[.slice (some ad) l.length cap] 105 :: g :: hs) rfl ?_
  refine fin hT 0 rfl (th (sq (bk (sq (rg ?_)))))
  refine cmpS hT 1 rfl fun b25 h25 => ?_
  refine' bjo (q := seq < r.seq) hT 1 5 31 [25, 26] h25 rfl rfl rfl rfl rfl rfl rfl (fun _ => ?x3) (fun b31 h31 => ?_)
  case x3 =>
   refine ldp hT 2 0 (v := .int .u64 ((r.seq : Nat) : Int)) rfl rfl rfl ?_
   refine cmpS hT 0 rfl fun b30 h30 => ?_
   exact fin hT 1 rfl (bjx (h30.trans (by omega)) rfl rfl rfl)
  refine fin hT 1 rfl (th (ifP h31 rfl (fun e5 => ?_) (fun e5 => ?_)))
  ·have hc : chkT l id seq = (an0, false, 151) := by rw [hchk, if_pos (by omega)]
   refine sq (rg ?_)
   refine bd hT 0 (.agg (anV an0).toArray) rfl (fun w => by kernel_rfl) ?_
   refine stS hT 0 1 rfl rfl (by kernel_rfl) rfl rfl ?_
   refine fin hT 2 rfl (th (rt (rB (rT ?_))))
   exact retcP3 1 2 rfl rfl rfl rfl rfl (by kernel_rfl) ⟨rfl, rfl, by rw [hc]⟩
  ·refine sq (rg ?_)
   refine ldp hT 2 0 (v := .int .u64 ((r.seq : Nat) : Int)) rfl rfl rfl ?_
   refine cmpS hT 0 rfl fun b37 h37 => ?_
   refine fin hT 1 rfl (th (ifP h37 rfl (fun e7 => ?_) (fun e7 => ?_)))
   ·have hc : chkT l id seq = (r.ans, true, 0) := by rw [hchk, if_neg (by omega), if_pos (by omega)]
    refine sq (rg ?_)
    refine lds hT 1 (anV r.ans) rfl (by kernel_rfl) (.inr ⟨0, rfl⟩) (cells_sub2 _ rfl) ?_
    refine stS hT 0 1 rfl rfl (by kernel_rfl) rfl rfl ?_
    refine fin hT 2 rfl (th (rt (rB (rT ?_))))
    exact retcP3 1 2 rfl rfl rfl rfl rfl (by kernel_rfl) ⟨rfl, rfl, by rw [hc]⟩
   ·have hc : chkT l id seq = (an0, false, 0) := by rw [hchk, if_neg (by omega), if_neg (by omega)]
    refine sk (bl (th (sq (rg ?_))))
    refine bd hT 0 (.agg (anV an0).toArray) rfl (fun w => by kernel_rfl) ?_
    refine stS hT 0 1 rfl rfl (by kernel_rfl) rfl rfl ?_
    refine fin hT 2 rfl (th (rt ?_))
    exact retcP3 1 2 rfl rfl rfl rfl rfl (by kernel_rfl) ⟨rfl, rfl, by rw [hc]⟩
theorem keepC {w0 : World} {K : PH} {hs m : List PH} (b : Nat) (l : List RwP) (hm : TblM b l m) (hl : l.length <= 4096) (id seq : Nat) (hid : id <= 18446744073709551615) (hsq : seq <= 18446744073709551615) (a : AnP) :
  Ct Tryz.prog w0 36 [.pointer (some ⟨b, 0, none⟩), .int .u64 ((id : Nat) : Int), .int .u64 ((seq : Nat) : Int), .agg (anV a).toArray] K (m ++ hs)
  (fun v K' hs' => K' = K /\ ∃ m', hs' = m' ++ hs /\ TblM b (if kpT l id seq then l.set (id - 1) ⟨seq, a⟩ else l) m' /\ v = .bool (decide (kpT l id seq))) := by
 obtain ⟨ao, cap, g, rfl, o⟩ := hm
 refine enter Tryz.func36 (by kernel_rfl) rfl rfl rfl ?_
 refine sq (rg ?_)
 refine bx hT 0 rfl fun b7 => ?_
 refine fin hT 1 rfl (th (sq (sq (rg ?_))))
 refine WL.hs (pt b7 (anV a).toArray 48 :: pt b #[.slice ao l.length cap] 105 :: g :: hs) rfl ?_
 refine cl hT 2 rfl (thereC b ao l.length cap hl 105 (.inr ⟨1, rfl⟩) id hid) ?_
 rintro v11 K11 hs11 ⟨rfl, rfl, rfl⟩
 refine cbS hT 0 (¬ (1 <= id /\ id <= l.length)) rfl (by simp; omega) fun b12 h12 => ?_
 by_cases hin : 1 <= id /\ id <= l.length
 ·have hi : id - 1 < l.length := by omega
  obtain ⟨r, hr⟩ : ∃ r, l[id - 1]? = some r := ⟨_, List.getElem?_eq_getElem hi⟩
  have hrD : l.getD (id - 1) rw0 = r := by rw [List.getD_eq_getElem?_getD, hr]; rfl
  have hkp : kpT l id seq ↔ r.seq < seq := by unfold kpT; rw [hrD]; exact ⟨fun h => h.2, fun h => ⟨hin, h⟩⟩
  have xS := o.slS
  obtain ⟨gb, off, cur, rfl, rfl, hcs, hcap, hset⟩ := o.pts (show 0 < l.length by omega)
  obtain ⟨vs, xv⟩ := xS.isS
  obtain ⟨cs, hcr, hcl, hcell⟩ := xS.cells hr
  obtain rfl := hcr
  refine' bjo (q := ¬ r.seq < seq) hT 1 12 25 [12, 13] h12 rfl rfl rfl rfl rfl rfl rfl (fun _ => ?x1) (fun b25 h25 => ?_)
  case x1 =>
   refine ldp hT 4 1 rfl rfl rfl ?_
   refine ar hT 1 rfl (v' := .int .u64 ((id - 1 : Nat) : Int)) (by rw [show ((id : Nat) : Int) - 1 = ((id - 1 : Nat) : Int) by omega]; exact u64w (by omega)) ?_
   refine ixs hT 0 (id - 1) rfl rfl xv hi (by decide) fun a21 ha => ?_
   cases ha
   refine ld hT 1 rfl (.inr ⟨2, rfl⟩) (hcell 0 _ rfl) ?_
   refine cmpS hT 0 rfl fun b24 h24 => ?_
   exact fin hT 1 rfl (bjx (h24.trans (by omega)) rfl rfl rfl)
  refine fin hT 0 rfl (th (ifP h25 rfl (fun e3 => ?_) (fun e3 => ?_)))
  ·have hk : ¬ kpT l id seq := by rw [hkp]; rcases e3 with e3 | e3; exact absurd hin e3; exact e3
   refine sq (rg ?_)
   refine fin hT 1 rfl (th (rt (rT (WQ.drop ?_))))
   exact ret1 rfl rfl ⟨rfl, _, rfl, by rw [if_neg hk]; exact ⟨_, cap, _, rfl, o⟩, by rw [decide_eq_false hk]⟩
  ·have hk : kpT l id seq := by rw [hkp]; exact Decidable.not_not.1 (not_or.1 e3).2
   have hb1 : off + (id - 1) * 4 + 4 <= cur.size := by rw [hcs]; omega
   refine sk (th (sq (rga [pt b #[.slice (some ⟨gb, off, none⟩) l.length cap] 105, pt b7 (anV a).toArray 48] 10 [0, 2, 4, 6, 8, 10, 12, 14, 16, 18, 21] (by simp) (by kernel_rfl) (by kernel_rfl) ?_)))
   refine dldpw hT (by kernel_rfl) 3 0 rfl (by kernel_rfl) rfl rfl ?_
   refine dar hT (by kernel_rfl) 1 rfl (v' := .int .u64 ((id - 1 : Nat) : Int)) (by rw [show ((id : Nat) : Int) - 1 = ((id - 1 : Nat) : Int) by omega]; exact u64w (by omega)) ?_
   refine dldS hT (by kernel_rfl) 1 1 rfl (by kernel_rfl) rfl (by kernel_rfl) ?_
   refine dbd hT (by kernel_rfl) 0 (.agg (rwV ⟨seq, a⟩).toArray) rfl (fun w => by kernel_rfl) ?_
   refine dixs hT (by kernel_rfl) 0 (id - 1) rfl rfl hi ?_
   simp only [add_mk]
   refine dact hT (by kernel_rfl) 0 rfl ?_
   refine sts hT 0 2 rfl rfl (by kernel_rfl) hb1 (fun v hv => by simp [rwV, anV] at hv; rcases hv with rfl | rfl | rfl | rfl <;> rfl) ?_
   refine dnex [pt b #[.slice (some ⟨gb, off, none⟩) l.length cap] 105, pt b7 (anV a).toArray 48] (by simp) (by simp) rfl ?_
   refine dend hT (by kernel_rfl) 0 rfl (th (sq (rg ?_)))
   refine fin hT 1 rfl (th (rt (WQ.drop ?_)))
   exact ret1 rfl rfl ⟨rfl, _, rfl, by rw [if_pos hk]; exact ⟨_, cap, _, by rw [List.length_set], by rw [List.length_set]; exact hset (id - 1) _ ⟨seq, a⟩ hi rfl rfl⟩, by rw [decide_eq_true hk]⟩
 ·have hk : ¬ kpT l id seq := fun h => hin h.1
  refine' bjo (q := False) hT 1 12 25 [12, 13] h12 rfl rfl rfl rfl rfl rfl rfl (fun h => absurd hin h) (fun b25 h25 => ?_)
  refine fin hT 0 rfl (th (ifP h25 rfl (fun e3 => ?_) (fun e3 => ?_)))
  ·refine sq (rg ?_)
   refine fin hT 1 rfl (th (rt (rT (WQ.drop ?_))))
   exact ret1 rfl rfl ⟨rfl, _, rfl, by rw [if_neg hk]; exact ⟨ao, cap, g, rfl, o⟩, by rw [decide_eq_false hk]⟩
  ·exact absurd (Or.inl hin) e3
end Go.Proofs.YtejkjbkodcamoaaGreatDoor
end
section
namespace Go.En
theorem word_one {r : Nat} (h : 32 < r /\ r ≠ 127 /\ scalarP r) : wordP (textP [r]) := by
 have h1 : runesP (textP [r]) = some [r] := text_runes (by simp; exact h.2.2)
 have h2 : rl (textP [r]) = [r] := by unfold rl; rw [h1]; rfl
 have h3 := textP_len [r]
 refine ⟨by simp only [List.length_singleton] at h3; omega, by rw [h1]; rfl, by rw [h2]; simp; exact ⟨h.1, h.2.1⟩, by rw [h2]; simp, by rw [h2]; simp⟩
structure SmP where
 w : Int
 d : Int
 t : Int
def maxG (a b : Int) : Int := if b > a then b else a
def smA (tb : List SmP) (x : SmP) (a : ArcP) : SmP := ⟨x.w + (tb.getD a.to.toNat ⟨0, 0, 0⟩).w, maxG x.d ((tb.getD a.to.toNat ⟨0, 0, 0⟩).d + 1), maxG x.t (a.out + (tb.getD a.to.toNat ⟨0, 0, 0⟩).t)⟩
def sm0 (s : StP) : SmP := ⟨if s.fin = true then 1 else 0, 0, s.out⟩
def smS (tb : List SmP) (s : StP) : SmP := s.arcs.foldl (smA tb) (sm0 s)
def smT (sts : List StP) : List SmP := sts.foldl (fun tb s => tb ++ [smS tb s]) []
def smV (x : SmP) : List Value := [.int .i64 x.w, .int .i64 x.d, .int .i64 x.t]
def smR (c : List Value) (x : SmP) : Prop := c = smV x
def keyG (k : Int × Int × Int × Int) : Value := .agg #[.int .i64 k.1, .int .i64 k.2.1, .int .i64 k.2.2.1, .int .i64 k.2.2.2]
end Go.En
namespace Go.Proofs.YtejkjbkodcamoaaGreatDoor
open Go.En
attribute [local irreducible] Code.wp wpList Calls
theorem formedC {w0 : World} {K : PH} {hs : List PH} (i : Nat) (s : StP) (ao : Option Addr) (n c : Nat) (hf : SFm i s) (x : SlS 3 arcR K ao n c s.arcs) (hG : LeastK K) (hn : s.arcs.length <= 1000000) :
  Ct Tryz.prog w0 119 [.agg (stV s ao n c).toArray, .int .i64 ((i : Nat) : Int)] K hs (fun v K' hs' => K' = K /\ hs' = hs /\ v = .bool true) := by
 obtain rfl := x.len
 refine enter Tryz.func119 (by kernel_rfl) rfl rfl rfl ?_
 refine sq (rg ?_)
 refine bx hT 0 rfl fun b2 => ?_
 refine fin hT 1 rfl (th (sq (rg ?_)))
 refine fin hT 1 rfl (th (jn (σ := Int) (fun low => [(1, .int .i64 ((i : Nat) : Int)), (2, .pointer (some ⟨b2, 0, none⟩)), (5, .int .i64 low)]) (fun _ => pt b2 (stV s ao s.arcs.length c).toArray 177 :: hs) (fun low => low = if s.fin = true then s.out else 1048577) ?_ ?_))
 ·refine sq (rg ?_)
  refine ldp hT 1 0 rfl rfl rfl ?_
  refine nmS fun b13 h13 => ?_
  refine fin hT 0 rfl (th (ifP h13 rfl (fun e1 => ?_) (fun e1 => ?_)))
  ·refine rg ?_
   refine ldp hT 1 0 rfl rfl rfl ?_
   refine fin hT 1 rfl ?_
   exact jx s.out (by rw [if_pos e1]) ⟨rfl, rfl, rfl, trivial⟩ rfl rfl
  ·have ho : s.out = 0 := by rcases hf.fin with h | h; exact absurd h e1; exact h
   refine sq (rg ?_)
   refine ldp hT 1 0 rfl rfl rfl ?_
   refine cmp hT 0 rfl (fun h2 => absurd ho h2) (fun h2 => ?_)
   refine fin hT 0 rfl (th (ifF rfl (sk ?_)))
   exact jx 1048577 (by rw [if_neg e1]) ⟨rfl, rfl, rfl, trivial⟩ rfl rfl
 ·rintro low hlow
  refine sq (rg ?_)
  refine ldp hT 1 0 rfl rfl rfl ?_
  refine cmp hT 0 rfl (fun h3 => ?_) (fun h3 => absurd hf.out.1 h3)
  refine ldp hT 2 0 rfl rfl rfl ?_
  refine cmp hT 0 rfl (fun h4 => ?_) (fun h4 => absurd hf.out.2 h4)
  refine fin hT 2 rfl (th (sq (rg ?_)))
  refine fin hT 1 rfl (th (sq (sq (rg ?_))))
  refine ldp hT 1 0 rfl rfl rfl ?_
  refine fin hT 2 rfl (th (bk (WC.drop ?_)))
  refine loop (σ := Nat × Int × Int) (fun q => [(1, .int .i64 ((i : Nat) : Int)), (5, .int .i64 q.2.1), (6, .bool true), (7, .int .i32 q.2.2), (28, .slice ao s.arcs.length c), (29, .int .i64 ((s.arcs.length : Nat) : Int)), (30, .int .i64 ((q.1 : Nat) : Int))]) (fun _ => K) (fun _ => hs)
   (fun q => q.1 <= s.arcs.length /\ 0 <= q.2.1 /\ ((∃ a ∈ s.arcs.take q.1, a.out = 0) \/ (s.fin = true /\ s.out = 0) -> q.2.1 = 0) /\ 32 <= q.2.2 /\ (∀ a ∈ s.arcs.drop q.1, q.2.2 < a.lb)) (fun q => s.arcs.length - q.1) (0, low, 32)
   ⟨Nat.zero_le _, by dsimp only; rw [hlow]; split <;> omega, by dsimp only; rintro (⟨a, ha, _⟩ | ⟨h1, h2⟩) <;> first | (simp at ha; done) | (rw [hlow, if_pos h1, h2]), by simp, fun a ha => (hf.arc a (by simpa using ha)).lb.1⟩ ⟨rfl, rfl, rfl, rfl, rfl, rfl, rfl, trivial⟩ rfl rfl ?_
  rintro ⟨j, low, lab⟩ ⟨hj, hl0, hlz, hlab, hlt⟩
  dsimp only at *
  refine sq (rg ?_)
  refine cmpS hT 0 rfl fun b31 h31 => ?_
  refine fin hT 0 rfl (th (sq (ifP h31 rfl (fun e6 => ?_) (fun e6 => ?_))))
  ·have hjl : j < s.arcs.length := by omega
   obtain ⟨a, ha⟩ : ∃ a, a = s.arcs[j] := ⟨_, rfl⟩
   have ham : a ∈ s.arcs := by rw [ha]; exact List.getElem_mem hjl
   have hA := hf.arc a ham
   have hdj : s.arcs.drop j = a :: s.arcs.drop (j + 1) := by rw [ha]; exact List.drop_eq_getElem_cons hjl
   have hsc := hA.lb.2.2
   have hlbn : ((a.lb.toNat : Nat) : Int) = a.lb := by have := hA.lb.1; omega
   obtain ⟨ad, rfl⟩ := x.addr (by omega) (by decide)
   obtain ⟨vs, xv⟩ := x.isS
   obtain ⟨cs, hc, hcl, hcell⟩ := x.cells (i := j) (x := a) (by rw [List.getElem?_eq_getElem hjl, ha])
   obtain rfl := hc
   have e1t : Own (pt b2 #[.int .i32 ((a.lb.toNat : Nat) : Int)] 21) (some ⟨b2, 0, none⟩) 1 1 21 1 (rvv [a.lb.toNat]) := Own.ofPt (b := b2) (c := #[.int .i32 ((a.lb.toNat : Nat) : Int)]) (e := 21) (n := 1) (size := 1) rfl (by simp [maxLen])
   refine sk (th (sq (bk (sq (rg ?_)))))
   refine ixs hT 0 j rfl rfl xv hjl (by decide) fun a32 ha => ?_
   cases ha
   refine lds hT 0 (arcV a) rfl (by kernel_rfl) (.inl rfl) hcell ?_
   refine al hT 0 (.agg #[.int .i32 0, .int .i64 0, .int .i64 0]) rfl (by kernel_rfl) fun b9 => ?_
   refine stS hT 0 0 rfl rfl (by kernel_rfl) rfl rfl ?_
   refine fin hT 0 rfl (th (sq (rg ?_)))
   refine ldp hT 1 0 rfl rfl rfl ?_
   refine lit hT 0 #[.int .i32 ((a.lb.toNat : Nat) : Int)] rfl (by decide) (by rw [hlbn]; kernel_rfl) fun b37 => ?_
   have ow : Own (pt b37 #[.int .i32 ((a.lb.toNat : Nat) : Int)] 21) (some ⟨b37, 0, none⟩) 1 1 21 1 (rvv [a.lb.toNat]) := Own.ofPt (b := b37) (c := #[.int .i32 ((a.lb.toNat : Nat) : Int)]) (e := 21) (n := 1) (size := 1) rfl (by simp [maxLen])
   refine cl hT 0 rfl (textC (some ⟨b37, 0, none⟩) 1 [a.lb.toNat] (.inr ⟨0, rfl⟩) ow.isS (by simp; exact hsc) hG (by simp)) ?_
   rintro v38 K38 hs38 ⟨rfl, rfl, rfl⟩
   refine fin hT 5 rfl (th (sq (rg ?_)))
   refine ldp hT 3 1 rfl rfl rfl ?_
   refine cmp hT 1 rfl (fun h7 => ?_) (fun h7 => absurd (hlt a (by rw [hdj]; simp)) h7)
   refine cl hT 3 rfl (wordC (textP [a.lb.toNat]) hG) ?_
   rintro v50 K50 hs50 ⟨rfl, rfl, t50, rfl, h50⟩
   obtain rfl : t50 = true := h50.2 (word_one ⟨by have := hA.lb.1; omega, by have := hA.lb.2.1; omega, hsc⟩)
   refine fin hT 2 rfl (th (sq (rg ?_)))
   refine ldp hT 3 1 rfl rfl rfl ?_
   refine cmp hT 0 rfl (fun h8 => ?_) (fun h8 => absurd hA.to.1 h8)
   refine ldp hT 3 1 rfl rfl rfl ?_
   refine cmp hT 1 rfl (fun h9 => ?_) (fun h9 => absurd hA.to.2 h9)
   refine ldp hT 3 1 rfl rfl rfl ?_
   refine cmp hT 0 rfl (fun h10 => ?_) (fun h10 => absurd hA.out.1 h10)
   refine ldp hT 3 1 rfl rfl rfl ?_
   refine cmp hT 0 rfl (fun h11 => ?_) (fun h11 => absurd hA.out.2 h11)
   refine fin hT 2 rfl (th (sq (rg ?_)))
   refine ldp hT 1 1 rfl rfl rfl ?_
   refine fin hT 1 rfl (th (rg ?_))
   refine ldp hT 2 1 rfl rfl rfl ?_
   refine fin hT 2 rfl (bl (th (rg ?_)))
   refine ar hT 0 rfl (i64w (x := ((j + 1 : Nat) : Int)) (by omega)) ?_
   refine fin hT 1 rfl (WQ.drop (WQ.drop ?_))
   refine again (x := (j, low, lab)) (j + 1, minG low a.out, a.lb) ⟨rfl, rfl, rfl, rfl, rfl, rfl, rfl, trivial⟩ rfl rfl ⟨hjl, ?_, ?_, by have := hA.lb.1; dsimp only; omega, ?_⟩ (by dsimp only; omega)
   ·have := hA.out.1
    dsimp only
    unfold minG
    split <;> omega
   ·dsimp only
    intro h
    have := hA.out.1
    have ht : s.arcs.take (j + 1) = s.arcs.take j ++ [a] := by rw [List.take_add_one, List.getElem?_eq_getElem hjl, ha]; rfl
    rw [ht] at h
    unfold minG
    rcases h with ⟨y, hy, ey⟩ | h
    ·rcases List.mem_append.1 hy with hy | hy
     ·have := hlz (.inl ⟨y, hy, ey⟩); split <;> omega
     ·simp only [List.mem_singleton] at hy; subst hy; split <;> omega
    ·have := hlz (.inr h); split <;> omega
   ·dsimp only
    intro y hy
    have hp := hf.ord
    have e3 : s.arcs = s.arcs.take j ++ s.arcs.drop j := (List.take_append_drop j s.arcs).symm
    rw [e3, hdj, List.pairwise_append] at hp
    exact (List.pairwise_cons.1 hp.2.1).1 y hy
  ·obtain rfl : j = s.arcs.length := by omega
   have hz : low = 0 := by
    refine hlz ?_
    rw [List.take_of_length_le (Nat.le_refl _)]
    rcases hf.low with h | h
    ·exact .inr h
    ·exact .inl h
   refine ex (xt (xt (xb (th (sq (rg ?_))))))
   refine cmp hT 3 rfl (fun h12 => ?_) (fun h12 => absurd hz h12)
   refine fin hT 2 rfl (th (rt ?_))
   exact ret1 rfl rfl ⟨rfl, rfl, rfl⟩
def smBd (x : SmP) : Prop := 0 <= x.w /\ x.w <= 4096 /\ 0 <= x.d /\ x.d <= 24 /\ 0 <= x.t /\ x.t <= 1048576
theorem sumAC {w0 : World} {K h : PH} {hs : List PH} (s : StP) (ao : Option Addr) (n c : Nat) (aoT : Option Addr) (nT cT : Nat) (tb : List SmP) (x : SlS 3 arcR K ao n c s.arcs) (hm : In K hs h) (xT : SlS 3 smR h aoT nT cT tb) (hto : ∀ a ∈ s.arcs, 0 <= a.to /\ a.to < (tb.length : Int) /\ 0 <= a.out /\ a.out <= 1048576)
  (hbd : ∀ y ∈ tb, smBd y) (hp : ∀ j, j <= s.arcs.length -> smBd ((s.arcs.take j).foldl (smA tb) (sm0 s))) (hn : s.arcs.length <= 1000000) :
  Ct Tryz.prog w0 120 [.agg (stV s ao n c).toArray, .slice aoT nT cT] K hs (fun v K' hs' => K' = K /\ hs' = hs /\ v = .tuple #[.agg (smV (smS tb s)).toArray, .bool true]) := by
 obtain rfl := x.len
 obtain rfl := xT.len
 have hend := hp s.arcs.length (Nat.le_refl _)
 rw [List.take_of_length_le (Nat.le_refl _)] at hend
 refine enter Tryz.func120 (by kernel_rfl) rfl rfl rfl ?_
 refine sq (rg ?_)
 refine bx hT 0 rfl fun b2 => ?_
 refine al hT 0 (.agg #[.int .i64 0, .int .i64 0, .int .i64 0]) rfl (by kernel_rfl) fun b4 => ?_
 refine fin hT 1 rfl (th (sq (rg ?_)))
 refine ldp hT 1 1 rfl rfl rfl ?_
 refine bd hT 0 (.agg #[.int .i64 0, .int .i64 0, .int .i64 s.out]) rfl (fun w => by kernel_rfl) ?_
 refine al hT 0 (.agg #[.int .i64 0, .int .i64 0, .int .i64 0]) rfl (by kernel_rfl) fun b6 => ?_
 refine stS hT 0 0 rfl rfl (by kernel_rfl) rfl rfl ?_
 refine fin hT 0 rfl (th (jn (σ := Unit) (fun _ => [(1, .slice aoT tb.length cT), (2, .pointer (some ⟨b2, 0, none⟩)), (4, .pointer (some ⟨b4, 0, none⟩)), (6, .pointer (some ⟨b6, 0, none⟩))]) (fun _ => pt b6 (smV (sm0 s)).toArray 202 :: pt b4 #[.int .i64 0, .int .i64 0, .int .i64 0] 202 :: pt b2 (stV s ao s.arcs.length c).toArray 177 :: hs) (fun _ => True) ?_ ?_))
 ·refine sq (rg ?_)
  refine ldp hT 1 2 rfl rfl rfl ?_
  refine nmS fun b14 h14 => ?_
  refine fin hT 0 rfl (th (ifP h14 rfl (fun e1 => ?_) (fun e1 => ?_)))
  ·refine rg ?_
   refine stp hT 1 0 rfl rfl rfl rfl ?_
   refine fin hT 0 rfl ?_
   exact jx () trivial ⟨rfl, rfl, rfl, rfl, trivial⟩ rfl (by simp only [smV, sm0, if_pos e1]; rfl)
  ·refine sk ?_
   exact jx () trivial ⟨rfl, rfl, rfl, rfl, trivial⟩ rfl (by simp only [smV, sm0, if_neg e1]; rfl)
 ·rintro - -
  refine sq (sq (rg ?_))
  refine ldp hT 1 2 rfl rfl rfl ?_
  refine fin hT 2 rfl (th (bk (WC.perm (perm_front _ 2 _ rfl) (WC.drop ?_))))
  refine loop (σ := Nat) (fun j => [(1, .slice aoT tb.length cT), (4, .pointer (some ⟨b4, 0, none⟩)), (6, .pointer (some ⟨b6, 0, none⟩)), (17, .slice ao s.arcs.length c), (18, .int .i64 ((s.arcs.length : Nat) : Int)), (19, .int .i64 ((j : Nat) : Int))]) (fun _ => K) (fun j => pt b6 (smV ((s.arcs.take j).foldl (smA tb) (sm0 s))).toArray 202 :: pt b4 #[.int .i64 0, .int .i64 0, .int .i64 0] 202 :: hs)
   (fun j => j <= s.arcs.length) (fun j => s.arcs.length - j) 0 (Nat.zero_le _) ⟨rfl, rfl, rfl, rfl, rfl, rfl, trivial⟩ rfl rfl ?_
  intro j hj
  refine sq (rg ?_)
  refine cmpS hT 0 rfl fun b20 h20 => ?_
  refine fin hT 0 rfl (th (sq (ifP h20 rfl (fun e3 => ?_) (fun e3 => ?_))))
  ·have hjl : j < s.arcs.length := by omega
   obtain ⟨a, ha⟩ : ∃ a, a = s.arcs[j] := ⟨_, rfl⟩
   have ham : a ∈ s.arcs := by rw [ha]; exact List.getElem_mem hjl
   obtain ⟨t1, t2, t3, t4⟩ := hto a ham
   have htn : ((a.to.toNat : Nat) : Int) = a.to := by omega
   obtain ⟨y, hy⟩ : ∃ y, y = tb.getD a.to.toNat ⟨0, 0, 0⟩ := ⟨_, rfl⟩
   have hyg : tb[a.to.toNat]? = some y := by rw [hy, List.getD_eq_getElem?_getD, List.getElem?_eq_getElem (show a.to.toNat < tb.length by omega)]; rfl
   have hyb := hbd y (List.mem_of_getElem? hyg)
   obtain ⟨q, hq⟩ : ∃ q, q = (s.arcs.take j).foldl (smA tb) (sm0 s) := ⟨_, rfl⟩
   have hqb := hp j (by omega)
   have hqn := hp (j + 1) hjl
   have ht : s.arcs.take (j + 1) = s.arcs.take j ++ [a] := by rw [List.take_add_one, List.getElem?_eq_getElem hjl, ha]; rfl
   have hqs : (s.arcs.take (j + 1)).foldl (smA tb) (sm0 s) = smA tb q a := by rw [ht, List.foldl_append, <- hq]; rfl
   rw [hqs] at hqn
   rw [<- hq] at hqb ⊢
   simp only [smA, <- hy] at hqn
   obtain ⟨ad, rfl⟩ := x.addr (by omega) (by decide)
   obtain ⟨vs, xv⟩ := x.isS
   obtain ⟨cs, hc, hcl, hcell⟩ := x.cells (i := j) (x := a) (by rw [List.getElem?_eq_getElem hjl, ha])
   obtain rfl := hc
   obtain ⟨at', rfl⟩ := xT.addr (by omega) (by decide)
   obtain ⟨vt, xvt⟩ := xT.isS
   obtain ⟨ct, hct, hctl, hcellt⟩ := xT.cells (i := a.to.toNat) (x := y) hyg
   obtain rfl := hct
   refine sk (th (sq (bk (sq (rg ?_)))))
   refine ixs hT 0 j rfl rfl xv hjl (by decide) fun a32 ha => ?_
   cases ha
   refine lds hT 0 (arcV a) rfl (by kernel_rfl) (.inl rfl) hcell ?_
   refine al hT 0 (.agg #[.int .i32 0, .int .i64 0, .int .i64 0]) rfl (by kernel_rfl) fun b8 => ?_
   refine stS hT 0 0 rfl rfl (by kernel_rfl) rfl rfl ?_
   refine fin hT 0 rfl (th (sq (rg ?_)))
   refine ldp hT 2 0 rfl rfl rfl ?_
   refine ixs hT 0 a.to.toNat rfl htn.symm xvt (by omega) (by decide) fun a26 ha => ?_
   cases ha
   refine lds hT 0 (smV y) rfl (by kernel_rfl) (In.cons (In.cons (In.cons hm))) hcellt ?_
   refine al hT 0 (.agg #[.int .i64 0, .int .i64 0, .int .i64 0]) rfl (by kernel_rfl) fun b9 => ?_
   refine stS hT 0 0 rfl rfl (by kernel_rfl) rfl rfl ?_
   refine fin hT 0 rfl (th (sq (rg ?_)))
   refine ldp hT 1 2 rfl rfl rfl ?_
   refine ldp hT 1 0 rfl rfl rfl ?_
   refine ar hT 0 rfl (i64w (x := q.w + y.w) (by unfold smBd at hqb hyb; omega)) ?_
   refine stp hT 1 2 rfl rfl rfl rfl ?_
   refine fin hT 0 rfl (th (sq (rg ?_)))
   refine ldp hT 1 2 rfl rfl rfl ?_
   refine ldp hT 1 0 rfl rfl rfl ?_
   refine ar hT 0 rfl (i64w (x := y.d + 1) (by unfold smBd at hqb hyb; omega)) ?_
   refine stp hT 2 2 rfl rfl rfl rfl ?_
   refine fin hT 0 rfl (th (sq (rg ?_)))
   refine ldp hT 1 2 rfl rfl rfl ?_
   refine ldp hT 1 1 rfl rfl rfl ?_
   refine ldp hT 1 0 rfl rfl rfl ?_
   refine ar hT 0 rfl (i64w (x := a.out + y.t) (by unfold smBd at hqb hyb; omega)) ?_
   refine stp hT 2 2 rfl rfl rfl rfl ?_
   refine fin hT 0 rfl (th (sq (rg ?_)))
   refine ldp hT 1 2 rfl rfl rfl ?_
   refine cmp hT 0 rfl (fun h4 => absurd h4 (by have := hqn.2.1; dsimp only at this; omega)) (fun h4 => ?_)
   refine fin hT 0 rfl (th (ifF rfl (sk (bl (th (rg ?_))))))
   refine ar hT 0 rfl (i64w (x := ((j + 1 : Nat) : Int)) (by omega)) ?_
   refine fin hT 1 rfl (WQ.drop (WQ.drop ?_))
   exact again (x := j) (j + 1) ⟨rfl, rfl, rfl, rfl, rfl, rfl, trivial⟩ rfl (by rw [hqs]; simp only [smA, <- hy]; rfl) hjl (by omega)
  ·obtain rfl : j = s.arcs.length := by omega
   have hq : (s.arcs.take s.arcs.length).foldl (smA tb) (sm0 s) = smS tb s := by rw [List.take_of_length_le (Nat.le_refl _)]; rfl
   rw [hq]
   have hend' : smBd (smS tb s) := hend
   unfold smBd at hend'
   refine ex (xt (xt (xb (th (sq (rga [pt b6 (smV (smS tb s)).toArray 202] 11 [0, 2, 4, 6, 8, 10, 12, 14, 16, 19, 20] (by simp) (by kernel_rfl) (by kernel_rfl) ?_))))))
   refine dldS hT (by kernel_rfl) 0 0 rfl (by kernel_rfl) rfl (by kernel_rfl) ?_
   refine dldpw hT (by kernel_rfl) 1 0 rfl (by kernel_rfl) rfl rfl ?_
   refine dcmp hT (by kernel_rfl) 0 ((smS tb s).d <= 24) rfl (by simp) (fun h5 => ?_) (fun h5 => absurd hend'.2.2.2.1 h5)
   refine dldpw hT (by kernel_rfl) 2 0 rfl (by kernel_rfl) rfl rfl ?_
   refine dcmp hT (by kernel_rfl) 0 ((smS tb s).t <= 1048576) rfl (by simp) (fun h6 => ?_) (fun h6 => absurd hend'.2.2.2.2.2 h6)
   refine dact hT (by kernel_rfl) 1 rfl ?_
   refine stS hT 0 1 rfl rfl (by kernel_rfl) rfl rfl ?_
   refine dnex [pt b6 (smV (smS tb s)).toArray 202] (by simp) (by simp) rfl ?_
   refine dend hT (by kernel_rfl) 1 rfl (th (rt ?_))
   exact retcP 1 2 rfl rfl rfl rfl (by kernel_rfl) ⟨rfl, rfl, rfl⟩
end Go.Proofs.YtejkjbkodcamoaaGreatDoor
namespace Go.En
end Go.En
namespace Go.Proofs.YtejkjbkodcamoaaGreatDoor
open Go.En
attribute [local irreducible] Code.wp wpList Calls
end Go.Proofs.YtejkjbkodcamoaaGreatDoor
namespace Go.En
theorem BI.bld0 : BI bld0 := ⟨by constructor <;> simp [En.bld0, mget], by simp [En.bld0, mget], by simp [En.bld0], by simp [En.bld0]⟩
end Go.En
end
section
namespace Go.En
def seenA (n k : Nat) : Array Value := ((List.range n).map fun j => Value.bool (decide (j < k))).toArray
theorem seenA_size (n k : Nat) : (seenA n k).size = n := by simp [seenA]
theorem seenA_get {n k j : Nat} (h : j < n) : (seenA n k)[j]? = some (.bool (decide (j < k))) := by simp [seenA, h]
theorem seenA_0 (n : Nat) : Array.replicate n (Value.bool false) = seenA n 0 := by
 apply Array.ext_getElem?
 intro j
 by_cases h : j < n
 ·rw [seenA_get h]; simp [h]
 ·rw [Array.getElem?_eq_none (by simp; omega), Array.getElem?_eq_none (by rw [seenA_size]; omega)]
theorem seenA_set {n k : Nat} (h : k < n) : (seenA n k).setIfInBounds k (.bool true) = seenA n (k + 1) := by
 apply Array.ext_getElem?
 intro j
 rw [Array.getElem?_setIfInBounds]
 by_cases e : k = j
 ·subst e
  rw [if_pos rfl, if_pos (by rw [seenA_size]; exact h), seenA_get h]; simp
 ·rw [if_neg e]
  by_cases hj : j < n
  ·rw [seenA_get hj, seenA_get hj]
   have : decide (j < k) = decide (j < k + 1) := by rw [decide_eq_decide]; omega
   rw [this]
  ·rw [Array.getElem?_eq_none (by rw [seenA_size]; omega), Array.getElem?_eq_none (by rw [seenA_size]; omega)]
end Go.En
namespace Go.Proofs.YtejkjbkodcamoaaGreatDoor
open Go.En
attribute [local irreducible] Code.wp wpList Calls
theorem eqKey (a b : Int × Int × Int × Int) (w : World) : (Op.equal 205 (keyG a) (keyG b)).run Tryz.prog w = .ok (decide (a = b)) w := by
 obtain ⟨i, hi⟩ := info_of_underlying (P := Tryz.prog) Tryz.underlying3
 obtain ⟨a1, a2, a3, a4⟩ := a
 obtain ⟨b1, b2, b3, b4⟩ := b
 have qu3 := Tryz.underlying3
 have qa3 := Tryz.isAgg3
 have qz3 := Tryz.sizeOf3
 unfold Op.equal Op.maxDepth keyG
 rw [show (10000 : Nat) = 9999 + 1 from rfl, run_equalIn_array w 9999 _ _ Tryz.underlying205 hi, show Tryz.prog.cellsOf 3 = 1 from by kernel_rfl]
 simp only [show List.range 4 = [0, 1, 2, 3] from rfl, Op.eqItems]
 go_simp
 by_cases h1 : a1 = b1 <;> by_cases h2 : a2 = b2 <;> by_cases h3 : a3 = b3 <;> by_cases h4 : a4 = b4 <;> simp [h1, h2, h3, h4]
theorem keyOK4 : KeyOK Tryz.prog 205 keyG :=
 KeyOK.ofAgg Tryz.underlying205 (fun a b => rfl) eqKey (fun e k w => by unfold keyG; kernel_rfl) (fun k => by simp [keyG, Instr.sameBits])
def nFn (b1 b4 b5 b3 : Nat) : Value := .func (.func 135) #[] #[.pointer (some ⟨b1, 0, none⟩), .pointer (some ⟨b4, 0, none⟩), .pointer (some ⟨b5, 0, none⟩), .pointer (some ⟨b3, 0, none⟩)]
theorem stS_le {K K' : PH} (l : Le K K') {ao : Option Addr} {n c : Nat} {xs : List StP} (h : SlS 3 (stR K) K ao n c xs) : SlS 3 (stR K') K' ao n c xs :=
 h.le l fun _ _ ⟨a, m, d, h1, h2⟩ => ⟨a, m, d, h1, h2.le l fun _ _ h => h⟩
end Go.Proofs.YtejkjbkodcamoaaGreatDoor
namespace Go.En
open Go.Proofs.YtejkjbkodcamoaaGreatDoor
theorem bd0 : smBd ⟨0, 0, 0⟩ := by unfold smBd; decide
def smC (xs : List SmP) : Array Value := (xs.map smV).flatten.toArray
theorem smC_ok (xs : List SmP) : ∀ d ∈ xs.map smV, d.length = 3 := by
 intro d hd
 obtain ⟨x, _, rfl⟩ := List.mem_map.1 hd
 rfl
theorem smC_size (xs : List SmP) : (smC xs).size = xs.length * 3 := by
 unfold smC
 rw [List.size_toArray, flat_len (smC_ok xs), List.length_map]
theorem smC_al : ∀ xs : List SmP, Al2 smR (xs.map smV) xs
 | [] => trivial
 | x :: xs => ⟨rfl, smC_al xs⟩
theorem smC_set {xs : List SmP} {j : Nat} (hj : j < xs.length) (x : SmP) : ((smC xs).toList.take (j * 3) ++ (smV x).toArray.toList ++ (smC xs).toList.drop (j * 3 + (smV x).toArray.toList.length)).toArray = smC (xs.set j x) := by
 have := flat_set (smC_ok xs) (i := j) (by simpa using hj) (v := smV x) rfl
 unfold smC
 simp only [this, List.map_set]
end Go.En
namespace Go.Proofs.YtejkjbkodcamoaaGreatDoor
open Go.En
attribute [local irreducible] Code.wp wpList Calls
end Go.Proofs.YtejkjbkodcamoaaGreatDoor
end
section
namespace Go.En
open Go.Proofs.YtejkjbkodcamoaaGreatDoor
abbrev sm00 : SmP := ⟨0, 0, 0⟩
theorem smT_snoc (l : List StP) (s : StP) : smT (l ++ [s]) = smT l ++ [smS (smT l) s] := by simp [smT, List.foldl_append]
theorem smT_fold : ∀ (t : List StP) (tb : List SmP), ∃ r, t.foldl (fun tb s => tb ++ [smS tb s]) tb = tb ++ r /\ r.length = t.length
 | [], tb => ⟨[], by simp, rfl⟩
 | s :: t, tb => by
  obtain ⟨r, h, hl⟩ := smT_fold t (tb ++ [smS tb s])
  exact ⟨smS tb s :: r, by simp [h], by simp [hl]⟩
theorem smT_len (l : List StP) : (smT l).length = l.length := by
 obtain ⟨r, h, hl⟩ := smT_fold l []
 unfold smT
 rw [h]; simpa using hl
theorem smT_pre (l t : List StP) : ∃ r, smT (l ++ t) = smT l ++ r := by
 obtain ⟨r, h, _⟩ := smT_fold t (smT l)
 exact ⟨r, by rw [smT, List.foldl_append]; exact h⟩
theorem smT_get (l t : List StP) {i : Nat} (h : i < l.length) : (smT (l ++ t))[i]? = (smT l)[i]? := by
 obtain ⟨r, e⟩ := smT_pre l t
 rw [e, List.getElem?_append_left (by rw [smT_len]; exact h)]
theorem smA_cong {tb tb' : List SmP} : ∀ {l : List ArcP} (x : SmP), (∀ a ∈ l, tb.getD a.to.toNat sm00 = tb'.getD a.to.toNat sm00) -> l.foldl (smA tb) x = l.foldl (smA tb') x
 | [], x, h => rfl
 | a :: l, x, h => by
  have h1 : smA tb x a = smA tb' x a := by
   unfold smA
   rw [h a (by simp)]
  rw [List.foldl_cons, List.foldl_cons, h1]
  exact smA_cong _ fun b hb => h b (by simp [hb])
structure SmW (x : SmP) (W : List Wd) : Prop where
 w : x.w = (W.length : Int)
 d0 : 0 <= x.d
 d : ∀ D : Nat, (∀ y ∈ W, y.1.length <= D) -> x.d <= (D : Int)
 t0 : 0 <= x.t
 t : ∀ T : Int, 0 <= T -> (∀ y ∈ W, y.2 <= T) -> x.t <= T
def w0P (s : StP) : List Wd := if s.fin = true then [([], s.out)] else []
theorem fold_sm {tb : List SmP} {wtb : List (List Wd)} : ∀ (l : List ArcP) (x : SmP) (W : List Wd), SmW x W -> (∀ a ∈ l, 0 <= a.out /\ SmW (tb.getD a.to.toNat sm00) (wtb.getD a.to.toNat []) /\ wtb.getD a.to.toNat [] ≠ [] /\ ∀ y ∈ wtb.getD a.to.toNat [], 0 <= y.2) ->
  SmW (l.foldl (smA tb) x) (W ++ wa wtb l)
 | [], x, W, h, _ => by simpa [wa] using h
 | a :: l, x, W, h, hl => by
  obtain ⟨h1, h2, h3, h4⟩ := hl a (by simp)
  have hs : SmW (smA tb x a) (W ++ (wtb.getD a.to.toNat []).map (pre1 a)) := by
   obtain ⟨y0, hy0⟩ := List.exists_mem_of_ne_nil _ h3
   refine ⟨?_, ?_, fun D hD => ?_, ?_, fun T hT hW => ?_⟩
   ·show x.w + (tb.getD a.to.toNat sm00).w = _
    rw [h.w, h2.w, List.length_append, List.length_map]; omega
   ·show 0 <= maxG x.d _
    have := h.d0
    have := h2.d0
    unfold maxG; split <;> omega
   ·have hd := h.d D fun y hy => hD y (by simp [hy])
    have hp : ∀ y ∈ wtb.getD a.to.toNat [], y.1.length + 1 <= D := fun y hy => hD (pre1 a y) (List.mem_append.2 (.inr (List.mem_map.2 ⟨y, hy, rfl⟩)))
    have h5 := hp y0 hy0
    have h6 := h2.d (D - 1) fun y hy => by have := hp y hy; omega
    show maxG x.d ((tb.getD a.to.toNat sm00).d + 1) <= _
    unfold maxG
    split <;> omega
   ·show 0 <= maxG x.t _
    have := h.t0
    have := h2.t0
    unfold maxG; split <;> omega
   ·have hd := h.t T hT fun y hy => hW y (by simp [hy])
    have hp : ∀ y ∈ wtb.getD a.to.toNat [], a.out + y.2 <= T := fun y hy => hW (pre1 a y) (List.mem_append.2 (.inr (List.mem_map.2 ⟨y, hy, rfl⟩)))
    have h5 := hp y0 hy0
    have h7 := h4 y0 hy0
    have h6 := h2.t (T - a.out) (by omega) fun y hy => by have := hp y hy; omega
    show maxG x.t (a.out + (tb.getD a.to.toNat sm00).t) <= _
    unfold maxG
    split <;> omega
  have := fold_sm l _ _ hs fun b hb => hl b (by simp [hb])
  simpa [wa, List.append_assoc] using this
theorem sm0_w {i : Nat} {s : StP} (h : SFm i s) : SmW (sm0 s) (w0P s) := by
 have ho := h.out
 have hf := h.fin
 unfold sm0 w0P
 by_cases e : s.fin = true
 ·rw [if_pos e, if_pos e]
  exact ⟨rfl, Int.le_refl _, fun D _ => by dsimp only; omega, ho.1, fun T _ h => h ([], s.out) (by simp)⟩
 ·rw [if_neg e, if_neg e]
  rcases hf with hf | hf
  ·exact absurd hf e
  ·exact ⟨rfl, Int.le_refl _, fun D _ => by dsimp only; omega, ho.1, fun T h _ => by dsimp only; omega⟩
theorem smT_at {sts : List StP} {i : Nat} {s : StP} (h : sts[i]? = some s) (ht : ∀ a ∈ s.arcs, 0 <= a.to /\ a.to < (i : Int)) : (smT sts)[i]? = some (smS (smT sts) s) := by
 have hi := (List.getElem?_eq_some_iff.1 h).1
 have hs : sts[i] = s := (List.getElem?_eq_some_iff.1 h).2
 have e : sts = sts.take i ++ [s] ++ sts.drop (i + 1) := by
  rw [<- hs, List.append_assoc, List.singleton_append, List.getElem_cons_drop, List.take_append_drop]
 have hl : (sts.take i).length = i := by simp; omega
 have e2 : smS (smT (sts.take i)) s = smS (smT sts) s := by
  unfold smS
  refine smA_cong _ fun a ha => ?_
  have := ht a ha
  conv => rhs; rw [e, List.append_assoc]
  rw [List.getD_eq_getElem?_getD, List.getD_eq_getElem?_getD, smT_get _ _ (by omega)]
 rw [<- e2]
 conv => lhs; rw [e]
 rw [smT_get _ _ (by simp; omega), smT_snoc, List.getElem?_append_right (by rw [smT_len]; omega), smT_len, hl]
 simp
theorem LFm.to {sts : List StP} (h : LFm sts) {i : Nat} {s : StP} (hs : sts[i]? = some s) : ∀ a ∈ s.arcs, 0 <= a.to /\ a.to < (i : Int) := fun a ha => ((h i s hs).arc a ha).to
theorem sm_words {sts : List StP} (hf : LFm sts) : ∀ (i : Nat), i < sts.length -> SmW ((smT sts).getD i sm00) ((wt sts).getD i []) /\ (wt sts).getD i [] ≠ [] /\ ∀ y ∈ (wt sts).getD i [], 0 <= y.2 := by
 intro i
 induction i using Nat.strongRecOn with
 | _ i ih =>
  intro hi
  obtain ⟨s, hs⟩ : ∃ s, sts[i]? = some s := ⟨_, List.getElem?_eq_getElem hi⟩
  have fm := hf i s hs
  have h1 := wt_at hs (hf.to hs)
  have h2 := smT_at hs (hf.to hs)
  have e1 : (wt sts).getD i [] = w0P s ++ wa (wt sts) s.arcs := by rw [List.getD_eq_getElem?_getD, h1]; rfl
  have e2 : (smT sts).getD i sm00 = smS (smT sts) s := by rw [List.getD_eq_getElem?_getD, h2]; rfl
  have hA : ∀ a ∈ s.arcs, 0 <= a.out /\ SmW ((smT sts).getD a.to.toNat sm00) ((wt sts).getD a.to.toNat []) /\ (wt sts).getD a.to.toNat [] ≠ [] /\ ∀ y ∈ (wt sts).getD a.to.toNat [], 0 <= y.2 := fun a ha => by
   have g := (fm.arc a ha).to
   exact ⟨(fm.arc a ha).out.1, ih a.to.toNat (by omega) (by omega)⟩
  rw [e1, e2]
  refine ⟨fold_sm s.arcs _ _ (sm0_w fm) hA, ?_, ?_⟩
  ·rcases fm.low with ⟨h3, _⟩ | ⟨a, ha, _⟩
   ·unfold w0P; rw [if_pos h3]; simp
   ·obtain ⟨y, hy⟩ := List.exists_mem_of_ne_nil _ (hA a ha).2.2.1
    have : pre1 a y ∈ wa (wt sts) s.arcs := List.mem_flatMap.2 ⟨a, ha, List.mem_map.2 ⟨y, hy, rfl⟩⟩
    exact List.ne_nil_of_mem (List.mem_append.2 (.inr this))
  ·intro y hy
   rcases List.mem_append.1 hy with hy | hy
   ·unfold w0P at hy
    split at hy
    ·simp only [List.mem_singleton] at hy; rw [hy]; exact fm.out.1
    ·cases hy
   ·obtain ⟨a, ha, hy⟩ := List.mem_flatMap.1 hy
    obtain ⟨z, hz, rfl⟩ := List.mem_map.1 hy
    have h5 := (hA a ha).2.2.2 z hz
    have h6 := (hA a ha).1
    show 0 <= a.out + z.2
    omega
theorem vis_all {sts : List StP} {P : Nat -> Prop} (hP : ∀ (i : Nat) s, sts[i]? = some s -> P i -> ∀ a ∈ s.arcs, P a.to.toNat) {i k : Nat} (v : Vis sts i k) : P i -> ∀ j, k <= j -> j <= i -> P j := by
 refine Vis.rec (motive_1 := fun i k _ => P i -> ∀ j, k <= j -> j <= i -> P j) (motive_2 := fun l k m _ => (∀ a ∈ l, P a.to.toNat) -> ∀ j, k <= j -> j < m -> P j) ?_ ?_ ?_ ?_ v
 ·intro i k s h g ih hi j h1 h2
  by_cases e : j = i
  ·rw [e]; exact hi
  ·exact ih (hP i s h hi) j h1 (by omega)
 ·intro k _ j h1 h2; omega
 ·intro a l k m h g ih hl j h1 h2
  exact ih (fun b hb => hl b (by simp [hb])) j h1 h2
 ·intro a l k m h v g ih1 ih2 hl j h1 h2
  by_cases e : j <= a.to.toNat
  ·exact ih1 (hl a (by simp)) j h1 e
  ·exact ih2 (fun b hb => hl b (by simp [hb])) j (by omega) h2
def WdB (W : List Wd) : Prop := W.length <= 4096 /\ ∀ y ∈ W, y.1.length <= 24 /\ y.2 <= 1048576
theorem wa_len {tb : List (List Wd)} {l : List ArcP} {a : ArcP} (h : a ∈ l) : (tb.getD a.to.toNat []).length <= (wa tb l).length := by
 induction l with
 | nil => cases h
 | cons b l ih =>
  simp only [wa, List.flatMap_cons, List.length_append, List.length_map] at ih ⊢
  rcases List.mem_cons.1 h with rfl | h
  ·omega
  ·have := ih h; omega
theorem wdB_arc {sts : List StP} (hf : LFm sts) (i : Nat) (s : StP) (hs : sts[i]? = some s) (h : WdB ((wt sts).getD i [])) : ∀ a ∈ s.arcs, WdB ((wt sts).getD a.to.toNat []) := by
 intro a ha
 have h1 := wt_at hs (hf.to hs)
 have e1 : (wt sts).getD i [] = w0P s ++ wa (wt sts) s.arcs := by rw [List.getD_eq_getElem?_getD, h1]; rfl
 rw [e1] at h
 refine ⟨?_, fun y hy => ?_⟩
 ·have := wa_len (tb := wt sts) ha
  have h2 := h.1
  rw [List.length_append] at h2
  omega
 ·have := h.2 (pre1 a y) (List.mem_append.2 (.inr (List.mem_flatMap.2 ⟨a, ha, List.mem_map.2 ⟨y, hy, rfl⟩⟩)))
  have h3 := ((hf i s hs).arc a ha).out
  simp only [pre1, List.length_cons] at this
  omega
structure MOK (base : Int) (sts : List StP) : Prop where
 ne : 0 < sts.length
 len : sts.length <= 98305
 bas : 1 <= base /\ base <= 1048576
 root : ∀ s, sts[sts.length - 1]? = some s -> s.fin = false
 fm : LFm sts
 nd : sts.Nodup
 wd : ∀ i, i < sts.length -> WdB ((wt sts).getD i [])
 top : ∀ y ∈ (wt sts).getD (sts.length - 1) [], base + y.2 <= 1048576
 vis : Vis sts (sts.length - 1) 0
theorem MOK.sums {base : Int} {sts : List StP} (h : MOK base sts) {i : Nat} {s : StP} (hs : sts[i]? = some s) : ∀ j, j <= s.arcs.length -> smBd ((s.arcs.take j).foldl (smA (smT sts)) (sm0 s)) := by
 intro j hj
 have hi := (List.getElem?_eq_some_iff.1 hs).1
 have fm := h.fm i s hs
 have hA : ∀ a ∈ s.arcs, 0 <= a.out /\ SmW ((smT sts).getD a.to.toNat sm00) ((wt sts).getD a.to.toNat []) /\ (wt sts).getD a.to.toNat [] ≠ [] /\ ∀ y ∈ (wt sts).getD a.to.toNat [], 0 <= y.2 := fun a ha => by
  have g := (fm.arc a ha).to
  exact ⟨(fm.arc a ha).out.1, sm_words h.fm a.to.toNat (by omega)⟩
 have h1 := wt_at hs (h.fm.to hs)
 have e1 : (wt sts).getD i [] = w0P s ++ wa (wt sts) s.arcs := by rw [List.getD_eq_getElem?_getD, h1]; rfl
 have hw := h.wd i hi
 rw [e1] at hw
 have g := fold_sm (s.arcs.take j) _ _ (sm0_w fm) fun a ha => hA a (List.mem_of_mem_take ha)
 have e2 : wa (wt sts) s.arcs = wa (wt sts) (s.arcs.take j) ++ wa (wt sts) (s.arcs.drop j) := by
  unfold wa
  rw [<- List.flatMap_append, List.take_append_drop]
 rw [e2, <- List.append_assoc] at hw
 have hl := hw.1
 rw [List.length_append] at hl
 have hD := g.d 24 fun y hy => (hw.2 y (List.mem_append.2 (.inl hy))).1
 have hT := g.t 1048576 (by decide) fun y hy => (hw.2 y (List.mem_append.2 (.inl hy))).2
 have hww := g.w
 exact ⟨by omega, by omega, g.d0, by omega, g.t0, hT⟩
theorem MOK.topT {base : Int} {sts : List StP} (h : MOK base sts) : 0 <= ((smT sts).getD (sts.length - 1) sm00).t /\ base + ((smT sts).getD (sts.length - 1) sm00).t <= 1048576 := by
 have hn := h.ne
 have hb := h.bas
 obtain ⟨h1, _, _⟩ := sm_words h.fm (sts.length - 1) (by omega)
 have := h1.t (1048576 - base) (by omega) fun y hy => by have := h.top y hy; omega
 exact ⟨h1.t0, by omega⟩
theorem mok_built {l : List RstP} (ok : OkX 24 l) (hl : l ≠ []) (hn : l.length <= 4096) (hne : ∀ r ∈ l, r.rs ≠ []) (hw : ∀ r ∈ l, 1 <= r.w) (ht : totR l <= 98304) :
  MOK (leastP l) (stateP 25 bld0 l).1.sts /\ (wt (stateP 25 bld0 l).1.sts).getD ((stateP 25 bld0 l).1.sts.length - 1) [] = wdsR (leastP l) l := by
 have hB : Built bld0 l (stateP 25 bld0 l) := stateP_built 24 bld0 l BI.bld0 (by intro i s h; simp [bld0] at h) ok hl (by simp [bld0]; omega)
 have hlen : (stateP 25 bld0 l).1.sts.length <= bld0.sts.length + totR l + 1 := stateP_sts 24 bld0 l ok.ok hl
 have hfm := hB.fm
 have hnd := hB.bi.nodup
 obtain ⟨n, h1, h2, h3⟩ := hB.idx
 clear hB
 rcases h3 with ⟨_, h3⟩ | ⟨h3, _, h5⟩
 ·simp [bld0] at h3
 generalize hS : (stateP 25 bld0 l).1.sts = sts at *
 have hlen' : sts.length <= totR l + 1 := by simpa [bld0] using hlen
 have hn' : n = sts.length - 1 := by omega
 subst hn'
 have hroot : (wt sts).getD (sts.length - 1) [] = wdsR (leastP l) l := by rw [List.getD_eq_getElem?_getD, h2]; rfl
 have h5' : Vis sts (sts.length - 1) 0 := h5
 obtain ⟨r0, hr0, hr0'⟩ := leastP_mem hl
 have hPr : WdB ((wt sts).getD (sts.length - 1) []) := by
  rw [hroot]
  refine ⟨by simp [wdsR]; exact hn, fun y hy => ?_⟩
  obtain ⟨r, hr, rfl⟩ := List.mem_map.1 hy
  have g1 := ok.ok.dep r hr
  have g2 := ok.wt r hr
  have g3 := hw r0 hr0
  exact ⟨g1, by show r.w - leastP l <= _; omega⟩
 refine ⟨⟨by omega, by omega, ⟨by rw [<- hr0']; exact hw r0 hr0, by rw [<- hr0']; exact ok.wt r0 hr0⟩, fun s hs => ?_, hfm, hnd, fun i hi => vis_all (P := fun i => WdB ((wt sts).getD i [])) (fun i s hs h => wdB_arc hfm i s hs h) h5' hPr i (Nat.zero_le _) (by omega), fun y hy => ?_, h5'⟩, hroot⟩
 ·cases hf : s.fin with
  | false => rfl
  | true =>
   have e1 : (wt sts).getD (sts.length - 1) [] = w0P s ++ wa (wt sts) s.arcs := by rw [List.getD_eq_getElem?_getD, wt_at hs (hfm.to hs)]; rfl
   have : (([], s.out) : Wd) ∈ wdsR (leastP l) l := by
    rw [<- hroot, e1]
    unfold w0P
    rw [if_pos hf]
    simp
   obtain ⟨r, hr, he⟩ := List.mem_map.1 this
   simp only [Prod.mk.injEq] at he
   exact absurd he.1 (hne r hr)
 ·rw [hroot] at hy
  obtain ⟨r, hr, rfl⟩ := List.mem_map.1 hy
  have := ok.wt r hr
  show leastP l + (r.w - leastP l) <= _
  omega
end Go.En
end
section
namespace Go.En
def kS (k : Int × Int) (a : ArcP) : Int × Int := (w64 (w64 (w64 (k.1 * 31) + a.lb) + a.out), w64 (w64 (k.2 * 37) + a.to))
def kF (l : List ArcP) : Int × Int := l.foldl kS (0, 0)
def keyQ (s : StP) : Int × Int × Int × Int := (s.out, (s.arcs.length : Int), (kF s.arcs).1, (kF s.arcs).2)
theorem vas_end {sts : List StP} {k m : Nat} (h : Vas sts [] k m) : k = m := by cases h; rfl
theorem vas_cons {sts : List StP} {a : ArcP} {l : List ArcP} {k m : Nat} (h : Vas sts (a :: l) k m) : (a.to.toNat < k /\ Vas sts l k m) \/ (k <= a.to.toNat /\ Vis sts a.to.toNat k /\ Vas sts l (a.to.toNat + 1) m) := by
 cases h with
 | old h g => exact .inl ⟨h, g⟩
 | new h v g => exact .inr ⟨h, v, g⟩
theorem vis_inv {sts : List StP} {i k : Nat} (h : Vis sts i k) : ∃ s, sts[i]? = some s /\ Vas sts s.arcs k i := by
 cases h with
 | mk h g => exact ⟨_, h, g⟩
end Go.En
namespace Go.Proofs.YtejkjbkodcamoaaGreatDoor
open Go.En
attribute [local irreducible] Code.wp wpList Calls
theorem keyQC {w0 : World} {K : PH} {hs : List PH} (s : StP) (ao : Option Addr) (n c : Nat) (x : SlS 3 arcR K ao n c s.arcs) (hn : s.arcs.length <= 1000000) (hA : ∀ a ∈ s.arcs, 0 <= a.lb /\ a.lb <= 1114111) :
  Ct Tryz.prog w0 121 [.agg (stV s ao n c).toArray] K hs (fun v K' hs' => K' = K /\ hs' = hs /\ v = keyG (keyQ s)) := by
 obtain rfl := x.len
 refine enter Tryz.func121 (by kernel_rfl) rfl rfl rfl ?_
 refine sq (rg ?_)
 refine bx hT 0 rfl fun b1 => ?_
 refine al hT 0 (.agg #[.int .i64 0, .int .i64 0, .int .i64 0, .int .i64 0]) rfl (by kernel_rfl) fun b2 => ?_
 refine fin hT 0 rfl (th (sq (rg ?_)))
 refine ldp hT 1 1 rfl rfl rfl ?_
 refine ldp hT 1 1 rfl rfl rfl ?_
 refine bd hT 1 (.agg #[.int .i64 s.out, .int .i64 ((s.arcs.length : Nat) : Int), .int .i64 0, .int .i64 0]) rfl (fun w => by kernel_rfl) ?_
 refine al hT 0 (.agg #[.int .i64 0, .int .i64 0, .int .i64 0, .int .i64 0]) rfl (by kernel_rfl) fun b3 => ?_
 refine stS hT 0 0 rfl rfl (by kernel_rfl) rfl rfl ?_
 refine fin hT 0 rfl (th (sq (sq (rg ?_))))
 refine ldp hT 1 2 rfl rfl rfl ?_
 refine fin hT 2 rfl (th (bk ?_))
 refine loop (σ := Nat) (fun j => [(2, .pointer (some ⟨b2, 0, none⟩)), (3, .pointer (some ⟨b3, 0, none⟩)), (13, .slice ao s.arcs.length c), (14, .int .i64 ((s.arcs.length : Nat) : Int)), (15, .int .i64 ((j : Nat) : Int))]) (fun _ => K)
  (fun j => pt b3 #[.int .i64 s.out, .int .i64 ((s.arcs.length : Nat) : Int), .int .i64 (kF (s.arcs.take j)).1, .int .i64 (kF (s.arcs.take j)).2] 205 :: pt b2 #[.int .i64 0, .int .i64 0, .int .i64 0, .int .i64 0] 205 :: pt b1 (stV s ao s.arcs.length c).toArray 177 :: hs) (fun j => j <= s.arcs.length) (fun j => s.arcs.length - j) 0 (Nat.zero_le _) ⟨rfl, rfl, rfl, rfl, rfl, trivial⟩ rfl rfl ?_
 intro j hj
 refine sq (rg ?_)
 refine cmpS hT 0 rfl fun b16 h16 => ?_
 refine fin hT 0 rfl (th (sq (ifP h16 rfl (fun e2 => ?_) (fun e2 => ?_))))
 ·have hjl : j < s.arcs.length := by omega
  obtain ⟨a, ha⟩ : ∃ a, a = s.arcs[j] := ⟨_, rfl⟩
  have ham : a ∈ s.arcs := by rw [ha]; exact List.getElem_mem hjl
  have ht : kF (s.arcs.take (j + 1)) = kS (kF (s.arcs.take j)) a := by
   have : s.arcs.take (j + 1) = s.arcs.take j ++ [a] := by rw [List.take_add_one, List.getElem?_eq_getElem hjl, ha]; rfl
   unfold kF
   rw [this, List.foldl_append]; rfl
  obtain ⟨h1, h2⟩ := hA a ham
  generalize kF (s.arcs.take j) = q at ht ⊢
  obtain ⟨ad, rfl⟩ := x.addr (by omega) (by decide)
  obtain ⟨vs, xv⟩ := x.isS
  obtain ⟨cs, hc, hcl, hcell⟩ := x.cells (i := j) (x := a) (by rw [List.getElem?_eq_getElem hjl, ha])
  obtain rfl := hc
  refine sk (th (sq (bk (sq (rg ?_)))))
  refine ixs hT 0 j rfl rfl xv hjl (by decide) fun a32 ha => ?_
  cases ha
  refine lds hT 0 (arcV a) rfl (by kernel_rfl) (.inl rfl) hcell ?_
  refine al hT 0 (.agg #[.int .i32 0, .int .i64 0, .int .i64 0]) rfl (by kernel_rfl) fun b5 => ?_
  refine stS hT 0 0 rfl rfl (by kernel_rfl) rfl rfl ?_
  refine fin hT 0 rfl (th (sq (rg ?_)))
  refine ixa hT 0 (sz := 1) 2 rfl Tryz.underlying205 (by kernel_rfl) rfl (by decide) ?_
  simp only [add_mk, Nat.mul_one, Nat.zero_add]
  refine ldp hT 0 1 rfl rfl rfl ?_
  refine ar hT 0 rfl (v' := .int .i64 (w64 (q.1 * 31))) rfl ?_
  refine ldp hT 1 0 rfl rfl rfl ?_
  refine ar hT 0 rfl (i64w (x := a.lb) (by omega)) ?_
  refine ar hT 0 rfl (v' := .int .i64 (w64 (w64 (q.1 * 31) + a.lb))) rfl ?_
  refine ldp hT 1 0 rfl rfl rfl ?_
  refine ar hT 0 rfl (v' := .int .i64 (w64 (w64 (w64 (q.1 * 31) + a.lb) + a.out))) rfl ?_
  refine ixa hT 0 (sz := 1) 2 rfl Tryz.underlying205 (by kernel_rfl) rfl (by decide) ?_
  simp only [add_mk, Nat.mul_one, Nat.zero_add]
  refine stp hT 0 1 rfl rfl rfl rfl ?_
  refine fin hT 0 rfl (th (rg ?_))
  refine ixa hT 0 (sz := 1) 3 rfl Tryz.underlying205 (by kernel_rfl) rfl (by decide) ?_
  simp only [add_mk, Nat.mul_one, Nat.zero_add]
  refine ldp hT 0 1 rfl rfl rfl ?_
  refine ar hT 0 rfl (v' := .int .i64 (w64 (q.2 * 37))) rfl ?_
  refine ldp hT 1 0 rfl rfl rfl ?_
  refine ar hT 0 rfl (v' := .int .i64 (w64 (w64 (q.2 * 37) + a.to))) rfl ?_
  refine ixa hT 0 (sz := 1) 3 rfl Tryz.underlying205 (by kernel_rfl) rfl (by decide) ?_
  simp only [add_mk, Nat.mul_one, Nat.zero_add]
  refine stp hT 0 1 rfl rfl rfl rfl ?_
  refine fin hT 0 rfl (bl (th (rg ?_)))
  refine ar hT 0 rfl (i64w (x := ((j + 1 : Nat) : Int)) (by omega)) ?_
  refine fin hT 1 rfl (WQ.drop ?_)
  exact again (x := j) (j + 1) ⟨rfl, rfl, rfl, rfl, rfl, trivial⟩ rfl (by rw [ht]; rfl) hjl (by omega)
 ·obtain rfl : j = s.arcs.length := by omega
  rw [List.take_length]
  refine ex (xt (xt (xb (th (sq (rg ?_))))))
  refine ldS hT 0 0 rfl rfl (by kernel_rfl) ?_
  refine stS hT 0 1 rfl rfl (by kernel_rfl) rfl rfl ?_
  refine fin hT 0 rfl (th (rt ?_))
  exact retcA 1 3 rfl rfl rfl (by kernel_rfl) ⟨rfl, rfl, rfl⟩
def VisG (w0 : World) (K : PH) (hs : List PH) (n b1 b3 b4 b5 bS i k : Nat) : Prop :=
 Ct Tryz.prog w0 135 [.int .i64 ((i : Nat) : Int), .pointer (some ⟨b1, 0, none⟩), .pointer (some ⟨b4, 0, none⟩), .pointer (some ⟨b5, 0, none⟩), .pointer (some ⟨b3, 0, none⟩)] K
   (pt b3 #[.int .i64 ((k : Nat) : Int)] 3 :: pt bS (seenA n k) 4 :: hs)
   (fun v K' hs' => K' = K /\ hs' = pt b3 #[.int .i64 ((i + 1 : Nat) : Int)] 3 :: pt bS (seenA n (i + 1)) 4 :: hs /\ v = .bool true)
theorem visGS {w0 : World} {K : PH} {hs : List PH} (sts : List StP) (hf : LFm sts) (aoS : Option Addr) (cS b1 b3 b4 b5 bS : Nat) (hS : SlS 3 (stR K) K aoS sts.length cS sts) (h1 : Cell K ⟨b1, 1, none⟩ (.slice aoS sts.length cS))
  (h4 : Cell K ⟨b4, 0, none⟩ (.slice (some ⟨bS, 0, none⟩) sts.length sts.length)) (h5 : Cell K ⟨b5, 0, none⟩ (nFn b1 b4 b5 b3)) (hn : sts.length <= 1000000) (hal : ∀ s ∈ sts, s.arcs.length <= 1000000)
  (i k : Nat) (hi : i < sts.length) (hv : Vis sts i k) (hki : k <= i) (ih : ∀ i' k', i' < i -> k' <= i' -> Vis sts i' k' -> VisG w0 K hs sts.length b1 b3 b4 b5 bS i' k') : VisG w0 K hs sts.length b1 b3 b4 b5 bS i k := by
 obtain ⟨s, hs0, hvas⟩ := vis_inv hv
 have fm := hf i s hs0
 have hal' := hal s (List.mem_of_getElem? hs0)
 obtain ⟨ad, rfl⟩ := hS.addr (by omega) (by decide)
 obtain ⟨vs, xv⟩ := hS.isS
 obtain ⟨cs, ⟨aoA, nA, cA, rfl, xA⟩, hcl, hcell⟩ := hS.cells hs0
 obtain rfl := xA.len
 refine enter Tryz.func135 (by kernel_rfl) rfl rfl rfl ?_
 refine sq (rg ?_)
 refine fin hT 1 rfl (th (sq (sq (rg ?_))))
 refine ld hT 1 rfl (.inl rfl) h1 ?_
 refine ixs hT 1 i rfl rfl xv (by omega) (by decide) fun a12 ha => ?_
 cases ha
 refine ld hT 1 rfl (.inl rfl) (hcell 2 _ rfl) ?_
 refine fin hT 2 rfl (th (bk ?_))
 refine loop (σ := Nat × Nat) (fun x => [(0, .int .i64 ((i : Nat) : Int)), (1, .pointer (some ⟨b1, 0, none⟩)), (2, .pointer (some ⟨b4, 0, none⟩)), (3, .pointer (some ⟨b5, 0, none⟩)), (4, .pointer (some ⟨b3, 0, none⟩)), (14, .slice aoA s.arcs.length cA), (15, .int .i64 ((s.arcs.length : Nat) : Int)), (16, .int .i64 ((x.1 : Nat) : Int))]) (fun _ => K)
  (fun x => pt b3 #[.int .i64 ((x.2 : Nat) : Int)] 3 :: pt bS (seenA sts.length x.2) 4 :: hs) (fun x => x.1 <= s.arcs.length /\ x.2 <= i /\ Vas sts (s.arcs.drop x.1) x.2 i) (fun x => s.arcs.length - x.1) (0, k) ⟨Nat.zero_le _, hki, hvas⟩ ⟨rfl, rfl, rfl, rfl, rfl, rfl, rfl, rfl, trivial⟩ rfl rfl ?_
 rintro ⟨j, q⟩ ⟨hj, hq, hV⟩
 dsimp only at *
 refine sq (rg ?_)
 refine cmpS hT 0 rfl fun b17 h17 => ?_
 refine fin hT 0 rfl (th (sq (ifP h17 rfl (fun e2 => ?_) (fun e2 => ?_))))
 ·have hjl : j < s.arcs.length := by omega
  obtain ⟨a, ha0⟩ : ∃ a, a = s.arcs[j] := ⟨_, rfl⟩
  have ham : a ∈ s.arcs := by rw [ha0]; exact List.getElem_mem hjl
  have hto := (fm.arc a ham).to
  have htn : ((a.to.toNat : Nat) : Int) = a.to := by omega
  rw [List.drop_eq_getElem_cons hjl, <- ha0] at hV
  obtain ⟨adA, rfl⟩ := xA.addr (by omega) (by decide)
  obtain ⟨vsA, xvA⟩ := xA.isS
  obtain ⟨csA, hcs, hclA, hcellA⟩ := xA.cells (i := j) (x := a) (by rw [List.getElem?_eq_getElem hjl, ha0])
  obtain rfl := hcs
  have xs := (Own.ofPt (b := bS) (c := seenA sts.length q) (e := 4) (n := sts.length) (size := 1) (by rw [seenA_size]; omega) (by unfold maxLen; omega)).isS
  refine sk (th (sq (bk (sq (rg ?_)))))
  refine ixs hT 0 j rfl rfl xvA hjl (by decide) fun a18 ha => ?_
  cases ha
  refine lds hT 0 (arcV a) rfl (by kernel_rfl) (.inl rfl) hcellA ?_
  refine al hT 0 (.agg #[.int .i32 0, .int .i64 0, .int .i64 0]) rfl (by kernel_rfl) fun b8 => ?_
  refine stS hT 0 0 rfl rfl (by kernel_rfl) rfl rfl ?_
  refine fin hT 0 rfl (th (sq (rg ?_)))
  refine ld hT 0 rfl (.inl rfl) h4 ?_
  refine ldp hT 1 0 rfl rfl rfl ?_
  refine ix1 hT 0 a.to.toNat rfl htn.symm rfl xs (by rw [Array.getElem?_toList]; exact seenA_get (by omega)) fun a23 hc23 => ?_
  refine ld hT 0 rfl (.inr ⟨2, rfl⟩) hc23 ?_
  rcases vas_cons hV with ⟨g1, g2⟩ | ⟨g1, g2, g3⟩
  ·rw [show decide (a.to.toNat < q) = true from by simpa using g1]
   refine fin hT 8 rfl (th (ifF rfl ?_))
   refine sk (bl (th (rg (WL.drop ?_))))
   refine ar hT 0 rfl (i64w (x := ((j + 1 : Nat) : Int)) (by omega)) ?_
   refine fin hT 1 rfl ?_
   exact again (x := (j, q)) (j + 1, q) ⟨rfl, rfl, rfl, rfl, rfl, rfl, rfl, rfl, trivial⟩ rfl rfl ⟨hjl, hq, g2⟩ (by dsimp only; omega)
  ·rw [show decide (a.to.toNat < q) = false from by simpa using g1]
   have hrec := ih a.to.toNat q (by omega) g1 g2
   unfold VisG at hrec
   rw [htn] at hrec
   refine ld hT 2 rfl (.inl rfl) h5 ?_
   refine ldp hT 1 0 rfl rfl rfl ?_
   refine WL.drop ?_
   refine cl hT 0 rfl hrec ?_
   rintro v30 K30 hs30 ⟨rfl, rfl, rfl⟩
   refine fin hT 2 rfl (th (ifF rfl ?_))
   refine sk (bl (th (rg ?_)))
   refine ar hT 0 rfl (i64w (x := ((j + 1 : Nat) : Int)) (by omega)) ?_
   refine fin hT 1 rfl ?_
   exact again (x := (j, q)) (j + 1, a.to.toNat + 1) ⟨rfl, rfl, rfl, rfl, rfl, rfl, rfl, rfl, trivial⟩ rfl rfl ⟨hjl, by dsimp only; omega, g3⟩ (by dsimp only; omega)
 ·have hje : j = s.arcs.length := by omega
  rw [hje, List.drop_length] at hV
  obtain rfl := vas_end hV
  have xs := (Own.ofPt (b := bS) (c := seenA sts.length q) (e := 4) (n := sts.length) (size := 1) (by rw [seenA_size]; omega) (by unfold maxLen; omega)).isS
  refine ex (xt (xt (xb (th (sq (rg ?_))))))
  refine ld hT 0 rfl (.inl rfl) h4 ?_
  refine ixs hT 1 q rfl rfl xs (by omega) (by decide) fun a36 ha => ?_
  cases ha
  simp only [add_mk, Nat.zero_add, Nat.mul_one]
  refine stp hT 0 1 rfl rfl (seenA_get (by omega)) rfl ?_
  refine fin hT 0 rfl (th (sq (rg ?_)))
  refine ldp hT 0 0 rfl rfl rfl ?_
  refine ar hT 0 rfl (i64w (by omega)) ?_
  refine stp hT 0 0 rfl rfl rfl rfl ?_
  refine fin hT 0 rfl (th (sq (rg ?_)))
  refine ldp hT 0 0 rfl rfl rfl ?_
  refine ar hT 1 rfl (i64w (by omega)) ?_
  refine cmp hT 0 rfl (fun h42 => ?_) (fun h42 => absurd rfl h42)
  refine fin hT 1 rfl (th (rt ?_))
  exact ret1 rfl rfl ⟨rfl, by rw [seenA_set (by omega)]; rfl, rfl⟩
theorem visGC {w0 : World} {K : PH} {hs : List PH} (sts : List StP) (hf : LFm sts) (aoS : Option Addr) (cS b1 b3 b4 b5 bS : Nat) (hS : SlS 3 (stR K) K aoS sts.length cS sts) (h1 : Cell K ⟨b1, 1, none⟩ (.slice aoS sts.length cS))
  (h4 : Cell K ⟨b4, 0, none⟩ (.slice (some ⟨bS, 0, none⟩) sts.length sts.length)) (h5 : Cell K ⟨b5, 0, none⟩ (nFn b1 b4 b5 b3)) (hn : sts.length <= 1000000) (hal : ∀ s ∈ sts, s.arcs.length <= 1000000) :
  ∀ (i k : Nat), i < sts.length -> k <= i -> Vis sts i k -> VisG w0 K hs sts.length b1 b3 b4 b5 bS i k := by
 intro i
 induction i using Nat.strongRecOn with
 | _ i ih => exact fun k hi hki hv => visGS sts hf aoS cS b1 b3 b4 b5 bS hS h1 h4 h5 hn hal i k hi hv hki fun i' k' h1' h2' h3' => ih i' h1' k' (by omega) h2' h3'
theorem numberedG {w0 : World} {K : PH} {hs : List PH} (sts : List StP) (hf : LFm sts) (hv : Vis sts (sts.length - 1) 0) (hl : 0 < sts.length) (base : Int) (aoS : Option Addr) (cS : Nat) (hS : SlS 3 (stR K) K aoS sts.length cS sts) (hn : sts.length <= 1000000) (hal : ∀ s ∈ sts, s.arcs.length <= 1000000) :
  Ct Tryz.prog w0 123 [.agg #[.int .i64 base, .slice aoS sts.length cS]] K hs (fun v K' hs' => K' = K /\ hs' = hs /\ v = .bool true) := by
 refine enter Tryz.func123 (by kernel_rfl) rfl rfl rfl ?_
 refine sq (rg ?_)
 refine bx hT 0 rfl fun b1 => ?_
 refine fin hT 1 rfl (th (sq (rg ?_)))
 refine al hT 0 (.int .i64 0) rfl (by kernel_rfl) fun b3 => ?_
 refine stp hT 0 0 rfl rfl rfl rfl ?_
 refine fin hT 0 rfl (th (sq (rg ?_)))
 refine ldp hT 1 1 rfl rfl rfl ?_
 refine mks hT 1 sts.length (.bool false) rfl rfl rfl rfl (by show sts.length * 1 <= 2 ^ 47; omega) (by omega) (by omega) (by decide) fun bS oS => ?_
 rw [seenA_0]
 refine al hT 0 (.slice none 0 0) rfl (by kernel_rfl) fun b4 => ?_
 refine stp hT 0 0 rfl rfl rfl rfl ?_
 refine fin hT 0 rfl (th (sq (rg ?_)))
 refine al hT 0 (.nilFunc) rfl (by kernel_rfl) fun b5 => ?_
 refine fin hT 0 rfl (th (sq (rg ?_)))
 refine stp hT 1 0 rfl rfl rfl rfl ?_
 refine fin hT 0 rfl (th (WC.frz fun K1 le1 l5 => WC.frz fun K2 le2 l4 => WC.perm (perm_front _ 2 _ rfl) (WC.frz fun K3 le3 l1 => WC.perm (List.Perm.swap _ _ _) (sq (rg ?_)))))
 have c1 : Cell K3 ⟨b1, 1, none⟩ (.slice aoS sts.length cS) := (Cell.pt rfl).le l1
 have c4 : Cell K3 ⟨b4, 0, none⟩ (.slice (some ⟨bS, 0, none⟩) sts.length sts.length) := ((Cell.pt rfl).le l4).le le3
 have c5 : Cell K3 ⟨b5, 0, none⟩ (nFn b1 b4 b5 b3) := (((Cell.pt rfl).le l5).le le2).le le3
 have hS3 : SlS 3 (stR K3) K3 aoS sts.length cS sts := stS_le (le1.trans (le2.trans le3)) hS
 refine ld hT 0 rfl (.inl rfl) c5 ?_
 refine ld hT 1 rfl (.inl rfl) c1 ?_
 refine ar hT 1 rfl (v' := .int .i64 ((sts.length - 1 : Nat) : Int)) (by rw [show ((sts.length : Nat) : Int) - 1 = ((sts.length - 1 : Nat) : Int) from by omega]; exact i64w (by omega)) ?_
 refine cl hT 0 rfl (visGC sts hf aoS cS b1 b3 b4 b5 bS hS3 c1 c4 c5 hn hal (sts.length - 1) 0 (by omega) (Nat.zero_le _) hv) ?_
 rintro v16 K16 hs16 ⟨rfl, rfl, rfl⟩
 refine ldp hT 1 0 rfl rfl rfl ?_
 refine ld hT 1 rfl (.inl rfl) c1 ?_
 refine cmp hT 1 rfl (fun h22 => ?_) (fun h22 => absurd (by omega) h22)
 refine fin hT 2 rfl (th (rt (WQ.drop (WQ.drop (WQ.weak (le1.trans (le2.trans le3)) ?_)))))
 exact ret1 rfl rfl ⟨rfl, rfl, rfl⟩
end Go.Proofs.YtejkjbkodcamoaaGreatDoor
end
section
namespace Go.En
section deqs2
variable {P : Program} {T : Tab} {w0 : World} {ops : Array Oper} {Q : Exit -> Act -> World -> Prop} {plan plan' : List Nat} {z : Nat} {listed listed' : Array Bool} {n : Nat} {l l' : Sl} {K K0 : PH} {hs A : List PH}
def des2At (T : Tab) (ops : Array Oper) (n z k : Nat) (plan : List Nat) (L : Array Bool) (l : Sl) : Option (Nat × Oper × Bool × Nat × Array Value × Array Value × List Nat × Array Bool × Sl) :=
 match dopAt T ops n z k plan L l with
 | some (d, o, r, L', l') => match o.op with
  | .binOp .eql t x y _ => match ev l' x, ev l' y with
   | some (.agg xs), some (.agg ys) => some (d, o, true, t, xs, ys, r, L', l')
   | _, _ => none
  | .binOp .neq t x y _ => match ev l' x, ev l' y with
   | some (.agg xs), some (.agg ys) => some (d, o, false, t, xs, ys, r, L', l')
   | _, _ => none
  | _ => none
 | none => none
theorem deqs2 (hT : TabOK P T) (hsel : Region.noSelect ops = true) (k : Nat) {d t : Nat} {o : Oper} {same b : Bool} {xs ys : Array Value} (h0 : des2At T ops n z k plan listed l = some (d, o, same, t, xs, ys, plan', listed', l')) (hg0 : P.eqGuardType P.depth t = false)
  (hr : ∀ w, (Op.equalIn 10000 t (.agg xs) (.agg ys)).run P w = .ok b w) (hk : WA P w0 ops Q K0 A z plan' listed' n ((d, .bool (b == same)) :: l') K hs) : WA P w0 ops Q K0 A z plan listed n l K hs := by
 unfold des2At at h0
 split at h0
 ·rename_i d' o' r L' l2 hh
  split at h0
  ·rename_i t' x y ty hop
   split at h0
   ·rename_i xs' ys' hx hy
    simp only [Option.some.injEq, Prod.mk.injEq] at h0
    obtain ⟨rfl, rfl, rfl, rfl, rfl, rfl, rfl, rfl, rfl⟩ := h0
    refine dop hT hsel k hh (fun a w ha => ?_) hk
    simp only [execOp, hop, ha.ev hx, ha.ev hy]
    simp [run_eqGuard_agg, hg0, run_eql_struct, hr]
   ·simp at h0
  ·rename_i t' x y ty hop
   split at h0
   ·rename_i xs' ys' hx hy
    simp only [Option.some.injEq, Prod.mk.injEq] at h0
    obtain ⟨rfl, rfl, rfl, rfl, rfl, rfl, rfl, rfl, rfl⟩ := h0
    refine dop hT hsel k hh (fun a w ha => ?_) hk
    simp only [execOp, hop, ha.ev hx, ha.ev hy]
    simp [run_eqGuard_agg, hg0, run_neq_struct, hr]
   ·simp at h0
  ·simp at h0
 ·simp at h0
end deqs2
theorem take_step {α : Type} {l m : List α} {j : Nat} {x y : α} (h : l.take j = m.take j) (hx : l[j]? = some x) (hy : m[j]? = some y) (e : x = y) : l.take (j + 1) = m.take (j + 1) := by
 rw [List.take_add_one, List.take_add_one, h, hx, hy, e]
end Go.En
namespace Go.Proofs.YtejkjbkodcamoaaGreatDoor
open Go.En
attribute [local irreducible] Code.wp wpList Calls
theorem eqArc (a b : ArcP) (w : World) : (Op.equalIn 10000 180 (.agg (arcV a).toArray) (.agg (arcV b).toArray)).run Tryz.prog w = .ok (decide (a = b)) w := by
 have u3 := Tryz.underlying3
 have a3 := Tryz.isAgg3
 have z3 := Tryz.sizeOf3
 have u4 := Tryz.underlying21
 have a4 := Tryz.isAgg21
 have z4 := Tryz.sizeOf21
 obtain ⟨a1, a2, a3'⟩ := a
 obtain ⟨b1, b2, b3'⟩ := b
 unfold arcV
 rw [show (10000 : Nat) = 9999 + 1 from rfl, run_equalIn_agg w 9999 180 _ _ (by kernel_rfl) (by kernel_rfl)]
 simp only [Program.fieldsOf, Tryz.underlying180]
 go_simp
 by_cases h1 : a1 = b1 <;> by_cases h2 : a2 = b2 <;> by_cases h3 : a3' = b3' <;> simp [h1, h2, h3]
theorem alikeC {w0 : World} {K : PH} {hs : List PH} (s t : StP) (ao : Option Addr) (n c : Nat) (bo : Option Addr) (m d : Nat) (x : SlS 3 arcR K ao n c s.arcs) (y : SlS 3 arcR K bo m d t.arcs) (hn : s.arcs.length <= 1000000) (hm : t.arcs.length <= 1000000) :
  Ct Tryz.prog w0 122 [.agg (stV s ao n c).toArray, .agg (stV t bo m d).toArray] K hs (fun v K' hs' => K' = K /\ hs' = hs /\ ∃ b : Bool, v = .bool b /\ (b = true ↔ s = t)) := by
 obtain rfl := x.len
 obtain rfl := y.len
 refine enter Tryz.func122 (by kernel_rfl) rfl rfl rfl ?_
 refine sq (rg ?_)
 refine bx hT 0 rfl fun b2 => ?_
 refine bx hT 0 rfl fun b3 => ?_
 refine fin hT 1 rfl (th (sq (sq (rg ?_))))
 refine WL.hs (pt b3 (stV t bo t.arcs.length d).toArray 177 :: pt b2 (stV s ao s.arcs.length c).toArray 177 :: hs) rfl ?_
 refine ldp hT 1 1 (v := .bool s.fin) rfl rfl rfl ?_
 refine ldp hT 1 0 (v := .bool t.fin) rfl rfl rfl ?_
 refine cbS hT 0 (¬ s.fin = t.fin) rfl (by cases s.fin <;> cases t.fin <;> simp) fun b10 h10 => ?_
 refine' bjo (q := ¬ s.out = t.out) hT 1 6 17 [10, 11] h10 rfl rfl rfl rfl rfl rfl rfl (fun _ => ?x2) (fun b17 h17 => ?_)
 case x2 =>
  refine ldp hT 1 1 (v := .int .i64 s.out) rfl rfl rfl ?_
  refine ldp hT 1 0 (v := .int .i64 t.out) rfl rfl rfl ?_
  refine cmpS hT 0 rfl fun b16 h16 => ?_
  exact fin hT 1 rfl (bjx h16 rfl rfl rfl)
 refine' bjo (q := ¬ s.arcs.length = t.arcs.length) hT 1 8 26 [17, 18] h17 rfl rfl rfl rfl rfl rfl rfl (fun _ => ?x4) (fun b26 h26 => ?_)
 case x4 =>
  refine ldp hT 1 1 (v := .slice ao s.arcs.length c) rfl rfl rfl ?_
  refine ldp hT 2 0 (v := .slice bo t.arcs.length d) rfl rfl rfl ?_
  refine cmpS hT 1 rfl fun b25 h25 => ?_
  exact fin hT 1 rfl (bjx (h25.trans (by omega)) rfl rfl rfl)
 refine fin hT 0 rfl (th (ifP h26 rfl (fun e6 => ?_) (fun e6 => ?_)))
 ·refine sq (rg ?_)
  refine fin hT 1 rfl (th (rt (rT (WQ.drop (WQ.drop ?_)))))
  refine ret1 rfl rfl ⟨rfl, rfl, false, rfl, ⟨(fun h => by cases h), fun h => ?_⟩⟩
  subst h
  rcases e6 with (e6 | e6) | e6 <;> exact absurd rfl e6
 ·have e6 := not_or.1 e6
  have e6' := not_or.1 e6.1
  have g1 : s.fin = t.fin := Decidable.not_not.1 e6'.1
  have g2 : s.out = t.out := Decidable.not_not.1 e6'.2
  have g3 : s.arcs.length = t.arcs.length := Decidable.not_not.1 e6.2
  refine sk (th (sq (sq (rg ?_))))
  refine ldp hT 1 1 (v := .slice ao s.arcs.length c) rfl rfl rfl ?_
  refine fin hT 2 rfl (th (bk ?_))
  refine loop (σ := Nat) (fun j => [(2, .pointer (some ⟨b2, 0, none⟩)), (3, .pointer (some ⟨b3, 0, none⟩)), (29, .int .i64 ((s.arcs.length : Nat) : Int)), (30, .int .i64 ((j : Nat) : Int))]) (fun _ => K)
   (fun _ => pt b3 (stV t bo t.arcs.length d).toArray 177 :: pt b2 (stV s ao s.arcs.length c).toArray 177 :: hs) (fun j => j <= s.arcs.length /\ s.arcs.take j = t.arcs.take j) (fun j => s.arcs.length - j) 0 ⟨Nat.zero_le _, rfl⟩ ⟨rfl, rfl, rfl, rfl, trivial⟩ rfl rfl ?_
  rintro j ⟨hj, hJ⟩
  refine sq (rg ?_)
  refine cmpS hT 0 rfl fun b31 h31 => ?_
  refine fin hT 0 rfl (th (sq (ifP h31 rfl (fun e8 => ?_) (fun e8 => ?_))))
  ·have hjl : j < s.arcs.length := by omega
   obtain ⟨p, hp⟩ : ∃ p, s.arcs[j]? = some p := ⟨_, List.getElem?_eq_getElem hjl⟩
   obtain ⟨q, hq⟩ : ∃ q, t.arcs[j]? = some q := ⟨_, List.getElem?_eq_getElem (by omega)⟩
   obtain ⟨ad, rfl⟩ := x.addr (by omega) (by decide)
   obtain ⟨bd', rfl⟩ := y.addr (by omega) (by decide)
   obtain ⟨cs, hc, hcl, hcell⟩ := x.cells hp
   obtain rfl := hc
   obtain ⟨ds, hd, hdl, hdell⟩ := y.cells hq
   obtain rfl := hd
   refine sk (th (sq (bk (sq (rg ?_)))))
   refine fin hT 2 rfl (th (sq (rga [pt b3 (stV t (some bd') t.arcs.length d).toArray 177, pt b2 (stV s (some ad) s.arcs.length c).toArray 177] 11 [0, 2, 4, 6, 8, 10, 12, 14, 16, 18, 20] (by simp) (by kernel_rfl) (by kernel_rfl) ?_)))
   refine dldp hT (by kernel_rfl) 1 1 (v := .slice (some ad) s.arcs.length c) rfl rfl rfl ?_
   refine dixs hT (by kernel_rfl) 1 j rfl rfl hjl ?_
   refine dlds hT (by kernel_rfl) 0 (arcV p) rfl (by kernel_rfl) (by kernel_rfl) (.inl rfl) hcell ?_
   refine dldp hT (by kernel_rfl) 1 0 (v := .slice (some bd') t.arcs.length d) rfl rfl rfl ?_
   refine dixs hT (by kernel_rfl) 1 j rfl rfl (by omega) ?_
   refine dlds hT (by kernel_rfl) 0 (arcV q) rfl (by kernel_rfl) (by kernel_rfl) (.inl rfl) hdell ?_
   refine deqs2 hT (by kernel_rfl) 0 rfl (by kernel_rfl) (fun w => eqArc p q w) ?_
   refine dend hT (by kernel_rfl) 0 rfl (th (ifB rfl (fun e9 => ?_) (fun e9 => ?_)))
   ·have hpq : ¬ p = q := by simpa using e9
    refine sq (rg ?_)
    refine fin hT 1 rfl (th (rt (rB (rT (rT (rB (rT (WQ.drop (WQ.drop ?_)))))))))
    refine ret1 rfl rfl ⟨rfl, rfl, false, rfl, ⟨(fun h => by cases h), fun h => ?_⟩⟩
    subst h
    rw [hp] at hq
    exact absurd (Option.some.inj hq) hpq
   ·have hpq : p = q := by simpa using e9
    refine sk (bl (th (rg ?_)))
    refine ar hT 0 rfl (i64w (x := ((j + 1 : Nat) : Int)) (by omega)) ?_
    refine fin hT 1 rfl ?_
    exact again (x := j) (j + 1) ⟨rfl, rfl, rfl, rfl, trivial⟩ rfl rfl ⟨hjl, take_step hJ hp hq hpq⟩ (by omega)
  ·refine ex (xt (xt (xb (th (sq (rg ?_))))))
   refine fin hT 1 rfl (th (rt (WQ.drop (WQ.drop ?_))))
   refine ret1 rfl rfl ⟨rfl, rfl, true, rfl, ⟨fun _ => ?_, fun _ => rfl⟩⟩
   obtain ⟨f1, o1, l1⟩ := s
   obtain ⟨f2, o2, l2⟩ := t
   dsimp only at *
   have hje : j = l1.length := by omega
   rw [hje, List.take_length, List.take_of_length_le (by omega)] at hJ
   rw [g1, g2, hJ]
end Go.Proofs.YtejkjbkodcamoaaGreatDoor
end
section
namespace Go.En
section mpx
variable {P : Program} {T : Tab} {w0 : World} {ops : Array Oper} {Q : Exit -> Act -> World -> Prop} {rest rest' : List Oper} {n : Nat} {l l' : Sl} {K : PH} {hs : List PH}
variable {κ : Type} [DecidableEq κ] {enc : κ -> Value} {h : PH} {b : Nat} {m : List (κ × Value)}
theorem fk_idx (k : κ) : ∀ (m : List (κ × Value)) (i : Nat) (v : Value), fk k m 0 = some (i, v) -> m[i]? = some (k, v)
 | [], i, v, h => by simp [fk] at h
 | (k', v') :: m, i, v, h => by
  by_cases hk : k = k'
  ·simp only [fk, hk, if_true, Option.some.injEq, Prod.mk.injEq] at h
   obtain ⟨rfl, rfl⟩ := h
   rw [hk]; rfl
  ·simp only [fk, hk, if_false] at h
   rw [fk_shift] at h
   cases hf2 : fk k m 0 with
   | none => simp [hf2] at h
   | some y =>
    rw [hf2] at h
    simp only [Option.map_some, Option.some.injEq, Prod.mk.injEq] at h
    obtain ⟨rfl, rfl⟩ := h
    have := fk_idx k m y.1 y.2 hf2
    rw [show 0 + 1 + y.1 = y.1 + 1 from by omega]
    simpa using this
def MpX (enc : κ -> Value) (h : PH) (b : Nat) (m : List (κ × Value)) (j : κ) (c : Nat) : Prop :=
 ∃ (es : Array MapEntry) (clock i : Nat) (v0 : Value), h = sg b (.map es clock) /\ es.toList.map (fun e => (e.key, e.val)) = m.map (fun x => (enc x.1, x.2)) /\ (es.toList.map (·.born)).Pairwise (· < ·) /\ (∀ e ∈ es.toList, e.born < clock) /\
  es[i]? = some { key := enc j, val := v0, born := c } /\ fk j m 0 = some (i, v0)
theorem mpx (hT : TabOK P T) (k i : Nat) {d t kt et : Nat} {o : Oper} {v v0 : Value} (j : κ) (h0 : meAt T ops n k rest l = some (d, o, t, .map (some b), v, rest', l')) (hi : hs[i]? = some h) (hu : P.underlying t = some (.map kt et)) (hK : KeyOK P kt enc) (hv : v = enc j) (hm : MpO enc id h b m)
  (hex : mget j m = some v0) (hk : ∀ h' c, MpX enc h' b m j c -> WL P w0 ops Q rest' n ((d, .tuple #[v0, .int .i64 ((c : Nat) : Int)]) :: l') K (hs.set i h')) : WL P w0 ops Q rest n l K hs := by
 obtain ⟨h1, h2⟩ := meAt_spec h0
 subst hv
 refine opa hT k (R := fun v K' hs' => ∃ h' c, MpX enc h' b m j c /\ v = .tuple #[v0, .int .i64 ((c : Nat) : Int)] /\ K' = K /\ hs' = hs.set i h') h1 (fun a w ha hw => ?_) ?_
 ·have hm0 := hm
  obtain ⟨es, c, rfl, g2, g3, g4⟩ := hm
  have hb : w.heap[b]? = some (.map es c) := hw.own i _ hi b _ (by simp)
  have hid : (m.map fun x => (x.1, (id : Value -> Value) x.2)) = m := by simp
  have g2' : es.toList.map (fun e => (e.key, e.val)) = m.map (fun x => (enc x.1, x.2)) := g2
  have hf := hK.fnd j es.toList m w g2'
  obtain ⟨q, hfq⟩ : ∃ q, fk j m 0 = some (q, v0) := by
   have := fk_get (encv := (id : Value -> Value)) j m 0
   rw [hid, hex] at this
   cases hq : fk j m 0 with
   | none => rw [hq] at this; cases this
   | some y =>
    rw [hq] at this
    simp only [Option.map_some, Option.some.injEq, id] at this
    exact ⟨y.1, by rw [<- this]⟩
  have hkey := fk_key (enc := enc) j g2' hfq
  have hmq := fk_idx j m q v0 hfq
  have hq2 : (es.toList.map fun e => (e.key, e.val))[q]? = some (enc j, v0) := by rw [g2', List.getElem?_map, hmq]; rfl
  rw [List.getElem?_map] at hq2
  obtain ⟨e, he, hee⟩ := Option.map_eq_some_iff.1 hq2
  simp only [Prod.mk.injEq] at hee
  have heq : e = { key := enc j, val := v0, born := e.born } := by cases e; simp_all
  have hes : es[q]? = some e := by rw [<- Array.getElem?_toList]; exact he
  have hmod : (es.modify q fun e => { e with key := enc j }) = es := by
   apply Array.ext_getElem?
   intro p
   rw [Array.getElem?_modify]
   by_cases e' : q = p
   ·subst e'
    rw [if_pos rfl, hes, heq]; rfl
   ·rw [if_neg e']
  have hset : ∀ o : Obj, (setObj b o).run P w = .ok () (w.putObj b o) := fun o => by simp [setObj, Sem.run, hb, World.putObj]
  have hst : (Instr.keyThatStays (enc j) (enc j)).run P w = .ok (enc j) w := by unfold Instr.keyThatStays; simp [hK.sam]
  refine ⟨.tuple #[v0, .int .i64 ((e.born : Nat) : Int)], w.putObj b (.map es c), K, hs.set i (sg b (.map es c)), ?_, hw.putObj hi _, _, e.born, ⟨es, c, q, v0, rfl, g2', g3, g4, by rw [hes]; exact congrArg some heq, hfq⟩, rfl, rfl, rfl⟩
  rw [h2 a ha]
  unfold Instr.mapEntry
  have hk2 : ((es[q]?).map (·.key)).getD (enc j) = enc j := by rw [hes, heq]; rfl
  have hb2 : (Option.map (fun x : MapEntry => ((x.born : Nat) : Int)) es[q]?).getD 0 = ((e.born : Nat) : Int) := by rw [hes]; rfl
  simp only [Sem.run_bind, run_underlying hu, Result.andThen, run_getMap hb, Sem.run_pure, hK.chk, hf, hfq, hk2, hst, hmod, hset, hb2]
  rfl
 ·rintro v K' hs' ⟨h', c, g1, rfl, rfl, rfl⟩
  exact hk h' c g1
theorem etx (hT : TabOK P T) (k i : Nat) {t : Nat} {o : Oper} {x y : Value} {c : Nat} {j : κ} (h0 : etsAt T ops n k rest l = some (o, t, .map (some b), x, y, rest', l')) (hi : hs[i]? = some h) (hx : x = .int .i64 ((c : Nat) : Int)) (hm : MpX enc h b m j c)
  (hk : ∀ h', MpO enc id h' b (mset j y m) -> WL P w0 ops Q rest' n l' K (hs.set i h')) : WL P w0 ops Q rest n l K hs := by
 obtain ⟨h1, h2⟩ := etsAt_spec h0
 subst hx
 refine opu hT k (R := fun K' hs' => ∃ h', MpO enc id h' b (mset j y m) /\ K' = K /\ hs' = hs.set i h') h1 (fun a w ha hw => ?_) ?_
 ·obtain ⟨es, clock, q, v0, rfl, g2, g3, g4, g5, g6⟩ := hm
  have hb : w.heap[b]? = some (.map es clock) := hw.own i _ hi b _ (by simp)
  have hset : ∀ o : Obj, (setObj b o).run P w = .ok () (w.putObj b o) := fun o => by simp [setObj, Sem.run, hb, World.putObj]
  obtain ⟨hql, hqe⟩ := Array.getElem?_eq_some_iff.1 g5
  have hfi : es.findIdx? (fun e => (e.born : Int) == ((c : Nat) : Int)) = some q := by
   rw [Array.findIdx?_eq_some_iff_getElem]
   refine ⟨hql, by rw [hqe]; simp, fun p hp => ?_⟩
   have hp' := List.pairwise_iff_getElem.1 g3 p q (by simpa using (show p < es.size by omega)) (by simpa using hql) hp
   simp only [List.getElem_map, Array.getElem_toList, hqe] at hp'
   simp only [beq_eq_false_iff_ne, ne_eq, Bool.not_eq_true]
   omega
  have e1 := eset_map (enc := enc) (encv := (id : Value -> Value)) j y clock es.toList m (by simpa using g2)
  have e2 := eset_born (enc j) y clock (some (q, v0)) es.toList g3 g4
  have hid : (m.map fun x => (x.1, (id : Value -> Value) x.2)) = m := by simp
  rw [hid, g6] at e1
  simp only [eset] at e1 e2
  have hmod : es.toList.modify q (fun e => { e with key := enc j, val := y }) = es.toList.modify q (fun e => { e with val := y }) := by
   apply List.ext_getElem?
   intro p
   rw [List.getElem?_modify, List.getElem?_modify]
   by_cases e' : q = p
   ·subst e'
    rw [Array.getElem?_toList, g5]; simp
   ·simp [e']
  refine ⟨w.putObj b (.map (es.modify q fun e => { e with val := y }) clock), K, hs.set i (sg b (.map (es.modify q fun e => { e with val := y }) clock)), ?_, hw.putObj hi _, _, ⟨es.modify q fun e => { e with val := y }, clock, rfl, ?_, ?_, ?_⟩, rfl, rfl⟩
  ·rw [h2 a ha]
   unfold Instr.entryStore
   have hai : (asInt (.int .i64 ((c : Nat) : Int))).run P w = .ok ((c : Nat) : Int) w := rfl
   simp only [Sem.run_bind, run_getMap hb, Result.andThen, hai, hfi, hset]
   rfl
  ·rw [Array.toList_modify, <- hmod]; exact e1
  ·rw [Array.toList_modify, <- hmod]
   exact e2.1
  ·rw [Array.toList_modify, <- hmod]
   exact e2.2
 ·rintro K' hs' ⟨h', g1, rfl, rfl⟩
  exact hk h' g1
end mpx
end Go.En
end
