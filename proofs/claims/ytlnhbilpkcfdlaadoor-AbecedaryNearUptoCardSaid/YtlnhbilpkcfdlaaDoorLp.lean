/-
  Plain words: runes and their writing.
  Package letters: runes.
  Package letters: all runes of a text; a rune's writing; texts of runes.
  Package letters: a rune's writing.
  Package letters: texts of runes.
  Package letters: words.
  Plain words: what is written is read as it was.
-/
import Derived.Test.YtlnhbilpkcfdlaaDoorCs
import Derived.Test.YtlnhbilpkcfdlaaDoorEx
import Derived.Test.YtlnhbilpkcfdlaaDoorTab
set_option linter.unusedSimpArgs false
set_option linter.unusedVariables false
namespace Go.En
set_option linter.unusedVariables false

def scalarP (r : Nat) : Prop := r ≤ 1114111 ∧ (r < 55296 ∨ 57343 < r)
instance (r : Nat) : Decidable (scalarP r) := by unfold scalarP; infer_instance
def leastR (n : Nat) : Nat := if n = 2 then 128 else if n = 3 then 2048 else if n = 4 then 65536 else 0
/-- the bytes behind a first one -/
def contR : Nat → List UInt8 → Option Nat
  | r, [] => some r
  | r, c :: t => if c.toNat / 64 = 2 then contR (r * 64 + c.toNat % 64) t else none
/-- what a first byte says: what it gives, and how many bytes there are -/
def headR (k : Nat) : Nat × Nat := if k / 32 = 6 then (k % 32, 2) else if k / 16 = 14 then (k % 16, 3) else if k / 8 = 30 then (k % 8, 4) else (0, 0)
def firstP : List UInt8 → Nat × Nat
  | [] => (0, 0)
  | c :: t =>
    if c.toNat < 128 then (c.toNat, 1)
    else if (headR c.toNat).2 = 0 ∨ t.length + 1 < (headR c.toNat).2 then (0, 0)
    else match contR (headR c.toNat).1 (t.take ((headR c.toNat).2 - 1)) with
      | none => (0, 0)
      | some r => if r < leastR (headR c.toNat).2 ∨ ¬ scalarP r then (0, 0) else (r, (headR c.toNat).2)
theorem firstP_cons (c : UInt8) (t : List UInt8) : firstP (c :: t) = if c.toNat < 128 then (c.toNat, 1)
    else if (headR c.toNat).2 = 0 ∨ t.length + 1 < (headR c.toNat).2 then (0, 0)
    else match contR (headR c.toNat).1 (t.take ((headR c.toNat).2 - 1)) with
      | none => (0, 0)
      | some r => if r < leastR (headR c.toNat).2 ∨ ¬ scalarP r then (0, 0) else (r, (headR c.toNat).2) := rfl
def by8 (n : Nat) : UInt8 := UInt8.ofNat n
def wr (r : Nat) : List UInt8 :=
  if r < 128 then [by8 r] else if r < 2048 then [by8 (192 + r / 64), by8 (128 + r % 64)] else if r < 65536 then [by8 (224 + r / 4096), by8 (128 + r / 64 % 64), by8 (128 + r % 64)]
  else [by8 (240 + r / 262144), by8 (128 + r / 4096 % 64), by8 (128 + r / 64 % 64), by8 (128 + r % 64)]
theorem by8_eq {c : UInt8} {n : Nat} (h : c.toNat = n) : by8 n = c := by subst h; simp [by8]
theorem headR_n (k : Nat) : (headR k).2 = 0 ∨ (headR k).2 = 2 ∨ (headR k).2 = 3 ∨ (headR k).2 = 4 := by
  unfold headR
  repeat' split
  all_goals simp
theorem firstP_n (s : List UInt8) : (firstP s).2 ≤ 4 ∧ (firstP s).2 ≤ s.length := by
  cases s with
  | nil => simp [firstP]
  | cons c t =>
    rw [firstP_cons]
    have := headR_n c.toNat
    by_cases h1 : c.toNat < 128
    · rw [if_pos h1]; simp
    · rw [if_neg h1]
      by_cases h2 : (headR c.toNat).2 = 0 ∨ t.length + 1 < (headR c.toNat).2
      · rw [if_pos h2]; simp
      · rw [if_neg h2]
        cases contR (headR c.toNat).1 (t.take ((headR c.toNat).2 - 1)) with
        | none => simp
        | some r =>
          dsimp only
          split
          · simp
          · simp only [List.length_cons]; omega
/-- what was read is written so -/
theorem firstP_wr {s : List UInt8} (h : (firstP s).2 ≠ 0) : scalarP (firstP s).1 ∧ wr (firstP s).1 = s.take (firstP s).2 := by
  cases s with
  | nil => simp [firstP] at h
  | cons c t =>
    have hc := c.toNat_lt
    rw [firstP_cons] at h ⊢
    by_cases h1 : c.toNat < 128
    · rw [if_pos h1] at h ⊢
      refine ⟨⟨by dsimp only; omega, by dsimp only; omega⟩, ?_⟩
      dsimp only
      rw [wr, if_pos h1, by8_eq rfl]
      rfl
    · rw [if_neg h1] at h ⊢
      by_cases h2 : (headR c.toNat).2 = 0 ∨ t.length + 1 < (headR c.toNat).2
      · rw [if_pos h2] at h; exact absurd rfl h
      · rw [if_neg h2] at h ⊢
        cases h3 : contR (headR c.toNat).1 (t.take ((headR c.toNat).2 - 1)) with
        | none => rw [h3] at h; exact absurd rfl h
        | some r =>
          rw [h3] at h
          dsimp only at h ⊢
          by_cases h4 : r < leastR (headR c.toNat).2 ∨ ¬ scalarP r
          · rw [if_pos h4] at h; exact absurd rfl h
          · rw [if_neg h4]
            have hs : scalarP r := Classical.not_not.1 fun g => h4 (.inr g)
            refine ⟨hs, ?_⟩
            have hl : ¬ r < leastR (headR c.toNat).2 := fun g => h4 (.inl g)
            dsimp only
            unfold headR at h2 h3 hl ⊢
            by_cases k1 : c.toNat / 32 = 6
            · simp only [if_pos k1] at h2 h3 hl ⊢
              obtain ⟨c1, t1, rfl⟩ : ∃ c1 t1, t = c1 :: t1 := by cases t with
                | nil => simp at h2
                | cons a b => exact ⟨a, b, rfl⟩
              simp [contR] at h3
              simp [leastR] at hl
              obtain ⟨g1, rfl⟩ := h3
              have hc1 := c1.toNat_lt
              rw [wr, if_neg (by omega), if_pos (by omega), by8_eq (c := c) (by omega), by8_eq (c := c1) (by omega)]
              rfl
            · simp only [if_neg k1] at h2 h3 hl ⊢
              by_cases k2 : c.toNat / 16 = 14
              · simp only [if_pos k2] at h2 h3 hl ⊢
                obtain ⟨c1, c2, t1, rfl⟩ : ∃ c1 c2 t1, t = c1 :: c2 :: t1 := by
                  match t, h2 with
                  | [], h2 => simp at h2
                  | [_], h2 => simp at h2
                  | a :: b :: d, _ => exact ⟨a, b, d, rfl⟩
                simp [contR] at h3
                simp [leastR] at hl
                obtain ⟨g1, g2, rfl⟩ := h3
                have hc1 := c1.toNat_lt
                have hc2 := c2.toNat_lt
                rw [wr, if_neg (by omega), if_neg (by omega), if_pos (by omega), by8_eq (c := c) (by omega), by8_eq (c := c1) (by omega), by8_eq (c := c2) (by omega)]
                rfl
              · simp only [if_neg k2] at h2 h3 hl ⊢
                by_cases k3 : c.toNat / 8 = 30
                · simp only [if_pos k3] at h2 h3 hl ⊢
                  obtain ⟨c1, c2, c3, t1, rfl⟩ : ∃ c1 c2 c3 t1, t = c1 :: c2 :: c3 :: t1 := by
                    match t, h2 with
                    | [], h2 => simp at h2
                    | [_], h2 => simp at h2
                    | [_, _], h2 => simp at h2
                    | a :: b :: d :: e, _ => exact ⟨a, b, d, e, rfl⟩
                  simp [contR] at h3
                  simp [leastR] at hl
                  obtain ⟨g1, g2, g3, rfl⟩ := h3
                  have hc1 := c1.toNat_lt
                  have hc2 := c2.toNat_lt
                  have hc3 := c3.toNat_lt
                  rw [wr, if_neg (by omega), if_neg (by omega), if_neg (by omega), by8_eq (c := c) (by omega), by8_eq (c := c1) (by omega), by8_eq (c := c2) (by omega), by8_eq (c := c3) (by omega)]
                  rfl
                · simp only [if_neg k3] at h2
                  exact absurd h2 (by simp)
/-- all of a text's runes -/
def runesF : Nat → List UInt8 → Option (List Nat)
  | 0, _ => some []
  | k + 1, s => if s = [] then some [] else if (firstP s).2 = 0 then none else (runesF k (s.drop (firstP s).2)).map ((firstP s).1 :: ·)
def runesP (s : List UInt8) : Option (List Nat) := runesF s.length s
def textP : List Nat → List UInt8
  | [] => []
  | r :: l => wr r ++ textP l
theorem runesF_text : ∀ (k : Nat) (s : List UInt8) (l : List Nat), s.length ≤ k → runesF k s = some l → textP l = s ∧ (∀ r ∈ l, scalarP r) ∧ l.length ≤ s.length
  | 0, s, l, hk, h => by
    simp only [runesF, Option.some.injEq] at h
    subst h
    have : s = [] := List.length_eq_zero_iff.1 (by omega)
    subst this
    simp [textP]
  | k + 1, s, l, hk, h => by
    unfold runesF at h
    by_cases h1 : s = []
    · rw [if_pos h1] at h
      simp only [Option.some.injEq] at h
      subst h h1
      simp [textP]
    · rw [if_neg h1] at h
      by_cases h2 : (firstP s).2 = 0
      · rw [if_pos h2] at h; cases h
      · rw [if_neg h2] at h
        obtain ⟨l', h3, rfl⟩ := Option.map_eq_some_iff.1 h
        have hn := firstP_n s
        obtain ⟨g1, g2⟩ := firstP_wr h2
        obtain ⟨k1, k2, k3⟩ := runesF_text k _ l' (by simp; omega) h3
        refine ⟨by rw [textP, g2, k1, List.take_append_drop], fun r hr => ?_, by simp at k3 ⊢; omega⟩
        rcases List.mem_cons.1 hr with rfl | hr
        · exact g1
        · exact k2 r hr
theorem runesP_text {s : List UInt8} {l : List Nat} (h : runesP s = some l) : textP l = s ∧ (∀ r ∈ l, scalarP r) ∧ l.length ≤ s.length := runesF_text _ _ _ (Nat.le_refl _) h
end Go.En
namespace Go.Proofs.YtlnhbilpkcfdlaaDoor
open Go.En
set_option linter.unusedVariables false
attribute [local irreducible] Code.wp wpList Calls

theorem i32w {x : Int} (h : -2147483648 ≤ x ∧ x ≤ 2147483647) : Value.int .i32 (IntKind.i32.wrap x) = .int .i32 x := by rw [IntWalk.i32_in _ h]
/-- the table of least runes, where the program keeps it -/
def LeastK (K : PH) : Prop := ∀ j : Nat, j < 5 → Cell K ((⟨0, 0, none⟩ : Addr).add j) (.int .i32 ((leastR j : Nat) : Int))
theorem u8shr (c k : Nat) (hk : k ≤ 8) : Value.int .u8 (((c : Nat) : Int).fdiv (2 ^ (min ((k : Nat) : Int).toNat IntKind.u8.bits))) = .int .u8 ((c / 2 ^ k : Nat) : Int) := by
  have e : min ((k : Nat) : Int).toNat IntKind.u8.bits = k := by
    have : IntKind.u8.bits = 8 := rfl
    omega
  rw [e]
  congr 1
  rw [show ((2 : Int) ^ k) = ((2 ^ k : Nat) : Int) from by push_cast; rfl, Int.fdiv_eq_ediv_of_nonneg _ (Int.natCast_nonneg _)]
  exact (Int.natCast_ediv c (2 ^ k)).symm
theorem i32and (a m k : Nat) (ha : a < 2147483648) (hm : m + 1 = 2 ^ k) (hk : k ≤ 16) : Value.int .i32 (IntKind.i32.wrap ((BitVec.ofInt 32 ((a : Nat) : Int) &&& BitVec.ofInt 32 ((m : Nat) : Int)).toNat : Nat)) = .int .i32 ((a % 2 ^ k : Nat) : Int) := by
  have hp : 2 ^ k ≤ 2 ^ 16 := Nat.pow_le_pow_right (by decide) hk
  have hm' : m = 2 ^ k - 1 := by omega
  have e : (BitVec.ofInt 32 ((a : Nat) : Int) &&& BitVec.ofInt 32 ((m : Nat) : Int)).toNat = a % 2 ^ k := by
    rw [BitVec.toNat_and, BitVec.ofInt_natCast, BitVec.ofInt_natCast, BitVec.toNat_ofNat, BitVec.toNat_ofNat, Nat.mod_eq_of_lt (by omega), Nat.mod_eq_of_lt (by omega), hm', Nat.and_two_pow_sub_one_eq_mod]
  have h1 := Nat.mod_le a (2 ^ k)
  rw [e, i32w (by omega)]
theorem i32or (a b : Nat) (ha : a < 1048576) (hb : b < 64) : Value.int .i32 (IntKind.i32.wrap ((BitVec.ofInt 32 ((a * 64 : Nat) : Int) ||| BitVec.ofInt 32 ((b : Nat) : Int)).toNat : Nat)) = .int .i32 ((a * 64 + b : Nat) : Int) := by
  have e : (BitVec.ofInt 32 ((a * 64 : Nat) : Int) ||| BitVec.ofInt 32 ((b : Nat) : Int)).toNat = a * 64 + b := by
    rw [BitVec.toNat_or, BitVec.ofInt_natCast, BitVec.ofInt_natCast, BitVec.toNat_ofNat, BitVec.toNat_ofNat, Nat.mod_eq_of_lt (by omega), Nat.mod_eq_of_lt (by omega)]
    have := Nat.shiftLeft_add_eq_or_of_lt (i := 6) (b := b) hb a
    rw [Nat.shiftLeft_eq] at this
    exact this.symm
  rw [e, i32w (by omega)]
theorem i32shl6 (a : Nat) (ha : a < 1048576) : Value.int .i32 (IntKind.i32.wrap (((a : Nat) : Int) * 2 ^ (min ((6 : Nat) : Int).toNat IntKind.i32.bits))) = .int .i32 ((a * 64 : Nat) : Int) := by
  rw [show min ((6 : Nat) : Int).toNat IntKind.i32.bits = 6 from rfl, show (2 : Int) ^ 6 = 64 from rfl, i32w (by omega)]
  congr 1
theorem u8and63 (c : Nat) (hc : c < 256) : Value.int .u8 (IntKind.u8.wrap ((BitVec.ofInt 8 ((c : Nat) : Int) &&& BitVec.ofInt 8 63).toNat : Nat)) = .int .u8 ((c % 64 : Nat) : Int) := by
  have e : (BitVec.ofInt 8 ((c : Nat) : Int) &&& BitVec.ofInt 8 63).toNat = c % 64 := by
    rw [show BitVec.ofInt 8 63 = 63#8 from by decide, BitVec.toNat_and, BitVec.ofInt_natCast, BitVec.toNat_ofNat, Nat.mod_eq_of_lt (by omega), show (63#8).toNat = 2 ^ 6 - 1 from rfl, Nat.and_two_pow_sub_one_eq_mod]
  rw [e, u8w (by omega)]
theorem leastS {K : PH} (hG : LeastK K) (j : Nat) (hj : j < 5) : Cell K ((⟨0, 0, none⟩ : Addr).add (j * 1)) (.int .i32 ((leastR j : Nat) : Int)) := by rw [Nat.mul_one]; exact hG j hj
theorem scalarC {w0 : World} {K : PH} {hs : List PH} (r : Nat) : Ct Tryd.prog w0 40 [.int .i32 (r : Nat)] K hs (fun v K' hs' => K' = K ∧ hs' = hs ∧ ∃ t : Bool, v = .bool t ∧ (t = true ↔ scalarP r)) := by
  refine enter Tryd.func40 (by kernel_rfl) rfl rfl rfl ?_
  refine sq (rg (?_))
  refine fin hT 1 rfl (th (sq (rg (?_))))
  refine cmpS hT 1 rfl fun b4 h4 => ?_   -- letters.go:10 t4 t3 ≥ 0
  refine' bja hT 1 3 8 [4, 5] h4 rfl rfl rfl rfl rfl rfl rfl (fun _ => ?x2) (fun b8 h8 => ?_)   -- letters.go:10 t8
  case x2 =>
    refine cmpS hT 1 rfl fun b7 h7 => ?_   -- letters.go:10 t7 t6 ≤ 1114111
    exact fin hT 1 rfl (bjx h7 rfl rfl rfl)
  refine' bja hT 1 7 16 [8, 9] h8 rfl rfl rfl rfl rfl rfl rfl (fun _ => ?x4) (fun b16 h16 => ?_)   -- letters.go:10 t16
  case x4 =>
    refine cmpS hT 1 rfl fun b11 h11 => ?_   -- letters.go:10 t11 t10 < 55296
    refine' bjo hT 1 3 15 [11, 12] h11 rfl rfl rfl rfl rfl rfl rfl (fun _ => ?x6) (fun b15 h15 => ?_)   -- letters.go:10 t15
    case x6 =>
      refine cmpS hT 1 rfl fun b14 h14 => ?_   -- letters.go:10 t14 t13 > 57343
      exact fin hT 1 rfl (bjx h14 rfl rfl rfl)
    exact fin hT 1 rfl (bjx h15 rfl rfl rfl)
  refine fin hT 1 rfl (th (rt (?_)))
  exact ret1 rfl rfl ⟨rfl, rfl, b16, rfl, by rw [h16]; unfold scalarP; omega⟩
theorem firstC {w0 : World} {K : PH} {hs : List PH} (s : List UInt8) (h0 : s ≠ []) (hG : LeastK K) (hl : s.length < 1099511627776) : Ct Tryd.prog w0 23 [str s] K hs (fun v K' hs' => K' = K ∧ hs' = hs ∧ v = .tuple #[.int .i32 ((firstP s).1 : Nat), .int .i64 ((firstP s).2 : Nat)]) := by
  obtain ⟨c, t, rfl⟩ : ∃ c t, s = c :: t := by cases s with
    | nil => exact absurd rfl h0
    | cons c t => exact ⟨c, t, rfl⟩
  have hc := c.toNat_lt
  have hf := firstP_cons c t
  refine enter Tryd.func23 (by kernel_rfl) rfl rfl rfl ?_
  refine sq (rg (?_))
  refine fin hT 2 rfl (th (sq (rg (?_))))
  refine six hT 1 (c :: t) 0 rfl rfl rfl rfl ?_
  refine fin hT 1 rfl (th (sq (rg (?_))))
  refine ar hT 1 rfl (i32w (by omega)) ?_   -- letters.go:15 t12 convert t11
  refine fin hT 2 rfl (th (jn (σ := Nat × Nat) (fun s => [(0, str (c :: t)), (5, .int .i32 ((s.1 : Nat) : Int)), (6, .int .i64 ((s.2 : Nat) : Int))]) (fun s => hs) (fun s => s = headR c.toNat ∧ s.2 ≠ 0 ∧ ¬ c.toNat < 128 ∧ s.1 < 32) ?_ ?_))
  · refine bk (sq (rg (?_)))
    refine cmpS hT 1 rfl fun b15 h15 => ?_   -- letters.go:17 t15 t14 < 128
    refine fin hT 1 rfl (th (ifP h15 rfl (fun e2 => ?_) (fun e2 => ?_)))
    · refine sq (rg (?_))
      refine fin hT 3 rfl (th (rt (rB (jr (?_)))))
      exact ret2 rfl rfl rfl ⟨rfl, rfl, by rw [hf, if_pos (by omega)]; rfl⟩
    · refine sq (rg (?_))
      refine ar hT 1 rfl (u8shr c.toNat 5 (by decide)) ?_   -- letters.go:19 t19 t18 shr 5
      refine cmpS hT 0 rfl fun b20 h20 => ?_   -- letters.go:19 t20 t19 = 6
      refine fin hT 1 rfl (th (ifP h20 rfl (fun e4 => ?_) (fun e4 => ?_)))
      · refine rg (?_)
        refine ar hT 1 rfl (i32and c.toNat 31 5 (by omega) rfl (by decide)) ?_   -- letters.go:20 t22 t21 and 31
        refine fin hT 2 rfl (bl (?_))
        exact jx ((c.toNat % 32, 2)) ⟨by unfold headR; rw [if_pos (by omega)], (by dsimp only; decide), by omega, by dsimp only; omega⟩ ⟨rfl, rfl, rfl, trivial⟩ rfl rfl
      · refine sq (rg (?_))
        refine ar hT 1 rfl (u8shr c.toNat 4 (by decide)) ?_   -- letters.go:21 t25 t24 shr 4
        refine cmpS hT 0 rfl fun b26 h26 => ?_   -- letters.go:21 t26 t25 = 14
        refine fin hT 1 rfl (th (ifP h26 rfl (fun e6 => ?_) (fun e6 => ?_)))
        · refine rg (?_)
          refine ar hT 1 rfl (i32and c.toNat 15 4 (by omega) rfl (by decide)) ?_   -- letters.go:22 t28 t27 and 15
          refine fin hT 2 rfl (bl (?_))
          exact jx ((c.toNat % 16, 3)) ⟨by unfold headR; rw [if_neg (by omega), if_pos (by omega)], (by dsimp only; decide), by omega, by dsimp only; omega⟩ ⟨rfl, rfl, rfl, trivial⟩ rfl rfl
        · refine sq (rg (?_))
          refine ar hT 1 rfl (u8shr c.toNat 3 (by decide)) ?_   -- letters.go:23 t31 t30 shr 3
          refine cmpS hT 0 rfl fun b32 h32 => ?_   -- letters.go:23 t32 t31 = 30
          refine fin hT 1 rfl (th (ifP h32 rfl (fun e8 => ?_) (fun e8 => ?_)))
          · refine rg (?_)
            refine ar hT 1 rfl (i32and c.toNat 7 3 (by omega) rfl (by decide)) ?_   -- letters.go:24 t34 t33 and 7
            refine fin hT 2 rfl (bl (?_))
            exact jx ((c.toNat % 8, 4)) ⟨by unfold headR; rw [if_neg (by omega), if_neg (by omega), if_pos (by omega)], (by dsimp only; decide), by omega, by dsimp only; omega⟩ ⟨rfl, rfl, rfl, trivial⟩ rfl rfl
          · refine sq (rg (?_))
            refine fin hT 2 rfl (th (rt (rB (jr (?_)))))
            exact ret2 rfl rfl rfl ⟨rfl, rfl, by rw [hf, if_neg (by omega), if_pos (.inl (by unfold headR; rw [if_neg (by omega), if_neg (by omega), if_neg (by omega)]))]; rfl⟩
  · rintro ⟨r0, n⟩ ⟨hh, hn0, hc1, hr0⟩
    dsimp only at hn0 hr0 ⊢
    have hsz : (⟨(c :: t).toArray⟩ : ByteArray).size = t.length + 1 := by simp [ByteArray.size]
    have hn := headR_n c.toNat
    rw [← hh] at hf hn
    rw [if_neg hc1] at hf
    dsimp only at hf hn
    refine sq (sq (rg (?_)))
    refine cmpS hT 3 rfl fun b38 h38 => ?_   -- letters.go:28 t38 t36 < t37
    rw [hsz] at h38
    refine fin hT 0 rfl (th (ifP h38 rfl (fun e10 => ?_) (fun e10 => ?_)))
    · refine sq (rg (?_))
      refine fin hT 2 rfl (th (rt (rT (?_))))
      exact ret2 rfl rfl rfl ⟨rfl, rfl, by rw [hf, if_pos (by omega)]; rfl⟩
    · refine sk (th (sq (sq (rg (?_)))))
      refine ssl hT 2 (c :: t) 1 n rfl rfl rfl rfl (by omega) (by simp only [List.length_cons]; omega) ?_
      have eq : ((c :: t).drop 1).take (n - 1) = t.take (n - 1) := rfl
      rw [eq]
      have hql : (t.take (n - 1)).length = n - 1 := by rw [List.length_take]; omega
      rw [if_neg (by omega)] at hf
      generalize t.take (n - 1) = q at hql hf ⊢
      refine cvb hT 0 rfl (by kernel_rfl) fun b42 c42 g42 x42 => ?_
      refine fin hT 2 rfl (th (bk (?_)))
      refine loop (σ := Nat × Nat) (fun s => [(6, .int .i64 ((n : Nat) : Int)), (5, .int .i32 ((s.2 : Nat) : Int)), (42, .slice (some ⟨b42, 0, none⟩) q.length c42), (43, .int .i64 (q.length : Nat)), (44, .int .i64 (s.1 : Nat))]) (fun _ => K) (fun s => g42 :: hs) (fun s => s.1 ≤ q.length ∧ contR s.2 (q.drop s.1) = contR r0 q ∧ s.2 < 32 * 64 ^ s.1) (fun s => q.length - s.1) (0, r0) ⟨Nat.zero_le _, rfl, by dsimp only; omega⟩ ⟨rfl, rfl, rfl, rfl, rfl, trivial⟩ rfl rfl ?_
      rintro ⟨i, r⟩ ⟨hi, hco, hrb⟩
      dsimp only at hi hco hrb ⊢
      refine sq (rg (?_))
      refine cmpS hT 0 rfl fun b45 h45 => ?_   -- letters.go:31 t45 t44 < t43
      refine fin hT 0 rfl (th (sq (ifP h45 rfl (fun e12 => ?_) (fun e12 => ?_))))
      · have hiq : i < q.length := by omega
        have hpow : 64 ^ i ≤ 64 ^ 2 := Nat.pow_le_pow_right (by decide) (by omega)
        have hget : (bv q)[i]? = some (.int .u8 (q[i].toNat : Nat)) := by simp [bv, List.getElem?_eq_getElem hiq, hiq]
        have hc8 := q[i].toNat_lt
        rw [List.drop_eq_getElem_cons hiq, contR] at hco
        refine sk (th (sq (bk (sq (rg (?_))))))
        refine ix1 hT 0 i rfl rfl rfl x42 hget fun a46 hc46 => ?_   -- letters.go:31 t46 t42[t44]
        refine ld hT 0 rfl (.inr ⟨0, rfl⟩) hc46 ?_
        refine fin hT 1 rfl (th (sq (sq (rg (?_)))))
        refine ar hT 1 rfl (u8shr q[i].toNat 6 (by decide)) ?_   -- letters.go:32 t49 t48 shr 6
        refine cmpS hT 0 rfl fun b50 h50 => ?_   -- letters.go:32 t50 t49 ≠ 2
        refine fin hT 0 rfl (th (ifP h50 rfl (fun e14 => ?_) (fun e14 => ?_)))
        · refine sq (rg (?_))
          refine fin hT 2 rfl (th (rt (rT (rB (rT (rT (rB (rT (?_)))))))))
          refine WQ.drop ?_
          exact ret2 rfl rfl rfl ⟨rfl, rfl, by rw [if_neg (by omega)] at hco; rw [hf, ← hco]; rfl⟩
        · refine sk (th (rg (?_)))
          refine ar hT 1 rfl (i32shl6 r (by omega)) ?_   -- letters.go:35 t52 t51 shl 6
          refine ar hT 1 rfl (u8and63 q[i].toNat (by omega)) ?_   -- letters.go:35 t54 t53 and 63
          refine ar hT 0 rfl (i32w (by omega)) ?_   -- letters.go:35 t55 convert t54
          refine ar hT 0 rfl (i32or r (q[i].toNat % 64) (by omega) (by omega)) ?_   -- letters.go:35 t56 t52 or t55
          refine fin hT 1 rfl (bl (th (rg (?_))))
          refine ar hT 0 rfl (i64w (by omega)) ?_   -- letters.go:31 t57 t44 add 1
          refine fin hT 1 rfl (?_)
          exact again (x := (i, r)) (i + 1, r * 64 + q[i].toNat % 64) ⟨rfl, rfl, rfl, rfl, rfl, trivial⟩ rfl rfl ⟨by omega, by dsimp only; rw [if_pos (by omega)] at hco; exact hco, by dsimp only; rw [Nat.pow_succ]; omega⟩ (by (try dsimp only); omega)
      · obtain rfl : i = q.length := by omega
        have hpow : 64 ^ q.length ≤ 64 ^ 3 := Nat.pow_le_pow_right (by decide) (by omega)
        rw [List.drop_length, contR] at hco
        rw [← hco] at hf
        dsimp only at hf
        refine ex (xt (xt (xb (th (sq (sq (rg (?_))))))))
        refine ixa hT 2 (sz := 1) n rfl Tryd.underlying107 (by kernel_rfl) rfl (by omega) ?_
        refine ld hT 0 (v := .int .i32 ((leastR n : Nat) : Int)) rfl (.inl rfl) (leastS hG n (by omega)) ?_
        refine cmpS hT 0 rfl fun b62 h62 => ?_   -- letters.go:37 t62 t58 < t61
        refine' bjo hT 1 4 67 [62, 63] h62 rfl rfl rfl rfl rfl rfl rfl (fun _ => ?x16) (fun b67 h67 => ?_)   -- letters.go:37 t67
        case x16 =>
          refine cl hT 1 rfl (scalarC r) ?_   -- letters.go:37 t65
          rintro v65 K65 hs65 ⟨rfl, rfl, b65, rfl, h65⟩
          refine cbS hT 0 _ rfl (bnot h65) fun b66 h66 => ?_   -- not
          exact fin hT 1 rfl (bjx h66 rfl rfl rfl)
        refine fin hT 0 rfl (th (ifP h67 rfl (fun e17 => ?_) (fun e17 => ?_)))
        · refine sq (rg (?_))
          refine fin hT 2 rfl (th (rt (rT (?_))))
          refine WQ.drop ?_
          exact ret2 rfl rfl rfl ⟨rfl, rfl, by rw [hf, if_pos (e17.imp (fun h => by omega) id)]; rfl⟩
        · refine sk (th (sq (rg (?_))))
          refine fin hT 4 rfl (th (rt (?_)))
          refine WQ.drop ?_
          exact ret2 rfl rfl rfl ⟨rfl, rfl, by rw [hf, if_neg (fun h => e17 (h.imp (fun h => by omega) id))]⟩
end Go.Proofs.YtlnhbilpkcfdlaaDoor
namespace Go.En
theorem runesF_enough : ∀ (k : Nat) (s : List UInt8), s.length ≤ k → runesF k s = runesF s.length s
  | 0, s, h => by rw [show s.length = 0 from by omega]
  | k + 1, s, h => by
    cases s with
    | nil => rfl
    | cons c t =>
      show runesF (k + 1) (c :: t) = runesF (t.length + 1) (c :: t)
      have hn := firstP_n (c :: t)
      simp only [List.length_cons] at h hn
      simp only [runesF]
      by_cases h2 : (firstP (c :: t)).2 = 0
      · simp [h2]
      · have e1 := runesF_enough k ((c :: t).drop (firstP (c :: t)).2) (by simp; omega)
        have e2 := runesF_enough t.length ((c :: t).drop (firstP (c :: t)).2) (by simp; omega)
        rw [e1, e2]
  termination_by k => k
theorem runesP_nil : runesP [] = some [] := rfl
theorem runesP_step {s : List UInt8} (h : s ≠ []) : runesP s = if (firstP s).2 = 0 then none else (runesP (s.drop (firstP s).2)).map ((firstP s).1 :: ·) := by
  cases s with
  | nil => exact absurd rfl h
  | cons c t =>
    have hn := firstP_n (c :: t)
    show runesF (t.length + 1) (c :: t) = _
    simp only [runesF]
    rw [if_neg h]
    by_cases h2 : (firstP (c :: t)).2 = 0
    · simp [h2]
    · rw [if_neg h2, if_neg h2, runesF_enough t.length _ (by simp; omega)]
      rfl
def rvv (l : List Nat) : List Value := l.map fun r => Value.int .i32 ((r : Nat) : Int)
theorem rvv_append (l r : List Nat) : rvv (l ++ r) = rvv l ++ rvv r := by simp [rvv]
theorem rvv_one (l : List Nat) : ∀ u ∈ rvv l, u.oneCell' = true := by
  intro u hu
  obtain ⟨b, _, rfl⟩ := List.mem_map.1 hu
  rfl
end Go.En
namespace Go.Proofs.YtlnhbilpkcfdlaaDoor
open Go.En
set_option linter.unusedVariables false
attribute [local irreducible] Code.wp wpList Calls

theorem isS_ptL {b n ty : Nat} {c : Array Value} {fr : Nat × Nat} {xs : List Value} (h1 : c.toList = xs) (h2 : c.size = n) : IsS (pt b c ty fr) (some ⟨b, 0, none⟩) n n 1 xs := by
  subst h1
  refine ⟨by simpa using h2, Nat.le_refl _, fun j u hu => ⟨_, rfl, ?_⟩⟩
  rw [add_mk]
  exact Cell.pt (by simpa using hu)
theorem appR {P : Program} {T : Tab} {w0 : World} {ops : Array Oper} {Q : Exit → Act → World → Prop} {rest rest' : List Oper} {n : Nat} {l l' : Sl} {K : PH} {hs : List PH}
    (hT : TabOK P T) (k i : Nat) (xs : List Nat) (y : Nat) {d : Nat} {si : SlI} {ao ao2 : Option Addr} {c1 c2 : Nat} {h h2 : PH} (h0 : apAt T ops n k rest l = some (d, si, (ao, xs.length, c1), (ao2, 1, c2), rest', l'))
    (hi : hs[i]? = some h) (hsz : (si.size, si.bytes, si.zero.cells.size) = (1, 4, 1)) (o : Own h ao xs.length c1 si.elem 1 (rvv xs)) (hm : In K hs h2) (x : IsS h2 ao2 1 c2 1 (rvv [y])) (hb : xs.length ≤ 17592186044415)
    (hk : ∀ ao' cap' h', Own h' ao' (xs ++ [y]).length cap' si.elem 1 (rvv (xs ++ [y])) → WL P w0 ops Q rest' n ((d, .slice ao' (xs ++ [y]).length cap') :: l') K (hs.set i h')) : WL P w0 ops Q rest n l K hs := by
  simp only [Prod.mk.injEq] at hsz
  obtain ⟨e1, e2, e3⟩ := hsz
  refine app hT k i h0 hi (by rw [e1]; exact o) hm (by rw [e1]; exact x) (by rw [e1, e3]) (by rw [e1]; decide) (rvv_one _) (by rw [e2]; omega) (by simp only [maxLen]; omega) fun ao' cap' h' o' => ?_
  have e : (xs ++ [y]).length = xs.length + 1 := by simp
  rw [e1, ← rvv_append, ← e] at o'
  have := hk ao' cap' h' o'
  rwa [e] at this
theorem runesC {w0 : World} {K : PH} {hs : List PH} (s : List UInt8) (hG : LeastK K) (hl : s.length < 1099511627776) : Ct Tryd.prog w0 10 [str s] K hs
    (fun v K' hs' => K' = K ∧ ∃ h ao c, hs' = h :: hs ∧ v = .tuple #[.slice ao ((runesP s).getD []).length c, .bool (runesP s).isSome] ∧ Own h ao ((runesP s).getD []).length c 21 1 (rvv ((runesP s).getD []))) := by
  refine enter Tryd.func10 (by kernel_rfl) rfl rfl rfl ?_
  refine sq (rg (?_))
  refine fin hT 2 rfl (th (sq (rg (?_))))
  refine fin hT 1 rfl (th (sq (bk (WC.em ?_))))
  refine loop (σ := List Nat × List UInt8 × PH × Option Addr × Nat) (fun x => [(0, str x.2.1), (4, .slice x.2.2.2.1 x.1.length x.2.2.2.2)]) (fun _ => K) (fun x => x.2.2.1 :: hs) (fun x => runesP s = (runesP x.2.1).map (x.1 ++ ·) ∧ x.1.length + x.2.1.length ≤ s.length ∧ Own x.2.2.1 x.2.2.2.1 x.1.length x.2.2.2.2 21 1 (rvv x.1)) (fun x => x.2.1.length) ([], s, em, none, 0) ⟨by cases runesP s <;> rfl, by simp, Own.nil _ _⟩ ⟨rfl, rfl, trivial⟩ rfl rfl ?_
  rintro ⟨l, s', g, ao, c⟩ ⟨hr, hlen, o⟩
  dsimp only at hr hlen o ⊢
  have hsz : (⟨s'.toArray⟩ : ByteArray).size = s'.length := by simp [ByteArray.size]
  refine sq (sq (rg (?_)))
  refine cmpS hT 2 rfl fun b9 h9 => ?_   -- letters.go:46 t9 t8 > 0
  rw [hsz] at h9
  refine fin hT 0 rfl (th (ifP h9 rfl (fun e2 => ?_) (fun e2 => ?_)))
  · have hne : s' ≠ [] := by rintro rfl; simp at e2
    have hst := runesP_step hne
    have hn := firstP_n s'
    refine sk (th (bk (sq (rg (?_)))))
    refine cl hT 1 rfl (firstC s' hne hG (by omega)) ?_   -- letters.go:47 t12
    rintro v12 K12 hs12 ⟨rfl, rfl, rfl⟩
    refine fin hT 5 rfl (th (sq (sq (rg (?_)))))
    refine cmpS hT 1 rfl fun b16 h16 => ?_   -- letters.go:48 t16 t15 = 0
    refine fin hT 0 rfl (th (ifP h16 rfl (fun e4 => ?_) (fun e4 => ?_)))
    · refine sq (rg (?_))
      refine fin hT 2 rfl (th (rt (rT (rB (rT (rB (rT (?_))))))))
      refine WQ.drop (WQ.em ?_)
      exact ret2 rfl rfl rfl ⟨rfl, em, none, 0, rfl, by rw [hr, hst, if_pos (by omega)]; rfl, by rw [hr, hst, if_pos (by omega)]; exact Own.nil _ _⟩
    · refine sk (th (sq (rg (?_))))
      refine lit hT 2 #[.int .i32 ((firstP s').1 : Nat)] rfl (by decide) (by kernel_rfl) fun b19 => ?_   -- letters.go:51 t19
      refine appR hT 0 1 l (firstP s').1 rfl rfl rfl o (.inr ⟨0, rfl⟩) (isS_ptL rfl rfl) (by omega) fun ao20 c20 g20 o20 => ?_
      refine fin hT 1 rfl (th (WC.drop (rg (?_))))
      refine ssl hT 2 s' (firstP s').2 s'.length rfl rfl rfl rfl (by omega) (Nat.le_refl _) ?_
      have eq : (s'.drop (firstP s').2).take (s'.length - (firstP s').2) = s'.drop (firstP s').2 := List.take_of_length_le (by simp)
      rw [eq]
      refine fin hT 1 rfl (bl (?_))
      exact again (x := (l, s', g, ao, c)) (l ++ [(firstP s').1], s'.drop (firstP s').2, g20, ao20, c20) ⟨rfl, rfl, trivial⟩ rfl rfl ⟨by dsimp only; rw [hr, hst, if_neg (by omega)]; cases runesP (s'.drop (firstP s').2) <;> simp, by simp only [List.length_append, List.length_singleton, List.length_drop]; omega, o20⟩ (by (try dsimp only); simp only [List.length_drop]; omega)
  · obtain rfl : s' = [] := List.length_eq_zero_iff.1 (by omega)
    refine ex (xt (xt (xb (th (sq (rg (?_)))))))
    refine fin hT 3 rfl (th (rt (?_)))
    exact ret2 rfl rfl rfl ⟨rfl, g, ao, c, rfl, by rw [hr, runesP_nil]; simp, by rw [hr, runesP_nil]; simpa using o⟩
end Go.Proofs.YtlnhbilpkcfdlaaDoor
namespace Go.Proofs.YtlnhbilpkcfdlaaDoor
open Go.En
set_option linter.unusedVariables false
attribute [local irreducible] Code.wp wpList Calls

theorem i32shr (c k : Nat) (hk : k ≤ 32) : Value.int .i32 (((c : Nat) : Int).fdiv (2 ^ (min ((k : Nat) : Int).toNat IntKind.i32.bits))) = .int .i32 ((c / 2 ^ k : Nat) : Int) := by
  have e : min ((k : Nat) : Int).toNat IntKind.i32.bits = k := by
    have : IntKind.i32.bits = 32 := rfl
    omega
  rw [e]
  congr 1
  rw [show ((2 : Int) ^ k) = ((2 ^ k : Nat) : Int) from by push_cast; rfl, Int.fdiv_eq_ediv_of_nonneg _ (Int.natCast_nonneg _)]
  exact (Int.natCast_ediv c (2 ^ k)).symm
theorem i32orK (a A b k : Nat) (ha : a = A * 2 ^ k) (hb : b < 2 ^ k) (hs : a + b < 2147483648) : Value.int .i32 (IntKind.i32.wrap ((BitVec.ofInt 32 ((a : Nat) : Int) ||| BitVec.ofInt 32 ((b : Nat) : Int)).toNat : Nat)) = .int .i32 ((a + b : Nat) : Int) := by
  have e : (BitVec.ofInt 32 ((a : Nat) : Int) ||| BitVec.ofInt 32 ((b : Nat) : Int)).toNat = a + b := by
    rw [BitVec.toNat_or, BitVec.ofInt_natCast, BitVec.ofInt_natCast, BitVec.toNat_ofNat, BitVec.toNat_ofNat, Nat.mod_eq_of_lt (by omega), Nat.mod_eq_of_lt (by omega)]
    have := Nat.shiftLeft_add_eq_or_of_lt (i := k) (b := b) hb A
    rw [Nat.shiftLeft_eq, ← ha] at this
    exact this.symm
  rw [e, i32w (by omega)]
theorem wrQ {K g : PH} {R : List PH} {ao : Option Addr} {c : Nat} {bs X ys : List UInt8} (hp : X = ys) (o : Own g ao (bs ++ ys).length c 5 1 (bv (bs ++ ys))) :
    ∃ h', g :: R = h' :: R ∧ K = K ∧ ∃ ao' c', Value.slice ao (bs ++ ys).length c = .slice ao' (bs ++ X).length c' ∧ Own h' ao' (bs ++ X).length c' 5 1 (bv (bs ++ X)) := by
  subst hp; exact ⟨g, rfl, rfl, ao, c, rfl, o⟩
theorem writeC {w0 : World} {K h : PH} {R : List PH} (ao : Option Addr) (c1 : Nat) (bs : List UInt8) (r : Nat) (hr : r ≤ 1114111) (hG : LeastK K) (o : Own h ao bs.length c1 5 1 (bv bs)) (hb : bs.length ≤ 68719476736) :
    Ct Tryd.prog w0 41 [.slice ao bs.length c1, .int .i32 (r : Nat)] K (h :: R)
      (fun v K' hs' => ∃ h', hs' = h' :: R ∧ K' = K ∧ ∃ ao' c', v = .slice ao' (bs ++ wr r).length c' ∧ Own h' ao' (bs ++ wr r).length c' 5 1 (bv (bs ++ wr r))) := by
  refine enter Tryd.func41 (by kernel_rfl) rfl rfl rfl ?_
  refine sq (rg (?_))
  refine fin hT 1 rfl (th (sq (bk (sq (rg (?_))))))
  refine ixa hT 1 (sz := 1) 2 rfl Tryd.underlying107 (by kernel_rfl) rfl (by decide) ?_
  refine ld hT 0 (v := .int .i32 ((leastR 2 : Nat) : Int)) rfl (.inl rfl) (leastS hG 2 (by decide)) ?_
  refine cmpS hT 0 rfl fun b9 h9 => ?_   -- letters.go:60 t9 t6 < t8
  rw [show leastR 2 = 128 from rfl] at h9
  refine fin hT 1 rfl (th (ifP h9 rfl (fun e2 => ?_) (fun e2 => ?_)))
  · refine sq (rg (?_))
    refine ar hT 2 rfl (u8w (by omega)) ?_   -- letters.go:61 t12 convert t11
    refine lit hT 0 #[.int .u8 ((r : Nat) : Int)] rfl (by decide) (by kernel_rfl) fun b13 => ?_   -- letters.go:61 t13
    refine appB hT 0 1 bs [by8 (r)] rfl rfl rfl o (.inr ⟨0, rfl⟩) (isS_ptL (by simp [bv, by8, byteV (show r < 256 by omega)]) rfl) (by simp only [List.length_cons, List.length_nil]; omega) fun ao14 c14 g14 o14 => ?_
    refine fin hT 1 rfl (th (rt (rB (rT (?_)))))
    refine WQ.drop ?_
    exact ret1 rfl rfl (wrQ (by rw [wr, if_pos (by omega)]) o14)
  · refine sq (rg (?_))
    refine ixa hT 1 (sz := 1) 3 rfl Tryd.underlying107 (by kernel_rfl) rfl (by decide) ?_
    refine ld hT 0 (v := .int .i32 ((leastR 3 : Nat) : Int)) rfl (.inl rfl) (leastS hG 3 (by decide)) ?_
    refine cmpS hT 0 rfl fun b19 h19 => ?_   -- letters.go:62 t19 t16 < t18
    rw [show leastR 3 = 2048 from rfl] at h19
    refine fin hT 1 rfl (th (ifP h19 rfl (fun e4 => ?_) (fun e4 => ?_)))
    · refine sq (rg (?_))
      refine ar hT 2 rfl (i32shr r 6 (by decide)) ?_   -- letters.go:63 t22 t21 shr 6
      refine ar hT 0 rfl (i32orK 192 3 (r / 64) 6 rfl (by omega) (by omega)) ?_   -- letters.go:63 t23 192 or t22
      refine ar hT 0 rfl (u8w (by omega)) ?_   -- letters.go:63 t24 convert t23
      refine ar hT 1 rfl (i32and r 63 6 (by omega) rfl (by decide)) ?_   -- letters.go:63 t26 t25 and 63
      refine ar hT 0 rfl (i32orK 128 2 (r % 64) 6 rfl (by omega) (by omega)) ?_   -- letters.go:63 t27 128 or t26
      refine ar hT 0 rfl (u8w (by omega)) ?_   -- letters.go:63 t28 convert t27
      refine lit hT 0 #[.int .u8 ((192 + r / 64 : Nat) : Int), .int .u8 ((128 + r % 64 : Nat) : Int)] rfl (by decide) (by kernel_rfl) fun b29 => ?_   -- letters.go:63 t29
      refine appB hT 0 1 bs [by8 (192 + r / 64), by8 (128 + r % 64)] rfl rfl rfl o (.inr ⟨0, rfl⟩) (isS_ptL (by simp [bv, by8, byteV (show 192 + r / 64 < 256 by omega), byteV (show 128 + r % 64 < 256 by omega)]; omega) rfl) (by simp only [List.length_cons, List.length_nil]; omega) fun ao30 c30 g30 o30 => ?_
      refine fin hT 1 rfl (th (rt (rB (rT (?_)))))
      refine WQ.drop ?_
      exact ret1 rfl rfl (wrQ (by rw [wr, if_neg (by omega), if_pos (by omega)]) o30)
    · refine sq (rg (?_))
      refine ixa hT 1 (sz := 1) 4 rfl Tryd.underlying107 (by kernel_rfl) rfl (by decide) ?_
      refine ld hT 0 (v := .int .i32 ((leastR 4 : Nat) : Int)) rfl (.inl rfl) (leastS hG 4 (by decide)) ?_
      refine cmpS hT 0 rfl fun b35 h35 => ?_   -- letters.go:64 t35 t32 < t34
      rw [show leastR 4 = 65536 from rfl] at h35
      refine fin hT 1 rfl (th (ifP h35 rfl (fun e6 => ?_) (fun e6 => ?_)))
      · refine sq (rg (?_))
        refine ar hT 2 rfl (i32shr r 12 (by decide)) ?_   -- letters.go:65 t38 t37 shr 12
        refine ar hT 0 rfl (i32orK 224 7 (r / 4096) 5 rfl (by omega) (by omega)) ?_   -- letters.go:65 t39 224 or t38
        refine ar hT 0 rfl (u8w (by omega)) ?_   -- letters.go:65 t40 convert t39
        refine ar hT 1 rfl (i32shr r 6 (by decide)) ?_   -- letters.go:65 t42 t41 shr 6
        refine ar hT 0 rfl (i32and (r / 64) 63 6 (by omega) rfl (by decide)) ?_   -- letters.go:65 t43 t42 and 63
        refine ar hT 0 rfl (i32orK 128 2 (r / 64 % 64) 6 rfl (by omega) (by omega)) ?_   -- letters.go:65 t44 128 or t43
        refine ar hT 0 rfl (u8w (by omega)) ?_   -- letters.go:65 t45 convert t44
        refine ar hT 1 rfl (i32and r 63 6 (by omega) rfl (by decide)) ?_   -- letters.go:65 t47 t46 and 63
        refine ar hT 0 rfl (i32orK 128 2 (r % 64) 6 rfl (by omega) (by omega)) ?_   -- letters.go:65 t48 128 or t47
        refine ar hT 0 rfl (u8w (by omega)) ?_   -- letters.go:65 t49 convert t48
        refine lit hT 0 #[.int .u8 ((224 + r / 4096 : Nat) : Int), .int .u8 ((128 + r / 64 % 64 : Nat) : Int), .int .u8 ((128 + r % 64 : Nat) : Int)] rfl (by decide) (by kernel_rfl) fun b50 => ?_   -- letters.go:65 t50
        refine appB hT 0 1 bs [by8 (224 + r / 4096), by8 (128 + r / 64 % 64), by8 (128 + r % 64)] rfl rfl rfl o (.inr ⟨0, rfl⟩) (isS_ptL (by simp [bv, by8, byteV (show 224 + r / 4096 < 256 by omega), byteV (show 128 + r / 64 % 64 < 256 by omega), byteV (show 128 + r % 64 < 256 by omega)]; omega) rfl) (by simp only [List.length_cons, List.length_nil]; omega) fun ao51 c51 g51 o51 => ?_
        refine fin hT 1 rfl (th (rt (rB (rT (?_)))))
        refine WQ.drop ?_
        exact ret1 rfl rfl (wrQ (by rw [wr, if_neg (by omega), if_neg (by omega), if_pos (by omega)]) o51)
      · refine sk (bl (th (sq (rg (?_)))))
        refine ar hT 2 rfl (i32shr r 18 (by decide)) ?_   -- letters.go:67 t54 t53 shr 18
        refine ar hT 0 rfl (i32orK 240 15 (r / 262144) 4 rfl (by omega) (by omega)) ?_   -- letters.go:67 t55 240 or t54
        refine ar hT 0 rfl (u8w (by omega)) ?_   -- letters.go:67 t56 convert t55
        refine ar hT 1 rfl (i32shr r 12 (by decide)) ?_   -- letters.go:67 t58 t57 shr 12
        refine ar hT 0 rfl (i32and (r / 4096) 63 6 (by omega) rfl (by decide)) ?_   -- letters.go:67 t59 t58 and 63
        refine ar hT 0 rfl (i32orK 128 2 (r / 4096 % 64) 6 rfl (by omega) (by omega)) ?_   -- letters.go:67 t60 128 or t59
        refine ar hT 0 rfl (u8w (by omega)) ?_   -- letters.go:67 t61 convert t60
        refine ar hT 1 rfl (i32shr r 6 (by decide)) ?_   -- letters.go:67 t63 t62 shr 6
        refine ar hT 0 rfl (i32and (r / 64) 63 6 (by omega) rfl (by decide)) ?_   -- letters.go:67 t64 t63 and 63
        refine ar hT 0 rfl (i32orK 128 2 (r / 64 % 64) 6 rfl (by omega) (by omega)) ?_   -- letters.go:67 t65 128 or t64
        refine ar hT 0 rfl (u8w (by omega)) ?_   -- letters.go:67 t66 convert t65
        refine ar hT 1 rfl (i32and r 63 6 (by omega) rfl (by decide)) ?_   -- letters.go:67 t68 t67 and 63
        refine ar hT 0 rfl (i32orK 128 2 (r % 64) 6 rfl (by omega) (by omega)) ?_   -- letters.go:67 t69 128 or t68
        refine ar hT 0 rfl (u8w (by omega)) ?_   -- letters.go:67 t70 convert t69
        refine lit hT 0 #[.int .u8 ((240 + r / 262144 : Nat) : Int), .int .u8 ((128 + r / 4096 % 64 : Nat) : Int), .int .u8 ((128 + r / 64 % 64 : Nat) : Int), .int .u8 ((128 + r % 64 : Nat) : Int)] rfl (by decide) (by kernel_rfl) fun b71 => ?_   -- letters.go:67 t71
        refine appB hT 0 1 bs [by8 (240 + r / 262144), by8 (128 + r / 4096 % 64), by8 (128 + r / 64 % 64), by8 (128 + r % 64)] rfl rfl rfl o (.inr ⟨0, rfl⟩) (isS_ptL (by simp [bv, by8, byteV (show 240 + r / 262144 < 256 by omega), byteV (show 128 + r / 4096 % 64 < 256 by omega), byteV (show 128 + r / 64 % 64 < 256 by omega), byteV (show 128 + r % 64 < 256 by omega)]; omega) rfl) (by simp only [List.length_cons, List.length_nil]; omega) fun ao72 c72 g72 o72 => ?_
        refine fin hT 1 rfl (th (rt (?_)))
        refine WQ.drop ?_
        exact ret1 rfl rfl (wrQ (by rw [wr, if_neg (by omega), if_neg (by omega), if_neg (by omega)]) o72)
end Go.Proofs.YtlnhbilpkcfdlaaDoor
namespace Go.En
theorem textP_append : ∀ (l r : List Nat), textP (l ++ r) = textP l ++ textP r
  | [], r => rfl
  | x :: l, r => by simp [textP, textP_append l r]
theorem wr_len (r : Nat) : (wr r).length ≤ 4 := by
  unfold wr
  repeat' split
  all_goals simp
theorem textP_len : ∀ (l : List Nat), (textP l).length ≤ 4 * l.length
  | [] => Nat.le_refl _
  | x :: l => by have := textP_len l; have := wr_len x; simp only [textP, List.length_append, List.length_cons]; omega
end Go.En
namespace Go.Proofs.YtlnhbilpkcfdlaaDoor
open Go.En
set_option linter.unusedVariables false
attribute [local irreducible] Code.wp wpList Calls

theorem textC {w0 : World} {K hv : PH} {hs : List PH} (ai : Option Addr) (ci : Nat) (l : List Nat) (hm : In K hs hv) (x : IsS hv ai l.length ci 1 (rvv l)) (hsc : ∀ r ∈ l, scalarP r) (hG : LeastK K) (hl : l.length ≤ 1073741824) :
    Ct Tryd.prog w0 21 [.slice ai l.length ci] K hs (fun v K' hs' => K' = K ∧ hs' = hs ∧ v = .tuple #[str (textP l), .bool true]) := by
  refine enter Tryd.func21 (by kernel_rfl) rfl rfl rfl ?_
  refine sq (rg (?_))
  refine fin hT 2 rfl (th (sq (rg (?_))))
  refine fin hT 1 rfl (th (sq (sq (rg (?_)))))
  refine fin hT 3 rfl (th (bk (WC.em ?_)))
  refine loop (σ := Nat × PH × Option Addr × Nat) (fun s => [(4, .slice s.2.2.1 (textP (l.take s.1)).length s.2.2.2), (7, .slice ai l.length ci), (8, .int .i64 (l.length : Nat)), (9, .int .i64 (s.1 : Nat))]) (fun _ => K) (fun s => s.2.1 :: hs) (fun s => s.1 ≤ l.length ∧ Own s.2.1 s.2.2.1 (textP (l.take s.1)).length s.2.2.2 5 1 (bv (textP (l.take s.1)))) (fun s => l.length - s.1) (0, em, none, 0) ⟨Nat.zero_le _, Own.nil _ _⟩ ⟨rfl, rfl, rfl, rfl, trivial⟩ rfl rfl ?_
  rintro ⟨i, g, ao, c⟩ ⟨hi, o⟩
  dsimp only at hi o ⊢
  refine sq (rg (?_))
  refine cmpS hT 0 rfl fun b10 h10 => ?_   -- letters.go:73 t10 t9 < t8
  refine fin hT 0 rfl (th (sq (ifP h10 rfl (fun e2 => ?_) (fun e2 => ?_))))
  · have hil : i < l.length := by omega
    have htl := textP_len (l.take i)
    have hti : (l.take i).length = i := by simp; omega
    have hget : (rvv l)[i]? = some (.int .i32 ((l[i] : Nat) : Int)) := by simp [rvv, List.getElem?_eq_getElem hil, hil]
    have hsi := hsc l[i] (List.getElem_mem hil)
    have hts : l.take (i + 1) = l.take i ++ [l[i]] := by rw [List.take_add_one, List.getElem?_eq_getElem hil]; rfl
    refine sk (th (sq (bk (sq (rg (?_))))))
    refine ix1 hT 0 i rfl rfl rfl x hget fun a11 hc11 => ?_   -- letters.go:73 t11 t7[t9]
    refine ld hT 0 rfl (In.cons hm) hc11 ?_
    refine fin hT 1 rfl (th (sq (sq (rg (?_)))))
    refine cl hT 1 rfl (scalarC l[i]) ?_   -- letters.go:74 t14
    rintro v14 K14 hs14 ⟨rfl, rfl, b14, rfl, h14⟩
    refine cbS hT 0 _ rfl (bnot h14) fun b15 h15 => ?_   -- not
    refine fin hT 0 rfl (th (ifP h15 rfl (fun e3 => ?_) (fun e3 => ?_)))
    · · exact absurd hsi e3
    · refine sk (th (rg (?_)))
      refine cl hT 2 rfl (writeC ao c _ l[i] hsi.1 hG o (by omega)) ?_   -- letters.go:77 t18
      rintro v18 K18 hs18 ⟨g18, rfl, rfl, ao18, c18, rfl, o18⟩
      have ee : textP (l.take i) ++ wr l[i] = textP (l.take (i + 1)) := by rw [hts, textP_append]; simp [textP]
      rw [ee] at o18 ⊢
      refine fin hT 1 rfl (bl (th (rg (?_))))
      refine ar hT 0 rfl (i64w (by omega)) ?_   -- letters.go:73 t19 t9 add 1
      refine fin hT 1 rfl (?_)
      exact again (x := (i, g, ao, c)) (i + 1, g18, ao18, c18) ⟨rfl, rfl, rfl, rfl, trivial⟩ rfl rfl ⟨by omega, o18⟩ (by (try dsimp only); omega)
  · obtain rfl : i = l.length := by omega
    refine ex (xt (xt (xb (th (sq (rg (?_)))))))
    rw [List.take_length] at o ⊢
    refine cvs hT 1 (textP l) rfl (.inr ⟨0, rfl⟩) o.isS (by kernel_rfl) ?_   -- letters.go:79 t21 t20
    refine fin hT 2 rfl (th (rt (?_)))
    refine WQ.drop ?_
    exact ret2 rfl rfl rfl ⟨rfl, rfl, rfl⟩
end Go.Proofs.YtlnhbilpkcfdlaaDoor
namespace Go.En
/-- the runes of a text; none where it is no text -/
def rl (s : List UInt8) : List Nat := (runesP s).getD []
def wordP (s : List UInt8) : Prop := s.length ≤ 96 ∧ (runesP s).isSome = true ∧ (∀ r ∈ rl s, 32 < r ∧ r ≠ 127) ∧ 0 < (rl s).length ∧ (rl s).length ≤ 24
instance (s : List UInt8) : Decidable (wordP s) := by unfold wordP; infer_instance
end Go.En
namespace Go.Proofs.YtlnhbilpkcfdlaaDoor
open Go.En
set_option linter.unusedVariables false
attribute [local irreducible] Code.wp wpList Calls

theorem word_step {A : Prop} {l : List Nat} {x : Nat} : (((A ∧ ∀ r ∈ l, 32 < r ∧ r ≠ 127) ∧ (32 : Int) < ((x : Nat) : Int)) ∧ ¬ ((x : Nat) : Int) = 127) ↔ A ∧ ∀ r ∈ l ++ [x], 32 < r ∧ r ≠ 127 := by
  simp only [List.mem_append, List.mem_singleton]
  constructor
  · rintro ⟨⟨⟨a, h⟩, h1⟩, h2⟩
    refine ⟨a, fun r hr => hr.elim (h r) fun e => ?_⟩
    subst e
    omega
  · rintro ⟨a, h⟩
    have h1 := h x (.inr rfl)
    exact ⟨⟨⟨a, fun r hr => h r (.inl hr)⟩, by omega⟩, by omega⟩
theorem wordC {w0 : World} {K : PH} {hs : List PH} (s : List UInt8) (hG : LeastK K) : Ct Tryd.prog w0 5 [str s] K hs (fun v K' hs' => K' = K ∧ hs' = hs ∧ ∃ t : Bool, v = .bool t ∧ (t = true ↔ wordP s)) := by
  have hsz : (⟨s.toArray⟩ : ByteArray).size = s.length := by simp [ByteArray.size]
  refine enter Tryd.func5 (by kernel_rfl) rfl rfl rfl ?_
  refine sq (rg (?_))
  refine fin hT 1 rfl (th (sq (sq (rg (?_)))))
  refine cmpS hT 2 rfl fun b9 h9 => ?_   -- letters.go:84 t9 t8 > 96
  rw [hsz] at h9
  refine fin hT 0 rfl (th (ifP h9 rfl (fun e2 => ?_) (fun e2 => ?_)))
  · refine sq (rg (?_))
    refine fin hT 1 rfl (th (rt (rT (?_))))
    exact ret1 rfl rfl ⟨rfl, rfl, false, rfl, fun h => (by cases h), fun h => by have := h.1; omega⟩
  · refine sk (th (sq (rg (?_))))
    refine cl hT 1 rfl (runesC s hG (by omega)) ?_   -- letters.go:87 t12
    rintro v12 K12 hs12 ⟨rfl, g, ao, c, rfl, rfl, o⟩
    have hll : (rl s).length ≤ s.length := by
      unfold rl
      cases h : runesP s with
      | none => exact Nat.zero_le _
      | some l => exact (runesP_text h).2.2
    rw [show (runesP s).getD [] = rl s from rfl] at o ⊢
    refine fin hT 5 rfl (th (sq (sq (rg (?_)))))
    refine fin hT 3 rfl (th (bk (?_)))
    refine loop (σ := Nat × Bool) (fun x => [(3, .slice ao (rl s).length c), (4, .bool x.2), (15, .slice ao (rl s).length c), (16, .int .i64 ((rl s).length : Nat)), (17, .int .i64 (x.1 : Nat))]) (fun _ => K12) (fun x => g :: hs) (fun x => x.1 ≤ (rl s).length ∧ (x.2 = true ↔ (runesP s).isSome = true ∧ ∀ r ∈ (rl s).take x.1, 32 < r ∧ r ≠ 127)) (fun x => (rl s).length - x.1) (0, (runesP s).isSome) ⟨Nat.zero_le _, by simp⟩ ⟨rfl, rfl, rfl, rfl, rfl, trivial⟩ rfl rfl ?_
    rintro ⟨i, b⟩ ⟨hi, hb⟩
    dsimp only at hi hb ⊢
    refine sq (rg (?_))
    refine cmpS hT 0 rfl fun b18 h18 => ?_   -- letters.go:88 t18 t17 < t16
    refine fin hT 0 rfl (th (sq (ifP h18 rfl (fun e4 => ?_) (fun e4 => ?_))))
    · have hil : i < (rl s).length := by omega
      have hget : (rvv (rl s))[i]? = some (.int .i32 (((rl s)[i] : Nat) : Int)) := by simp [rvv, List.getElem?_eq_getElem hil, hil]
      have hts : (rl s).take (i + 1) = (rl s).take i ++ [(rl s)[i]] := by rw [List.take_add_one, List.getElem?_eq_getElem hil]; rfl
      refine sk (th (sq (bk (sq (rg (?_))))))
      refine ix1 hT 0 i rfl rfl rfl o.isS hget fun a19 hc19 => ?_   -- letters.go:88 t19 t15[t17]
      refine ld hT 0 rfl (.inr ⟨0, rfl⟩) hc19 ?_
      refine fin hT 1 rfl (th (rg (?_)))
      refine' bja hT 2 3 25 [4, 21, 22] hb rfl rfl rfl rfl rfl rfl rfl (fun _ => ?y1) (fun b25 h25 => ?_)
      case y1 =>
        refine cmpS hT 1 rfl fun b24 h24 => ?_
        exact fin hT 1 rfl (bjx h24 rfl rfl rfl)
      refine' bja hT 1 3 29 [25, 26] h25 rfl rfl rfl rfl rfl rfl rfl (fun _ => ?y2) (fun b29 h29 => ?_)
      case y2 =>
        refine cmpS hT 1 rfl fun b28 h28 => ?_
        exact fin hT 1 rfl (bjx h28 rfl rfl rfl)
      refine fin hT 1 rfl (bl (th (rg (?_))))
      refine ar hT 0 rfl (i64w (by omega)) ?_   -- letters.go:88 t30 t17 add 1
      refine fin hT 1 rfl (?_)
      exact again (x := (i, b)) (i + 1, b29) ⟨rfl, rfl, rfl, rfl, rfl, trivial⟩ rfl rfl ⟨by omega, by dsimp only; rw [h29, hts]; exact word_step⟩ (by (try dsimp only); omega)
    · obtain rfl : i = (rl s).length := by omega
      rw [List.take_length] at hb
      refine ex (xt (xt (xb (th (sq (rg (?_)))))))
      refine' bja hT 2 4 36 [4, 31, 32] hb rfl rfl rfl rfl rfl rfl rfl (fun _ => ?y3) (fun b36 h36 => ?_)
      case y3 =>
        refine cmpS hT 2 rfl fun b35 h35 => ?_
        exact fin hT 1 rfl (bjx h35 rfl rfl rfl)
      refine' bja hT 1 4 41 [36, 37] h36 rfl rfl rfl rfl rfl rfl rfl (fun _ => ?y4) (fun b41 h41 => ?_)
      case y4 =>
        refine cmpS hT 2 rfl fun b40 h40 => ?_
        exact fin hT 1 rfl (bjx h40 rfl rfl rfl)
      refine fin hT 1 rfl (th (rt (?_)))
      refine WQ.drop ?_
      exact ret1 rfl rfl ⟨rfl, rfl, b41, rfl, by rw [h41]; unfold wordP; exact ⟨fun h => ⟨by omega, h.1.1.1, h.1.1.2, by omega, by omega⟩, fun h => ⟨⟨⟨h.2.1, h.2.2.1⟩, by have := h.2.2.2; omega⟩, by have := h.2.2.2; omega⟩⟩⟩
end Go.Proofs.YtlnhbilpkcfdlaaDoor
namespace Go.En
set_option linter.unusedVariables false
theorem by8_nat {n : Nat} (h : n < 256) : (by8 n).toNat = n := by simp only [by8, UInt8.toNat_ofNat']; omega
theorem firstP_of {r : Nat} (h : scalarP r) (x : List UInt8) : firstP (wr r ++ x) = (r, (wr r).length) := by
  obtain ⟨h1, h2⟩ := h
  have hs : scalarP r := ⟨h1, h2⟩
  unfold wr
  split
  · rw [List.cons_append, firstP_cons, by8_nat (by omega), if_pos (by omega)]; rfl
  · split
    · have e : headR (192 + r / 64) = (r / 64, 2) := by unfold headR; rw [if_pos (by omega)]; simp only [Prod.mk.injEq, and_true]; omega
      rw [List.cons_append, firstP_cons, by8_nat (by omega), if_neg (by omega), e]
      simp only [List.cons_append, List.nil_append, List.take_succ_cons, List.take_zero, List.length_cons]
      rw [if_neg (by omega)]
      simp only [contR, by8_nat (show 128 + r % 64 < 256 by omega)]
      rw [if_pos (by omega), show r / 64 * 64 + (128 + r % 64) % 64 = r from by omega]
      simp only
      rw [if_neg (by simp only [leastR]; intro h; rcases h with h | h; · simp at h; omega
                     · exact h hs)]
      rfl
    · split
      · have e : headR (224 + r / 4096) = (r / 4096, 3) := by unfold headR; rw [if_neg (by omega), if_pos (by omega)]; simp only [Prod.mk.injEq, and_true]; omega
        rw [List.cons_append, firstP_cons, by8_nat (by omega), if_neg (by omega), e]
        simp only [List.cons_append, List.nil_append, List.take_succ_cons, List.take_zero, List.length_cons]
        rw [if_neg (by omega)]
        simp only [contR, by8_nat (show 128 + r / 64 % 64 < 256 by omega), by8_nat (show 128 + r % 64 < 256 by omega)]
        rw [if_pos (by omega), if_pos (by omega), show (r / 4096 * 64 + (128 + r / 64 % 64) % 64) * 64 + (128 + r % 64) % 64 = r from by omega]
        simp only
        rw [if_neg (by simp only [leastR]; intro h; rcases h with h | h; · simp at h; omega
                       · exact h hs)]
        rfl
      · have e : headR (240 + r / 262144) = (r / 262144, 4) := by unfold headR; rw [if_neg (by omega), if_neg (by omega), if_pos (by omega)]; simp only [Prod.mk.injEq, and_true]; omega
        rw [List.cons_append, firstP_cons, by8_nat (by omega), if_neg (by omega), e]
        simp only [List.cons_append, List.nil_append, List.take_succ_cons, List.take_zero, List.length_cons]
        rw [if_neg (by omega)]
        simp only [contR, by8_nat (show 128 + r / 4096 % 64 < 256 by omega), by8_nat (show 128 + r / 64 % 64 < 256 by omega), by8_nat (show 128 + r % 64 < 256 by omega)]
        rw [if_pos (by omega), if_pos (by omega), if_pos (by omega), show ((r / 262144 * 64 + (128 + r / 4096 % 64) % 64) * 64 + (128 + r / 64 % 64) % 64) * 64 + (128 + r % 64) % 64 = r from by omega]
        simp only
        rw [if_neg (by simp only [leastR]; intro h; rcases h with h | h; · simp at h; omega
                       · exact h hs)]
        rfl
theorem wr_pos (r : Nat) : 0 < (wr r).length := by
  unfold wr
  repeat' split
  all_goals simp
theorem runesF_of : ∀ (l : List Nat) (k : Nat), (∀ r ∈ l, scalarP r) → (textP l).length ≤ k → runesF k (textP l) = some l
  | [], k, _, _ => by cases k <;> simp [runesF, textP]
  | r :: l, k, h, hk => by
    have h1 := wr_pos r
    simp only [textP, List.length_append] at hk ⊢
    obtain ⟨k, rfl⟩ : ∃ k', k = k' + 1 := ⟨k - 1, by omega⟩
    unfold runesF
    rw [if_neg (fun e => by have := congrArg List.length e; rw [List.length_append, List.length_nil] at this; omega), firstP_of (h r (by simp))]
    simp only
    rw [if_neg (by omega), List.drop_left, runesF_of l k (fun x hx => h x (by simp [hx])) (by omega)]
    rfl
theorem text_runes {l : List Nat} (h : ∀ r ∈ l, scalarP r) : runesP (textP l) = some l := runesF_of l _ h (Nat.le_refl _)
end Go.En
