/-
  Plain words: commands, configurations, entries as bytes. No program in sight.
  Plain words: configurations as a byte.
  Plain words: entries as bytes.
  Plain words: messages as bytes.
  Plain words: what is read of a message stays within bounds.
  Plain words: a message's bytes are read as they were written; the reference's reading.
-/
import Derived.Test.YthpiokdibknpaaaCp
namespace Go.En
set_option linter.unusedVariables false
set_option linter.unusedSimpArgs false

/-! whatever was read well has been written so -/
theorem rByte_fin {b : List UInt8} {e : Int} (h : (rByte (b, e)).2.2 = 0) : e = 0 ∧ ∃ c : UInt8, b = c :: (rByte (b, e)).2.1 ∧ (rByte (b, e)).1 = c.toNat := by
  unfold rByte at h ⊢
  by_cases he : e = 0
  · simp only [he, if_true] at h ⊢
    cases b with
    | nil => simp at h
    | cons c r => exact ⟨trivial, c, rfl, rfl⟩
  · simp only [he, if_false] at h
theorem rUint_fin {m : Nat} {b : List UInt8} {e : Int} (h : (rUint m (b, e)).2.2 = 0) : e = 0 ∧ b = uint (rUint m (b, e)).1 ++ (rUint m (b, e)).2.1 ∧ (rUint m (b, e)).1 ≤ m := by
  by_cases he : e = 0
  · subst he; exact ⟨rfl, rUint_ok h⟩
  · have : rUint m (b, e) = (0, (b, e)) := if_neg he
    rw [this] at h
    exact absurd h he
theorem rBytes_fin {m : Int} {b : List UInt8} {e : Int} (h : (rBytes m (b, e)).2.2 = 0) : e = 0 ∧ b = putBytes (rBytes m (b, e)).1 ++ (rBytes m (b, e)).2.1 ∧ (rBytes m (b, e)).1.length ≤ m.toNat := by
  unfold rBytes at h ⊢
  dsimp only at h ⊢
  by_cases h1 : (rUint m.toNat (b, e)).2.2 = 0
  · obtain ⟨he, hb, hm⟩ := rUint_fin h1
    rw [if_pos h1] at h ⊢
    by_cases h2 : (rUint m.toNat (b, e)).2.1.length < (rUint m.toNat (b, e)).1
    · rw [if_pos h2] at h; simp at h
    · rw [if_neg h2]
      have hl : ((rUint m.toNat (b, e)).2.1.take (rUint m.toNat (b, e)).1).length = (rUint m.toNat (b, e)).1 := by simp; omega
      refine ⟨he, ?_, by dsimp only; omega⟩
      unfold putBytes
      dsimp only
      rw [hl, List.append_assoc, List.take_append_drop]
      exact hb
  · rw [if_neg h1] at h; exact absurd h h1
theorem rByte_cons (c : UInt8) (r : List UInt8) : rByte (c :: r, 0) = (c.toNat, (r, 0)) := rfl
theorem rEnd_fin {b : List UInt8} {e : Int} : rEnd (b, e) = 0 ↔ e = 0 ∧ b = [] := by
  show (if e = 0 ∧ 0 < b.length then (23 : Int) else e) = 0 ↔ _
  by_cases h : e = 0 ∧ 0 < b.length
  · rw [if_pos h]
    constructor
    · intro h'; simp at h'
    · rintro ⟨_, rfl⟩; simp at h
  · rw [if_neg h]
    constructor
    · intro he
      exact ⟨he, List.length_eq_zero_iff.1 (by have : ¬ 0 < b.length := fun h' => h ⟨he, h'⟩; omega)⟩
    · exact fun h => h.1

/-! commands -/
structure Cmd where
  kind : Int
  ses : Nat
  seq : Nat
  word : List UInt8
  wt : Int
  deriving DecidableEq
def Cmd.ok (c : Cmd) : Prop := (c.kind = 1 ∧ c.ses = 0 ∧ c.seq = 0 ∧ c.word = [] ∧ c.wt = 0) ∨ ((c.kind = 2 ∨ c.kind = 3) ∧ c.word.length ≤ 96 ∧ 0 ≤ c.wt ∧ c.wt ≤ 1073741824 ∧ (c.kind = 3 → c.wt = 0))
instance (c : Cmd) : Decidable c.ok := by unfold Cmd.ok; infer_instance
def Cmd.bytes (c : Cmd) : List UInt8 :=
  if c.kind = 1 then [1] else if c.kind = 2 then 2 :: (uint c.ses ++ (uint c.seq ++ (putBytes c.word ++ uint c.wt.toNat))) else 3 :: (uint c.ses ++ (uint c.seq ++ putBytes c.word))
def putCmd (c : Cmd) : Option (List UInt8) := if c.ok then some c.bytes else none
def mxU : Nat := 18446744073709551615
def getCmdR (b : List UInt8) : Cmd × Rd :=
  let x := rByte (b, 0)
  if x.1 = 1 then (⟨1, 0, 0, [], 0⟩, x.2)
  else if x.1 = 2 ∨ x.1 = 3 then
    let s := rUint mxU x.2
    let q := rUint mxU s.2
    let w := rBytes 96 q.2
    if x.1 = 2 then (let t := rUint 1073741824 w.2; (⟨2, s.1, q.1, w.1, t.1⟩, t.2)) else (⟨3, s.1, q.1, w.1, 0⟩, w.2)
  else (⟨x.1, 0, 0, [], 0⟩, (x.2.1, if x.2.2 = 0 then 170 else x.2.2))
def getCmd (b : List UInt8) : Option Cmd := if rEnd (getCmdR b).2 = 0 then some (getCmdR b).1 else none
theorem get_put {c : Cmd} {b : List UInt8} (h1 : c.ses ≤ mxU) (h2 : c.seq ≤ mxU) (h : putCmd c = some b) : getCmd b = some c := by
  unfold putCmd at h
  by_cases hok : c.ok
  · rw [if_pos hok] at h
    simp only [Option.some.injEq] at h
    subst h
    obtain ⟨kind, ses, seq, word, wt⟩ := c
    dsimp only at h1 h2
    have hmx : mxU = 18446744073709551615 := rfl
    rcases hok with ⟨rfl, rfl, rfl, rfl, rfl⟩ | ⟨rfl | rfl, hw, h0, hm, h3⟩
    · rfl
    · dsimp only at hw h0 hm h3
      obtain ⟨t, rfl⟩ := Int.eq_ofNat_of_zero_le h0
      have e : (Cmd.mk 2 ses seq word t).bytes = 2 :: (uint ses ++ (uint seq ++ (putBytes word ++ (uint t ++ [])))) := by simp [Cmd.bytes]
      rw [e]
      unfold getCmd getCmdR
      rw [rByte_cons]
      simp only [show (2 : UInt8).toNat = 2 from rfl, rUint_uint (m := mxU) _ (show ses < 18446744073709551616 by omega) h1, rUint_uint (m := mxU) _ (show seq < 18446744073709551616 by omega) h2, rBytes_put (most := 96) _ (show word.length < 18446744073709551616 by omega) (by omega),
        rUint_uint (m := 1073741824) (n := t) [] (by omega) (by omega)]
      simp [rEnd]
    · dsimp only at hw h0 hm h3
      obtain rfl := h3 rfl
      have e : (Cmd.mk 3 ses seq word 0).bytes = 3 :: (uint ses ++ (uint seq ++ (putBytes word ++ []))) := by simp [Cmd.bytes]
      rw [e]
      unfold getCmd getCmdR
      rw [rByte_cons]
      simp only [show (3 : UInt8).toNat = 3 from rfl, rUint_uint (m := mxU) _ (show ses < 18446744073709551616 by omega) h1, rUint_uint (m := mxU) _ (show seq < 18446744073709551616 by omega) h2, rBytes_put (most := 96) [] (show word.length < 18446744073709551616 by omega) (by omega)]
      simp [rEnd]
  · rw [if_neg hok] at h; cases h
theorem put_get {c : Cmd} {b : List UInt8} (h : getCmd b = some c) : putCmd c = some b ∧ c.ses ≤ mxU ∧ c.seq ≤ mxU := by
  unfold getCmd at h
  split at h
  · rename_i hend
    simp only [Option.some.injEq] at h
    unfold getCmdR at h hend
    dsimp only at h hend
    split at h
    · rename_i h1
      rw [if_pos h1] at hend
      subst h
      obtain ⟨e1, e2⟩ := rEnd_fin.1 hend
      obtain ⟨_, c, hb, hc⟩ := rByte_fin e1
      rw [e2] at hb
      rw [h1] at hc
      have : c = 1 := UInt8.toNat_inj.1 (by rw [← hc]; rfl)
      subst this
      subst hb
      exact ⟨rfl, Nat.zero_le _, Nat.zero_le _⟩
    · rename_i h1
      rw [if_neg h1] at hend
      split at h
      · rename_i h2
        rw [if_pos h2] at hend
        split at h
        · rename_i h3
          rw [if_pos h3] at hend
          subst h
          obtain ⟨e1, e2⟩ := rEnd_fin.1 hend
          obtain ⟨f1, hb1, hm1⟩ := rUint_fin e1
          obtain ⟨f2, hb2, hm2⟩ := rBytes_fin f1
          obtain ⟨f3, hb3, hm3⟩ := rUint_fin f2
          obtain ⟨f4, hb4, hm4⟩ := rUint_fin f3
          obtain ⟨_, c, hb, hc⟩ := rByte_fin f4
          have : c = 2 := UInt8.toNat_inj.1 (by rw [← hc, h3]; rfl)
          subst this
          refine ⟨?_, hm4, hm3⟩
          have hw : (rBytes 96 (rUint mxU (rUint mxU (rByte (b, 0)).2).2).2).1.length ≤ 96 := hm2
          have ht : (rUint 1073741824 (rBytes 96 (rUint mxU (rUint mxU (rByte (b, 0)).2).2).2).2).1 ≤ 1073741824 := hm1
          unfold putCmd
          rw [if_pos (.inr ⟨.inl rfl, hw, by dsimp only; omega, by dsimp only; omega, fun h => by cases h⟩)]
          simp only [Option.some.injEq]
          rw [e2, List.append_nil] at hb1
          have e : ∀ (s q : Nat) (w : List UInt8) (t : Nat), (Cmd.mk 2 s q w t).bytes = 2 :: (uint s ++ (uint q ++ (putBytes w ++ uint t))) := fun s q w t => by simp [Cmd.bytes]
          rw [e, ← hb1, ← hb2, ← hb3, ← hb4, ← hb]
        · rename_i h3
          rw [if_neg h3] at hend
          subst h
          obtain ⟨e1, e2⟩ := rEnd_fin.1 hend
          obtain ⟨f2, hb2, hm2⟩ := rBytes_fin e1
          obtain ⟨f3, hb3, hm3⟩ := rUint_fin f2
          obtain ⟨f4, hb4, hm4⟩ := rUint_fin f3
          obtain ⟨_, c, hb, hc⟩ := rByte_fin f4
          have h2' := h2.resolve_left h3
          have : c = 3 := UInt8.toNat_inj.1 (by rw [← hc]; exact h2')
          subst this
          refine ⟨?_, hm4, hm3⟩
          have hw : (rBytes 96 (rUint mxU (rUint mxU (rByte (b, 0)).2).2).2).1.length ≤ 96 := hm2
          unfold putCmd
          rw [if_pos (.inr ⟨.inr rfl, hw, Int.le_refl _, by dsimp only; omega, fun _ => rfl⟩)]
          simp only [Option.some.injEq]
          rw [e2, List.append_nil] at hb2
          have e : ∀ (s q : Nat) (w : List UInt8), (Cmd.mk 3 s q w 0).bytes = 3 :: (uint s ++ (uint q ++ putBytes w)) := fun s q w => by simp [Cmd.bytes]
          rw [e, ← hb2, ← hb3, ← hb4, ← hb]
      · rename_i h2
        rw [if_neg h2] at hend
        obtain ⟨e1, e2⟩ := rEnd_fin.1 hend
        split at e1
        · cases e1
        · rename_i h5; exact absurd e1 h5
  · cases h
/-! as the reference reads: somehow, and what it reads is written again -/
def refCmdR (b : List UInt8) : Cmd × Rd :=
  let x := rByte (b, 0)
  if x.1 = 1 then (⟨1, 0, 0, [], 0⟩, x.2)
  else
    let s := rUint mxU x.2
    let q := rUint mxU s.2
    let w := rBytes 96 q.2
    if x.1 = 2 then (let t := rUint 1073741824 w.2; (⟨2, s.1, q.1, w.1, t.1⟩, t.2)) else (⟨x.1, s.1, q.1, w.1, 0⟩, w.2)
theorem rUint_le (m : Nat) (s : Rd) : (rUint m s).1 ≤ m := by
  obtain ⟨b, e⟩ := s
  unfold rUint
  dsimp only
  split
  · split
    · split
      · exact Nat.zero_le _
      · rename_i h; exact Nat.le_of_not_lt h
    · exact Nat.zero_le _
  · exact Nat.zero_le _
theorem refCmd_bd (b : List UInt8) : (refCmdR b).1.ses ≤ mxU ∧ (refCmdR b).1.seq ≤ mxU := by
  unfold refCmdR
  dsimp only
  split
  · exact ⟨Nat.zero_le _, Nat.zero_le _⟩
  · split
    · exact ⟨rUint_le _ _, rUint_le _ _⟩
    · exact ⟨rUint_le _ _, rUint_le _ _⟩
theorem ref_getCmd (b : List UInt8) : getCmd b = if rEnd (refCmdR b).2 = 0 ∧ putCmd (refCmdR b).1 = some b then some (refCmdR b).1 else none := by
  by_cases h : rEnd (refCmdR b).2 = 0 ∧ putCmd (refCmdR b).1 = some b
  · rw [if_pos h]
    exact get_put (refCmd_bd b).1 (refCmd_bd b).2 h.2
  · rw [if_neg h]
    cases hg : getCmd b with
    | none => rfl
    | some c =>
      refine (h ?_).elim
      obtain ⟨h1, _, _⟩ := put_get hg
      unfold getCmd at hg
      split at hg
      · rename_i hend
        simp only [Option.some.injEq] at hg
        have hk : c.kind = 1 ∨ c.kind = 2 ∨ c.kind = 3 := by
          unfold putCmd at h1
          split at h1
          · rename_i hok
            rcases hok with ⟨hk, _⟩ | ⟨hk, _⟩
            · exact .inl hk
            · exact .inr hk
          · cases h1
        have e : refCmdR b = getCmdR b := by
          have hk' : ((rByte (b, 0)).1 : Int) = c.kind := by
            rw [← hg]
            unfold getCmdR
            dsimp only
            split
            · rename_i h; rw [h]; rfl
            · split
              · split
                · rename_i h; rw [h]; rfl
                · rename_i h2 h3; rw [h2.resolve_left h3]; rfl
              · rfl
          unfold refCmdR getCmdR
          dsimp only
          by_cases e1 : (rByte (b, 0)).1 = 1
          · rw [if_pos e1, if_pos e1]
          · rw [if_neg e1, if_neg e1]
            by_cases e2 : (rByte (b, 0)).1 = 2
            · rw [if_pos e2, if_pos (.inl e2), if_pos e2]
            · have e3 : (rByte (b, 0)).1 = 3 := by omega
              rw [if_neg e2, if_pos (.inr e3), if_neg e2, e3]
              rfl
        rw [e, hg]
        exact ⟨hend, h1⟩
      · cases hg
/-! what is told -/
def ec {α : Type} : Option α → Int
  | some _ => 0
  | none => 170
def ob (o : Option (List UInt8)) : List UInt8 := o.getD []
def Cmd.zero : Cmd := ⟨0, 0, 0, [], 0⟩
def Cmd.v (c : Cmd) : Array Value := #[.int .i64 c.kind, .int .u64 (c.ses : Nat), .int .u64 (c.seq : Nat), .string ⟨c.word.toArray⟩, .int .i64 c.wt]
theorem ec_eq {α : Type} {a b : Option α} (h : a = b) : ec a = ec b := by rw [h]
theorem ec_zero {α : Type} {o : Option α} : ec o = 0 ↔ o.isSome = true := by cases o <;> simp [ec]
theorem Cmd.bytes_length (c : Cmd) (h1 : c.ses ≤ mxU) (h2 : c.seq ≤ mxU) (h3 : c.word.length ≤ 96) (h4 : c.wt ≤ 1073741824) : c.bytes.length ≤ 200 := by
  have hmx : mxU = 18446744073709551615 := rfl
  have e1 := uint_le10 (n := c.ses) (by omega)
  have e2 := uint_le10 (n := c.seq) (by omega)
  have e3 := uint_le10 (n := c.word.length) (by omega)
  have e4 := uint_le10 (n := c.wt.toNat) (by omega)
  unfold Cmd.bytes
  split
  · simp
  · split
    · simp only [List.length_cons, List.length_append, putBytes]; omega
    · simp only [List.length_cons, List.length_append, putBytes]; omega
end Go.En
namespace Go.En
set_option linter.unusedVariables false
set_option linter.unusedSimpArgs false

def confOK (last : Int) : List Int → Prop
  | [] => True
  | v :: r => last < v ∧ v < 7 ∧ confOK v r
instance : ∀ (last : Int) (l : List Int), Decidable (confOK last l)
  | _, [] => .isTrue trivial
  | last, v :: r => by
    have := instDecidableConfOK v r
    unfold confOK
    infer_instance
def vbits : List Int → Nat
  | [] => 0
  | v :: r => 2 ^ v.toNat + vbits r
def putConf (l : List Int) : Option (List UInt8) := if l ≠ [] ∧ confOK (-1) l then some [UInt8.ofNat (vbits l)] else none
def voters (n : Nat) (k : Nat) : List Int := ((List.range k).filter (fun v => decide (n / 2 ^ v % 2 = 1))).map Int.ofNat
def getConf : List UInt8 → Option (List Int)
  | [c] => if c.toNat = 0 ∨ 128 ≤ c.toNat then none else some (voters c.toNat 7)
  | _ => none
theorem voters_succ (n k : Nat) : voters n (k + 1) = voters n k ++ if n / 2 ^ k % 2 = 1 then [(k : Int)] else [] := by
  unfold voters
  rw [List.range_succ, List.filter_append, List.map_append]
  congr 1
  by_cases h : n / 2 ^ k % 2 = 1 <;> simp [h]
theorem voters_len (n : Nat) : ∀ k, (voters n k).length ≤ k
  | 0 => by simp [voters]
  | k + 1 => by
    rw [voters_succ, List.length_append]
    have := voters_len n k
    split <;> simp <;> omega
theorem confOK_len : ∀ (l : List Int) (last : Int), confOK last l → -1 ≤ last → last ≤ 6 → (l.length : Int) ≤ 6 - last
  | [], _, _, _, _ => by simp; omega
  | v :: r, last, h, h1, h2 => by
    obtain ⟨h3, h4, h5⟩ := h
    have := confOK_len r v h5 (by omega) (by omega)
    simp only [List.length_cons]
    omega
theorem confOK_mem : ∀ (l : List Int) (last : Int), confOK last l → -1 ≤ last → ∀ v ∈ l, 0 ≤ v ∧ v < 7
  | [], _, _, _ => by simp
  | v :: r, last, h, h1 => by
    obtain ⟨h3, h4, h5⟩ := h
    intro u hu
    simp only [List.mem_cons] at hu
    rcases hu with rfl | hu
    · omega
    · exact confOK_mem r v h5 (by omega) u hu
def subs : Nat → List (List Int)
  | 0 => [[]]
  | m + 1 => subs m ++ (subs m).map (fun l => (6 - (m : Int)) :: l)
theorem subs_mem : ∀ (m : Nat) (l : List Int) (last : Int), confOK last l → 6 - (m : Int) ≤ last → l ∈ subs m
  | 0, [], _, _, _ => by simp [subs]
  | 0, v :: r, last, h, hm => by obtain ⟨h1, h2, _⟩ := h; simp only [Int.natCast_zero] at hm; omega
  | m + 1, [], last, h, hm => by
    have : [] ∈ subs m := subs_mem m [] 6 trivial (by omega)
    simp [subs, this]
  | m + 1, v :: r, last, h, hm => by
    obtain ⟨h1, h2, h3⟩ := h
    by_cases hv : v = 6 - (m : Int)
    · have := subs_mem m r v h3 (by omega)
      simp only [subs, List.mem_append, List.mem_map]
      exact .inr ⟨r, this, by rw [hv]⟩
    · have := subs_mem m (v :: r) (v - 1) ⟨by omega, h2, h3⟩ (by omega)
      simp only [subs, List.mem_append]
      exact .inl this
theorem subs_bits : ∀ l ∈ subs 7, vbits l < 128 ∧ voters (vbits l) 7 = l ∧ (l ≠ [] → 0 < vbits l) := by decide +kernel
theorem conf_bits {l : List Int} (h : confOK (-1) l) : vbits l < 128 ∧ voters (vbits l) 7 = l ∧ (l ≠ [] → 0 < vbits l) := subs_bits l (subs_mem 7 l (-1) h (by decide))
theorem getConf_put {l : List Int} {b : List UInt8} (h : putConf l = some b) : getConf b = some l := by
  unfold putConf at h
  split at h
  · rename_i hl
    simp only [Option.some.injEq] at h
    subst h
    obtain ⟨h1, h2, h3⟩ := conf_bits hl.2
    have h4 := h3 hl.1
    have e : (UInt8.ofNat (vbits l)).toNat = vbits l := UInt8.toNat_ofNat_of_lt' (show vbits l < 256 by omega)
    show (if (UInt8.ofNat (vbits l)).toNat = 0 ∨ 128 ≤ (UInt8.ofNat (vbits l)).toNat then none else some (voters (UInt8.ofNat (vbits l)).toNat 7)) = some l
    rw [e, if_neg (by omega), h2]
  · cases h
/-- an or that is a sum -/
theorem or_add (x v : Nat) (hv : v < 7) (hx : x < 2 ^ v) : Value.int .u8 (IntKind.u8.wrap (BitVec.ofInt 8 ((x : Nat) : Int) ||| BitVec.ofInt 8 ((2 ^ v : Nat) : Int)).toNat) = .int .u8 ((x + 2 ^ v : Nat) : Int) := by
  have hp : 2 ^ v ≤ 2 ^ 6 := Nat.pow_le_pow_right (by omega) (by omega)
  have e : (BitVec.ofInt 8 ((x : Nat) : Int) ||| BitVec.ofInt 8 ((2 ^ v : Nat) : Int)).toNat = x + 2 ^ v := by
    rw [BitVec.toNat_or, BitVec.ofInt_natCast, BitVec.ofInt_natCast, BitVec.toNat_ofNat, BitVec.toNat_ofNat, Nat.mod_eq_of_lt (by omega), Nat.mod_eq_of_lt (by omega), Nat.or_comm]
    have := Nat.two_pow_add_eq_or_of_lt hx 1
    rw [Nat.mul_one] at this
    rw [← this]
    omega
  rw [e, u8m, Nat.mod_eq_of_lt (by omega)]
theorem shl1 (v : Nat) (hv : v < 7) : Value.int .u8 (IntKind.u8.wrap (1 * 2 ^ (min ((v : Nat) : Int).toNat IntKind.u8.bits))) = .int .u8 ((2 ^ v : Nat) : Int) := by
  obtain rfl | rfl | rfl | rfl | rfl | rfl | rfl : v = 0 ∨ v = 1 ∨ v = 2 ∨ v = 3 ∨ v = 4 ∨ v = 5 ∨ v = 6 := by omega
  all_goals rfl
theorem shrN (x v : Nat) (hv : v < 7) : Value.int .u8 (((x : Nat) : Int).fdiv (2 ^ (min ((v : Nat) : Int).toNat IntKind.u8.bits))) = .int .u8 ((x / 2 ^ v : Nat) : Int) := by
  have : min ((v : Nat) : Int).toNat IntKind.u8.bits = v := by
    have : IntKind.u8.bits = 8 := rfl
    omega
  rw [this, Int.fdiv_eq_ediv_of_nonneg _ (Int.le_of_lt (Int.pow_pos (by decide)))]
  congr 1
theorem bv_and1 : ∀ m : BitVec 8, (m &&& 1#8) = BitVec.ofNat 8 (m.toNat % 2) := by decide
theorem and1N (x : Nat) (hx : x < 256) : Value.int .u8 (IntKind.u8.wrap (BitVec.ofInt 8 ((x : Nat) : Int) &&& BitVec.ofInt 8 1).toNat) = .int .u8 ((x % 2 : Nat) : Int) := by
  have h := bv_and1 (BitVec.ofInt 8 ((x : Nat) : Int))
  have h2 : (BitVec.ofInt 8 ((x : Nat) : Int)).toNat = x := by simp; omega
  rw [show BitVec.ofInt 8 1 = 1#8 from by decide, h, h2, u8m]
  simp
  omega
theorem confOK_split : ∀ (l r : List Int) (last : Int), confOK last (l ++ r) ↔ confOK last l ∧ confOK (l.getLastD last) r
  | [], r, last => by simp [confOK]
  | v :: l, r, last => by
    show (last < v ∧ v < 7 ∧ confOK v (l ++ r)) ↔ (last < v ∧ v < 7 ∧ confOK v l) ∧ confOK ((v :: l).getLastD last) r
    rw [confOK_split l r v]
    have : (v :: l).getLastD last = l.getLastD v := by cases l <;> simp [List.getLastD]
    rw [this, and_assoc, and_assoc]
theorem bits_append : ∀ l r : List Int, vbits (l ++ r) = vbits l + vbits r
  | [], r => by simp [vbits]
  | v :: l, r => by simp [vbits, bits_append l r]; omega
theorem bits_lt : ∀ (l : List Int) (last : Int), confOK last l → -1 ≤ last → vbits l + 2 ^ (last + 1).toNat ≤ 2 ^ (l.getLastD last + 1).toNat
  | [], last, _, _ => by simp [vbits]
  | v :: l, last, h, h1 => by
    obtain ⟨h2, h3, h4⟩ := h
    have := bits_lt l v h4 (by omega)
    have e : (v :: l).getLastD last = l.getLastD v := by cases l <;> simp [List.getLastD]
    rw [e]
    have h5 : 2 ^ (last + 1).toNat ≤ 2 ^ v.toNat := Nat.pow_le_pow_right (by decide) (by omega)
    have h6 : 2 ^ (v + 1).toNat = 2 * 2 ^ v.toNat := by
      rw [show (v + 1).toNat = v.toNat + 1 from by omega, Nat.pow_succ]; omega
    simp only [vbits]
    omega
def iv (l : List Int) : List Value := l.map fun n => Value.int .i64 n
theorem iv_get {l : List Int} {j : Nat} (h : j < l.length) : (iv l)[j]? = some (.int .i64 l[j]) := by simp [iv, h]
theorem iv_getD {l : List Int} {j : Nat} (h : j < l.length) : (iv l)[j]? = some (.int .i64 (l.getD j 0)) := by simp [iv, h, List.getD]
theorem iv_append (l r : List Int) : iv (l ++ r) = iv l ++ iv r := by simp [iv]
theorem iv_one (l : List Int) : ∀ u ∈ iv l, u.oneCell' = true := by
  intro u hu
  obtain ⟨b, _, rfl⟩ := List.mem_map.1 hu
  rfl
theorem last_take_succ (l : List Int) (i : Nat) (h : i < l.length) (d : Int) : (l.take (i + 1)).getLastD d = l[i] := by
  rw [take_succ_get l i h, List.getLastD_eq_getLast?, List.getLast?_append]; rfl
end Go.En
namespace Go.En
set_option linter.unusedVariables false
set_option linter.unusedSimpArgs false

structure Ent where
  idx : Nat
  term : Nat
  kind : Int
  data : List UInt8
  deriving DecidableEq
def heldP (kind : Int) (data : List UInt8) : Prop := (kind = 0 ∧ data = []) ∨ (kind = 1 ∧ (getCmd data).isSome = true) ∨ (kind = 2 ∧ (getConf data).isSome = true)
instance (k : Int) (d : List UInt8) : Decidable (heldP k d) := by unfold heldP; infer_instance
def Ent.ok (e : Ent) : Prop := e.idx ≠ 0 ∧ e.term ≠ 0 ∧ heldP e.kind e.data
instance (e : Ent) : Decidable e.ok := by unfold Ent.ok; infer_instance
def Ent.bytes (e : Ent) : List UInt8 := uint e.idx ++ (uint e.term ++ (UInt8.ofNat e.kind.toNat :: putBytes e.data))
def putEnt (e : Ent) : Option (List UInt8) := if e.ok then some e.bytes else none
def getEntR (b : List UInt8) : Ent × Rd :=
  let i := rUint mxU (b, 0)
  let t := rUint mxU i.2
  let k := rByte t.2
  let d := rBytes 512 k.2
  (⟨i.1, t.1, (k.1 : Nat), d.1⟩, d.2)
def getEnt (b : List UInt8) : Option Ent := if rEnd (getEntR b).2 = 0 ∧ (getEntR b).1.ok then some (getEntR b).1 else none
theorem getCmd_len {b : List UInt8} {c : Cmd} (h : getCmd b = some c) : b.length ≤ 200 := by
  obtain ⟨h1, h2, h3⟩ := put_get h
  unfold putCmd at h1
  split at h1
  · rename_i hok
    simp only [Option.some.injEq] at h1
    rw [← h1]
    rcases hok with ⟨h, _, _, hw, _⟩ | ⟨_, hw, h0, hm, _⟩
    · rw [Cmd.bytes, if_pos h]; simp
    · exact Cmd.bytes_length c h2 h3 hw hm
  · cases h1
theorem held_len {k : Int} {d : List UInt8} (h : heldP k d) : d.length ≤ 200 := by
  rcases h with ⟨_, rfl⟩ | ⟨_, h⟩ | ⟨_, h⟩
  · simp
  · obtain ⟨c, hc⟩ := Option.isSome_iff_exists.1 h
    exact getCmd_len hc
  · obtain ⟨c, hc⟩ := Option.isSome_iff_exists.1 h
    unfold getConf at hc
    split at hc
    · simp
    · cases hc
theorem held_kind {k : Int} {d : List UInt8} (h : heldP k d) : k = 0 ∨ k = 1 ∨ k = 2 := by
  rcases h with ⟨h, _⟩ | ⟨h, _⟩ | ⟨h, _⟩
  · exact .inl h
  · exact .inr (.inl h)
  · exact .inr (.inr h)
theorem Ent.bytes_length (e : Ent) (h : e.ok) (h1 : e.idx ≤ mxU) (h2 : e.term ≤ mxU) : e.bytes.length ≤ 250 := by
  have hmx : mxU = 18446744073709551615 := rfl
  have e1 := uint_le10 (n := e.idx) (by omega)
  have e2 := uint_le10 (n := e.term) (by omega)
  have e3 := held_len h.2.2
  have e4 := uint_le10 (n := e.data.length) (by omega)
  simp only [Ent.bytes, List.length_append, List.length_cons, putBytes]
  omega
theorem getEntR_bytes (e : Ent) (rest : List UInt8) (h : e.ok) (h1 : e.idx ≤ mxU) (h2 : e.term ≤ mxU) : getEntR (e.bytes ++ rest) = (e, (rest, 0)) := by
  have hmx : mxU = 18446744073709551615 := rfl
  have e3 := held_len h.2.2
  obtain ⟨k, hk⟩ : ∃ k : Nat, e.kind = (k : Nat) := Int.eq_ofNat_of_zero_le (by have := held_kind h.2.2; omega)
  have hk3 : k < 256 := by have := held_kind h.2.2; omega
  have hb : e.bytes ++ rest = uint e.idx ++ (uint e.term ++ (UInt8.ofNat k :: (putBytes e.data ++ rest))) := by simp [Ent.bytes, hk]
  unfold getEntR
  rw [hb]
  simp only [rUint_uint (m := mxU) _ (show e.idx < 18446744073709551616 by omega) h1, rUint_uint (m := mxU) _ (show e.term < 18446744073709551616 by omega) h2, rByte_cons, rBytes_put (most := 512) _ (show e.data.length < 18446744073709551616 by omega) (by omega)]
  have : (UInt8.ofNat k).toNat = k := UInt8.toNat_ofNat_of_lt' (by simpa using hk3)
  rw [this, ← hk]
theorem getEnt_put {e : Ent} {b : List UInt8} (h1 : e.idx ≤ mxU) (h2 : e.term ≤ mxU) (h : putEnt e = some b) : getEnt b = some e := by
  unfold putEnt at h
  split at h
  · rename_i hok
    simp only [Option.some.injEq] at h
    have := getEntR_bytes e [] hok h1 h2
    rw [List.append_nil, h] at this
    unfold getEnt
    rw [this, if_pos ⟨rfl, hok⟩]
  · cases h
theorem getEntR_bd (b : List UInt8) : (getEntR b).1.idx ≤ mxU ∧ (getEntR b).1.term ≤ mxU := ⟨rUint_le _ _, rUint_le _ _⟩
theorem putEnt_get {e : Ent} {b : List UInt8} (h : getEnt b = some e) : putEnt e = some b ∧ e.idx ≤ mxU ∧ e.term ≤ mxU := by
  unfold getEnt at h
  split at h
  · rename_i hc
    obtain ⟨hend, hok⟩ := hc
    simp only [Option.some.injEq] at h
    have hbd := getEntR_bd b
    rw [h] at hok hbd
    refine ⟨?_, hbd⟩
    obtain ⟨e1, e2⟩ := rEnd_fin.1 hend
    unfold getEntR at h
    have e1 : (rBytes 512 (rByte (rUint mxU (rUint mxU (b, 0)).2).2).2).2.2 = 0 := e1
    have e2 : (rBytes 512 (rByte (rUint mxU (rUint mxU (b, 0)).2).2).2).2.1 = [] := e2
    dsimp only at h
    obtain ⟨f1, hb1, _⟩ := rBytes_fin e1
    obtain ⟨f2, c, hb2, hc2⟩ := rByte_fin f1
    obtain ⟨f3, hb3, _⟩ := rUint_fin f2
    obtain ⟨f4, hb4, _⟩ := rUint_fin f3
    unfold putEnt
    rw [if_pos hok]
    simp only [Option.some.injEq]
    rw [e2, List.append_nil] at hb1
    subst h
    unfold Ent.bytes
    dsimp only
    rw [← hb1, Int.toNat_natCast]
    have hcc : UInt8.ofNat (rByte (rUint mxU (rUint mxU (b, 0)).2).2).1 = c := by
      have : (rByte (rUint mxU (rUint mxU (b, 0)).2).2).1 = c.toNat := hc2
      rw [this]; exact UInt8.ofNat_toNat
    rw [hcc]
    have g2 : (rUint mxU (rUint mxU (b, 0)).2).2.1 = c :: (rByte (rUint mxU (rUint mxU (b, 0)).2).2).2.1 := hb2
    rw [← g2]
    have g3 : (rUint mxU (b, 0)).2.1 = uint (rUint mxU (rUint mxU (b, 0)).2).1 ++ (rUint mxU (rUint mxU (b, 0)).2).2.1 := hb3
    rw [← g3]
    exact hb4.symm
  · cases h
theorem ref_getEnt (b : List UInt8) : getEnt b = if rEnd (getEntR b).2 = 0 ∧ putEnt (getEntR b).1 = some b then some (getEntR b).1 else none := by
  by_cases h : rEnd (getEntR b).2 = 0 ∧ putEnt (getEntR b).1 = some b
  · rw [if_pos h]
    exact getEnt_put (getEntR_bd b).1 (getEntR_bd b).2 h.2
  · rw [if_neg h]
    cases hg : getEnt b with
    | none => rfl
    | some e =>
      obtain ⟨h1, _⟩ := putEnt_get hg
      unfold getEnt at hg
      split at hg
      · rename_i hc
        simp only [Option.some.injEq] at hg
        exact (h ⟨hc.1, by rw [hg]; exact h1⟩).elim
      · cases hg
def Ent.zero : Ent := ⟨0, 0, 0, []⟩
def Ent.v (e : Ent) (ao : Option Addr) (cap : Nat) : Array Value := #[.int .u64 (e.idx : Nat), .int .u64 (e.term : Nat), .int .i64 e.kind, .slice ao e.data.length cap]
end Go.En
namespace Go.En
set_option linter.unusedVariables false
set_option linter.unusedSimpArgs false

structure Msg where
  kind : Int
  frm : Int
  to : Int
  term : Nat
  idx : Nat
  lt : Nat
  com : Nat
  rnd : Nat
  good : Bool
  ents : List Ent
  off : Int
  whole : Int
  vot : List Int
  data : List UInt8
  deriving DecidableEq
inductive Fld where
  | idx | lt | com | rnd | off | whole | good | ents | vot | data
  deriving DecidableEq
def fieldsOf (k : Int) : List Fld :=
  if k = 1 then [.idx, .lt] else if k = 2 then [.good] else if k = 3 then [.idx, .lt, .com, .rnd, .ents] else if k = 4 then [.good, .idx, .rnd]
  else if k = 5 then [.idx, .lt, .off, .whole, .vot, .data] else if k = 6 then [.idx, .off] else []
def u64of (x : Int) : Nat := (x % 18446744073709551616).toNat
/-- the entries are right, from the i-th on -/
def entsOK (at' : Nat) : Nat → List Ent → Prop
  | _, [] => True
  | i, e :: r => e.ok ∧ e.idx = (at' + i + 1) % 18446744073709551616 ∧ at' ≤ e.idx ∧ entsOK at' (i + 1) r
instance (at' : Nat) : ∀ (i : Nat) (l : List Ent), Decidable (entsOK at' i l)
  | _, [] => .isTrue trivial
  | i, e :: r => by
    have := instDecidableEntsOK at' (i + 1) r
    unfold entsOK
    infer_instance
def entsBytes : List Ent → List UInt8
  | [] => []
  | e :: r => putBytes e.bytes ++ entsBytes r
def Fld.pok (m : Msg) : Fld → Prop
  | .idx | .lt | .com | .rnd | .good => True
  | .off => 0 ≤ m.off ∧ m.off ≤ 2097152
  | .whole => 0 ≤ m.whole ∧ m.whole ≤ 2097152
  | .ents => entsOK m.idx 0 m.ents ∧ m.ents.length ≤ 8
  | .vot => (putConf m.vot).isSome = true
  | .data => m.data.length ≤ 256 ∧ m.off ≤ IntKind.i64.wrap (m.whole - m.data.length)
instance (m : Msg) (f : Fld) : Decidable (f.pok m) := by cases f <;> unfold Fld.pok <;> infer_instance
def Fld.pby (m : Msg) : Fld → List UInt8
  | .idx => uint m.idx
  | .lt => uint m.lt
  | .com => uint m.com
  | .rnd => uint m.rnd
  | .good => [if m.good then 1 else 0]
  | .off => uint (u64of m.off)
  | .whole => uint (u64of m.whole)
  | .ents => uint m.ents.length ++ entsBytes m.ents
  | .vot => ob (putConf m.vot)
  | .data => putBytes m.data
def Fld.clr (m : Msg) : Fld → Msg
  | .idx => { m with idx := 0 }
  | .lt => { m with lt := 0 }
  | .com => { m with com := 0 }
  | .rnd => { m with rnd := 0 }
  | .good => { m with good := false }
  | .off => { m with off := 0 }
  | .whole => { m with whole := 0 }
  | .ents => { m with ents := [] }
  | .vot => { m with vot := [] }
  | .data => { m with data := [] }
def rFail (c : Int) (s : Rd) : Rd := (s.1, if s.2 = 0 then c else s.2)
def getEnts : Nat → Rd → List Ent → Rd × List Ent
  | 0, s, l => (s, l)
  | n + 1, s, l => getEnts n (rFail (ec (getEnt (rBytes 512 s).1)) (rBytes 512 s).2) (l ++ [(getEnt (rBytes 512 s).1).getD Ent.zero])
def Fld.get (s : Rd) (m : Msg) : Fld → Rd × Msg
  | .idx => ((rUint mxU s).2, { m with idx := (rUint mxU s).1 })
  | .lt => ((rUint mxU s).2, { m with lt := (rUint mxU s).1 })
  | .com => ((rUint mxU s).2, { m with com := (rUint mxU s).1 })
  | .rnd => ((rUint mxU s).2, { m with rnd := (rUint mxU s).1 })
  | .off => ((rUint 2097152 s).2, { m with off := ((rUint 2097152 s).1 : Nat) })
  | .whole => ((rUint 2097152 s).2, { m with whole := ((rUint 2097152 s).1 : Nat) })
  | .good => (if 1 < (rByte s).1 then rFail 170 (rByte s).2 else (rByte s).2, { m with good := decide ((rByte s).1 = 1) })
  | .ents => ((getEnts (rUint 8 s).1 (rUint 8 s).2 m.ents).1, { m with ents := (getEnts (rUint 8 s).1 (rUint 8 s).2 m.ents).2 })
  | .vot => (rFail (ec (getConf [UInt8.ofNat (rByte s).1])) (rByte s).2, { m with vot := (getConf [UInt8.ofNat (rByte s).1]).getD [] })
  | .data => ((rBytes 256 s).2, { m with data := (rBytes 256 s).1 })
def getAll : List Fld → Rd → Msg → Rd × Msg
  | [], s, m => (s, m)
  | f :: r, s, m => getAll r (f.get s m).1 (f.get s m).2
def clrAll : List Fld → Msg → Msg
  | [], m => m
  | f :: r, m => clrAll r (f.clr m)
def pbyAll (m : Msg) : List Fld → List UInt8
  | [] => []
  | f :: r => f.pby m ++ pbyAll m r
def bareP (m : Msg) : Prop := m.idx = 0 ∧ m.lt = 0 ∧ m.com = 0 ∧ m.rnd = 0 ∧ m.good = false ∧ m.off = 0 ∧ m.whole = 0 ∧ m.ents = [] ∧ m.vot = [] ∧ m.data = []
instance (m : Msg) : Decidable (bareP m) := by unfold bareP; infer_instance
def placedP (n : Int) : Prop := 0 ≤ n ∧ n < 7
instance (n : Int) : Decidable (placedP n) := by unfold placedP; infer_instance
def hdr (m : Msg) : List UInt8 := UInt8.ofNat m.kind.toNat :: UInt8.ofNat m.frm.toNat :: UInt8.ofNat m.to.toNat :: uint m.term
def Msg.pre (m : Msg) : Prop := fieldsOf m.kind ≠ [] ∧ placedP m.frm ∧ placedP m.to ∧ m.frm ≠ m.to ∧ m.term ≠ 0
instance (m : Msg) : Decidable m.pre := by unfold Msg.pre; infer_instance
def Msg.ok (m : Msg) : Prop := m.pre ∧ (∀ f ∈ fieldsOf m.kind, f.pok m) ∧ bareP (clrAll (fieldsOf m.kind) m)
instance (m : Msg) : Decidable m.ok := by unfold Msg.ok; infer_instance
def Msg.body (m : Msg) : List UInt8 := hdr m ++ pbyAll m (fieldsOf m.kind)
def enc (m : Msg) : Option (List UInt8) := if m.ok then some (sealed m.body) else none
def Msg.zero : Msg := ⟨0, 0, 0, 0, 0, 0, 0, 0, false, [], 0, 0, [], []⟩
/-- what is within the machine's numbers -/
structure Msg.bd (m : Msg) : Prop where
  term : m.term ≤ mxU
  idx : m.idx ≤ mxU
  lt : m.lt ≤ mxU
  com : m.com ≤ mxU
  rnd : m.rnd ≤ mxU
  off : -9223372036854775808 ≤ m.off ∧ m.off ≤ 9223372036854775807
  whole : -9223372036854775808 ≤ m.whole ∧ m.whole ≤ 9223372036854775807
  ents : ∀ e ∈ m.ents, e.idx ≤ mxU ∧ e.term ≤ mxU ∧ e.data.length ≤ 4194304
  entsL : m.ents.length ≤ 4194304
  vot : ∀ v ∈ m.vot, -9223372036854775808 ≤ v ∧ v ≤ 9223372036854775807
  votL : m.vot.length ≤ 4194304
  dataL : m.data.length ≤ 4194304
def hdrR (b : List UInt8) : Rd × Msg :=
  let k := rByte (b, 0)
  let f := rByte k.2
  let t := rByte f.2
  let u := rUint mxU t.2
  (u.2, { Msg.zero with kind := (k.1 : Nat), frm := (f.1 : Nat), to := (t.1 : Nat), term := u.1 })
def readR (b : List UInt8) : Rd × Msg := getAll (fieldsOf (hdrR b).2.kind) (hdrR b).1 (hdrR b).2
def dec (b : List UInt8) : Option Msg :=
  if (unsealed b).2.2 = 0 ∧ (unsealed b).2.1 = b.length ∧ rEnd (readR (unsealed b).1).1 = 0 ∧ enc (readR (unsealed b).1).2 = some b then some (readR (unsealed b).1).2 else none
end Go.En
namespace Go.En
set_option linter.unusedVariables false
set_option linter.unusedSimpArgs false

theorem rBytes_max (m : Int) (s : Rd) : (rBytes m s).1.length ≤ m.toNat := by
  obtain ⟨b, e⟩ := s
  by_cases h : (rBytes m (b, e)).2.2 = 0
  · exact (rBytes_fin h).2.2
  · have h1 : (rBytes m (b, e)).1 = [] := by
      unfold rBytes at h ⊢
      dsimp only at h ⊢
      split
      · rename_i h1
        rw [if_pos h1] at h
        split
        · rfl
        · rename_i h2
          rw [if_neg h2] at h
          exact absurd rfl h
      · rfl
    rw [h1]
    exact Nat.zero_le _
theorem unsealed_len (b : List UInt8) : (unsealed b).1.length ≤ 2097152 ∧ (unsealed b).1.length ≤ b.length := by
  have h1 := rBytes_max 2097152 (b, 0)
  have h2 := (rBytes_bd 2097152 b 0).1
  have h3 : (2097152 : Int).toNat = 2097152 := rfl
  unfold unsealed unsealedOf
  generalize rBytes 2097152 (b, 0) = y at h1 h2
  repeat' split
  all_goals first | (simp; done) | exact ⟨h3 ▸ h1, h2⟩
theorem rByte_le (s : Rd) : (rByte s).2.1.length ≤ s.1.length := by
  obtain ⟨b, e⟩ := s
  unfold rByte
  dsimp only
  split
  · cases b <;> simp
  · exact Nat.le_refl _
theorem getEnts_len : ∀ (n : Nat) (s : Rd) (l : List Ent), (getEnts n s l).1.1.length ≤ s.1.length ∧ (getEnts n s l).2.length = l.length + n
  | 0, s, l => ⟨Nat.le_refl _, rfl⟩
  | n + 1, s, l => by
    have h := getEnts_len n (rFail (ec (getEnt (rBytes 512 s).1)) (rBytes 512 s).2) (l ++ [(getEnt (rBytes 512 s).1).getD Ent.zero])
    have h2 := (rBytes_bd 512 s.1 s.2).2
    simp only [getEnts]
    refine ⟨Nat.le_trans h.1 h2, ?_⟩
    rw [h.2]
    simp
    omega
theorem getEnt_bd (x : List UInt8) : ((getEnt x).getD Ent.zero).idx ≤ mxU ∧ ((getEnt x).getD Ent.zero).term ≤ mxU ∧ ((getEnt x).getD Ent.zero).data.length ≤ 4194304 := by
  cases h : getEnt x with
  | none => exact ⟨Nat.zero_le _, Nat.zero_le _, Nat.zero_le _⟩
  | some e =>
    obtain ⟨h1, h2, h3⟩ := putEnt_get h
    have hok : e.ok := by
      unfold putEnt at h1
      split at h1
      · assumption
      · cases h1
    have := held_len hok.2.2
    exact ⟨h2, h3, by simp only [Option.getD_some]; omega⟩
theorem getEnts_mem : ∀ (n : Nat) (s : Rd) (l : List Ent), (∀ e ∈ l, e.idx ≤ mxU ∧ e.term ≤ mxU ∧ e.data.length ≤ 4194304) → ∀ e ∈ (getEnts n s l).2, e.idx ≤ mxU ∧ e.term ≤ mxU ∧ e.data.length ≤ 4194304
  | 0, s, l, h => h
  | n + 1, s, l, h => by
    simp only [getEnts]
    refine getEnts_mem n _ _ fun e he => ?_
    rcases List.mem_append.1 he with he | he
    · exact h e he
    · rw [List.mem_singleton.1 he]
      exact getEnt_bd _
theorem get_len (f : Fld) (s : Rd) (m : Msg) : (f.get s m).1.1.length ≤ s.1.length := by
  have h1 : ∀ k, (rUint k s).2.1.length ≤ s.1.length := fun k => (rUint_bd k s.1 s.2).2
  have h2 := rByte_le s
  have h3 := (rBytes_bd 256 s.1 s.2).2
  cases f <;> simp only [Fld.get, rFail] <;> first
    | exact h1 _
    | exact h2
    | exact h3
    | (split <;> exact h2)
    | exact Nat.le_trans (getEnts_len _ _ _).1 (h1 _)
theorem voters_mem (n : Nat) : ∀ k, k ≤ 7 → ∀ v ∈ voters n k, 0 ≤ v ∧ v < 7 := by
  intro k hk v hv
  unfold voters at hv
  obtain ⟨w, h1, rfl⟩ := List.mem_map.1 hv
  have := List.mem_range.1 (List.mem_filter.1 h1).1
  have e : (Int.ofNat w) = (w : Int) := rfl
  omega
theorem getConf_mem (x : List UInt8) : ((getConf x).getD []).length ≤ 7 ∧ ∀ v ∈ (getConf x).getD [], 0 ≤ v ∧ v < 7 := by
  unfold getConf
  split
  · split
    · simp
    · exact ⟨voters_len _ _, voters_mem _ 7 (Nat.le_refl _)⟩
  · simp
theorem get_bd {f : Fld} {s : Rd} {m : Msg} (hbd : m.bd) (he : f = .ents → m.ents = []) : (f.get s m).2.bd := by
  have h1 : (rUint mxU s).1 ≤ mxU := rUint_le _ _
  have h2 := rUint_le 2097152 s
  cases f
  case idx => exact { hbd with idx := h1 }
  case lt => exact { hbd with lt := h1 }
  case com => exact { hbd with com := h1 }
  case rnd => exact { hbd with rnd := h1 }
  case off => exact { hbd with off := ⟨show (-9223372036854775808 : Int) ≤ ((rUint 2097152 s).1 : Nat) by omega, show (((rUint 2097152 s).1 : Nat) : Int) ≤ 9223372036854775807 by omega⟩ }
  case whole => exact { hbd with whole := ⟨show (-9223372036854775808 : Int) ≤ ((rUint 2097152 s).1 : Nat) by omega, show (((rUint 2097152 s).1 : Nat) : Int) ≤ 9223372036854775807 by omega⟩ }
  case good => exact { hbd with }
  case ents =>
    have h3 := he rfl
    have h4 := getEnts_len (rUint 8 s).1 (rUint 8 s).2 m.ents
    have h5 := rUint_le 8 s
    rw [h3] at h4
    refine { hbd with ents := getEnts_mem _ _ _ (by rw [h3]; simp), entsL := ?_ }
    show (getEnts (rUint 8 s).1 (rUint 8 s).2 m.ents).2.length ≤ 4194304
    rw [h3, h4.2]
    simp only [List.length_nil]
    omega
  case vot =>
    have h3 := getConf_mem [UInt8.ofNat (rByte s).1]
    refine { hbd with vot := fun v hv => ?_, votL := ?_ }
    · have := h3.2 v hv; omega
    · have := h3.1; show ((getConf [UInt8.ofNat (rByte s).1]).getD []).length ≤ 4194304; omega
  case data =>
    have h3 := rBytes_max 256 s
    have h4 : (256 : Int).toNat = 256 := rfl
    exact { hbd with dataL := (show (rBytes 256 s).1.length ≤ 4194304 by omega) }
theorem get_ents {f : Fld} (h : f ≠ .ents) (s : Rd) (m : Msg) : (f.get s m).2.ents = m.ents := by
  cases f <;> first | rfl | exact absurd rfl h
theorem fields_nodup (k : Int) : (fieldsOf k).Nodup := by
  unfold fieldsOf
  repeat' split
  all_goals decide
theorem getAll_bd : ∀ {fs : List Fld} {s : Rd} {m : Msg}, fs.Nodup → m.bd → (.ents ∈ fs → m.ents = []) → (getAll fs s m).2.bd
  | [], _, _, _, h, _ => h
  | f :: fs, s, m, hn, h, he => by
    obtain ⟨hn1, hn2⟩ := List.nodup_cons.1 hn
    refine getAll_bd (fs := fs) hn2 (get_bd h fun hf => he (by simp [hf])) fun hm => ?_
    by_cases hf : f = .ents
    · subst hf; exact absurd hm hn1
    · rw [get_ents hf]; exact he (by simp [hm])
theorem hdrR_bd (b : List UInt8) : (hdrR b).2.bd where
  term := rUint_le _ _
  idx := Nat.zero_le _
  lt := Nat.zero_le _
  com := Nat.zero_le _
  rnd := Nat.zero_le _
  off := ⟨by show (-9223372036854775808 : Int) ≤ 0; decide, by show (0 : Int) ≤ 9223372036854775807; decide⟩
  whole := ⟨by show (-9223372036854775808 : Int) ≤ 0; decide, by show (0 : Int) ≤ 9223372036854775807; decide⟩
  ents := fun e (he : e ∈ []) => by simp at he
  entsL := Nat.zero_le _
  vot := fun e (he : e ∈ []) => by simp at he
  votL := Nat.zero_le _
  dataL := Nat.zero_le _
theorem readR_bd (b : List UInt8) : (readR b).2.bd := getAll_bd (fields_nodup _) (hdrR_bd b) (fun _ => rfl)
end Go.En
namespace Go.En
set_option linter.unusedVariables false
set_option linter.unusedSimpArgs false

def getEnts2 : Nat → Rd → List Ent → Rd × List Ent
  | 0, s, l => (s, l)
  | n + 1, s, l => getEnts2 n (rBytes 512 s).2 (l ++ [(getEnt (rBytes 512 s).1).getD Ent.zero])
def Fld.get2 (s : Rd) (m : Msg) : Fld → Rd × Msg
  | .good => ((rByte s).2, { m with good := decide ((rByte s).1 = 1) })
  | .ents => ((getEnts2 (rUint 8 s).1 (rUint 8 s).2 []).1, { m with ents := (getEnts2 (rUint 8 s).1 (rUint 8 s).2 []).2 })
  | .vot => ((rByte s).2, { m with vot := (getConf [UInt8.ofNat (rByte s).1]).getD [] })
  | f => f.get s m
def getAll2 : List Fld → Rd → Msg → Rd × Msg
  | [], s, m => (s, m)
  | f :: r, s, m => getAll2 r (f.get2 s m).1 (f.get2 s m).2
def gIf (c : Prop) [Decidable c] (fs : List Fld) (x : Rd × Msg) : Rd × Msg := if c then getAll2 fs x.1 x.2 else x
def rr1 (b : List UInt8) : Rd × Msg := gIf ((hdrR b).2.kind = 2 ∨ (hdrR b).2.kind = 4) [.good] (hdrR b)
def rr2 (b : List UInt8) : Rd × Msg := gIf (¬ (hdrR b).2.kind = 2) [.idx] (rr1 b)
def rr3 (b : List UInt8) : Rd × Msg := gIf (((hdrR b).2.kind = 1 ∨ (hdrR b).2.kind = 3) ∨ (hdrR b).2.kind = 5) [.lt] (rr2 b)
def rr4 (b : List UInt8) : Rd × Msg := gIf ((hdrR b).2.kind = 3) [.com] (rr3 b)
def rr5 (b : List UInt8) : Rd × Msg := gIf ((hdrR b).2.kind = 3 ∨ (hdrR b).2.kind = 4) [.rnd] (rr4 b)
def rr6 (b : List UInt8) : Rd × Msg := gIf ((hdrR b).2.kind = 3) [.ents] (rr5 b)
def rr7 (b : List UInt8) : Rd × Msg := gIf ((hdrR b).2.kind = 5 ∨ (hdrR b).2.kind = 6) [.off] (rr6 b)
def rr8 (b : List UInt8) : Rd × Msg := gIf ((hdrR b).2.kind = 5) [.whole, .vot, .data] (rr7 b)
theorem rr_eq {b : List UInt8} (h : fieldsOf (hdrR b).2.kind ≠ []) : rr8 b = getAll2 (fieldsOf (hdrR b).2.kind) (hdrR b).1 (hdrR b).2 := by
  unfold rr8 rr7 rr6 rr5 rr4 rr3 rr2 rr1
  generalize hdrR b = x at h ⊢
  obtain ⟨s, m⟩ := x
  dsimp only at h ⊢
  generalize m.kind = k at h ⊢
  by_cases h1 : k = 1
  · subst h1; rfl
  · by_cases h2 : k = 2
    · subst h2; rfl
    · by_cases h3 : k = 3
      · subst h3; rfl
      · by_cases h4 : k = 4
        · subst h4; rfl
        · by_cases h5 : k = 5
          · subst h5; rfl
          · by_cases h6 : k = 6
            · subst h6; rfl
            · exact absurd (by simp [fieldsOf, h1, h2, h3, h4, h5, h6]) h
theorem get2_kind (f : Fld) (s : Rd) (m : Msg) : (f.get2 s m).2.kind = m.kind := by cases f <;> rfl
theorem getAll2_kind : ∀ (fs : List Fld) (s : Rd) (m : Msg), (getAll2 fs s m).2.kind = m.kind
  | [], _, _ => rfl
  | f :: fs, s, m => by rw [getAll2, getAll2_kind fs, get2_kind]
theorem gIf_kind (c : Prop) [Decidable c] (fs : List Fld) (x : Rd × Msg) : (gIf c fs x).2.kind = x.2.kind := by
  unfold gIf
  split
  · exact getAll2_kind _ _ _
  · rfl
theorem rr_kind (b : List UInt8) : (rr8 b).2.kind = (hdrR b).2.kind := by
  unfold rr8 rr7 rr6 rr5 rr4 rr3 rr2 rr1
  simp only [gIf_kind]
/-! bounds -/
theorem getEnts2_len : ∀ (n : Nat) (s : Rd) (l : List Ent), (getEnts2 n s l).1.1.length ≤ s.1.length ∧ (getEnts2 n s l).2.length = l.length + n
  | 0, s, l => ⟨Nat.le_refl _, rfl⟩
  | n + 1, s, l => by
    have h := getEnts2_len n (rBytes 512 s).2 (l ++ [(getEnt (rBytes 512 s).1).getD Ent.zero])
    have h2 := (rBytes_bd 512 s.1 s.2).2
    simp only [getEnts2]
    refine ⟨Nat.le_trans h.1 h2, ?_⟩
    rw [h.2]
    simp
    omega
theorem getEnts2_mem : ∀ (n : Nat) (s : Rd) (l : List Ent), (∀ e ∈ l, e.idx ≤ mxU ∧ e.term ≤ mxU ∧ e.data.length ≤ 4194304) → ∀ e ∈ (getEnts2 n s l).2, e.idx ≤ mxU ∧ e.term ≤ mxU ∧ e.data.length ≤ 4194304
  | 0, s, l, h => h
  | n + 1, s, l, h => by
    simp only [getEnts2]
    refine getEnts2_mem n _ _ fun e he => ?_
    rcases List.mem_append.1 he with he | he
    · exact h e he
    · rw [List.mem_singleton.1 he]
      exact getEnt_bd _
theorem get2_bd {f : Fld} {s : Rd} {m : Msg} (hbd : m.bd) : (f.get2 s m).2.bd := by
  cases f
  case good => exact { hbd with }
  case ents =>
    have h4 := getEnts2_len (rUint 8 s).1 (rUint 8 s).2 []
    have h5 := rUint_le 8 s
    refine { hbd with ents := getEnts2_mem _ _ _ (by simp), entsL := ?_ }
    show (getEnts2 (rUint 8 s).1 (rUint 8 s).2 []).2.length ≤ 4194304
    rw [h4.2]
    simp only [List.length_nil]
    omega
  case vot =>
    have h3 := getConf_mem [UInt8.ofNat (rByte s).1]
    refine { hbd with vot := fun v hv => ?_, votL := ?_ }
    · have := h3.2 v hv; omega
    · have := h3.1; show ((getConf [UInt8.ofNat (rByte s).1]).getD []).length ≤ 4194304; omega
  all_goals exact get_bd hbd (fun h => by cases h)
theorem getAll2_bd : ∀ {fs : List Fld} {s : Rd} {m : Msg}, m.bd → (getAll2 fs s m).2.bd
  | [], _, _, h => h
  | f :: fs, s, m, h => getAll2_bd (fs := fs) (get2_bd h)
theorem gIf_bd {c : Prop} [Decidable c] {fs : List Fld} {x : Rd × Msg} (h : x.2.bd) : (gIf c fs x).2.bd := by
  unfold gIf
  split
  · exact getAll2_bd h
  · exact h
theorem rr_bd (b : List UInt8) : (rr8 b).2.bd := gIf_bd (gIf_bd (gIf_bd (gIf_bd (gIf_bd (gIf_bd (gIf_bd (gIf_bd (hdrR_bd b))))))))
/-! there and back -/
def Fld.set (m m' : Msg) : Fld → Msg
  | .idx => { m' with idx := m.idx }
  | .lt => { m' with lt := m.lt }
  | .com => { m' with com := m.com }
  | .rnd => { m' with rnd := m.rnd }
  | .good => { m' with good := m.good }
  | .off => { m' with off := m.off }
  | .whole => { m' with whole := m.whole }
  | .ents => { m' with ents := m.ents }
  | .vot => { m' with vot := m.vot }
  | .data => { m' with data := m.data }
def setAll (m : Msg) : List Fld → Msg → Msg
  | [], m' => m'
  | f :: r, m' => setAll m r (f.set m m')
theorem getEnts_rt {a : Nat} : ∀ (l : List Ent) (i : Nat) (r : List UInt8) (l0 : List Ent), entsOK a i l → (∀ e ∈ l, e.idx ≤ mxU ∧ e.term ≤ mxU) → getEnts l.length (entsBytes l ++ r, 0) l0 = ((r, 0), l0 ++ l)
  | [], i, r, l0, _, _ => by simp [getEnts, entsBytes]
  | e :: l, i, r, l0, h, hb => by
    obtain ⟨h1, _, _, h4⟩ := h
    have h5 := Ent.bytes_length e h1 (hb e (by simp)).1 (hb e (by simp)).2
    have h6 := getEnt_put (hb e (by simp)).1 (hb e (by simp)).2 (show putEnt e = some e.bytes from if_pos h1)
    have h7 := rBytes_put (most := 512) (x := e.bytes) (entsBytes l ++ r) (by omega) (by omega)
    simp only [List.length_cons, getEnts, entsBytes, List.append_assoc, h7, h6, Option.getD_some]
    rw [show rFail (ec (some e)) (entsBytes l ++ r, 0) = (entsBytes l ++ r, 0) from rfl, getEnts_rt l (i + 1) r _ h4 (fun x hx => hb x (by simp [hx]))]
    simp
theorem getEnts2_rt {a : Nat} : ∀ (l : List Ent) (i : Nat) (r : List UInt8) (l0 : List Ent), entsOK a i l → (∀ e ∈ l, e.idx ≤ mxU ∧ e.term ≤ mxU) → getEnts2 l.length (entsBytes l ++ r, 0) l0 = ((r, 0), l0 ++ l)
  | [], i, r, l0, _, _ => by simp [getEnts2, entsBytes]
  | e :: l, i, r, l0, h, hb => by
    obtain ⟨h1, _, _, h4⟩ := h
    have h5 := Ent.bytes_length e h1 (hb e (by simp)).1 (hb e (by simp)).2
    have h6 := getEnt_put (hb e (by simp)).1 (hb e (by simp)).2 (show putEnt e = some e.bytes from if_pos h1)
    have h7 := rBytes_put (most := 512) (x := e.bytes) (entsBytes l ++ r) (by omega) (by omega)
    simp only [List.length_cons, getEnts2, entsBytes, List.append_assoc, h7, h6, Option.getD_some]
    rw [getEnts2_rt l (i + 1) r _ h4 (fun x hx => hb x (by simp [hx]))]
    simp
theorem u64of_small {x : Int} (h : 0 ≤ x ∧ x ≤ 2097152) : u64of x ≤ 2097152 ∧ ((u64of x : Nat) : Int) = x := by unfold u64of; omega
theorem get_rt {m m' : Msg} (f : Fld) (r : List UInt8) (hbd : m.bd) (h : f.pok m) (he : m'.ents = []) : f.get (f.pby m ++ r, 0) m' = ((r, 0), f.set m m') ∧ f.get2 (f.pby m ++ r, 0) m' = ((r, 0), f.set m m') := by
  have hmx : mxU = 18446744073709551615 := rfl
  have hU : ∀ n, n ≤ mxU → rUint mxU (uint n ++ r, 0) = (n, (r, 0)) := fun n hn => rUint_uint r (by omega) hn
  cases f
  case idx => simp only [Fld.pby, Fld.get, Fld.get2, Fld.set, hU _ hbd.idx, and_self]
  case lt => simp only [Fld.pby, Fld.get, Fld.get2, Fld.set, hU _ hbd.lt, and_self]
  case com => simp only [Fld.pby, Fld.get, Fld.get2, Fld.set, hU _ hbd.com, and_self]
  case rnd => simp only [Fld.pby, Fld.get, Fld.get2, Fld.set, hU _ hbd.rnd, and_self]
  case off =>
    have h1 := u64of_small h
    have h2 := rUint_uint (m := 2097152) (n := u64of m.off) r (by omega) h1.1
    simp only [Fld.pby, Fld.get, Fld.get2, Fld.set, h2, h1.2, and_self]
  case whole =>
    have h1 := u64of_small h
    have h2 := rUint_uint (m := 2097152) (n := u64of m.whole) r (by omega) h1.1
    simp only [Fld.pby, Fld.get, Fld.get2, Fld.set, h2, h1.2, and_self]
  case good =>
    cases hg : m.good <;> simp only [Fld.pby, Fld.get, Fld.get2, Fld.set, List.singleton_append, rByte_cons, hg] <;> exact ⟨rfl, rfl⟩
  case ents =>
    obtain ⟨h1, h2⟩ := h
    have h3 := rUint_uint (m := 8) (n := m.ents.length) (entsBytes m.ents ++ r) (by omega) h2
    have hb : ∀ e ∈ m.ents, e.idx ≤ mxU ∧ e.term ≤ mxU := fun e he => ⟨(hbd.ents e he).1, (hbd.ents e he).2.1⟩
    simp only [Fld.pby, Fld.get, Fld.get2, Fld.set, List.append_assoc, h3, he, getEnts_rt m.ents 0 r [] h1 hb, getEnts2_rt m.ents 0 r [] h1 hb, List.nil_append, and_self]
  case vot =>
    have hs : (putConf m.vot).isSome = true := h
    obtain ⟨c, hc⟩ := Option.isSome_iff_exists.1 hs
    have h1 := getConf_put hc
    have h2 : ∃ x : UInt8, c = [x] := by
      unfold putConf at hc
      split at hc
      · exact ⟨_, (Option.some.inj hc).symm⟩
      · cases hc
    obtain ⟨x, rfl⟩ := h2
    have h3 : UInt8.ofNat x.toNat = x := by simp
    simp only [Fld.pby, Fld.get, Fld.get2, Fld.set, hc, ob, List.singleton_append, rByte_cons, h3, h1, Option.getD_some]
    exact ⟨rfl, trivial⟩
  case data =>
    have h1 := rBytes_put (most := 256) (x := m.data) r (by have := hbd.dataL; omega) (by have := h.1; omega)
    simp only [Fld.pby, Fld.get, Fld.get2, Fld.set, h1, and_self]
theorem set_ents {f : Fld} {m m' : Msg} (h : f ≠ .ents) : (f.set m m').ents = m'.ents := by cases f <;> first | rfl | exact absurd rfl h
theorem getAll_rt {m : Msg} (hbd : m.bd) : ∀ (fs : List Fld) (m' : Msg), fs.Nodup → (∀ f ∈ fs, f.pok m) → (.ents ∈ fs → m'.ents = []) →
    getAll fs (pbyAll m fs, 0) m' = (([], 0), setAll m fs m') ∧ getAll2 fs (pbyAll m fs, 0) m' = (([], 0), setAll m fs m')
  | [], m', _, _, _ => ⟨rfl, rfl⟩
  | f :: fs, m', hn, h, he => by
    obtain ⟨hn1, hn2⟩ := List.nodup_cons.1 hn
    have hf : ∀ m'' : Msg, m''.ents = [] → _ := fun m'' h' => get_rt (m' := m'') f (pbyAll m fs) hbd (h f (by simp)) h'
    have h1 : f.get (f.pby m ++ pbyAll m fs, 0) m' = ((pbyAll m fs, 0), f.set m m') ∧ f.get2 (f.pby m ++ pbyAll m fs, 0) m' = ((pbyAll m fs, 0), f.set m m') := by
      by_cases hq : f = .ents
      · exact hf m' (he (by simp [hq]))
      · have h2 := hf { m' with ents := [] } rfl
        have e1 : ∀ s, f.get s m' = ((f.get s { m' with ents := [] }).1, { (f.get s { m' with ents := [] }).2 with ents := m'.ents }) := by
          intro s; cases f <;> first | rfl | exact absurd rfl hq
        have e2 : ∀ s, f.get2 s m' = ((f.get2 s { m' with ents := [] }).1, { (f.get2 s { m' with ents := [] }).2 with ents := m'.ents }) := by
          intro s; cases f <;> first | rfl | exact absurd rfl hq
        rw [e1, e2, h2.1, h2.2]
        have e3 : ({ f.set m { m' with ents := [] } with ents := m'.ents } : Msg) = f.set m m' := by cases f <;> first | rfl | exact absurd rfl hq
        dsimp only
        rw [e3]
        exact ⟨rfl, rfl⟩
    have h4 := getAll_rt hbd fs (f.set m m') hn2 (fun x hx => h x (by simp [hx])) (fun hx => by
      by_cases hq : f = .ents
      · subst hq; exact absurd hx hn1
      · rw [set_ents hq]; exact he (by simp [hx]))
    simp only [getAll, getAll2, pbyAll, h1.1, h1.2]
    exact h4
def baseH (m : Msg) : Msg := { Msg.zero with kind := m.kind, frm := m.frm, to := m.to, term := m.term }
theorem hdrR_rt {m : Msg} (hbd : m.bd) (hok : m.ok) : hdrR m.body = ((pbyAll m (fieldsOf m.kind), 0), baseH m) := by
  have hmx : mxU = 18446744073709551615 := rfl
  have hk : 1 ≤ m.kind ∧ m.kind ≤ 6 := by
    have h := hok.1.1
    unfold fieldsOf at h
    repeat' split at h
    all_goals first | omega | exact absurd rfl h
  obtain ⟨⟨f1, f2⟩, ⟨t1, t2⟩⟩ := hok.1.2.1, hok.1.2.2.1
  obtain ⟨k, hk'⟩ : ∃ k : Nat, m.kind = (k : Nat) := Int.eq_ofNat_of_zero_le (by omega)
  obtain ⟨f, hf⟩ : ∃ k : Nat, m.frm = (k : Nat) := Int.eq_ofNat_of_zero_le (by omega)
  obtain ⟨t, ht⟩ : ∃ k : Nat, m.to = (k : Nat) := Int.eq_ofNat_of_zero_le (by omega)
  have hte := hbd.term
  have h1 := rUint_uint (m := mxU) (n := m.term) (pbyAll m (fieldsOf m.kind)) (by omega) hte
  unfold hdrR Msg.body hdr
  simp only [List.cons_append, rByte_cons, h1, baseH, hk', hf, ht]
  have e1 : (UInt8.ofNat k).toNat = k := by simp; omega
  have e2 : (UInt8.ofNat f).toNat = f := by simp; omega
  have e3 : (UInt8.ofNat t).toNat = t := by simp; omega
  have e4 : ((UInt8.ofNat m.kind.toNat).toNat : Int) = m.kind := by rw [hk']; simp; omega
  simp only [Int.toNat_natCast, e2, e3, ← hk', h1, e4]
theorem setAll_base {m : Msg} (hok : m.ok) : setAll m (fieldsOf m.kind) (baseH m) = m := by
  obtain ⟨hp, _, hb⟩ := hok
  have hk := hp.1
  obtain ⟨k, f, t, te, i, l, c, r, g, e, o, w, v, d⟩ := m
  dsimp only at hk hb ⊢
  by_cases h1 : k = 1
  · subst h1; simp [fieldsOf, clrAll, Fld.clr, bareP] at hb; simp [fieldsOf, setAll, Fld.set, baseH, Msg.zero]; simp_all
  · by_cases h2 : k = 2
    · subst h2; simp [fieldsOf, clrAll, Fld.clr, bareP] at hb; simp [fieldsOf, setAll, Fld.set, baseH, Msg.zero]; simp_all
    · by_cases h3 : k = 3
      · subst h3; simp [fieldsOf, clrAll, Fld.clr, bareP] at hb; simp [fieldsOf, setAll, Fld.set, baseH, Msg.zero]; simp_all
      · by_cases h4 : k = 4
        · subst h4; simp [fieldsOf, clrAll, Fld.clr, bareP] at hb; simp [fieldsOf, setAll, Fld.set, baseH, Msg.zero]; simp_all
        · by_cases h5 : k = 5
          · subst h5; simp [fieldsOf, clrAll, Fld.clr, bareP] at hb; simp [fieldsOf, setAll, Fld.set, baseH, Msg.zero]; simp_all
          · by_cases h6 : k = 6
            · subst h6; simp [fieldsOf, clrAll, Fld.clr, bareP] at hb; simp [fieldsOf, setAll, Fld.set, baseH, Msg.zero]; simp_all
            · exact absurd (by simp [fieldsOf, h1, h2, h3, h4, h5, h6]) hk
theorem read_rt {m : Msg} (hbd : m.bd) (hok : m.ok) : readR m.body = (([], 0), m) ∧ rr8 m.body = (([], 0), m) := by
  have h1 := hdrR_rt hbd hok
  have h2 := getAll_rt hbd (fieldsOf m.kind) (baseH m) (fields_nodup _) hok.2.1 (fun _ => rfl)
  rw [setAll_base hok] at h2
  constructor
  · unfold readR; rw [h1]; exact h2.1
  · rw [rr_eq (by rw [h1]; exact hok.1.1), h1]; exact h2.2
def decR (b : List UInt8) : Option Msg :=
  if (unsealed b).2.2 = 0 ∧ (unsealed b).2.1 = b.length ∧ rEnd (rr8 (unsealed b).1).1 = 0 ∧ enc (rr8 (unsealed b).1).2 = some b then some (rr8 (unsealed b).1).2 else none
theorem enc_some {m : Msg} {b : List UInt8} (h : enc m = some b) : m.ok ∧ b = sealed m.body := by
  unfold enc at h
  split at h
  · rename_i h1; exact ⟨h1, (Option.some.inj h).symm⟩
  · cases h
theorem dec_iff (b : List UInt8) (m : Msg) (hl : ∀ m : Msg, m.bd → m.ok → m.body.length ≤ 2097152) : dec b = some m ↔ enc m = some b ∧ m.bd := by
  constructor
  · intro h
    unfold dec at h
    split at h
    · rename_i h1
      cases h
      exact ⟨h1.2.2.2, readR_bd _⟩
    · cases h
  · rintro ⟨h, hbd⟩
    obtain ⟨hok, rfl⟩ := enc_some h
    have h1 : unsealed (sealed m.body) = (m.body, (sealed m.body).length, 0) := by
      have := unsealed_sealed (b := m.body) [] (hl m hbd hok)
      rwa [List.append_nil] at this
    unfold dec
    rw [h1]
    dsimp only
    rw [(read_rt hbd hok).1]
    exact if_pos ⟨rfl, rfl, rfl, h⟩
theorem decR_iff (b : List UInt8) (m : Msg) (hl : ∀ m : Msg, m.bd → m.ok → m.body.length ≤ 2097152) : decR b = some m ↔ enc m = some b ∧ m.bd := by
  constructor
  · intro h
    unfold decR at h
    split at h
    · rename_i h1
      cases h
      exact ⟨h1.2.2.2, rr_bd _⟩
    · cases h
  · rintro ⟨h, hbd⟩
    obtain ⟨hok, rfl⟩ := enc_some h
    have h1 : unsealed (sealed m.body) = (m.body, (sealed m.body).length, 0) := by
      have := unsealed_sealed (b := m.body) [] (hl m hbd hok)
      rwa [List.append_nil] at this
    unfold decR
    rw [h1]
    dsimp only
    rw [(read_rt hbd hok).2]
    exact if_pos ⟨rfl, rfl, rfl, h⟩
theorem decR_dec (b : List UInt8) (hl : ∀ m : Msg, m.bd → m.ok → m.body.length ≤ 2097152) : decR b = dec b := by
  apply Option.ext
  intro m
  rw [decR_iff b m hl, dec_iff b m hl]
end Go.En
