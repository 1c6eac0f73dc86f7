/-
  Strings' bytes and parts; elements of arrays.
-/
import Derived.Test.YtlnhbilpkcfdlaaDoorEw
set_option linter.unusedSimpArgs false
set_option linter.unusedVariables false
namespace Go.En
set_option linter.unusedVariables false
attribute [local irreducible] Code.wp wpList Calls
section rules
variable {P : Program} {T : Tab} {w0 : World} {ops : Array Oper} {Q : Exit → Act → World → Prop} {rest rest' : List Oper} {n : Nat} {l l' : Sl} {K : PH} {hs : List PH}
def siAt (T : Tab) (ops : Array Oper) (n k : Nat) (rest : List Oper) (l : Sl) : Option (Nat × ByteArray × Int × List Oper × Sl) :=
  match opAt T ops n k rest l with
  | some (o, r, l') => match o.dst, o.op with
    | some d, .index t x i => match Nat.blt d n, asc T.kinds t, ev l' x, ev l' i with
      | true, some .str, some (.string s), some (.int _ j) => some (d, s, j, r, l')
      | _, _, _, _ => none
    | _, _ => none
  | _ => none
theorem fits_str {d : TypeDesc} (h : UK.fits .str d = true) : d = .string := by cases d <;> simp [UK.fits] at h ⊢
/-- a byte of a text -/
theorem six (hT : TabOK P T) (k : Nat) {d : Nat} {i : Int} (xs : List UInt8) (j : Nat) {b : UInt8} {s : ByteArray}
    (h0 : siAt T ops n k rest l = some (d, s, i, rest', l')) (hs1 : s = ⟨xs.toArray⟩) (hj : i = (j : Int)) (hb' : xs[j]? = some b)
    (hk : WL P w0 ops Q rest' n ((d, .int .u8 ((b.toNat : Nat) : Int)) :: l') K hs) : WL P w0 ops Q rest n l K hs := by
  unfold siAt at h0
  split at h0
  · rename_i o r l2 ho
    split at h0
    · rename_i d' t x' i' hd hop
      split at h0
      · rename_i s' kk jj hb hsi hx hi
        simp only [Option.some.injEq, Prod.mk.injEq] at h0
        obtain ⟨rfl, rfl, rfl, rfl, rfl⟩ := h0
        subst hj hs1
        obtain ⟨dd, g1, g2⟩ := hT.kind hsi
        obtain rfl := fits_str g2
        refine WL.at' hT ho fun hg => WL.val (R := fun u K' hs' => u = .int .u8 ((b.toNat : Nat) : Int) ∧ K' = K ∧ hs' = hs) hd hb hg (fun A w ha hw => ⟨_, w, K, hs, ?_, hw, rfl, rfl, rfl⟩) ?_
        · have h2 : (⟨xs.toArray⟩ : ByteArray)[j]? = some b := by
            obtain ⟨hlt, he⟩ := List.getElem?_eq_some_iff.1 hb'
            have hsz : j < (⟨xs.toArray⟩ : ByteArray).size := by simpa [ByteArray.size] using hlt
            rw [getElem?_pos _ j hsz]
            simpa [ByteArray.getElem_eq_getElem_data] using he
          simp only [execOp, hop, ha.ev hx, ha.ev hi]
          simp [Instr.index, asIntOf, run_underlying g1, h2]
        · rintro u K' hs' ⟨rfl, rfl, rfl⟩
          exact hk
      · simp at h0
    · simp at h0
  · simp at h0
def ssAt2 (T : Tab) (ops : Array Oper) (n k : Nat) (rest : List Oper) (l : Sl) : Option (Nat × ByteArray × Option Int × Option Int × List Oper × Sl) :=
  match opAt T ops n k rest l with
  | some (o, r, l') => match o.dst, o.op with
    | some d, .slice t x (some lo) none none => match Nat.blt d n, asc T.kinds t, ev l' x, ev l' lo with
      | true, some .str, some (.string s), some (.int _ i) => some (d, s, some i, none, r, l')
      | _, _, _, _ => none
    | some d, .slice t x (some lo) (some hi) none => match Nat.blt d n, asc T.kinds t, ev l' x, ev l' lo, ev l' hi with
      | true, some .str, some (.string s), some (.int _ i), some (.int _ j) => some (d, s, some i, some j, r, l')
      | _, _, _, _, _ => none
    | _, _ => none
  | _ => none
theorem ext_str (xs : List UInt8) (L H : Nat) (h1 : L ≤ H) (h2 : H ≤ xs.length) : Value.string ((⟨xs.toArray⟩ : ByteArray).extract L H) = str ((xs.drop L).take (H - L)) := by
  unfold str
  congr 1
  apply ByteArray.ext
  simp [ByteArray.data_extract]
/-- a part of a text -/
theorem ssl (hT : TabOK P T) (k : Nat) {d : Nat} {lo hi : Option Int} (xs : List UInt8) (L H : Nat) {s : ByteArray}
    (h0 : ssAt2 T ops n k rest l = some (d, s, lo, hi, rest', l')) (hs1 : s = ⟨xs.toArray⟩) (hL : lo = some (L : Int)) (hH : hi.getD xs.length = (H : Int)) (h1 : L ≤ H) (h2 : H ≤ xs.length)
    (hk : WL P w0 ops Q rest' n ((d, str ((xs.drop L).take (H - L))) :: l') K hs) : WL P w0 ops Q rest n l K hs := by
  have hsz : (⟨xs.toArray⟩ : ByteArray).size = xs.length := by simp [ByteArray.size]
  have he := ext_str xs L H h1 h2
  unfold ssAt2 at h0
  split at h0
  · rename_i o r l2 ho
    split at h0
    · rename_i d' t x' lo' hd hop
      split at h0
      · rename_i s' kk ii hb hsi hx hi
        simp only [Option.some.injEq, Prod.mk.injEq] at h0
        obtain ⟨rfl, rfl, rfl, rfl, rfl, rfl⟩ := h0
        simp only [Option.some.injEq] at hL
        simp only [Option.getD_none] at hH
        subst hs1 hL
        obtain ⟨dd, g1, g2⟩ := hT.kind hsi
        obtain rfl := fits_str g2
        refine WL.at' hT ho fun hg => WL.val (R := fun u K' hs' => u = str ((xs.drop L).take (H - L)) ∧ K' = K ∧ hs' = hs) hd hb hg (fun A w ha hw => ⟨_, w, K, hs, ?_, hw, he, rfl, rfl⟩) ?_
        · have h3 : H = xs.length := by omega
          subst h3
          have h4 : ((L : Nat) : Int) ≤ ((xs.length : Nat) : Int) := by omega
          simp only [execOp, hop, ha.ev hx]
          simp [Instr.sliceAt, Instr.slice, Instr.sliceBounds, Instr.sliceBound, asIntOf, run_underlying g1, hsz, ha.ev hi, h1]
        · rintro u K' hs' ⟨rfl, rfl, rfl⟩
          exact hk
      · simp at h0
    · rename_i d' t x' lo' hi' hd hop
      split at h0
      · rename_i s' kk ii kk2 jj hb hsi hx hi1 hi2
        simp only [Option.some.injEq, Prod.mk.injEq] at h0
        obtain ⟨rfl, rfl, rfl, rfl, rfl, rfl⟩ := h0
        simp only [Option.some.injEq] at hL
        simp only [Option.getD_some] at hH
        subst hs1 hL hH
        obtain ⟨dd, g1, g2⟩ := hT.kind hsi
        obtain rfl := fits_str g2
        refine WL.at' hT ho fun hg => WL.val (R := fun u K' hs' => u = str ((xs.drop L).take (H - L)) ∧ K' = K ∧ hs' = hs) hd hb hg (fun A w ha hw => ⟨_, w, K, hs, ?_, hw, he, rfl, rfl⟩) ?_
        · simp only [execOp, hop, ha.ev hx]
          simp [Instr.sliceAt, Instr.slice, Instr.sliceBounds, Instr.sliceBound, asIntOf, run_underlying g1, hsz, ha.ev hi1, ha.ev hi2, h1, h2]
        · rintro u K' hs' ⟨rfl, rfl, rfl⟩
          exact hk
      · simp at h0
    · simp at h0
  · simp at h0
def iaAt (T : Tab) (ops : Array Oper) (n k : Nat) (rest : List Oper) (l : Sl) : Option (Nat × Nat × Addr × Int × List Oper × Sl) :=
  match opAt T ops n k rest l with
  | some (o, r, l') => match o.dst, o.op with
    | some d, .indexAddr t x i => match Nat.blt d n, ev l' x, ev l' i with
      | true, some (.pointer (some a)), some (.int _ j) => some (d, t, a, j, r, l')
      | _, _, _ => none
    | _, _ => none
  | _ => none
/-- the address of an array's element -/
theorem ixa (hT : TabOK P T) (k : Nat) {d t len e sz : Nat} {a : Addr} {i : Int} (j : Nat) (h0 : iaAt T ops n k rest l = some (d, t, a, i, rest', l')) (hu : P.underlying t = some (.array len e)) (he : (P.info? e).map (·.size) = some sz) (hj : i = (j : Int)) (hjn : j < len)
    (hk : WL P w0 ops Q rest' n ((d, .pointer (some (a.add (j * sz)))) :: l') K hs) : WL P w0 ops Q rest n l K hs := by
  unfold iaAt at h0
  split at h0
  · rename_i o r l2 ho
    split at h0
    · rename_i d' t x' i' hd hop
      split at h0
      · rename_i a' kk jj hb hx hi
        simp only [Option.some.injEq, Prod.mk.injEq] at h0
        obtain ⟨rfl, rfl, rfl, rfl, rfl, rfl⟩ := h0
        subst hj
        cases hii : P.info? e with
        | none => rw [hii] at he; cases he
        | some ii =>
          rw [hii] at he
          have hsz : ii.size = sz := by simpa using he
          refine WL.at' hT ho fun hg => WL.val (R := fun u K' hs' => u = .pointer (some (a'.add (j * sz))) ∧ K' = K ∧ hs' = hs) hd hb hg (fun A w ha hw => ⟨_, w, K, hs, ?_, hw, rfl, rfl, rfl⟩) ?_
          · simp only [execOp, hop, ha.ev hx, ha.ev hi]
            simp [Instr.indexAt, Instr.sureAddr, asIntOf, run_underlying hu, sizeOf, typeInfo, hii, hsz, hjn]
          · rintro u K' hs' ⟨rfl, rfl, rfl⟩
            exact hk
      · simp at h0
    · simp at h0
  · simp at h0
end rules
end Go.En
namespace Go.En
attribute [local irreducible] Code.wp wpList Calls
section make
variable {P : Program} {T : Tab} {w0 : World} {ops : Array Oper} {Q : Exit → Act → World → Prop} {rest rest' : List Oper} {n : Nat} {l l' : Sl} {K : PH} {hs : List PH}
def mslAt (T : Tab) (ops : Array Oper) (n k : Nat) (rest : List Oper) (l : Sl) : Option (Nat × SlI × Int × Int × List Oper × Sl) :=
  match opAt T ops n k rest l with
  | some (o, r, l') => match o.dst, o.op with
    | some d, .makeSlice t x y => match Nat.blt d n, asc T.sls t, ev l' x, ev l' y with
      | true, some si, some (.int .i64 i), some (.int .i64 j) => some (d, si, i, j, r, l')
      | _, _, _, _ => none
    | _, _ => none
  | _ => none
/-- a new slice of zeroes, elements of one cell -/
theorem mks (hT : TabOK P T) (k : Nat) {d : Nat} {si : SlI} {i j : Int} (N : Nat) (z : Value) (h0 : mslAt T ops n k rest l = some (d, si, i, j, rest', l')) (hi : i = (N : Int)) (hj : j = (N : Int)) (hz : (si.size, si.zero.cells) = (1, #[z])) (hr : N * si.bytes ≤ roomBytes) (hN0 : 0 < N) (hN : N ≤ 16777216) (hb2 : si.bytes ≤ 1024)
    (hk : ∀ b, Own (pt b (Array.replicate N z) si.elem) (some ⟨b, 0, none⟩) N N si.elem 1 (List.replicate N z) → WL P w0 ops Q rest' n ((d, .slice (some ⟨b, 0, none⟩) N N) :: l') K (pt b (Array.replicate N z) si.elem :: hs)) : WL P w0 ops Q rest n l K hs := by
  simp only [Prod.mk.injEq] at hz
  obtain ⟨z1, z2⟩ := hz
  unfold mslAt at h0
  split at h0
  · rename_i o r l2 ho
    split at h0
    · rename_i d' t x y hd hop
      split at h0
      · rename_i si' ii jj hb hsi hx hy
        simp only [Option.some.injEq, Prod.mk.injEq] at h0
        obtain ⟨rfl, rfl, rfl, rfl, rfl, rfl⟩ := h0
        subst hi hj
        obtain ⟨h1, im, h2, h3, h4, h5⟩ := hT.sl hsi
        refine WL.at' hT ho fun hg => WL.val (R := fun u K' hs' => ∃ b, u = .slice (some ⟨b, 0, none⟩) N N ∧ K' = K ∧ hs' = pt b (Array.replicate N z) si'.elem :: hs) hd hb hg
          (fun A w ha hw => ⟨.slice (some ⟨w.heap.size, 0, none⟩) N N, _, K, _, ?_, hw.alloc _, w.heap.size, rfl, rfl, rfl⟩) ?_
        · have e1 : IntKind.i64.wrap ((N : Nat) : Int) = (N : Int) := by simp [IntKind.wrap, IntKind.bits, IntKind.signed]; omega
          simp only [execOp, hop, ha.ev hx, ha.ev hy]
          rw [h5.symm] at hr hb2
          have hm : im.bytes * N ≤ 1024 * 16777216 := Nat.mul_le_mul hb2 hN
          have c2 : ¬ (281474976710656 : Int) < (im.bytes : Int) * (N : Int) := by have : ((im.bytes * N : Nat) : Int) = (im.bytes : Int) * (N : Int) := by push_cast; rfl
                                                                                   omega
          have c1 : ¬ ((N : Nat) : Int) < 0 := by omega
          have c3 : ¬ roomBytes < N * im.bytes := by omega
          have hz : N ≠ 0 := by omega
          have hz2 : (Array.map (fun x => [z][x % 1]?.getD default) (Array.range N)) = Array.replicate N z := by
            apply Array.ext
            · simp
            · intro i h1 h2; simp [Nat.mod_one]
          simp [Instr.makeSlice, asInt, asIntOf, run_underlying h1, sizeOf, typeInfo, h2, h4, e1, z1, c1, c2, c3, askRoom, newRow, zeroValue, h3, z2, hz, hz2, pt]
        · rintro u K' hs' ⟨b, rfl, rfl, rfl⟩
          exact hk b (by simpa using Own.ofPt (b := b) (c := Array.replicate N z) (e := si'.elem) (n := N) (size := 1) (by simp) (by simp only [maxLen]; omega))
      · simp at h0
    · simp at h0
  · simp at h0
end make
end Go.En
namespace Go.En
attribute [local irreducible] Code.wp wpList Calls
section three
variable {P : Program} {T : Tab} {w0 : World} {ops : Array Oper} {Q : Exit → Act → World → Prop} {rest rest' : List Oper} {n : Nat} {l l' : Sl} {K : PH} {hs : List PH}
def s3At (T : Tab) (ops : Array Oper) (n k : Nat) (rest : List Oper) (l : Sl) : Option (Nat × SlI × (Option Addr × Nat × Nat) × Int × Int × Int × List Oper × Sl) :=
  match opAt T ops n k rest l with
  | some (o, r, l') => match o.dst, o.op with
    | some d, .slice t x (some lo) (some hi) (some mx) => match Nat.blt d n, asc T.sls t, ev l' x, ev l' lo, ev l' hi, ev l' mx with
      | true, some si, some (.slice a1 n1 c1), some (.int _ i), some (.int _ j), some (.int _ m) => some (d, si, (a1, n1, c1), i, j, m, r, l')
      | _, _, _, _, _, _ => none
    | _, _ => none
  | _ => none
/-- a part of a slice, its room told -/
theorem sl3 (hT : TabOK P T) (k : Nat) {d : Nat} {si : SlI} {a : Addr} {n1 c1 : Nat} {lo hi mx : Int} (L N : Nat) (h0 : s3At T ops n k rest l = some (d, si, (some a, n1, c1), lo, hi, mx, rest', l'))
    (hL : lo = (L : Int)) (hH : hi = ((L + N : Nat) : Int)) (hM : mx = ((L + N : Nat) : Int)) (hN : 0 < N) (hc : L + N ≤ c1)
    (hk : WL P w0 ops Q rest' n ((d, .slice (some (a.add (L * si.size))) N N) :: l') K hs) : WL P w0 ops Q rest n l K hs := by
  unfold s3At at h0
  split at h0
  · rename_i o r l2 ho
    split at h0
    · rename_i d' t x lo' hi' mx' hd hop
      split at h0
      · rename_i si' a1 m1 k1 kk ii kk2 jj kk3 mm hb hsi hx h1' h2' h3'
        simp only [Option.some.injEq, Prod.mk.injEq] at h0
        obtain ⟨rfl, rfl, ⟨rfl, rfl, rfl⟩, rfl, rfl, rfl, rfl, rfl⟩ := h0
        subst hL hH hM
        obtain ⟨h1, im, h2, h3, h4, h5⟩ := hT.sl hsi
        refine WL.at' hT ho fun hg => WL.val (R := fun u K' hs' => u = .slice (some (a.add (L * si'.size))) N N ∧ K' = K ∧ hs' = hs) hd hb hg (fun A w ha hw => ⟨_, w, K, hs, ?_, hw, rfl, rfl, rfl⟩) ?_
        · have e1 : ¬ L + N = L := by omega
          have c1' : ((L + N : Nat) : Int) ≤ ((k1 : Nat) : Int) := by omega
          have c2' : L + N ≤ k1 := hc
          simp only [execOp, hop, ha.ev hx]
          simp [Instr.sliceAt, Instr.slice, Instr.sliceBounds, Instr.sliceBound, asIntOf, run_underlying h1, ha.ev h1', ha.ev h2', ha.ev h3', sizeOf, typeInfo, h2, h4]
          have t1 : (((L : Nat) : Int) + ((N : Nat) : Int)).toNat = L + N := by omega
          rw [if_pos (by omega), if_pos (by omega), t1, if_pos (by omega), if_neg (by omega), Nat.add_sub_cancel_left]
        · rintro u K' hs' ⟨rfl, rfl, rfl⟩
          exact hk
      · simp at h0
    · simp at h0
  · simp at h0
end three
end Go.En
namespace Go.En
attribute [local irreducible] Code.wp wpList Calls
section openx
variable {P : Program} {T : Tab} {w0 : World} {ops : Array Oper} {Q : Exit → Act → World → Prop} {plan plan' : List Nat} {z : Nat} {listed listed' : Array Bool} {n : Nat} {l l' : Sl} {K K0 : PH} {hs A : List PH}
def diaAt (T : Tab) (ops : Array Oper) (n z k : Nat) (plan : List Nat) (L : Array Bool) (l : Sl) : Option (Nat × Oper × Nat × Addr × Int × List Nat × Array Bool × Sl) :=
  match dopAt T ops n z k plan L l with
  | some (d, o, r, L', l') => match o.op with
    | .indexAddr t x i => match ev l' x, ev l' i with
      | some (.pointer (some a)), some (.int _ j) => some (d, o, t, a, j, r, L', l')
      | _, _ => none
    | _ => none
  | none => none
theorem dixa (hT : TabOK P T) (hsel : Region.noSelect ops = true) (k : Nat) {d t len e sz : Nat} {o : Oper} {a : Addr} {i : Int} (j : Nat)
    (h0 : diaAt T ops n z k plan listed l = some (d, o, t, a, i, plan', listed', l')) (hu : P.underlying t = some (.array len e)) (he : (P.info? e).map (·.size) = some sz) (hj : i = (j : Int)) (hjn : j < len)
    (hk : WA P w0 ops Q K0 A z plan' listed' n ((d, .pointer (some (a.add (j * sz)))) :: l') K hs) : WA P w0 ops Q K0 A z plan listed n l K hs := by
  unfold diaAt at h0
  split at h0
  · rename_i d' o' r L' l2 hh
    split at h0
    · rename_i t x' i' hop
      split at h0
      · rename_i a' kk jj hx hi
        simp only [Option.some.injEq, Prod.mk.injEq] at h0
        obtain ⟨rfl, rfl, rfl, rfl, rfl, rfl, rfl, rfl⟩ := h0
        subst hj
        cases hii : P.info? e with
        | none => rw [hii] at he; cases he
        | some ii =>
          rw [hii] at he
          have hsz : ii.size = sz := by simpa using he
          refine dop hT hsel k hh (fun A w ha => ?_) hk
          simp only [execOp, hop, ha.ev hx, ha.ev hi]
          simp [Instr.indexAt, Instr.sureAddr, asIntOf, run_underlying hu, sizeOf, typeInfo, hii, hsz, hjn]
      · simp at h0
    · simp at h0
  · simp at h0
end openx
end Go.En
namespace Go.En
attribute [local irreducible] Code.wp wpList Calls
section clear
variable {P : Program} {T : Tab} {w0 : World} {ops : Array Oper} {Q : Exit → Act → World → Prop} {rest rest' : List Oper} {n : Nat} {l l' : Sl} {K : PH} {hs : List PH}
theorem WL.val0 {o : Oper} {K' : PH} {hs' : List PH} (hd : o.dst = none) (hg : gOK ops l o.guard = some true)
    (h : ∀ a w, Ag n l a → Sat w0 w K hs → ∃ v w', (execOp a.eval o).run P w = .ok (.value v) w' ∧ Sat w0 w' K' hs')
    (hk : WL P w0 ops Q rest n l K' hs') : WL P w0 ops Q (o :: rest) n l K hs := by
  intro a w ha hw
  obtain ⟨v, w', hrun, hw'⟩ := h a w ha hw
  have h1 := gOK_wanted ha hg
  unfold wpList
  rw [if_pos h1]
  refine .inl ?_
  unfold Oper.wp
  rw [hrun]
  simp only [Oper.upon, hd, Act.put]
  exact hk _ _ ha hw'
def clrAt (T : Tab) (ops : Array Oper) (n k : Nat) (rest : List Oper) (l : Sl) : Option (SlI × Addr × Nat × List Oper × Sl) :=
  match opAt T ops n k rest l with
  | some (o, r, l') => match o.dst, o.op with
    | none, .call { callee := .builtin .clear, args, argTypes } => match args.toList, argTypes.toList with
      | [x], [t] => match asc T.sls t, ev l' x with
        | some si, some (.slice (some a) m _) => some (si, a, m, r, l')
        | _, _ => none
      | _, _ => none
    | _, _ => none
  | none => none
/-- a part of a block is cleared -/
theorem clr (hT : TabOK P T) (k i : Nat) {b off m ty : Nat} {si : SlI} {c : Array Value} {z : Value} (h0 : clrAt T ops n k rest l = some (si, ⟨b, off, none⟩, m, rest', l')) (hi : hs[i]? = some (pt b c ty)) (hz : (si.size, si.zero.cells) = (1, #[z])) (h1 : z.oneCell' = true) (hm : 0 < m) (hf : off + m ≤ c.size)
    (hk : WL P w0 ops Q rest' n l' K (hs.set i (pt b (c.toList.take off ++ List.replicate m z ++ c.toList.drop (off + m)).toArray ty))) : WL P w0 ops Q rest n l K hs := by
  simp only [Prod.mk.injEq] at hz
  obtain ⟨z1, z2⟩ := hz
  unfold clrAt at h0
  split at h0
  · rename_i o r l2 ho
    split at h0
    · rename_i args argTypes hd hop
      split at h0
      · rename_i x t e1 e2
        split at h0
        · rename_i si' a' m' c' hsi hx
          simp only [Option.some.injEq, Prod.mk.injEq] at h0
          obtain ⟨rfl, rfl, rfl, rfl, rfl⟩ := h0
          have a1' : args = #[x] := by cases args; simp_all
          have a2' : argTypes = #[t] := by cases argTypes; simp_all
          subst a1' a2'
          obtain ⟨g1, ii, g2, g3, g4, g5⟩ := hT.sl hsi
          refine WL.at' hT ho fun hg => WL.val0 hd hg (fun A w ha hw => ⟨.tuple #[], _, ?_, hw.setRow hi _⟩) hk
          have hb : w.heap[b]? = some (.cells c ty (0, 0)) := hw.own i _ hi b _ (by simp)
          have hzc : (Builtin.zeroCells #[z] m').toList = List.replicate m' z := by
            unfold Builtin.zeroCells
            apply List.ext_getElem?
            intro q
            by_cases hq : q < m'
            · simp [hq, Nat.mod_one]
            · simp [hq]
          have h2 := run_storeCells_at P b off ty (List.replicate m' z) 0 c w hb (by simpa using hf) (by intro u hu; rw [(List.mem_replicate.1 hu).2]; exact h1)
          simp only [Nat.add_zero, List.length_replicate] at h2
          obtain ⟨q, rfl⟩ : ∃ q, m' = q + 1 := ⟨m' - 1, by omega⟩
          simp only [execOp, hop]
          simp [resolve, invoke, builtin, ha.ev hx, Builtin.clear_, run_underlying g1, zeroValue, typeInfo, g2, g3, z2, hzc, h2]
        · simp at h0
      · simp at h0
    · simp at h0
  · simp at h0
end clear
end Go.En
