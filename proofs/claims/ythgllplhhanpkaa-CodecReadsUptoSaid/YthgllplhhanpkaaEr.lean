/-
  The rules of the engine: structs, texts of bytes.
-/
import Derived.Test.YthgllplhhanpkaaEd
namespace Go.En
set_option linter.unusedVariables false

section rules
variable {P : Program} {T : Tab} {w0 : World} {ops : Array Oper} {Q : Exit → Act → World → Prop} {rest rest' : List Oper} {n : Nat} {l l' : Sl} {K : PH} {hs : List PH}

/-- a struct put together -/
def bdAt (T : Tab) (ops : Array Oper) (n k : Nat) (rest : List Oper) (l : Sl) : Option (Nat × Nat × List (Nat × Value) × List Oper × Sl) :=
  match opAt T ops n k rest l with
  | some (o, r, l') => match o.dst, o.op with
    | some d, .build t parts => match Nat.blt d n, parts.toList.mapM (fun x => (ev l' x.2).map (fun v => (x.1, v))) with
      | true, some vs => some (d, t, vs, r, l')
      | _, _ => none
    | _, _ => none
  | none => none
theorem bd (hT : TabOK P T) (k : Nat) {d t : Nat} {vs : List (Nat × Value)} (v : Value) (h0 : bdAt T ops n k rest l = some (d, t, vs, rest', l')) (hv : ∀ w, (Instr.build t vs.toArray).run P w = .ok v w)
    (hk : WL P w0 ops Q rest' n ((d, v) :: l') K hs) : WL P w0 ops Q rest n l K hs := by
  unfold bdAt at h0
  split at h0
  · rename_i o r l2 ho
    split at h0
    · rename_i d' t' parts hd hop
      split at h0
      · rename_i vs' hb hvs
        simp only [Option.some.injEq, Prod.mk.injEq] at h0
        obtain ⟨rfl, rfl, rfl, rfl, rfl⟩ := h0
        refine WL.at' hT ho fun hg => WL.val (R := fun u K' hs' => u = v ∧ K' = K ∧ hs' = hs) hd hb hg (fun A w ha hw => ⟨v, w, K, hs, ?_, hw, rfl, rfl, rfl⟩) ?_
        · have h6 := evs_map ha _ _ hvs
          have h7 : (parts.map fun (i, x) => (i, A.eval x)) = vs'.toArray := by
            apply Array.ext'
            simpa using h6
          simp only [execOp, hop, h7]
          simp [hv w]
        · rintro u K' hs' ⟨rfl, rfl, rfl⟩
          exact hk
      · simp at h0
    · simp at h0
  · simp at h0
/-- a struct stored -/
def ssAt (T : Tab) (ops : Array Oper) (n k : Nat) (rest : List Oper) (l : Sl) : Option (Nat × Addr × Array Value × List Oper × Sl) :=
  match opAt T ops n k rest l with
  | some (o, r, l') => match o.dst, o.op with
    | none, .store t x y => match ev l' x, ev l' y with
      | some (.pointer (some a)), some (.agg cs) => some (t, a, cs, r, l')
      | _, _ => none
    | _, _ => none
  | none => none
theorem sts (hT : TabOK P T) (k i : Nat) {t b off ty : Nat} {c cs : Array Value} (h0 : ssAt T ops n k rest l = some (t, ⟨b, off, none⟩, cs, rest', l')) (hi : hs[i]? = some (pt b c ty)) (hsz : (P.info? t).map (·.size) = some cs.size)
    (hf : off + cs.size ≤ c.size) (h1 : ∀ v ∈ cs.toList, v.oneCell' = true)
    (hk : WL P w0 ops Q rest' n l' K (hs.set i (pt b (c.toList.take off ++ cs.toList ++ c.toList.drop (off + cs.toList.length)).toArray ty))) : WL P w0 ops Q rest n l K hs := by
  unfold ssAt at h0
  split at h0
  · rename_i o r l2 ho
    split at h0
    · rename_i t' x y hd hop
      split at h0
      · rename_i a' cs' hx hy
        simp only [Option.some.injEq, Prod.mk.injEq] at h0
        obtain ⟨rfl, rfl, rfl, rfl, rfl⟩ := h0
        refine WL.at' hT ho fun hg => WL.skp hd hg (fun A w ha hw => ⟨_, ?_, hw.setRow hi _⟩) hk
        have hb : w.heap[b]? = some (.cells c ty (0, 0)) := hw.own i _ hi b _ (by simp)
        have h2 := run_storeCells_at P b off ty cs'.toList 0 c w hb (by simpa using hf) h1
        simp only [Nat.add_zero] at h2
        obtain ⟨ii, hii, hs'⟩ := Option.map_eq_some_iff.1 hsz
        simp only [execOp, hop, ha.ev hx, ha.ev hy]
        simp only [Instr.storeAt, Instr.sureAddr, storeVar, sizeOf, typeInfo, Value.cells]
        simp [hii, hs', h2]
      · simp at h0
    · simp at h0
  · simp at h0
/-- a struct loaded -/
def lsAt (T : Tab) (ops : Array Oper) (n k : Nat) (rest : List Oper) (l : Sl) : Option (Nat × Nat × Addr × List Oper × Sl) :=
  match opAt T ops n k rest l with
  | some (o, r, l') => match o.dst, o.op with
    | some d, .load t x => match Nat.blt d n, ev l' x with
      | true, some (.pointer (some a)) => some (d, t, a, r, l')
      | _, _ => none
    | _, _ => none
  | none => none
def aggOK (P : Program) (t m : Nat) : Bool := (match P.underlying t with | some (.struct _) => true | some (.array _ _) => true | _ => false) && (match P.info? t with | some i => i.size == m | none => false)
theorem run_loadS {w : World} {t m : Nat} {a : Addr} {cs : List Value} (hm : aggOK P t m = true) (hl : cs.length = m) (hc : ∀ (j : Nat) v, cs[j]? = some v → w.cell? (a.add j) = some v) : (Instr.loadAt t (.pointer (some a))).run P w = .ok (.agg cs.toArray) w := by
  unfold aggOK at hm
  simp only [Bool.and_eq_true] at hm
  obtain ⟨h1, h2⟩ := hm
  cases hu : P.underlying t with
  | none => simp [hu] at h1
  | some d =>
    cases hi : P.info? t with
    | none => simp [hi] at h2
    | some i =>
      have h3 : i.size = m := by simpa [hi] using h2
      have hagg : (isAgg t).run P w = .ok true w := by
        cases d <;> simp [hu] at h1 <;> simp [isAgg, run_underlying hu]
      have h4 := run_loadCells_list (P := P) (w := w) a cs hc
      simp [Instr.loadAt, Instr.sureAddr, loadVar, hagg, sizeOf, typeInfo, hi, h3, ← hl, h4]
theorem lds (hT : TabOK P T) (k : Nat) {d t : Nat} {a : Addr} {h : PH} (cs : List Value) (h0 : lsAt T ops n k rest l = some (d, t, a, rest', l')) (hm : aggOK P t cs.length = true) (hin : In K hs h) (hc : ∀ (j : Nat) v, cs[j]? = some v → Cell h (a.add j) v)
    (hk : WL P w0 ops Q rest' n ((d, .agg cs.toArray) :: l') K hs) : WL P w0 ops Q rest n l K hs := by
  unfold lsAt at h0
  split at h0
  · rename_i o r l2 ho
    split at h0
    · rename_i d' t' x hd hop
      split at h0
      · rename_i a' hb hx
        simp only [Option.some.injEq, Prod.mk.injEq] at h0
        obtain ⟨rfl, rfl, rfl, rfl, rfl⟩ := h0
        refine WL.at' hT ho fun hg => WL.val (R := fun u K' hs' => u = .agg cs.toArray ∧ K' = K ∧ hs' = hs) hd hb hg (fun A w ha hw => ⟨_, w, K, hs, ?_, hw, rfl, rfl, rfl⟩) ?_
        · have h2 := run_loadS (P := P) (w := w) hm rfl (fun j v hv => hw.cell hin (hc j v hv))
          simp only [execOp, hop, ha.ev hx]
          simp [h2]
        · rintro u K' hs' ⟨rfl, rfl, rfl⟩
          exact hk
      · simp at h0
    · simp at h0
  · simp at h0
theorem cells_pt {b off : Nat} {c : Array Value} {ty : Nat} {fr : Nat × Nat} (cs : List Value) (h : ∀ (j : Nat) v, cs[j]? = some v → c[off + j]? = some v) : ∀ (j : Nat) v, cs[j]? = some v → Cell (pt b c ty fr) ((⟨b, off, none⟩ : Addr).add j) v := by
  intro j v hv
  rw [add_mk]
  exact Cell.pt (h j v hv)
/-- bytes out of a text that is told: they bear a mark -/
def mkAt (T : Tab) (ops : Array Oper) (n k : Nat) (rest : List Oper) (l : Sl) : Option (Nat × Nat × (Nat × Nat × Nat × Nat) × List Oper × Sl) :=
  match opAt T ops n k rest l with
  | some (o, r, l') => match o.dst, o.op with
    | some d, .convert t t' x => match Nat.blt d n, Nat.beq t t', ev l' x with
      | true, true, some (.slice (some a) m c) => some (d, t, (a.block, a.off, m, c), r, cond a.spot.isNone l' [])
      | _, _, _ => none
    | _, _ => none
  | none => none
theorem Sat.remark {w w' : World} (s : Sat w0 w K hs) {i b : Nat} {c : Array Value} {ty : Nat} {fr fr' : Nat × Nat} (hi : hs[i]? = some (pt b c ty fr)) (h1 : w'.heap[b]? = some (.cells c ty fr')) (h2 : ∀ k, k ≠ b → w'.heap[k]? = w.heap[k]?)
    (hos : w'.os = w.os) (htp : w'.tape = w.tape) (hout : w'.output = w.output) (hsz : w'.heap.size = w.heap.size) : Sat w0 w' K (hs.set i (pt b c ty fr')) := by
  refine s.upd hi hos htp hout (by omega) ?_ ?_ ?_
  · intro x o hx
    simp only [pt, sg] at hx
    split at hx
    · rename_i e; subst e; cases hx; exact h1
    · cases hx
  · intro x hx hn
    simp only [pt, sg] at hn
    split at hn
    · cases hn
    · rename_i e; exact h2 x e
  · intro x o hx hn
    simp only [pt, sg] at hx hn
    split at hx
    · rename_i e; rw [if_pos e] at hn; cases hn
    · cases hx
theorem mk (hT : TabOK P T) (k i : Nat) {d t b off m cc ty : Nat} {c : Array Value} (h0 : mkAt T ops n k rest l = some (d, t, (b, off, m, cc), rest', l')) (hl : l' ≠ []) (hi : hs[i]? = some (pt b c ty)) (hu : ∃ e, P.underlying t = some (.slice e) ∧ P.underlying e = some (.int .u8))
    (hk : WL P w0 ops Q rest' n ((d, .slice (some ⟨b, off, none⟩) m cc) :: l') K (hs.set i (pt b c ty (c.size, c.size + 1)))) : WL P w0 ops Q rest n l K hs := by
  unfold mkAt at h0
  split at h0
  · rename_i o r l2 ho
    split at h0
    · rename_i d' t1 t2 x hd hop
      split at h0
      · rename_i a m' c' hb htt hx
        simp only [Option.some.injEq, Prod.mk.injEq] at h0
        obtain ⟨rfl, rfl, ⟨rfl, rfl, rfl, rfl⟩, rfl, hl2⟩ := h0
        obtain ⟨ab, ao, asp⟩ := a
        cases asp with
        | some q => simp at hl2; first | exact absurd hl2 hl | exact absurd hl2.symm hl
        | none =>
          simp only [Option.isNone_none, cond_true] at hl2
          subst hl2
          obtain rfl : t1 = t2 := Nat.eq_of_beq_eq_true htt
          obtain ⟨e, hu1, hu2⟩ := hu
          refine WL.at' hT ho fun hg => WL.val (R := fun u K' hs' => u = .slice (some ⟨ab, ao, none⟩) m' c' ∧ K' = K ∧ hs' = hs.set i (pt ab c ty (c.size, c.size + 1))) hd hb hg (fun A w ha hw => ?_) ?_
          · have hbk : w.heap[ab]? = some (.cells c ty (0, 0)) := hw.own i _ hi ab _ (by simp)
            refine ⟨_, w.freeze ⟨ab, c.size, none⟩ 1, K, _, ?_, hw.remark hi (fr' := (c.size, c.size + 1)) ?_ ?_ rfl rfl rfl ?_, rfl, rfl, rfl⟩
            · simp only [execOp, hop, ha.ev hx]
              simp [convert, run_underlying hu1, run_underlying hu2, markStringish, shape, World.shape?, hbk, freeze, Sem.run]
            · simp [World.freeze, Array.getElem?_modify, hbk]
            · intro kk hkk
              simp [World.freeze, Array.getElem?_modify, Ne.symm hkk]
            · simp [World.freeze]
          · rintro u K' hs' ⟨rfl, rfl, rfl⟩
            exact hk
      · simp at h0
    · simp at h0
  · simp at h0
/-- shifts by a number that is reckoned -/
def shAt (T : Tab) (ops : Array Oper) (n k : Nat) (rest : List Oper) (l : Sl) : Option (Nat × BinOp × IntKind × Int × Int × List Oper × Sl) :=
  match opAt T ops n k rest l with
  | some (o, r, l') => match o.dst, o.op with
    | some d, .binOp op _ x y _ => match Nat.blt d n, ev l' x, ev l' y with
      | true, some (.int kd a), some (.int _ b) => some (d, op, kd, a, b, r, l')
      | _, _, _ => none
    | _, _ => none
  | none => none
theorem shf (hT : TabOK P T) (k : Nat) {d : Nat} {op : BinOp} {kd : IntKind} {a b : Int} {v' : Value} (h0 : shAt T ops n k rest l = some (d, op, kd, a, b, rest', l')) (hb : 0 ≤ b)
    (he : op = .shl ∧ Value.int kd (kd.wrap (a * 2 ^ (min b.toNat kd.bits))) = v' ∨ op = .shr ∧ Value.int kd (a.fdiv (2 ^ (min b.toNat kd.bits))) = v')
    (hk : WL P w0 ops Q rest' n ((d, v') :: l') K hs) : WL P w0 ops Q rest n l K hs := by
  unfold shAt at h0
  split at h0
  · rename_i o r l2 ho
    split at h0
    · rename_i d' op' t x y t2 hd hop
      split at h0
      · rename_i kd' a' kb b' hblt hx hy
        simp only [Option.some.injEq, Prod.mk.injEq] at h0
        obtain ⟨rfl, rfl, rfl, rfl, rfl, rfl, rfl⟩ := h0
        have hpb : pureOp T l2 o.op = some v' := by
          rw [hop]
          simp only [pureOp, hx, hy]
          rcases he with ⟨rfl, he⟩ | ⟨rfl, he⟩
          · simp [pureBin, hb, he]
          · simp [pureBin, hb, he]
        exact WL.at' hT ho fun hg => WL.pure1 hT hd hblt hg hpb hk
      · simp at h0
    · simp at h0
  · simp at h0
end rules
end Go.En
