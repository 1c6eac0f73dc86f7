/-
  Slices: copies, room made for more, whether two of them lie over each other.
-/
import Derived.Test.YtlnhbilpkcfdlaaDoorEm
import Derived.Laws.Externs
import Derived.Lib.Overlaps
set_option linter.unusedSimpArgs false
set_option linter.unusedVariables false
namespace Go.En
set_option linter.unusedVariables false
set_option linter.unusedSectionVars false
attribute [local irreducible] Code.wp wpList Calls
theorem IsS.pre {h : PH} {ao : Option Addr} {n cap size : Nat} {xs : List Value} (x : IsS h ao n cap size xs) (m : Nat) (hm : m ≤ n) : IsS h ao m cap size (xs.take (m * size)) := by
  obtain ⟨h1, h2, h3⟩ := x
  have : m * size ≤ n * size := Nat.mul_le_mul_right _ hm
  refine ⟨by simp; omega, by omega, fun j u hu => ?_⟩
  have hj : j < m * size := by
    have := (List.getElem?_eq_some_iff.1 hu).1
    simp at this
    omega
  rw [List.getElem?_take_of_lt hj] at hu
  exact h3 j u hu
section rules
variable {P : Program} {T : Tab} {w0 : World} {ops : Array Oper} {Q : Exit → Act → World → Prop} {rest rest' : List Oper} {n : Nat} {l l' : Sl} {K : PH} {hs : List PH}
/-- what a builtin is called with: two values -/
def b2At (T : Tab) (ops : Array Oper) (n k : Nat) (rest : List Oper) (l : Sl) : Option (Nat × Oper × Builtin × Nat × Nat × Value × Value × List Oper × Sl) :=
  match ovAt T ops n k rest l with
  | some (d, o, r, l') => match o.op with
    | .call { callee := .builtin b, args, argTypes } => match args.toList, argTypes.toList with
      | [x, y], [t, u] => match ev l' x, ev l' y with
        | some vx, some vy => some (d, o, b, t, u, vx, vy, r, l')
        | _, _ => none
      | _, _ => none
    | _ => none
  | none => none
theorem b2At_spec {k d t u : Nat} {o : Oper} {b : Builtin} {vx vy : Value} (h : b2At T ops n k rest l = some (d, o, b, t, u, vx, vy, rest', l')) :
    ovAt T ops n k rest l = some (d, o, rest', l') ∧ ∀ a w, Ag n l' a → ∃ cs, (execOp a.eval o).run P w = (builtin b #[t, u] o.type cs #[vx, vy]).run P w := by
  unfold b2At at h
  split at h
  · rename_i d' o' r l2 ho
    split at h
    · rename_i b' args argTypes hop
      split at h
      · rename_i x y t' u' e1 e2
        split at h
        · rename_i vx' vy' hx hy
          simp only [Option.some.injEq, Prod.mk.injEq] at h
          obtain ⟨rfl, rfl, rfl, rfl, rfl, rfl, rfl, rfl, rfl⟩ := h
          have a1' : args = #[x, y] := by cases args; simp_all
          have a2' : argTypes = #[t', u'] := by cases argTypes; simp_all
          subst a1' a2'
          refine ⟨ho, fun a w ha => ⟨#[x, y].map fun | .const _ => true | _ => false, ?_⟩⟩
          simp only [execOp, hop]
          simp [resolve, invoke, ha.ev hx, ha.ev hy]
          cases x <;> cases y <;> rfl
        · simp at h
      · simp at h
    · simp at h
  · simp at h
/-- a copy into a part of a block -/
theorem cpy (hT : TabOK P T) (k i : Nat) {d t u b off ty nd cd ns csrc : Nat} {o : Oper} {si : SlI} {aos : Option Addr} {h2 : PH} {c : Array Value} {xs : List Value} (m : Nat)
    (h0 : b2At T ops n k rest l = some (d, o, .copy, t, u, .slice (some ⟨b, off, none⟩) nd cd, .slice aos ns csrc, rest', l')) (hsi : asc T.sls t = some si) (hi : hs[i]? = some (pt b c ty)) (hin : In K hs h2) (x : IsS h2 aos ns csrc si.size xs)
    (hm : m = min ns nd) (h1 : ∀ u ∈ xs.take (m * si.size), u.oneCell' = true) (hf : off + m * si.size ≤ c.size)
    (hk : WL P w0 ops Q rest' n ((d, .int .i64 (m : Int)) :: l') K (hs.set i (pt b (c.toList.take off ++ xs.take (m * si.size) ++ c.toList.drop (off + m * si.size)).toArray ty))) : WL P w0 ops Q rest n l K hs := by
  obtain ⟨ho, hex⟩ := b2At_spec h0
  refine opa hT k (R := fun v K' hs' => v = .int .i64 (m : Int) ∧ K' = K ∧ hs' = hs.set i (pt b (c.toList.take off ++ xs.take (m * si.size) ++ c.toList.drop (off + m * si.size)).toArray ty)) ho (fun a w ha hw => ?_) ?_
  · obtain ⟨cs, he⟩ := hex a w ha
    obtain ⟨g1, ii, g2, g3, g4, g5⟩ := hT.sl hsi
    have hb : w.heap[b]? = some (.cells c ty (0, 0)) := hw.own i _ hi b _ (by simp)
    have x2 := x.pre m (by omega)
    have hfc : (Builtin.firstCells si.size m (.slice aos ns csrc)).run P w = .ok (xs.take (m * si.size)).toArray w := by
      have := run_firstCells_isS (P := P) hw hin x2
      cases aos <;> exact this
    have hlen : (xs.take (m * si.size)).length = m * si.size := x2.1
    have hst := run_storeCells_at P b off ty (xs.take (m * si.size)) 0 c w hb (by rw [hlen]; simpa using hf) (by intro u hu; exact h1 u hu)
    simp only [Nat.add_zero, hlen] at hst
    refine ⟨_, _, K, _, ?_, hw.setRow hi _, rfl, rfl, rfl⟩
    rw [he]
    simp only [builtin]
    simp [Builtin.copy_, run_underlying g1, Builtin.lenOf, ← hm, sizeOf, typeInfo, g2, g4, hfc, hst, goInt]
  · rintro v K' hs' ⟨rfl, rfl, rfl⟩
    exact hk
/-- room made for more behind an owned slice: it grows -/
theorem apz (hT : TabOK P T) (k i : Nat) {d t u c1 n1 : Nat} {o : Oper} {si : SlI} {ao : Option Addr} {kk : IntKind} {jj : Int} {h : PH} {xs : List Value} (m : Nat) (z : Value)
    (h0 : b2At T ops n k rest l = some (d, o, .append, t, u, .slice ao n1 c1, .int .i64 jj, rest', l')) (hj : jj = (m : Int)) (hsi : asc T.sls t = some si) (hu : P.underlying u = some (.int kk)) (hi : hs[i]? = some h) (ow : Own h ao n1 c1 si.elem 1 xs) (hz : (si.size, si.zero.cells) = (1, #[z]))
    (hg : c1 < n1 + m) (hb : (n1 + m) * si.bytes ≤ 140737488355328) (h63 : n1 + m ≤ maxLen) (hb2 : 0 < si.bytes)
    (hk : ∀ b cap' cur, n1 + m ≤ cap' → cap' ≤ maxLen → cur.size = cap' → cur.toList.take (n1 + m) = xs ++ List.replicate m z → WL P w0 ops Q rest' n ((d, .slice (some ⟨b, 0, none⟩) (n1 + m) cap') :: l') K (pt b cur si.elem :: hs)) : WL P w0 ops Q rest n l K hs := by
  simp only [Prod.mk.injEq] at hz
  obtain ⟨z1, z2⟩ := hz
  obtain ⟨ho, hex⟩ := b2At_spec h0
  subst hj
  have hm63 : (m : Int) ≤ 9223372036854775807 := by simp only [maxLen] at h63; omega
  refine opa hT k (R := fun v K' hs' => ∃ b cap' cur, v = .slice (some ⟨b, 0, none⟩) (n1 + m) cap' ∧ n1 + m ≤ cap' ∧ cap' ≤ maxLen ∧ cur.size = cap' ∧ cur.toList.take (n1 + m) = xs ++ List.replicate m z ∧ K' = K ∧ hs' = pt b cur si.elem :: hs) ho (fun a w ha hw => ?_) ?_
  · obtain ⟨cs, he⟩ := hex a w ha
    obtain ⟨g1, ii, g2, g3, g4, g5⟩ := hT.sl hsi
    have hos := ow.isS
    have hfo : (Builtin.firstCells 1 n1 (.slice ao n1 c1)).run P w.drew = .ok xs.toArray w.drew := run_firstCells_isS (P := P) (hw.drew) (.inr ⟨i, hi⟩) hos
    have hn : ¬ (n1 + m ≤ c1) := by omega
    have h48 : ¬ (281474976710656 < Builtin.nextslicecap (n1 + m) c1 * ii.bytes) := by have := growslice_fits (need := n1 + m) (old := c1) (bytes := ii.bytes) hg (by rw [g5]; exact hb); omega
    have hw64 : IntKind.i64.wrap ((m : Nat) : Int) = (m : Int) := by simp [IntKind.wrap, IntKind.bits, IntKind.signed]; omega
    have hneg : ¬ ((m : Nat) : Int) < 0 := by omega
    have h63' : ¬ (9223372036854775807 < ((n1 : Int) + (m : Int))) := by simp only [maxLen] at h63; omega
    have hmb : (n1 + m) * ii.bytes ≤ 140737488355328 := by rw [g5]; exact hb
    have h47 : ¬ (281474976710656 : Int) < ((m : Nat) : Int) * (ii.bytes : Int) := by
      have h8 : m * ii.bytes ≤ (n1 + m) * ii.bytes := Nat.mul_le_mul_right _ (by omega)
      have h9 : ((m * ii.bytes : Nat) : Int) = ((m : Nat) : Int) * (ii.bytes : Int) := by push_cast; rfl
      omega
    have hm0 : m ≠ 0 := by have := ow.2.1; omega
    have hzc : ∀ q, (Builtin.zeroCells #[z] q).toList = List.replicate q z := by
      intro q'
      unfold Builtin.zeroCells
      apply List.ext_getElem?
      intro q
      by_cases hq : q < q'
      · simp [hq, Nat.mod_one]
      · simp [hq]
    have hge := grownCap_ge w (n1 + m) c1 si.elem
    have hcm : grownCap w (n1 + m) c1 si.elem ≤ maxLen := grownCap_le_maxLen w (n1 + m) c1 si.elem h63
    refine ⟨.slice (some ⟨w.heap.size, 0, none⟩) (n1 + m) (grownCap w (n1 + m) c1 si.elem), w.drew.alloc (.cells (xs.toArray ++ (List.replicate m z).toArray ++ (List.replicate (grownCap w (n1 + m) c1 si.elem - (n1 + m)) z).toArray) si.elem), K, _, ?_, hw.drew.alloc _,
      w.heap.size, grownCap w (n1 + m) c1 si.elem, xs.toArray ++ (List.replicate m z).toArray ++ (List.replicate (grownCap w (n1 + m) c1 si.elem - (n1 + m)) z).toArray, rfl, hge, hcm, ?_, ?_, rfl, rfl⟩
    · rw [he]
      simp only [builtin]
      have e0 : Builtin.zeroCells #[z] m = (List.replicate m z).toArray := by apply Array.ext'; rw [hzc]
      have e1 : Builtin.zeroCells #[z] (grownCap w (n1 + m) c1 si.elem - (n1 + m)) = (List.replicate (grownCap w (n1 + m) c1 si.elem - (n1 + m)) z).toArray := by apply Array.ext'; rw [hzc]
      simp only [grownCap] at e1
      simp [Builtin.append_, run_underlying g1, run_underlying hu, sizeOf, typeInfo, zeroValue, g2, g3, g4, z1, z2, asInt, asIntOf, hw64, hneg, h47, hn, h63', h48, Question.forced, hfo, newRow, grownCap, hm0, e0, e1]
    · have := ow.1
      simp only [Array.size_append, List.size_toArray, List.length_replicate, Nat.mul_one] at this ⊢
      omega
    · have := ow.1
      simp only [Nat.mul_one] at this
      simp only [Array.toList_append]
      rw [List.take_append_of_le_length (by simp [this])]
      exact List.take_of_length_le (by simp [this])
  · rintro v K' hs' ⟨b, cap', cur, rfl, g1, g2, g3, g4, rfl, rfl⟩
    exact hk b cap' cur g1 g2 g3 g4
/-- behind an owned slice that has room -/
theorem run_append_room {K : PH} {hs : List PH} {w : World} (t ty e : TypeId) (i : TypeInfo) (ht : P.underlying t = some (.slice e)) (hi : P.info? e = some i) (s : Sat w0 w K hs) {j : Nat} {h h2 : PH} (hj : hs[j]? = some h) {ao ao2 : Option Addr} {n cap m c2 : Nat} {xs news : List Value} (o : Own h ao n cap e i.size xs)
    (hm : In K hs h2) (x : IsS h2 ao2 m c2 i.size news) (h1 : ∀ u ∈ news, u.oneCell' = true) (hroom : n + m ≤ cap) :
    ∃ h' w', (Builtin.append_ #[t, t] ty #[.slice ao n cap, .slice ao2 m c2]).run P w = .ok (.slice ao (n + m) cap) w' ∧ Own h' ao (n + m) cap e i.size (xs ++ news) ∧ Sat w0 w' K (hs.set j h') := by
  have hf := run_firstCells_isS (P := P) s hm x
  have hlen : (xs ++ news).length = (n + m) * i.size := by rw [List.length_append, o.1, x.1, Nat.add_mul]
  obtain ⟨o1, o2, o3, o4⟩ := o
  rcases o4 with ⟨rfl, rfl, rfl⟩ | ⟨g, off, cur, rfl, rfl, hcs, htk⟩
  · obtain rfl : n = 0 := by omega
    obtain rfl : m = 0 := by omega
    obtain rfl : xs = [] := List.eq_nil_of_length_eq_zero (by simpa using o1)
    obtain rfl : news = [] := List.eq_nil_of_length_eq_zero (by simpa using x.1)
    refine ⟨em, w, ?_, Own.nil e i.size, ?_⟩
    · simp [Builtin.append_, run_underlying ht, sizeOf, typeInfo, hi, Builtin.lenOf, hf]
    · have : hs.set j em = hs := by
        have hjl : j < hs.length := (List.getElem?_eq_some_iff.1 hj).1
        have e2 : hs[j] = em := by rw [List.getElem?_eq_getElem hjl] at hj; exact Option.some.inj hj
        rw [← e2]; exact List.set_getElem_self hjl
      rw [this]; exact s
  · have hg : w.heap[g]? = some (.cells cur e (0, 0)) := s.own j _ hj g _ (by simp)
    have hfit : off + n * i.size + news.length ≤ cur.size := by
      rw [x.1, hcs, Nat.add_assoc, ← Nat.add_mul]
      exact Nat.add_le_add_left (Nat.mul_le_mul_right _ hroom) _
    have hst := run_storeCells_at P g (off + n * i.size) e news 0 cur w hg (by simpa using hfit) h1
    simp only [Nat.add_zero] at hst
    refine ⟨_, _, ?_, ⟨hlen, hroom, o3, .inr ⟨g, off, (cur.toList.take (off + n * i.size) ++ news ++ cur.toList.drop (off + n * i.size + news.length)).toArray, rfl, rfl, ?_, ?_⟩⟩, s.setRow hj _⟩
    · simp [Builtin.append_, run_underlying ht, sizeOf, typeInfo, hi, Builtin.lenOf, hroom, hf, add_mk, hst]
    · have : cur.toList.length = cur.size := Array.length_toList
      simp only [List.size_toArray, List.length_append, List.length_take, List.length_drop, this]
      omega
    · have h5 := take_drop_splice cur.toList xs news off (n * i.size) htk (by simpa using hfit)
      rw [x.1] at h5
      simpa [Nat.add_mul, x.1] using h5
theorem appi (hT : TabOK P T) (k i : Nat) {d : Nat} {si : SlI} {ao ao2 : Option Addr} {n1 c1 n2 c2 : Nat} {h h2 : PH} {xs news : List Value} (h0 : apAt T ops n k rest l = some (d, si, (ao, n1, c1), (ao2, n2, c2), rest', l'))
    (hi : hs[i]? = some h) (o : Own h ao n1 c1 si.elem si.size xs) (hm : In K hs h2) (x : IsS h2 ao2 n2 c2 si.size news) (h1 : ∀ u ∈ news, u.oneCell' = true) (hr : n1 + n2 ≤ c1)
    (hk : ∀ h', Own h' ao (n1 + n2) c1 si.elem si.size (xs ++ news) → WL P w0 ops Q rest' n ((d, .slice ao (n1 + n2) c1) :: l') K (hs.set i h')) : WL P w0 ops Q rest n l K hs := by
  unfold apAt at h0
  split at h0
  · rename_i oo r l2 ho
    split at h0
    · rename_i d' args argTypes hd hop
      split at h0
      · rename_i x' y' t t' e1 e2
        split at h0
        · rename_i si' a1 m1 k1 a2 m2 k2 hb' htt hsi hx hy
          simp only [Option.some.injEq, Prod.mk.injEq] at h0
          obtain ⟨rfl, rfl, ⟨rfl, rfl, rfl⟩, ⟨rfl, rfl, rfl⟩, rfl, rfl⟩ := h0
          have htt' : t = t' := Nat.eq_of_beq_eq_true htt
          subst htt'
          have a1' : args = #[x', y'] := by cases args; simp_all
          have a2' : argTypes = #[t, t] := by cases argTypes; simp_all
          subst a1'
          subst a2'
          obtain ⟨g1, ii, g2, g3, g4, g5⟩ := hT.sl hsi
          refine WL.at' hT ho fun hg => WL.val (R := fun u K' hs' => ∃ h', u = .slice a1 (m1 + m2) k1 ∧ Own h' a1 (m1 + m2) k1 si'.elem si'.size (xs ++ news) ∧ K' = K ∧ hs' = hs.set i h') hd hb' hg
            (fun A w ha hw => ?_) ?_
          · rw [← g4] at o x
            obtain ⟨h', w', hr, ho', hs'⟩ := run_append_room (P := P) t oo.type si'.elem ii g1 g2 hw hi o hm x h1 hr
            refine ⟨_, w', K, _, ?_, hs', h', rfl, by rw [← g4]; exact ho', rfl, rfl⟩
            simp only [execOp, hop]
            simp [resolve, invoke, builtin, ha.ev hx, ha.ev hy, hr]
          · rintro u K' hs' ⟨h', rfl, ho', rfl, rfl⟩
            exact hk h' ho'
        · simp at h0
      · simp at h0
    · simp at h0
  · simp at h0
/-- a part of a slice: the value itself -/
theorem slx (hT : TabOK P T) (k : Nat) {d : Nat} {si : SlI} {ao : Option Addr} {n1 c1 : Nat} {lo hi : Option Int} (L N : Nat)
    (h0 : slAt T ops n k rest l = some (d, si, (ao, n1, c1), lo, hi, rest', l')) (hL : lo.getD 0 = (L : Int)) (hH : hi.getD n1 = ((L + N : Nat) : Int)) (hN : L + N ≤ c1)
    (hk : WL P w0 ops Q rest' n ((d, .slice (cutA ao c1 L si.size) N (c1 - L)) :: l') K hs) : WL P w0 ops Q rest n l K hs := by
  obtain ⟨o, ho, hd, hb, hrun⟩ := slAt_run (P := P) hT L (L + N) h0 hL hH (by omega) hN
  refine WL.at' hT ho fun hg => WL.val (R := fun u K' hs' => u = .slice (cutA ao c1 L si.size) N (c1 - L) ∧ K' = K ∧ hs' = hs) hd hb hg (fun A w ha hw => ⟨_, w, K, hs, hrun A w ha, hw, ?_, rfl, rfl⟩) ?_
  · rw [Nat.add_sub_cancel_left]
  · rintro u K' hs' ⟨rfl, rfl, rfl⟩
    exact hk
theorem cutA_lt {g off c L size : Nat} (h : L < c) : cutA (some ⟨g, off, none⟩) c L size = some ⟨g, off + L * size, none⟩ := by
  rw [cutA, if_neg (by omega)]
  simp [add_mk]
theorem cutA_0 {ao : Option Addr} {c size : Nat} : cutA ao c 0 size = ao := by
  unfold cutA
  split
  · rfl
  · cases ao with
    | none => rfl
    | some a => simp [Addr.add]
end rules
section ext
variable {P : Program} {T : Tab} {w0 : World} {ops : Array Oper} {Q : Exit → Act → World → Prop} {rest rest' : List Oper} {n : Nat} {l l' : Sl} {K : PH} {hs : List PH}
/-- a call of a function that the model itself answers -/
theorem clx (hT : TabOK P T) (k : Nat) {d g : Nat} {vs : List Value} {fn : Func} {e : Array Value → Sem Value} {v : Value} (h0 : clAt T ops n k rest l = some (d, g, vs, rest', l')) (hf : P.funcs[g]? = some fn) (hname : (fn.name == "runtime.NumGoroutine") = false)
    (hb : fn.body.isNone = true) (hn : Extern.findNext fn = none) (he : Extern.find fn = some e) (hv : ∀ w, Sat w0 w K hs → (e vs.toArray).run P w = .ok v w)
    (hk : WL P w0 ops Q rest' n ((d, v) :: l') K hs) : WL P w0 ops Q rest n l K hs := by
  unfold clAt at h0
  split at h0
  · rename_i o r l2 ho
    split at h0
    · rename_i d' f args ats hd hop
      split at h0
      · rename_i g' first captured vs' hb' hf' hvs
        simp only [Option.some.injEq, Prod.mk.injEq] at h0
        obtain ⟨rfl, rfl, rfl, rfl, rfl⟩ := h0
        refine WL.at' hT ho fun hg => WL.val (R := fun u K' hs' => u = v ∧ K' = K ∧ hs' = hs) hd hb' hg (fun A w ha hw => ⟨v, w, K, hs, ?_, hw, rfl, rfl, rfl⟩) (fun u K' hs' ⟨h1, h2, h3⟩ => by subst h1; subst h2; subst h3; exact hk)
        have h6 := ev_map ha _ _ hvs
        have h7 : args.map A.eval = vs'.toArray := by
          apply Array.ext'
          simpa using h6
        have h8 := run_callFunc_extern (P := P) hf hname hb hn he (first.toList ++ (vs' ++ captured.toList)).toArray w
        rw [hv w hw] at h8
        have h9 : (first.toList ++ (vs' ++ captured.toList)).toArray = first ++ (vs'.toArray ++ captured) := by
          apply Array.ext'; simp
        rw [h9] at h8
        simp only [execOp, hop]
        simp [resolve, h7, ha.ev hf', Deferred.ofValue, invoke, h8, Result.andThen]
      · simp at h0
    · simp at h0
  · simp at h0
/-- two slices in two blocks do not lie over each other -/
theorem ovl_run {w : World} (s : Sat w0 w K hs) {i j b b' off off' ty ty' tS tR e la ca lb cb : Nat} {c c' : Array Value} (ht : P.underlying tS = some (.slice e)) (he : ∃ ii, P.info? e = some ii) (hi : hs[i]? = some (pt b c ty)) (hj : hs[j]? = some (pt b' c' ty')) (hij : i ≠ j) (hc : c'.size ≠ 0) :
    (Extern.SlicesOverlaps.overlaps #[tS, tS] #[tR] #[.slice (some ⟨b, off, none⟩) la ca, .slice (some ⟨b', off', none⟩) lb cb]).run P w = .ok (.bool false) w := by
  have hb : w.heap[b]? = some (.cells c ty (0, 0)) := s.own i _ hi b _ (by simp)
  have hb' : w.heap[b']? = some (.cells c' ty' (0, 0)) := s.own j _ hj b' _ (by simp)
  have hne : b ≠ b' := fun e => by
    have := s.sep i j _ _ hi hj hij b (.cells c ty (0, 0)) (by simp)
    simp [e] at this
  obtain ⟨ii, hii⟩ := he
  exact Lib.run_overlaps_apart w tS tR e ht ii.size (fun w => by simp [sizeOf, typeInfo, hii]) ⟨b, off, none⟩ ⟨b', off', none⟩ la ca lb cb hne ty ty' c.size c'.size (by simp [World.shape?, hb]) (by simp [World.shape?, hb']) hc (by simp [World.frozen?, hb]) (by simp [World.frozen?, hb])
end ext
section three
variable {P : Program} {T : Tab} {w0 : World} {ops : Array Oper} {Q : Exit → Act → World → Prop} {rest rest' : List Oper} {n : Nat} {l l' : Sl} {K : PH} {hs : List PH}
def s3gAt (T : Tab) (ops : Array Oper) (n k : Nat) (rest : List Oper) (l : Sl) : Option (Nat × Oper × SlI × (Option Addr × Nat × Nat) × Option Int × Int × Int × List Oper × Sl) :=
  match ovAt T ops n k rest l with
  | some (d, o, r, l') => match o.op with
    | .slice t x none (some hi) (some mx) => match asc T.sls t, ev l' x, ev l' hi, ev l' mx with
      | some si, some (.slice a1 n1 c1), some (.int _ j), some (.int _ m) => some (d, o, si, (a1, n1, c1), none, j, m, r, l')
      | _, _, _, _ => none
    | .slice t x (some lo) (some hi) (some mx) => match asc T.sls t, ev l' x, ev l' lo, ev l' hi, ev l' mx with
      | some si, some (.slice a1 n1 c1), some (.int _ i), some (.int _ j), some (.int _ m) => some (d, o, si, (a1, n1, c1), some i, j, m, r, l')
      | _, _, _, _, _ => none
    | _ => none
  | none => none
/-- a part of a slice, its room told -/
theorem sl3g (hT : TabOK P T) (k : Nat) {d : Nat} {o : Oper} {si : SlI} {ao : Option Addr} {n1 c1 : Nat} {lo : Option Int} {hi mx : Int} (L N M : Nat) (h0 : s3gAt T ops n k rest l = some (d, o, si, (ao, n1, c1), lo, hi, mx, rest', l'))
    (hL : lo.getD 0 = (L : Int)) (hH : hi = ((L + N : Nat) : Int)) (hM : mx = (M : Int)) (hN : L + N ≤ M) (hc : M ≤ c1)
    (hk : WL P w0 ops Q rest' n ((d, .slice (cutA ao M L si.size) N (M - L)) :: l') K hs) : WL P w0 ops Q rest n l K hs := by
  unfold s3gAt at h0
  split at h0
  · rename_i d' o' r l2 ho
    have c1' : ((M : Nat) : Int) ≤ ((c1 : Nat) : Int) := by omega
    have t1 : (((L : Nat) : Int) + ((N : Nat) : Int)).toNat = L + N := by omega
    have t2 : (((L : Nat) : Int) + ((N : Nat) : Int)) ≤ ((M : Nat) : Int) := by omega
    have t3 : 0 ≤ ((L : Nat) : Int) + ((N : Nat) : Int) := by omega
    split at h0
    · rename_i t x hi' mx' hop
      split at h0
      · rename_i si' a1 m1 k1 kk jj kk2 mm hsi hx h2' h3'
        simp only [Option.some.injEq, Prod.mk.injEq] at h0
        obtain ⟨rfl, rfl, rfl, ⟨rfl, rfl, rfl⟩, rfl, rfl, rfl, rfl, rfl⟩ := h0
        subst hH hM
        simp only [Option.getD_none] at hL
        obtain rfl : L = 0 := by omega
        obtain ⟨h1, im, h2, h3, h4, h5⟩ := hT.sl hsi
        refine opr hT k ho (fun a w ha hw => ?_) hk
        have q1 : N ≤ M := by omega
        have q2 : ((N : Nat) : Int) ≤ ((M : Nat) : Int) := by omega
        simp only [execOp, hop, ha.ev hx]
        simp [Instr.sliceAt, Instr.slice, Instr.sliceBounds, Instr.sliceBound, asIntOf, run_underlying h1, ha.ev h2', ha.ev h3', sizeOf, typeInfo, h2, h4, cutA, hc, q1, q2]
      · simp at h0
    · rename_i t x lo' hi' mx' hop
      split at h0
      · rename_i si' a1 m1 k1 kk0 ii kk jj kk2 mm hsi hx h1' h2' h3'
        simp only [Option.some.injEq, Prod.mk.injEq] at h0
        obtain ⟨rfl, rfl, rfl, ⟨rfl, rfl, rfl⟩, rfl, rfl, rfl, rfl, rfl⟩ := h0
        subst hH hM
        simp only [Option.getD_some] at hL
        subst hL
        obtain ⟨h1, im, h2, h3, h4, h5⟩ := hT.sl hsi
        refine opr hT k ho (fun a w ha hw => ?_) hk
        simp only [execOp, hop, ha.ev hx]
        simp [Instr.sliceAt, Instr.slice, Instr.sliceBounds, Instr.sliceBound, asIntOf, run_underlying h1, ha.ev h1', ha.ev h2', ha.ev h3', sizeOf, typeInfo, h2, h4, cutA, hc]
        rw [if_pos (by omega), t1]
        simp
      · simp at h0
    · simp at h0
  · simp at h0
end three
theorem Own.pre {h : PH} {ao : Option Addr} {n cap e size : Nat} {xs : List Value} (o : Own h ao n cap e size xs) (m : Nat) (hm : m ≤ n) : Own h ao m cap e size (xs.take (m * size)) := by
  obtain ⟨h1, h2, h3, h4⟩ := o
  have : m * size ≤ n * size := Nat.mul_le_mul_right _ hm
  refine ⟨by simp; omega, by omega, h3, ?_⟩
  rcases h4 with h | ⟨g, off, cur, e1, e2, e3, e4⟩
  · exact .inl h
  · refine .inr ⟨g, off, cur, e1, e2, e3, ?_⟩
    rw [← e4, List.take_take, Nat.min_eq_left this]
section openc
variable {P : Program} {T : Tab} {w0 : World} {ops : Array Oper} {Q : Exit → Act → World → Prop} {plan plan' : List Nat} {z : Nat} {listed listed' : Array Bool} {n : Nat} {l l' : Sl} {K K0 : PH} {hs A : List PH}
/-- a part of a slice: the value itself, where the order is open -/
theorem dslx (hT : TabOK P T) (hsel : Region.noSelect ops = true) (k : Nat) {d d' : Nat} {o : Oper} {si : SlI} {ao : Option Addr} {n1 c1 : Nat} {lo hi : Option Int} (L N : Nat)
    (h0 : dopAt T ops n z k plan listed l = some (d, o, plan', listed', l')) (h1 : slAt T ops n 0 [o] l' = some (d', si, (ao, n1, c1), lo, hi, [], l')) (hL : lo.getD 0 = (L : Int)) (hH : hi.getD n1 = ((L + N : Nat) : Int)) (hN : L + N ≤ c1)
    (hk : WA P w0 ops Q K0 A z plan' listed' n ((d, .slice (cutA ao c1 L si.size) N (c1 - L)) :: l') K hs) : WA P w0 ops Q K0 A z plan listed n l K hs := by
  obtain ⟨o', ho, hd, hb, hrun⟩ := slAt_run (P := P) hT L (L + N) h1 hL hH (by omega) hN
  have ho' : o' = o := by
    have e : pureN T ops n 0 [o] l' = some ([o], l') := rfl
    unfold opAt at ho
    rw [e] at ho
    dsimp only at ho
    split at ho
    · simp only [Option.some.injEq, Prod.mk.injEq] at ho
      exact ho.1.symm
    · simp at ho
  subst ho'
  refine dop hT hsel k h0 (v := .slice (cutA ao c1 L si.size) N (c1 - L)) (fun a w ha => ?_) hk
  have := hrun a w ha
  rw [Nat.add_sub_cancel_left] at this
  exact this
end openc
/-- a part of a block written, behind what a slice shows, or within it -/
theorem Own.behind {g off n cap e : Nat} {cur : Array Value} {xs : List Value} (o : Own (pt g cur e) (some ⟨g, off, none⟩) n cap e 1 xs) (hc : cur.size = off + cap * 1) (ht : (cur.toList.drop off).take (n * 1) = xs) (p : Nat) (ys : List Value) (h1 : off + n ≤ p) (h2 : p + ys.length ≤ cur.size) :
    Own (pt g (cur.toList.take p ++ ys ++ cur.toList.drop (p + ys.length)).toArray e) (some ⟨g, off, none⟩) n cap e 1 xs := by
  refine ⟨o.1, o.2.1, o.2.2.1, .inr ⟨g, off, _, rfl, rfl, ?_, ?_⟩⟩
  · have : cur.toList.length = cur.size := Array.length_toList
    simp only [List.size_toArray, List.length_append, List.length_take, List.length_drop, this]
    omega
  · have hl : cur.toList.length = cur.size := Array.length_toList
    rw [← ht]
    simp only [Nat.mul_one]
    rw [List.append_assoc, List.drop_append_of_le_length (by simp; omega), List.drop_take, List.take_append_of_le_length (by simp; omega), List.take_take, Nat.min_eq_left (by omega)]
theorem Own.pts {h : PH} {ao : Option Addr} {n cap e : Nat} {xs : List Value} (o : Own h ao n cap e 1 xs) (hn : 0 < cap) : ∃ g off cur, ao = some ⟨g, off, none⟩ ∧ h = pt g cur e ∧ cur.size = off + cap ∧ (cur.toList.drop off).take n = xs := by
  obtain ⟨_, _, _, h4⟩ := o
  rcases h4 with ⟨_, rfl, _⟩ | ⟨g, off, cur, rfl, rfl, h1, h2⟩
  · omega
  · exact ⟨g, off, cur, rfl, rfl, by simpa using h1, by simpa using h2⟩
theorem Own.mkp {g off n cap e : Nat} {cur : Array Value} {xs : List Value} (h1 : cur.size = off + cap) (h2 : n ≤ cap) (h3 : cap ≤ maxLen) (h4 : (cur.toList.drop off).take n = xs) : Own (pt g cur e) (some ⟨g, off, none⟩) n cap e 1 xs := by
  have hl : cur.toList.length = cur.size := Array.length_toList
  exact ⟨by rw [← h4]; simp; omega, h2, h3, .inr ⟨g, off, cur, rfl, rfl, by simpa using h1, by simpa using h4⟩⟩
end Go.En
