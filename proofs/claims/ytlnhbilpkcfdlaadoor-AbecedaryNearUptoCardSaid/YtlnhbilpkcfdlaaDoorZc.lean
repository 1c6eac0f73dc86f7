/-
  From what a law's walk gives to the statement: the arguments are opened, what they read as stays.
-/
import Derived.Test.YtlnhbilpkcfdlaaDoorRows
import Derived.Test.YtlnhbilpkcfdlaaDoorEd
import Derived.Test.YtlnhbilpkcfdlaaDoorCs
import Derived.WalkKit
import Derived.ProofKit
import Derived.OpenShut
import Derived.JoinedCond
import Derived.Carry
set_option linter.unusedSimpArgs false
set_option linter.unusedVariables false
namespace Go.Proofs.YtlnhbilpkcfdlaaDoor
open Go.En Go.ChangeShapes Go.WideShapes Go.ChangeAt Go.RowKit
open Go.ChangeMaps (open_string shut_string)
set_option linter.unusedVariables false

/-- the world's own heap, which the walk leaves alone -/
def hp (W : World) : PH := fun b => W.heap[b]?
theorem sat0 (W : World) : Sat W W (hp W) [] := by
  refine ⟨rfl, rfl, rfl, Nat.le_refl _, fun b o h => h, ?_, ?_, ?_⟩
  · intro i h hi; simp at hi
  · intro i h hi; simp at hi
  · intro i j h h' hi; simp at hi
theorem below_of {W w : World} {hs : List PH} (s : Sat W w (hp W) hs) : Below W.heap.size W w := by
  refine ⟨s.os, s.tape, s.output, s.size, fun k hk => ?_⟩
  have h : W.heap[k]? = some W.heap[k] := Array.getElem?_eq_getElem hk
  rw [s.imm k _ h, h]
theorem calls_of {P : Program} {W : World} {f : FuncId} {args : List Value} (c : Ct P W f args (hp W) [] (fun v K' _ => K' = hp W ∧ v = .bool true)) :
    Calls P f args.toArray W fun e W' => e = .returned (.bool true) ∧ Below W.heap.size W W' := by
  refine (c.2 W (sat0 W)).mono ?_
  rintro e w' ⟨v, K', hs', rfl, ⟨rfl, rfl⟩, s⟩
  exact ⟨rfl, below_of s⟩
theorem stays_all {H : Type} {enc : TypeId × Value → H} {P : Program} (hl : laidOutB P = true) {W W' : World} {sp : Nat → Bool} :
    ∀ (ts : List TypeId) (vs : List Value) (ds : List (DataW H)) (ps : List MemPlace), (∀ t ∈ ts, P.readableRec t = true ∧ t < P.types.size) → DataW.TrodAll enc P W 0 (fun _ => true) true ts vs ds ps →
      (∀ p ∈ ps, W.sameAt W' p) → (∀ p ∈ ps, sp p.block = true) → DataW.TrodAll enc P W' 0 sp true ts vs ds ps
  | [], [], [], ps, _, h, _, _ => h
  | [], [], _ :: _, ps, _, h, _, _ => h.elim
  | [], _ :: _, _, ps, _, h, _, _ => h.elim
  | _ :: _, [], _, ps, _, h, _, _ => h.elim
  | _ :: _, _ :: _, [], ps, _, h, _, _ => h.elim
  | t :: ts, v :: vs, d :: ds, ps, ht, h, hs, hp => by
    obtain ⟨p, q, h1, h2, rfl⟩ := h
    obtain ⟨hr, hz⟩ := ht t (by simp)
    refine ⟨p, q, WideElems.Trod_stays hl hr hz h1 (fun x hx => hs x (by simp [hx])) (fun x hx => hp x (by simp [hx])), stays_all hl ts vs ds q (fun u hu => ht u (by simp [hu])) h2 (fun x hx => hs x (by simp [hx])) (fun x hx => hp x (by simp [hx])), rfl⟩
/-- a law has said true, and all reads as it did -/
theorem post_true {H : Type} {enc : TypeId × Value → H} {P : Program} {f : Func} {s : ChangeSpec} {W W' : World} {args : Array Value} {ds gs : List (DataW H)} {before : List MemPlace} {tb : TypeId}
    (hW : DataW.Whole enc P f.params.toList s.vars false W args.toList ds gs before) (hb : Below W.heap.size W W') (hl : laidOutB P = true)
    (hts : ∀ t ∈ f.params.toList, P.readableRec t = true ∧ t < P.types.size) (hrt : f.resultTypes = #[tb]) (hub : P.underlying tb = some .bool) (hv : s.vars = [])
    (hres : (s.fn H (ds ++ gs)).results = [.lit (.bool true)]) (hargs : (s.fn H (ds ++ gs)).args = ds) (hvars : (s.fn H (ds ++ gs)).vars = []) :
    s.post enc P f false true false false W args (.bool true) W' := by
  have hlt := hW.lt
  have hW' := hW
  obtain ⟨p, q, hA, hV, rfl, hfz, hnd⟩ := hW
  rw [hv] at hV
  have hq : q = [] := by
    cases gs with
    | nil => exact hV
    | cons _ _ => exact hV.elim
  subst hq
  refine ⟨ds, gs, _, [], p, [], hW', ?_, ?_, ?_, hb.frame _, fun h => by cases h⟩
  · rw [hrt, hres]
    exact trodAll_cons_mk (shut_bool hub _) trodAll_mk0
  · rw [hargs]
    exact stays_all hl _ _ _ _ hts hA (fun x hx => hb.same (hlt x (by simp [hx]))) (fun x hx => by simpa using hlt x (by simp [hx]))
  · rw [hv, hvars]; rfl
/-- a slice of bytes, opened -/
theorem open_bytes {H : Type} {enc : TypeId × Value → H} {P : Program} {W : World} {base : Nat} {t e : TypeId} {v : Value} {d : DataW H} {ps : List MemPlace} (ht : P.underlying t = some (.slice e)) (he : P.underlying e = some (.int .u8)) (hc : P.cellsOf e = 1)
    (hval : Value.okWide P W .any base t v) (h : DataW.Trod enc P W 0 (fun _ => true) true t v d ps) :
    ∃ ao cap, ∃ b : List UInt8, v = .slice ao b.length cap ∧ IsS (hp W) ao b.length cap 1 (bv b) ∧ b.length ≤ Rows.uptoBulk d := by
  obtain ⟨a0, len, cap, rfl⟩ := okWide_slice ht hval
  obtain ⟨fuel, hf⟩ := h
  rcases open_ints ht he hc hf with ⟨hcs, hx⟩ | ⟨a, len', cap', zs, hcs, _, hl, hm, hz, hx, hcell, hwz⟩
  · simp [Value.cells] at hcs
    obtain ⟨rfl, rfl, rfl⟩ := hcs
    exact ⟨none, 0, [], rfl, IsS.nil _ _ _ _, Nat.zero_le _⟩
  · simp [Value.cells] at hcs
    obtain ⟨rfl, rfl, rfl⟩ := hcs
    simp only [Prod.mk.injEq] at hx
    obtain ⟨rfl, rfl⟩ := hx
    simp only [if_true] at hz
    refine ⟨some a, cap, (zs.take len).map (fun z => UInt8.ofNat z.toNat), ?_, ?_, ?_⟩
    · simp; omega
    · refine ⟨by simp [bv], by simp; omega, fun j u hu => ⟨a, rfl, ?_⟩⟩
      have hj : j < len := by
        have := (List.getElem?_eq_some_iff.1 hu).1
        simp [bv] at this
        omega
      have h1 := hcell j (by omega)
      have hzj : j < zs.length := by omega
      have hw := hwz _ (List.getElem_mem hzj)
      have hu' : u = .int .u8 (zs[j]) := by
        simp [bv, hj, List.getElem?_eq_getElem hzj] at hu
        rw [← hu]
        have hb : 0 ≤ zs[j] ∧ zs[j] ≤ 255 := by simpa [Lit.wf, IntKind.min, IntKind.max, IntKind.signed, IntKind.bits] using hw
        congr 1
        omega
      rw [show zs.getD j 0 = zs[j] from by simp [List.getD, List.getElem?_eq_getElem hzj]] at h1
      subst hu'
      unfold World.cell? at h1
      split at h1
      · rename_i c ty fr hb
        split at h1
        · cases h1
        · rename_i hs
          exact ⟨by cases hh : (a.add j).spot <;> simp [hh] at hs ⊢, c, ty, fr, hb, h1⟩
      · cases h1
    · have : (lits (H := H) .u8 (zs.take len)).length = (zs.take len).length := by simp [lits]
      have h2 : ∀ l : List (DataW H), l.length ≤ Rows.uptoBulkAll l := by
        intro l
        induction l with
        | nil => simp [Rows.uptoBulkAll]
        | cons x r ih =>
          have : 1 ≤ Rows.uptoBulk x := by cases x with
            | lit l => cases l <;> simp [Rows.uptoBulk]
            | _ => simp [Rows.uptoBulk]
          simp only [Rows.uptoBulkAll, List.length_cons]; omega
      have h3 := h2 (lits .u8 (zs.take len))
      simp only [Rows.uptoBulk, List.length_map]
      omega
theorem bound {H : Type} {l : List (DataW H)} (hk : Rows.uptoSmall H l = true) : Rows.uptoBulkAll l ≤ 1048576 := by
  simpa [Rows.uptoSmall] using hk
theorem own : ownKnob Tryd.prog.godebug = none := by kernel_rfl
theorem laid : laidOutB Tryd.prog = true := by kernel_rfl
end Go.Proofs.YtlnhbilpkcfdlaaDoor
