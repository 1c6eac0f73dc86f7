/-
  Bytes appended to bytes of one's own.
-/
import Derived.Test.YtlnhbilpkcfdlaaDoorEd
import Derived.Test.YtlnhbilpkcfdlaaDoorCs
set_option linter.unusedSimpArgs false
set_option linter.unusedVariables false
namespace Go.En
set_option linter.unusedVariables false
section rules
variable {P : Program} {T : Tab} {w0 : World} {ops : Array Oper} {Q : Exit → Act → World → Prop} {rest rest' : List Oper} {n : Nat} {l l' : Sl} {K : PH} {hs : List PH}
theorem appB (hT : TabOK P T) (k i : Nat) (xs ys : List UInt8) {d : Nat} {si : SlI} {ao ao2 : Option Addr} {c1 c2 : Nat} {h h2 : PH} (h0 : apAt T ops n k rest l = some (d, si, (ao, xs.length, c1), (ao2, ys.length, c2), rest', l'))
    (hi : hs[i]? = some h) (hsz : (si.size, si.bytes, si.zero.cells.size) = (1, 1, 1)) (o : Own h ao xs.length c1 si.elem 1 (bv xs)) (hm : In K hs h2) (x : IsS h2 ao2 ys.length c2 1 (bv ys)) (hb : xs.length + ys.length ≤ 140737488355328)
    (hk : ∀ ao' cap' h', Own h' ao' (xs ++ ys).length cap' si.elem 1 (bv (xs ++ ys)) → WL P w0 ops Q rest' n ((d, .slice ao' (xs ++ ys).length cap') :: l') K (hs.set i h')) : WL P w0 ops Q rest n l K hs := by
  simp only [Prod.mk.injEq] at hsz
  obtain ⟨e1, e2, e3⟩ := hsz
  refine app hT k i h0 hi (by rw [e1]; exact o) hm (by rw [e1]; exact x) (by rw [e1, e3]) (by rw [e1]; decide) (bv_one _) (by rw [e2]; omega) (by simp only [maxLen]; omega) fun ao' cap' h' o' => ?_
  rw [e1, ← bv_append, ← List.length_append] at o'
  have := hk ao' cap' h' o'
  rwa [List.length_append] at this
end rules
theorem In.cons3 {K h x y z : PH} {hs : List PH} (hm : In K hs h) : In K (x :: y :: z :: hs) h := In.cons (In.cons (In.cons hm))
theorem In.cons4 {K h x y z w : PH} {hs : List PH} (hm : In K hs h) : In K (x :: y :: z :: w :: hs) h := In.cons (In.cons3 hm)
end Go.En
