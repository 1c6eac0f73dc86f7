/-
  Package pack: formed, sum, key, alike: of a machine that is as it must be.
  Package pack: key, of a state with one arc at most.
  The machine of one word: a chain of states.
-/
import Derived.Test.YtlnhbilpkcfdlaaDoorFt
import Derived.Test.YtlnhbilpkcfdlaaDoorLp
set_option linter.unusedSimpArgs false
set_option linter.unusedVariables false
namespace Go.En
set_option linter.unusedVariables false
/-- a rune that may stand in a word -/
theorem word_one {r : Nat} (h : 32 < r ∧ r ≠ 127 ∧ scalarP r) : wordP (textP [r]) := by
  have h1 : runesP (textP [r]) = some [r] := text_runes (by simp; exact h.2.2)
  have h2 : rl (textP [r]) = [r] := by unfold rl; rw [h1]; rfl
  have h3 := textP_len [r]
  refine ⟨by simp only [List.length_singleton] at h3; omega, by rw [h1]; rfl, by rw [h2]; simp; exact ⟨h.1, h.2.1⟩, by rw [h2]; simp, by rw [h2]; simp⟩
/-- what the ways of states come to: words, arcs, weight -/
structure SmP where
  w : Int
  d : Int
  t : Int
def maxG (a b : Int) : Int := if b > a then b else a
def smA (tb : List SmP) (x : SmP) (a : ArcP) : SmP := ⟨x.w + (tb.getD a.to.toNat ⟨0, 0, 0⟩).w, maxG x.d ((tb.getD a.to.toNat ⟨0, 0, 0⟩).d + 1), maxG x.t (a.out + (tb.getD a.to.toNat ⟨0, 0, 0⟩).t)⟩
def sm0 (s : StP) : SmP := ⟨if s.fin = true then 1 else 0, 0, s.out⟩
def smS (tb : List SmP) (s : StP) : SmP := s.arcs.foldl (smA tb) (sm0 s)
def smT (sts : List StP) : List SmP := sts.foldl (fun tb s => tb ++ [smS tb s]) []
def smV (x : SmP) : List Value := [.int .i64 x.w, .int .i64 x.d, .int .i64 x.t]
def smR (c : List Value) (x : SmP) : Prop := c = smV x
def keyG (k : Int × Int × Int × Int) : Value := .agg #[.int .i64 k.1, .int .i64 k.2.1, .int .i64 k.2.2.1, .int .i64 k.2.2.2]
end Go.En
namespace Go.Proofs.YtlnhbilpkcfdlaaDoor
open Go.En
set_option linter.unusedVariables false
attribute [local irreducible] Code.wp wpList Calls

theorem formedC {w0 : World} {K : PH} {hs : List PH} (i : Nat) (s : StP) (ao : Option Addr) (n c : Nat) (hf : SFm i s) (x : SlS 3 arcR K ao n c s.arcs) (hG : LeastK K) (hn : s.arcs.length ≤ 1000000) :
    Ct Tryd.prog w0 43 [.agg (stV s ao n c).toArray, .int .i64 ((i : Nat) : Int)] K hs (fun v K' hs' => K' = K ∧ hs' = hs ∧ v = .bool true) := by
  obtain rfl := x.len
  refine enter Tryd.func43 (by kernel_rfl) rfl rfl rfl ?_
  refine sq (rg (?_))
  refine bx hT 0 rfl fun b2 => ?_
  refine fin hT 1 rfl (th (sq (rg (?_))))
  refine fin hT 1 rfl (th (jn (σ := Int) (fun low => [(1, .int .i64 ((i : Nat) : Int)), (2, .pointer (some ⟨b2, 0, none⟩)), (5, .int .i64 low)]) (fun _ => pt b2 (stV s ao s.arcs.length c).toArray 88 :: hs) (fun low => low = if s.fin = true then s.out else 1048577) ?_ ?_))
  · refine sq (rg (?_))
    refine ldp hT 1 0 rfl rfl rfl ?_
    refine nmS fun b13 h13 => ?_
    refine fin hT 0 rfl (th (ifP h13 rfl (fun e1 => ?_) (fun e1 => ?_)))
    · refine rg (?_)
      refine ldp hT 1 0 rfl rfl rfl ?_
      refine fin hT 1 rfl (?_)
      exact jx s.out (by rw [if_pos e1]) ⟨rfl, rfl, rfl, trivial⟩ rfl rfl
    · have ho : s.out = 0 := by rcases hf.fin with h | h; exact absurd h e1; exact h
      refine sq (rg (?_))
      refine ldp hT 1 0 rfl rfl rfl ?_
      refine cmp hT 0 rfl (fun h2 => absurd ho h2) (fun h2 => ?_)
      refine fin hT 0 rfl (th (ifF rfl (sk (?_))))
      exact jx 1048577 (by rw [if_neg e1]) ⟨rfl, rfl, rfl, trivial⟩ rfl rfl
  · rintro low hlow
    refine sq (rg (?_))
    refine ldp hT 1 0 rfl rfl rfl ?_
    refine cmp hT 0 rfl (fun h3 => ?_) (fun h3 => absurd hf.out.1 h3)
    refine ldp hT 2 0 rfl rfl rfl ?_
    refine cmp hT 0 rfl (fun h4 => ?_) (fun h4 => absurd hf.out.2 h4)
    refine fin hT 2 rfl (th (sq (rg (?_))))
    refine fin hT 1 rfl (th (sq (sq (rg (?_)))))
    refine ldp hT 1 0 rfl rfl rfl ?_
    refine fin hT 2 rfl (th (bk (WC.drop ?_)))
    refine loop (σ := Nat × Int × Int) (fun q => [(1, .int .i64 ((i : Nat) : Int)), (5, .int .i64 q.2.1), (6, .bool true), (7, .int .i32 q.2.2), (28, .slice ao s.arcs.length c), (29, .int .i64 ((s.arcs.length : Nat) : Int)), (30, .int .i64 ((q.1 : Nat) : Int))]) (fun _ => K) (fun _ => hs)
      (fun q => q.1 ≤ s.arcs.length ∧ 0 ≤ q.2.1 ∧ ((∃ a ∈ s.arcs.take q.1, a.out = 0) ∨ (s.fin = true ∧ s.out = 0) → q.2.1 = 0) ∧ 32 ≤ q.2.2 ∧ (∀ a ∈ s.arcs.drop q.1, q.2.2 < a.lb)) (fun q => s.arcs.length - q.1) (0, low, 32)
      ⟨Nat.zero_le _, by dsimp only; rw [hlow]; split <;> omega, by dsimp only; rintro (⟨a, ha, _⟩ | ⟨h1, h2⟩) <;> first | (simp at ha; done) | (rw [hlow, if_pos h1, h2]), by simp, fun a ha => (hf.arc a (by simpa using ha)).lb.1⟩ ⟨rfl, rfl, rfl, rfl, rfl, rfl, rfl, trivial⟩ rfl rfl ?_
    rintro ⟨j, low, lab⟩ ⟨hj, hl0, hlz, hlab, hlt⟩
    dsimp only at *
    refine sq (rg (?_))
    refine cmpS hT 0 rfl fun b31 h31 => ?_
    refine fin hT 0 rfl (th (sq (ifP h31 rfl (fun e6 => ?_) (fun e6 => ?_))))
    · have hjl : j < s.arcs.length := by omega
      obtain ⟨a, ha⟩ : ∃ a, a = s.arcs[j] := ⟨_, rfl⟩
      have ham : a ∈ s.arcs := by rw [ha]; exact List.getElem_mem hjl
      have hA := hf.arc a ham
      have hdj : s.arcs.drop j = a :: s.arcs.drop (j + 1) := by rw [ha]; exact List.drop_eq_getElem_cons hjl
      have hsc := hA.lb.2.2
      have hlbn : ((a.lb.toNat : Nat) : Int) = a.lb := by have := hA.lb.1; omega
      obtain ⟨ad, rfl⟩ := x.addr (by omega) (by decide)
      obtain ⟨vs, xv⟩ := x.isS
      obtain ⟨cs, hc, hcl, hcell⟩ := x.cells (i := j) (x := a) (by rw [List.getElem?_eq_getElem hjl, ha])
      obtain rfl := hc
      have e1t : Own (pt b2 #[.int .i32 ((a.lb.toNat : Nat) : Int)] 21) (some ⟨b2, 0, none⟩) 1 1 21 1 (rvv [a.lb.toNat]) := Own.ofPt (b := b2) (c := #[.int .i32 ((a.lb.toNat : Nat) : Int)]) (e := 21) (n := 1) (size := 1) rfl (by simp [maxLen])
      refine sk (th (sq (bk (sq (rg (?_))))))
      refine ixs hT 0 j rfl rfl xv hjl (by decide) fun a32 ha => ?_
      cases ha
      refine lds hT 0 (arcV a) rfl (by kernel_rfl) (.inl rfl) hcell ?_
      refine al hT 0 (.agg #[.int .i32 0, .int .i64 0, .int .i64 0]) rfl (by kernel_rfl) fun b9 => ?_
      refine stS hT 0 0 rfl rfl (by kernel_rfl) rfl rfl ?_
      refine fin hT 0 rfl (th (sq (rg (?_))))
      refine ldp hT 1 0 rfl rfl rfl ?_
      refine lit hT 0 #[.int .i32 ((a.lb.toNat : Nat) : Int)] rfl (by decide) (by rw [hlbn]; kernel_rfl) fun b37 => ?_
      have ow : Own (pt b37 #[.int .i32 ((a.lb.toNat : Nat) : Int)] 21) (some ⟨b37, 0, none⟩) 1 1 21 1 (rvv [a.lb.toNat]) := Own.ofPt (b := b37) (c := #[.int .i32 ((a.lb.toNat : Nat) : Int)]) (e := 21) (n := 1) (size := 1) rfl (by simp [maxLen])
      refine cl hT 0 rfl (textC (some ⟨b37, 0, none⟩) 1 [a.lb.toNat] (.inr ⟨0, rfl⟩) ow.isS (by simp; exact hsc) hG (by simp)) ?_
      rintro v38 K38 hs38 ⟨rfl, rfl, rfl⟩
      refine fin hT 5 rfl (th (sq (rg (?_))))
      refine ldp hT 3 1 rfl rfl rfl ?_
      refine cmp hT 1 rfl (fun h7 => ?_) (fun h7 => absurd (hlt a (by rw [hdj]; simp)) h7)
      refine cl hT 3 rfl (wordC (textP [a.lb.toNat]) hG) ?_
      rintro v50 K50 hs50 ⟨rfl, rfl, t50, rfl, h50⟩
      obtain rfl : t50 = true := h50.2 (word_one ⟨by have := hA.lb.1; omega, by have := hA.lb.2.1; omega, hsc⟩)
      refine fin hT 2 rfl (th (sq (rg (?_))))
      refine ldp hT 3 1 rfl rfl rfl ?_
      refine cmp hT 0 rfl (fun h8 => ?_) (fun h8 => absurd hA.to.1 h8)
      refine ldp hT 3 1 rfl rfl rfl ?_
      refine cmp hT 1 rfl (fun h9 => ?_) (fun h9 => absurd hA.to.2 h9)
      refine ldp hT 3 1 rfl rfl rfl ?_
      refine cmp hT 0 rfl (fun h10 => ?_) (fun h10 => absurd hA.out.1 h10)
      refine ldp hT 3 1 rfl rfl rfl ?_
      refine cmp hT 0 rfl (fun h11 => ?_) (fun h11 => absurd hA.out.2 h11)
      refine fin hT 2 rfl (th (sq (rg (?_))))
      refine ldp hT 1 1 rfl rfl rfl ?_
      refine fin hT 1 rfl (th (rg (?_)))
      refine ldp hT 2 1 rfl rfl rfl ?_
      refine fin hT 2 rfl (bl (th (rg (?_))))
      refine ar hT 0 rfl (i64w (x := ((j + 1 : Nat) : Int)) (by omega)) ?_
      refine fin hT 1 rfl (WQ.drop (WQ.drop ?_))
      refine again (x := (j, low, lab)) (j + 1, minG low a.out, a.lb) ⟨rfl, rfl, rfl, rfl, rfl, rfl, rfl, trivial⟩ rfl rfl ⟨hjl, ?_, ?_, by have := hA.lb.1; dsimp only; omega, ?_⟩ (by dsimp only; omega)
      · have := hA.out.1
        dsimp only
        unfold minG
        split <;> omega
      · dsimp only
        intro h
        have := hA.out.1
        have ht : s.arcs.take (j + 1) = s.arcs.take j ++ [a] := by rw [List.take_add_one, List.getElem?_eq_getElem hjl, ha]; rfl
        rw [ht] at h
        unfold minG
        rcases h with ⟨y, hy, ey⟩ | h
        · rcases List.mem_append.1 hy with hy | hy
          · have := hlz (.inl ⟨y, hy, ey⟩); split <;> omega
          · simp only [List.mem_singleton] at hy; subst hy; split <;> omega
        · have := hlz (.inr h); split <;> omega
      · dsimp only
        intro y hy
        have hp := hf.ord
        have e3 : s.arcs = s.arcs.take j ++ s.arcs.drop j := (List.take_append_drop j s.arcs).symm
        rw [e3, hdj, List.pairwise_append] at hp
        exact (List.pairwise_cons.1 hp.2.1).1 y hy
    · obtain rfl : j = s.arcs.length := by omega
      have hz : low = 0 := by
        refine hlz ?_
        rw [List.take_of_length_le (Nat.le_refl _)]
        rcases hf.low with h | h
        · exact .inr h
        · exact .inl h
      refine ex (xt (xt (xb (th (sq (rg (?_)))))))
      refine cmp hT 3 rfl (fun h12 => ?_) (fun h12 => absurd hz h12)
      refine fin hT 2 rfl (th (rt (?_)))
      exact ret1 rfl rfl ⟨rfl, rfl, rfl⟩

def smBd (x : SmP) : Prop := 0 ≤ x.w ∧ x.w ≤ 4096 ∧ 0 ≤ x.d ∧ x.d ≤ 24 ∧ 0 ≤ x.t ∧ x.t ≤ 1048576
theorem sumC {w0 : World} {K h : PH} {hs : List PH} (s : StP) (ao : Option Addr) (n c : Nat) (aoT : Option Addr) (nT cT : Nat) (tb : List SmP) (x : SlS 3 arcR K ao n c s.arcs) (hm : In K hs h) (xT : SlS 3 smR h aoT nT cT tb) (hto : ∀ a ∈ s.arcs, 0 ≤ a.to ∧ a.to < (tb.length : Int) ∧ 0 ≤ a.out ∧ a.out ≤ 1048576)
    (hbd : ∀ y ∈ tb, smBd y) (hp : ∀ j, j ≤ s.arcs.length → smBd ((s.arcs.take j).foldl (smA tb) (sm0 s))) (hn : s.arcs.length ≤ 1000000) :
    Ct Tryd.prog w0 44 [.agg (stV s ao n c).toArray, .slice aoT nT cT] K hs (fun v K' hs' => K' = K ∧ hs' = hs ∧ v = .tuple #[.agg (smV (smS tb s)).toArray, .bool true]) := by
  obtain rfl := x.len
  obtain rfl := xT.len
  have hend := hp s.arcs.length (Nat.le_refl _)
  rw [List.take_of_length_le (Nat.le_refl _)] at hend
  refine enter Tryd.func44 (by kernel_rfl) rfl rfl rfl ?_
  refine sq (rg (?_))
  refine bx hT 0 rfl fun b2 => ?_
  refine al hT 0 (.agg #[.int .i64 0, .int .i64 0, .int .i64 0]) rfl (by kernel_rfl) fun b4 => ?_
  refine fin hT 1 rfl (th (sq (rg (?_))))
  refine ldp hT 1 1 rfl rfl rfl ?_
  refine bd hT 0 (.agg #[.int .i64 0, .int .i64 0, .int .i64 s.out]) rfl (fun w => by kernel_rfl) ?_
  refine al hT 0 (.agg #[.int .i64 0, .int .i64 0, .int .i64 0]) rfl (by kernel_rfl) fun b6 => ?_
  refine stS hT 0 0 rfl rfl (by kernel_rfl) rfl rfl ?_
  refine fin hT 0 rfl (th (jn (σ := Unit) (fun _ => [(1, .slice aoT tb.length cT), (2, .pointer (some ⟨b2, 0, none⟩)), (4, .pointer (some ⟨b4, 0, none⟩)), (6, .pointer (some ⟨b6, 0, none⟩))]) (fun _ => pt b6 (smV (sm0 s)).toArray 113 :: pt b4 #[.int .i64 0, .int .i64 0, .int .i64 0] 113 :: pt b2 (stV s ao s.arcs.length c).toArray 88 :: hs) (fun _ => True) ?_ ?_))
  · refine sq (rg (?_))
    refine ldp hT 1 2 rfl rfl rfl ?_
    refine nmS fun b14 h14 => ?_
    refine fin hT 0 rfl (th (ifP h14 rfl (fun e1 => ?_) (fun e1 => ?_)))
    · refine rg (?_)
      refine stp hT 1 0 rfl rfl rfl rfl ?_
      refine fin hT 0 rfl (?_)
      exact jx () trivial ⟨rfl, rfl, rfl, rfl, trivial⟩ rfl (by simp only [smV, sm0, if_pos e1]; rfl)
    · refine sk (?_)
      exact jx () trivial ⟨rfl, rfl, rfl, rfl, trivial⟩ rfl (by simp only [smV, sm0, if_neg e1]; rfl)
  · rintro - -
    refine sq (sq (rg (?_)))
    refine ldp hT 1 2 rfl rfl rfl ?_
    refine fin hT 2 rfl (th (bk (WC.perm (perm_front _ 2 _ rfl) (WC.drop (?_)))))
    refine loop (σ := Nat) (fun j => [(1, .slice aoT tb.length cT), (4, .pointer (some ⟨b4, 0, none⟩)), (6, .pointer (some ⟨b6, 0, none⟩)), (17, .slice ao s.arcs.length c), (18, .int .i64 ((s.arcs.length : Nat) : Int)), (19, .int .i64 ((j : Nat) : Int))]) (fun _ => K) (fun j => pt b6 (smV ((s.arcs.take j).foldl (smA tb) (sm0 s))).toArray 113 :: pt b4 #[.int .i64 0, .int .i64 0, .int .i64 0] 113 :: hs)
      (fun j => j ≤ s.arcs.length) (fun j => s.arcs.length - j) 0 (Nat.zero_le _) ⟨rfl, rfl, rfl, rfl, rfl, rfl, trivial⟩ rfl rfl ?_
    intro j hj
    refine sq (rg (?_))
    refine cmpS hT 0 rfl fun b20 h20 => ?_
    refine fin hT 0 rfl (th (sq (ifP h20 rfl (fun e3 => ?_) (fun e3 => ?_))))
    · have hjl : j < s.arcs.length := by omega
      obtain ⟨a, ha⟩ : ∃ a, a = s.arcs[j] := ⟨_, rfl⟩
      have ham : a ∈ s.arcs := by rw [ha]; exact List.getElem_mem hjl
      obtain ⟨t1, t2, t3, t4⟩ := hto a ham
      have htn : ((a.to.toNat : Nat) : Int) = a.to := by omega
      obtain ⟨y, hy⟩ : ∃ y, y = tb.getD a.to.toNat ⟨0, 0, 0⟩ := ⟨_, rfl⟩
      have hyg : tb[a.to.toNat]? = some y := by rw [hy, List.getD_eq_getElem?_getD, List.getElem?_eq_getElem (show a.to.toNat < tb.length by omega)]; rfl
      have hyb := hbd y (List.mem_of_getElem? hyg)
      obtain ⟨q, hq⟩ : ∃ q, q = (s.arcs.take j).foldl (smA tb) (sm0 s) := ⟨_, rfl⟩
      have hqb := hp j (by omega)
      have hqn := hp (j + 1) hjl
      have ht : s.arcs.take (j + 1) = s.arcs.take j ++ [a] := by rw [List.take_add_one, List.getElem?_eq_getElem hjl, ha]; rfl
      have hqs : (s.arcs.take (j + 1)).foldl (smA tb) (sm0 s) = smA tb q a := by rw [ht, List.foldl_append, ← hq]; rfl
      rw [hqs] at hqn
      rw [← hq] at hqb ⊢
      simp only [smA, ← hy] at hqn
      obtain ⟨ad, rfl⟩ := x.addr (by omega) (by decide)
      obtain ⟨vs, xv⟩ := x.isS
      obtain ⟨cs, hc, hcl, hcell⟩ := x.cells (i := j) (x := a) (by rw [List.getElem?_eq_getElem hjl, ha])
      obtain rfl := hc
      obtain ⟨at', rfl⟩ := xT.addr (by omega) (by decide)
      obtain ⟨vt, xvt⟩ := xT.isS
      obtain ⟨ct, hct, hctl, hcellt⟩ := xT.cells (i := a.to.toNat) (x := y) hyg
      obtain rfl := hct
      refine sk (th (sq (bk (sq (rg (?_))))))
      refine ixs hT 0 j rfl rfl xv hjl (by decide) fun a32 ha => ?_
      cases ha
      refine lds hT 0 (arcV a) rfl (by kernel_rfl) (.inl rfl) hcell ?_
      refine al hT 0 (.agg #[.int .i32 0, .int .i64 0, .int .i64 0]) rfl (by kernel_rfl) fun b8 => ?_
      refine stS hT 0 0 rfl rfl (by kernel_rfl) rfl rfl ?_
      refine fin hT 0 rfl (th (sq (rg (?_))))
      refine ldp hT 2 0 rfl rfl rfl ?_
      refine ixs hT 0 a.to.toNat rfl htn.symm xvt (by omega) (by decide) fun a26 ha => ?_
      cases ha
      refine lds hT 0 (smV y) rfl (by kernel_rfl) (In.cons (In.cons (In.cons hm))) hcellt ?_
      refine al hT 0 (.agg #[.int .i64 0, .int .i64 0, .int .i64 0]) rfl (by kernel_rfl) fun b9 => ?_
      refine stS hT 0 0 rfl rfl (by kernel_rfl) rfl rfl ?_
      refine fin hT 0 rfl (th (sq (rg (?_))))
      refine ldp hT 1 2 rfl rfl rfl ?_
      refine ldp hT 1 0 rfl rfl rfl ?_
      refine ar hT 0 rfl (i64w (x := q.w + y.w) (by unfold smBd at hqb hyb; omega)) ?_
      refine stp hT 1 2 rfl rfl rfl rfl ?_
      refine fin hT 0 rfl (th (sq (rg (?_))))
      refine ldp hT 1 2 rfl rfl rfl ?_
      refine ldp hT 1 0 rfl rfl rfl ?_
      refine ar hT 0 rfl (i64w (x := y.d + 1) (by unfold smBd at hqb hyb; omega)) ?_
      refine stp hT 2 2 rfl rfl rfl rfl ?_
      refine fin hT 0 rfl (th (sq (rg (?_))))
      refine ldp hT 1 2 rfl rfl rfl ?_
      refine ldp hT 1 1 rfl rfl rfl ?_
      refine ldp hT 1 0 rfl rfl rfl ?_
      refine ar hT 0 rfl (i64w (x := a.out + y.t) (by unfold smBd at hqb hyb; omega)) ?_
      refine stp hT 2 2 rfl rfl rfl rfl ?_
      refine fin hT 0 rfl (th (sq (rg (?_))))
      refine ldp hT 1 2 rfl rfl rfl ?_
      refine cmp hT 0 rfl (fun h4 => absurd h4 (by have := hqn.2.1; dsimp only at this; omega)) (fun h4 => ?_)
      refine fin hT 0 rfl (th (ifF rfl (sk (bl (th (rg (?_)))))))
      refine ar hT 0 rfl (i64w (x := ((j + 1 : Nat) : Int)) (by omega)) ?_
      refine fin hT 1 rfl (WQ.drop (WQ.drop ?_))
      exact again (x := j) (j + 1) ⟨rfl, rfl, rfl, rfl, rfl, rfl, trivial⟩ rfl (by rw [hqs]; simp only [smA, ← hy]; rfl) hjl (by omega)
    · obtain rfl : j = s.arcs.length := by omega
      have hq : (s.arcs.take s.arcs.length).foldl (smA tb) (sm0 s) = smS tb s := by rw [List.take_of_length_le (Nat.le_refl _)]; rfl
      rw [hq]
      have hend' : smBd (smS tb s) := hend
      unfold smBd at hend'
      refine ex (xt (xt (xb (th (sq (rga [pt b6 (smV (smS tb s)).toArray 113] 11 [0, 2, 4, 6, 8, 10, 12, 14, 16, 19, 20] (by simp) (by kernel_rfl) (by kernel_rfl) ?_))))))
      refine dldS hT (by kernel_rfl) 0 0 rfl (by kernel_rfl) rfl (by kernel_rfl) ?_
      refine dldpw hT (by kernel_rfl) 1 0 rfl (by kernel_rfl) rfl rfl ?_
      refine dcmp hT (by kernel_rfl) 0 ((smS tb s).d ≤ 24) rfl (by simp) (fun h5 => ?_) (fun h5 => absurd hend'.2.2.2.1 h5)
      refine dldpw hT (by kernel_rfl) 2 0 rfl (by kernel_rfl) rfl rfl ?_
      refine dcmp hT (by kernel_rfl) 0 ((smS tb s).t ≤ 1048576) rfl (by simp) (fun h6 => ?_) (fun h6 => absurd hend'.2.2.2.2.2 h6)
      refine dact hT (by kernel_rfl) 1 rfl ?_
      refine stS hT 0 1 rfl rfl (by kernel_rfl) rfl rfl ?_
      refine dnex [pt b6 (smV (smS tb s)).toArray 113] (by simp) (by simp) rfl ?_
      refine dend hT (by kernel_rfl) 1 rfl (th (rt (?_)))
      exact retcP 1 2 rfl rfl rfl rfl (by kernel_rfl) ⟨rfl, rfl, rfl⟩
end Go.Proofs.YtlnhbilpkcfdlaaDoor
namespace Go.En
set_option linter.unusedVariables false
def k2P (s : StP) (j : Nat) : Int := if j = 0 then 0 else (s.arcs.getD 0 ⟨0, 0, 0⟩).lb + (s.arcs.getD 0 ⟨0, 0, 0⟩).out
def k3P (s : StP) (j : Nat) : Int := if j = 0 then 0 else (s.arcs.getD 0 ⟨0, 0, 0⟩).to
def keyP (s : StP) : Int × Int × Int × Int := (s.out, (s.arcs.length : Int), k2P s s.arcs.length, k3P s s.arcs.length)
end Go.En
namespace Go.Proofs.YtlnhbilpkcfdlaaDoor
open Go.En
set_option linter.unusedVariables false
attribute [local irreducible] Code.wp wpList Calls

theorem keyC {w0 : World} {K : PH} {hs : List PH} (s : StP) (ao : Option Addr) (n c : Nat) (x : SlS 3 arcR K ao n c s.arcs) (hn : s.arcs.length ≤ 1) (hA : ∀ a ∈ s.arcs, 0 ≤ a.lb ∧ a.lb ≤ 1114111 ∧ 0 ≤ a.out ∧ a.out ≤ 1048576 ∧ 0 ≤ a.to ∧ a.to ≤ 1000000) :
    Ct Tryd.prog w0 45 [.agg (stV s ao n c).toArray] K hs (fun v K' hs' => K' = K ∧ hs' = hs ∧ v = keyG (keyP s)) := by
  obtain rfl := x.len
  refine enter Tryd.func45 (by kernel_rfl) rfl rfl rfl ?_
  refine sq (rg (?_))
  refine bx hT 0 rfl fun b1 => ?_
  refine al hT 0 (.agg #[.int .i64 0, .int .i64 0, .int .i64 0, .int .i64 0]) rfl (by kernel_rfl) fun b2 => ?_
  refine fin hT 0 rfl (th (sq (rg (?_))))
  refine ldp hT 1 1 rfl rfl rfl ?_
  refine ldp hT 1 1 rfl rfl rfl ?_
  refine bd hT 1 (.agg #[.int .i64 s.out, .int .i64 ((s.arcs.length : Nat) : Int), .int .i64 0, .int .i64 0]) rfl (fun w => by kernel_rfl) ?_
  refine al hT 0 (.agg #[.int .i64 0, .int .i64 0, .int .i64 0, .int .i64 0]) rfl (by kernel_rfl) fun b3 => ?_
  refine stS hT 0 0 rfl rfl (by kernel_rfl) rfl rfl ?_
  refine fin hT 0 rfl (th (sq (sq (rg (?_)))))
  refine ldp hT 1 2 rfl rfl rfl ?_
  refine fin hT 2 rfl (th (bk (?_)))
  refine loop (σ := Nat) (fun j => [(2, .pointer (some ⟨b2, 0, none⟩)), (3, .pointer (some ⟨b3, 0, none⟩)), (13, .slice ao s.arcs.length c), (14, .int .i64 ((s.arcs.length : Nat) : Int)), (15, .int .i64 ((j : Nat) : Int))]) (fun _ => K)
    (fun j => pt b3 #[.int .i64 s.out, .int .i64 ((s.arcs.length : Nat) : Int), .int .i64 (k2P s j), .int .i64 (k3P s j)] 116 :: pt b2 #[.int .i64 0, .int .i64 0, .int .i64 0, .int .i64 0] 116 :: pt b1 (stV s ao s.arcs.length c).toArray 88 :: hs) (fun j => j ≤ s.arcs.length) (fun j => s.arcs.length - j) 0 (Nat.zero_le _) ⟨rfl, rfl, rfl, rfl, rfl, trivial⟩ rfl rfl ?_
  intro j hj
  refine sq (rg (?_))
  refine cmpS hT 0 rfl fun b16 h16 => ?_
  refine fin hT 0 rfl (th (sq (ifP h16 rfl (fun e2 => ?_) (fun e2 => ?_))))
  · have hjl : j < s.arcs.length := by omega
    obtain rfl : j = 0 := by omega
    obtain ⟨a, ha⟩ : ∃ a, a = s.arcs[0] := ⟨_, rfl⟩
    have ham : a ∈ s.arcs := by rw [ha]; exact List.getElem_mem hjl
    have hag : s.arcs.getD 0 ⟨0, 0, 0⟩ = a := by rw [List.getD_eq_getElem?_getD, List.getElem?_eq_getElem hjl, ha]; rfl
    obtain ⟨h1, h2, h3, h4, h5, h6⟩ := hA a ham
    obtain ⟨ad, rfl⟩ := x.addr (by omega) (by decide)
    obtain ⟨vs, xv⟩ := x.isS
    obtain ⟨cs, hc, hcl, hcell⟩ := x.cells (i := 0) (x := a) (by rw [List.getElem?_eq_getElem hjl, ha])
    obtain rfl := hc
    have z2 : k2P s 0 = 0 := rfl
    have z3 : k3P s 0 = 0 := rfl
    have y2 : k2P s 1 = a.lb + a.out := by unfold k2P; rw [if_neg (by decide), hag]
    have y3 : k3P s 1 = a.to := by unfold k3P; rw [if_neg (by decide), hag]
    rw [z2, z3]
    refine sk (th (sq (bk (sq (rg (?_))))))
    refine ixs hT 0 0 rfl rfl xv hjl (by decide) fun a32 ha => ?_
    cases ha
    refine lds hT 0 (arcV a) rfl (by kernel_rfl) (.inl rfl) hcell ?_
    refine al hT 0 (.agg #[.int .i32 0, .int .i64 0, .int .i64 0]) rfl (by kernel_rfl) fun b5 => ?_
    refine stS hT 0 0 rfl rfl (by kernel_rfl) rfl rfl ?_
    refine fin hT 0 rfl (th (sq (rg (?_))))
    refine ixa hT 0 (sz := 1) 2 rfl Tryd.underlying116 (by kernel_rfl) rfl (by decide) ?_
    simp only [add_mk, Nat.mul_one, Nat.zero_add]
    refine ldp hT 0 1 rfl rfl rfl ?_
    refine ar hT 0 rfl (i64w (x := 0) (by omega)) ?_
    refine ldp hT 1 0 rfl rfl rfl ?_
    refine ar hT 0 rfl (i64w (x := a.lb) (by omega)) ?_
    refine ar hT 0 rfl (i64w (x := 0 + a.lb) (by omega)) ?_
    refine ldp hT 1 0 rfl rfl rfl ?_
    refine ar hT 0 rfl (i64w (x := 0 + a.lb + a.out) (by omega)) ?_
    refine ixa hT 0 (sz := 1) 2 rfl Tryd.underlying116 (by kernel_rfl) rfl (by decide) ?_
    simp only [add_mk, Nat.mul_one, Nat.zero_add]
    refine stp hT 0 1 rfl rfl rfl rfl ?_
    refine fin hT 0 rfl (th (rg (?_)))
    refine ixa hT 0 (sz := 1) 3 rfl Tryd.underlying116 (by kernel_rfl) rfl (by decide) ?_
    simp only [add_mk, Nat.mul_one, Nat.zero_add]
    refine ldp hT 0 1 rfl rfl rfl ?_
    refine ar hT 0 rfl (i64w (x := 0) (by omega)) ?_
    refine ldp hT 1 0 rfl rfl rfl ?_
    refine ar hT 0 rfl (i64w (x := 0 + a.to) (by omega)) ?_
    refine ixa hT 0 (sz := 1) 3 rfl Tryd.underlying116 (by kernel_rfl) rfl (by decide) ?_
    simp only [add_mk, Nat.mul_one, Nat.zero_add]
    refine stp hT 0 1 rfl rfl rfl rfl ?_
    refine fin hT 0 rfl (bl (th (rg (?_))))
    refine ar hT 0 rfl (i64w (x := ((0 + 1 : Nat) : Int)) (by omega)) ?_
    refine fin hT 1 rfl (WQ.drop ?_)
    exact again (x := 0) 1 ⟨rfl, rfl, rfl, rfl, rfl, trivial⟩ rfl (by rw [y2, y3, Int.zero_add, Int.zero_add]; rfl) hjl (by omega)
  · obtain rfl : j = s.arcs.length := by omega
    refine ex (xt (xt (xb (th (sq (rg (?_)))))))
    refine ldS hT 0 0 rfl rfl (by kernel_rfl) ?_
    refine stS hT 0 1 rfl rfl (by kernel_rfl) rfl rfl ?_
    refine fin hT 0 rfl (th (rt (?_)))
    exact retcA 1 3 rfl rfl rfl (by kernel_rfl) ⟨rfl, rfl, rfl⟩
end Go.Proofs.YtlnhbilpkcfdlaaDoor
namespace Go.En
set_option linter.unusedVariables false
def topS : List Nat → StP
  | [] => ⟨true, 0, []⟩
  | c :: r => ⟨false, 0, [⟨(c : Int), 0, (r.length : Int)⟩]⟩
def chn : List Nat → List StP
  | [] => [topS []]
  | c :: r => chn r ++ [topS (c :: r)]
theorem chn_len : ∀ r : List Nat, (chn r).length = r.length + 1
  | [] => rfl
  | c :: r => by simp [chn, chn_len r]
theorem chn_get : ∀ (p r : List Nat), (chn (p ++ r))[r.length]? = some (topS r)
  | [], [] => rfl
  | [], c :: r => by
    have := chn_len r
    simp [chn, this]
  | c :: p, r => by
    have h := chn_get p r
    have h2 := (List.getElem?_eq_some_iff.1 h).1
    rw [List.cons_append, chn, List.getElem?_append_left h2]
    exact h
theorem chn_at {w : List Nat} {i : Nat} (h : i < (chn w).length) : ∃ p r, w = p ++ r ∧ r.length = i ∧ (chn w)[i]? = some (topS r) := by
  rw [chn_len] at h
  have h1 : w = w.take (w.length - i) ++ w.drop (w.length - i) := (List.take_append_drop _ _).symm
  have h2 : (w.drop (w.length - i)).length = i := by rw [List.length_drop]; omega
  refine ⟨_, _, h1, h2, ?_⟩
  have := chn_get (w.take (w.length - i)) (w.drop (w.length - i))
  rw [← h1, h2] at this
  exact this
theorem BI.bld0 : BI bld0 := ⟨by constructor <;> simp [En.bld0, mget], by simp [En.bld0, mget], by simp [En.bld0], by simp [En.bld0]⟩
theorem leastP_one (r : List Nat) (w : Int) : leastP [⟨r, w⟩] = w := by simp [leastP, minG]
theorem topS_arcs (r : List Nat) : (topS r).arcs.length ≤ 1 := by cases r <;> simp [topS]
theorem chn_built (w : Int) : ∀ (k : Nat) (r : List Nat), r.length ≤ k → (∀ c ∈ r, c ≤ 1114111) → r.length ≤ 100000 →
    BI (stateP (k + 1) bld0 [⟨r, w⟩]).1 ∧ (stateP (k + 1) bld0 [⟨r, w⟩]).1.L.length ≤ 2 * r.length + 1 ∧ (stateP (k + 1) bld0 [⟨r, w⟩]).1.sts = chn r ∧ (stateP (k + 1) bld0 [⟨r, w⟩]).2 = (r.length : Int)
  | k, [], _, _, _ => by
    have e : stateP (k + 1) bld0 [⟨[], w⟩] = addP bld0 (topS []) := by
      have hf : finR [⟨[], w⟩] = true := rfl
      simp only [stateP, bodyR, outR, leastP_one, hf]
      simp [arcsP, topS]
    rw [e]
    obtain ⟨h1, h2, h3⟩ := addP_spec (s := topS []) BI.bld0 (by simp [topS, bld0]) (by simp [topS])
    refine ⟨h1, by simpa [topS, bld0] using h2, ?_⟩
    rcases h3 with ⟨i, h4, _⟩ | ⟨_, h5, h6⟩
    · simp [bld0] at h4
    · rw [h5, h6]; exact ⟨rfl, rfl⟩
  | 0, c :: r, h, _, _ => by simp at h
  | k + 1, c :: r, hk, hc, hl => by
    simp only [List.length_cons] at hk hl
    obtain ⟨i1, i2, i3, i4⟩ := chn_built w k r (by omega) (fun x hx => hc x (by simp [hx])) (by omega)
    have hf : finR [⟨c :: r, w⟩] = false := rfl
    have hsp : spanP c [⟨c :: r, w⟩] = ([⟨r, w⟩], []) := by simp [spanP, tlR]
    have hst : stateP (k + 1 + 1) bld0 [⟨c :: r, w⟩] = addP (stateP (k + 1) bld0 [⟨r, w⟩]).1 (topS (c :: r)) := by
      rw [stateP]
      have hb : bodyR [⟨c :: r, w⟩] = [⟨c :: r, w⟩] := by unfold bodyR; rw [hf]; rfl
      have ho : outR [⟨c :: r, w⟩] = 0 := by unfold outR; rw [hf]; rfl
      rw [hb, ho, hf]
      simp only [List.length_singleton, arcsP, List.headD_cons, hsp, leastP_one, i4, Int.sub_self, List.nil_append, topS]
    rw [hst]
    obtain ⟨h1, h2, h3⟩ := addP_spec (s := topS (c :: r)) i1 (by simp [topS]; omega) (by
      intro a ha
      simp only [topS, List.mem_singleton] at ha
      subst ha
      have := hc c (by simp)
      exact ⟨by simp, by simp, by simp; omega⟩)
    have hlen : ((topS (c :: r)).arcs).length = 1 := rfl
    refine ⟨h1, by rw [hlen] at h2; simp only [List.length_cons]; omega, ?_⟩
    rcases h3 with ⟨i, h4, _⟩ | ⟨_, h5, h6⟩
    · rw [i3] at h4
      obtain ⟨p, r', h7, h8, h9⟩ := chn_at (List.getElem?_eq_some_iff.1 h4).1
      rw [h9] at h4
      cases r' with
      | nil => simp [topS] at h4
      | cons c' r'' =>
        simp [topS] at h4
        have : r.length = p.length + (r''.length + 1) := by rw [h7]; simp
        omega
    · rw [h5, h6, i3, chn_len]; exact ⟨rfl, rfl⟩
/-- the letters of a word -/
def LtW (r : List Nat) : Prop := ∀ c ∈ r, 32 < c ∧ c ≠ 127 ∧ scalarP c
theorem wordP_ltw {w : List UInt8} (h : wordP w) : LtW (rl w) := by
  obtain ⟨_, h2, h3, _⟩ := h
  obtain ⟨l, hl⟩ := Option.isSome_iff_exists.1 h2
  have e : rl w = l := by unfold rl; rw [hl]; rfl
  rw [e] at h3 ⊢
  exact fun c hc => ⟨(h3 c hc).1, (h3 c hc).2, (runesP_text hl).2.1 c hc⟩
/-- the machine of one word -/
theorem buildP_one {w : List UInt8} {x : Int} (h : wordP w) : buildP [⟨w, x⟩] = (x, chn (rl w)) := by
  have h1 : (rl w).length ≤ 24 := h.2.2.2.2
  unfold buildP
  rw [if_neg (by simp)]
  simp only [List.map_cons, List.map_nil, restP, leastP_one]
  rw [(chn_built x 24 (rl w) h1 (fun c hc => (wordP_ltw h c hc).2.2.1) (by omega)).2.2.1]
theorem topS_fm {r : List Nat} (h : LtW r) : SFm r.length (topS r) := by
  cases r with
  | nil => exact ⟨by simp [topS], by simp [topS], by simp [topS], .inl rfl, .inl ⟨rfl, rfl⟩⟩
  | cons c r =>
    refine ⟨?_, by simp [topS], by simp [topS], .inr rfl, .inr ⟨_, by simp [topS]; rfl, rfl⟩⟩
    intro a ha
    simp only [topS, List.mem_singleton] at ha
    subst ha
    obtain ⟨h1, h2, h3⟩ := h c (by simp)
    exact ⟨by simp; omega, by simp, by simp; exact ⟨by omega, by omega, h3⟩⟩
/-- the sums of a chain -/
def chnM (n : Nat) : List SmP := (List.range n).map fun i : Nat => ⟨1, (i : Int), 0⟩
theorem chnM_get {n i : Nat} (h : i < n) : (chnM n).getD i ⟨0, 0, 0⟩ = ⟨1, (i : Int), 0⟩ := by simp [chnM, List.getD_eq_getElem?_getD, h]
theorem smS_top (r : List Nat) {n : Nat} (h : r.length ≤ n) : smS (chnM n) (topS r) = ⟨1, (r.length : Int), 0⟩ := by
  cases r with
  | nil => rfl
  | cons c r =>
    have h2 := chnM_get (n := n) (i := r.length) (by simp at h; omega)
    have h3 : (0 : Int) < (r.length : Int) + 1 := by omega
    simp only [smS, topS, smA, sm0, List.foldl_cons, List.foldl_nil, Int.toNat_natCast, h2, maxG]
    simp [h3]
end Go.En
