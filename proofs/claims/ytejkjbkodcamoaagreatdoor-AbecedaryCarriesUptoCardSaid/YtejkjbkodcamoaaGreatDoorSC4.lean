/-
  Part 4 of what the proof needs (texts Gp Ha Hn Ho Hq Hr Hs Ht Pf Pk Pl Pm Sy Pn Po Pp Pq Pr Ps Pt Dd De Df Dg Dh Di).
-/
import Derived.Lib.Bytealg
import Derived.Test.YtejkjbkodcamoaaGreatDoorSC3
set_option linter.unusedSectionVars false
set_option linter.unusedSimpArgs false
set_option linter.unusedVariables false
section
namespace Go.En
open Go.Proofs.YtejkjbkodcamoaaGreatDoor
def tbM (sts : List StP) (j : Nat) : List SmP := (smT sts).take j ++ List.replicate (sts.length - j) sm00
theorem tbM_len (sts : List StP) {j : Nat} (h : j <= sts.length) : (tbM sts j).length = sts.length := by
 unfold tbM
 rw [List.length_append, List.length_take, smT_len, List.length_replicate]; omega
theorem tbM_lt (sts : List StP) {i j : Nat} (h : i < j) (hj : j <= sts.length) : (tbM sts j)[i]? = (smT sts)[i]? := by
 unfold tbM
 rw [List.getElem?_append_left (by rw [List.length_take, smT_len]; omega), List.getElem?_take, if_pos h]
theorem tbM_set (sts : List StP) {j : Nat} (h : j < sts.length) {x : SmP} (hx : (smT sts)[j]? = some x) : (tbM sts j).set j x = tbM sts (j + 1) := by
 have hl : (smT sts).length = sts.length := smT_len sts
 unfold tbM
 rw [List.set_append_right _ _ (by rw [List.length_take]; omega), List.length_take, show j - min j (smT sts).length = 0 by omega, show sts.length - j = (sts.length - (j + 1)) + 1 by omega, List.replicate_succ, List.set_cons_zero, List.take_add_one, hx]
 simp
theorem tbM_0 (sts : List StP) : tbM sts 0 = List.replicate sts.length sm00 := by simp [tbM]
theorem tbM_end (sts : List StP) : tbM sts sts.length = smT sts := by
 unfold tbM
 rw [List.take_of_length_le (by rw [smT_len]; exact Nat.le_refl _), Nat.sub_self]; simp
theorem tbM_D (sts : List StP) {i j : Nat} (h : i < j) (hj : j <= sts.length) : (tbM sts j).getD i sm00 = (smT sts).getD i sm00 := by
 rw [List.getD_eq_getElem?_getD, List.getD_eq_getElem?_getD, tbM_lt sts h hj]
theorem MOK.tbd {base : Int} {sts : List StP} (h : MOK base sts) {j : Nat} (hj : j <= sts.length) : ∀ y ∈ tbM sts j, smBd y := by
 intro y hy
 obtain ⟨i, hi⟩ := List.mem_iff_getElem?.1 hy
 by_cases e : i < j
 ·rw [tbM_lt sts e hj] at hi
  obtain ⟨s, hs⟩ : ∃ s, sts[i]? = some s := ⟨_, List.getElem?_eq_getElem (by omega)⟩
  rw [smT_at hs (h.fm.to hs)] at hi
  have := h.sums hs s.arcs.length (Nat.le_refl _)
  rw [List.take_length] at this
  rw [<- Option.some.inj hi]
  exact this
 ·unfold tbM at hi
  rw [List.getElem?_append_right (by rw [List.length_take, smT_len]; omega)] at hi
  have := List.mem_of_getElem? hi
  rw [(List.mem_replicate.1 this).2]
  exact bd0
theorem MOK.arcsL {base : Int} {sts : List StP} (h : MOK base sts) {i : Nat} {s : StP} (hs : sts[i]? = some s) : s.arcs.length <= 4096 := by
 have hi := (List.getElem?_eq_some_iff.1 hs).1
 have fm := h.fm i s hs
 have e1 : (wt sts).getD i [] = w0P s ++ wa (wt sts) s.arcs := by rw [List.getD_eq_getElem?_getD, wt_at hs (h.fm.to hs)]; rfl
 have hw := (h.wd i hi).1
 rw [e1, List.length_append] at hw
 have : ∀ l : List ArcP, (∀ a ∈ l, (wt sts).getD a.to.toNat [] ≠ []) -> l.length <= (wa (wt sts) l).length := by
  intro l
  induction l with
  | nil => intro _; exact Nat.zero_le _
  | cons a l ih =>
   intro hl
   have h1 := List.length_pos_iff.2 (hl a (by simp))
   have h2 := ih fun b hb => hl b (by simp [hb])
   simp only [wa, List.flatMap_cons, List.length_append, List.length_map, List.length_cons] at h2 ⊢
   omega
 have := this s.arcs fun a ha => (sm_words h.fm a.to.toNat (by have := (fm.arc a ha).to; omega)).2.1
 omega
structure KeE where
 k : Int × Int × Int × Int
 ao : Option Addr
 cap : Nat
 js : List Nat
 g : PH
def jsV (l : List Nat) : List Value := l.map fun q => Value.int .i64 ((q : Nat) : Int)
def keM (es : List KeE) : List ((Int × Int × Int × Int) × Value) := es.map fun e => (e.k, .slice e.ao e.js.length e.cap)
theorem keM_keys (es : List KeE) : (keM es).map (·.1) = es.map (·.k) := by simp [keM]
theorem keM_get : ∀ {es : List KeE} {k : Int × Int × Int × Int} {v : Value}, mget k (keM es) = some v -> ∃ e1 e e2, es = e1 ++ e :: e2 /\ e.k = k /\ v = .slice e.ao e.js.length e.cap
 | [], k, v, h => by simp [keM, mget] at h
 | e :: es, k, v, h => by
  simp only [keM, List.map_cons, mget] at h
  split at h
  ·rename_i hk
   exact ⟨[], e, es, rfl, hk.symm, (Option.some.inj h).symm⟩
  ·obtain ⟨e1, e', e2, h1, h2, h3⟩ := keM_get (es := es) h
   exact ⟨e :: e1, e', e2, by rw [h1]; rfl, h2, h3⟩
theorem keM_set {e1 e2 : List KeE} {e e' : KeE} (hn : ((e1 ++ e :: e2).map (·.k)).Nodup) (hk : e'.k = e.k) : mset e.k (.slice e'.ao e'.js.length e'.cap) (keM (e1 ++ e :: e2)) = keM (e1 ++ e' :: e2) := by
 induction e1 with
 | nil => simp [keM, mset, hk]
 | cons x e1 ih =>
  have hn := List.nodup_cons.1 (show (x.k :: (e1 ++ e :: e2).map (·.k)).Nodup from hn)
  have hne : ¬ e.k = x.k := fun h => hn.1 (by rw [<- h]; simp)
  have := ih hn.2
  simp only [keM, List.cons_append, List.map_cons, mset, hne, if_false] at this ⊢
  rw [this]
structure KeI (j : Nat) (e : KeE) (t : Nat) : Prop where
 own : Own e.g e.ao e.js.length e.cap t 1 (jsV e.js)
 lt : ∀ q ∈ e.js, q < j
 len : e.js.length <= j
section lk
variable {P : Program} {T : Tab} {w0 : World} {ops : Array Oper} {Q : Exit -> Act -> World -> Prop} {rest rest' : List Oper} {n : Nat} {l l' : Sl} {K : PH} {hs : List PH} {κ : Type} [DecidableEq κ] {enc : κ -> Value} {h : PH} {b : Nat} {m : List (κ × Value)}
theorem lkuS (hT : TabOK P T) (k : Nat) {d t kt et : Nat} {o : Oper} {z v : Value} (j : κ) (u : Value) (h0 : lkAt T ops n k rest l = some (d, o, t, .map (some b), v, false, rest', l')) (hu : P.underlying t = some (.map kt et)) (hz : (P.info? et).bind (·.zero) = some z) (hK : KeyOK P kt enc) (hv : v = enc j) (hin : In K hs h) (hm : MpO enc id h b m)
  (hval : (mget j m = none /\ u = z) \/ mget j m = some u) (hk : WL P w0 ops Q rest' n ((d, u) :: l') K hs) : WL P w0 ops Q rest n l K hs := by
 refine lku hT k j h0 hu hz hK hv hin hm ?_
 rcases hval with ⟨g, rfl⟩ | g
 ·rw [g]; exact hk
 ·rw [g]; exact hk
end lk
theorem WQ.dropL {w0 : World} {Q : Exit -> Act -> World -> Prop} {e : Exit} {n : Nat} {l : Sl} {K : PH} {hs : List PH} : ∀ m : List PH, WQ w0 Q e n l K hs -> WQ w0 Q e n l K (m ++ hs)
 | [], h => h
 | _ :: m, h => WQ.drop (WQ.dropL m h)
structure RtS where
 j : Nat
 hm : PH
 es : List KeE
theorem smC_slO2 {b e : Nat} (xs : List SmP) (h : xs.length <= 1000000) : SlO 3 e smR (pt b (smC xs) e) (some ⟨b, 0, none⟩) xs.length xs.length xs :=
 ⟨xs.map smV, rfl, by simpa [smC] using Own.ofPt (b := b) (c := smC xs) (e := e) (n := xs.length) (size := 3) (smC_size xs) (by unfold maxLen; omega), smC_al xs, smC_ok xs⟩
end Go.En
namespace Go.Proofs.YtejkjbkodcamoaaGreatDoor
open Go.En
attribute [local irreducible] Code.wp wpList Calls
theorem rightG {w0 : World} {K : PH} {hs : List PH} (ss : List StP) (base : Int) (hM0 : MOK base ss) (aoS : Option Addr) (cS : Nat) (hS : SlS 3 (stR K) K aoS ss.length cS ss) (hG : LeastK K) :
  Ct Tryz.prog w0 105 [.agg #[.int .i64 base, .slice aoS ss.length cS]] K hs (fun v K' hs' => K' = K /\ hs' = hs /\ v = .bool true) := by
 have hne := hM0.ne
 have hle := hM0.len
 have hb := hM0.bas
 obtain ⟨R, hR⟩ : ∃ R, ss.length = R + 1 := ⟨ss.length - 1, by omega⟩
 obtain ⟨top, htop⟩ : ∃ s, ss[R]? = some s := ⟨_, List.getElem?_eq_getElem (by omega)⟩
 have hfin : top.fin = false := hM0.root top (by rw [hR]; exact htop)
 obtain ⟨ad, rfl⟩ := hS.addr (by omega) (by decide)
 obtain ⟨vs, xv⟩ := hS.isS
 refine enter Tryz.func105 (by kernel_rfl) rfl rfl rfl ?_
 refine sq (rg ?_)
 refine bx hT 0 rfl fun b1 => ?_
 refine fin hT 1 rfl (th (scp (sq (sq (rg ?_)))))
 refine ldp hT 1 0 rfl rfl rfl ?_
 refine cmp hT 1 rfl (fun h2 => absurd h2 (by omega)) (fun h2 => ?_)
 refine fin hT 0 rfl (th (ifF rfl (sk (th (sq (rg ?_))))))
 refine ldp hT 1 0 rfl rfl rfl ?_
 refine ar hT 1 rfl (v' := .int .i64 ((R : Nat) : Int)) (by rw [show ((ss.length : Nat) : Int) - 1 = ((R : Nat) : Int) from by omega]; exact i64w (by omega)) ?_
 refine fin hT 1 rfl (th (sq (sq (rg ?_))))
 refine ldp hT 1 0 rfl rfl rfl ?_
 refine cmp hT 0 rfl (fun h2 => absurd h2 (by omega)) (fun h2 => ?_)
 refine ldp hT 2 0 rfl rfl rfl ?_
 refine cmp hT 0 rfl (fun h3 => absurd h3 (by omega)) (fun h3 => ?_)
 refine cmp hT 3 rfl (fun h4 => absurd h4 (by omega)) (fun h4 => ?_)
 refine ldp hT 3 0 rfl rfl rfl ?_
 refine ixs hT 1 R rfl rfl xv (by omega) (by decide) fun a39 ha => ?_
 cases ha
 obtain ⟨csT, ⟨aoA, nA, cA, rfl, xA⟩, hcl, hcell⟩ := hS.cells htop
 refine ld hT 1 rfl (.inl rfl) (hcell 0 _ rfl) ?_
 rw [hfin]
 refine fin hT 1 rfl (th (ifF rfl (sk (th (sq (rg ?_))))))
 refine ldp hT 1 0 rfl rfl rfl ?_
 refine mksG hT 1 ss.length #[.int .i64 0, .int .i64 0, .int .i64 0] rfl rfl rfl (by kernel_rfl) rfl (by decide) (by show ss.length * 24 <= 2 ^ 47; omega) (by omega) (by omega) (by decide) fun bO => ?_
 rw [show (List.replicate ss.length (#[Value.int .i64 0, .int .i64 0, .int .i64 0] : Array Value).toList).flatten.toArray = smC (tbM ss 0) from by
  unfold smC
  rw [tbM_0, List.map_replicate]; rfl]
 refine fin hT 1 rfl (th (sq (rg ?_)))
 refine mkm hT 0 rfl fun bm => ?_
 refine fin hT 1 rfl (th (sq (lab (th (sq (sq (rg ?_)))))))
 refine ldp hT 1 2 rfl rfl rfl ?_
 refine fin hT 2 rfl (th (bk ?_))
 refine loop (σ := RtS) (fun x => [(1, .pointer (some ⟨b1, 0, none⟩)), (2, .bool false), (3, .int .i64 ((R : Nat) : Int)), (4, .slice (some ⟨bO, 0, none⟩) ss.length ss.length), (5, .map (some bm)), (49, .slice (some ad) ss.length cS), (50, .int .i64 ((ss.length : Nat) : Int)), (51, .int .i64 ((x.j : Nat) : Int))]) (fun _ => K)
  (fun x => x.hm :: pt bO (smC (tbM ss x.j)) 202 :: pt b1 #[.int .i64 base, .slice (some ad) ss.length cS] 137 :: (x.es.map (·.g) ++ hs))
  (fun x => x.j <= ss.length /\ MpO keyG id x.hm bm (keM x.es) /\ (x.es.map (·.k)).Nodup /\ ∀ e ∈ x.es, KeI x.j e 3) (fun x => ss.length - x.j) ⟨0, _, []⟩ ⟨Nat.zero_le _, MpO.empty bm 0, by simp, by simp⟩ ⟨rfl, rfl, rfl, rfl, rfl, rfl, rfl, rfl, trivial⟩ rfl rfl ?_
 rintro ⟨j, hm, es⟩ ⟨hj, hM, hnd, hes⟩
 dsimp only at *
 refine sq (rg ?_)
 refine cmpS hT 0 rfl fun b52 h52 => ?_
 refine fin hT 0 rfl (th (sq (ifP h52 rfl (fun e7 => ?_) (fun e7 => ?_))))
 ·have hjl : j < ss.length := by omega
  obtain ⟨s, hget⟩ : ∃ s, ss[j]? = some s := ⟨_, List.getElem?_eq_getElem hjl⟩
  have hfm : SFm j s := hM0.fm j s hget
  have hA1 := hM0.arcsL hget
  obtain ⟨cs, ⟨ao7, n7, c7, rfl, x7⟩, hcl7, hcell7⟩ := hS.cells hget
  obtain rfl := x7.len
  have htl := tbM_len ss hj
  have xO := smC_slO2 (b := bO) (e := 202) (tbM ss j) (by rw [htl]; omega)
  have xOS := xO.slS
  rw [htl] at xOS
  obtain ⟨vO, xvO⟩ := xOS.isS
  have hcg : ∀ l : List ArcP, (∀ a ∈ l, a ∈ s.arcs) -> l.foldl (smA (tbM ss j)) (sm0 s) = l.foldl (smA (smT ss)) (sm0 s) := fun l hl => smA_cong _ fun a ha => by
   have := (hfm.arc a (hl a ha)).to
   exact tbM_D ss (by omega) hj
  have hsm : (smT ss)[j]? = some (smS (tbM ss j) s) := by
   rw [smT_at hget (hM0.fm.to hget)]
   unfold smS
   rw [hcg s.arcs fun a ha => ha]
  refine sk (th (sq (bk (sq (rg ?_)))))
  refine ixs hT 1 j rfl rfl xv hjl (by decide) fun a54 ha => ?_
  cases ha
  refine lds hT 0 (stV s ao7 s.arcs.length c7) rfl (by kernel_rfl) (.inl rfl) hcell7 ?_
  refine al hT 0 (.agg #[.bool false, .int .i64 0, .slice none 0 0]) rfl (by kernel_rfl) fun b7 => ?_
  refine stS hT 1 0 rfl rfl (by kernel_rfl) rfl rfl ?_
  refine fin hT 0 rfl (th (sq (rg ?_)))
  refine ldS hT 0 0 rfl rfl (by kernel_rfl) ?_
  refine cl hT 1 rfl (formedC j s ao7 s.arcs.length c7 hfm x7 hG (by omega)) ?_
  rintro v58 K58 hs58 ⟨rfl, rfl, rfl⟩
  refine fin hT 1 rfl (th (sq (sq (rg ?_))))
  refine fin hT 1 rfl (th (ifT rfl ?_))
  refine rg ?_
  refine ldS hT 2 0 rfl rfl (by kernel_rfl) ?_
  refine cl hT 1 rfl (sumAC s ao7 s.arcs.length c7 (some ⟨bO, 0, none⟩) ss.length ss.length (tbM ss j) x7 (.inr ⟨2, rfl⟩) xOS (fun a ha => by have := (hfm.arc a ha).to; have := (hfm.arc a ha).out; rw [htl]; omega) (hM0.tbd hj) (fun i hi => by rw [hcg _ fun a ha => List.mem_of_mem_take ha]; exact hM0.sums hget i hi) (by omega)) ?_
  rintro v65 K65 hs65 ⟨rfl, rfl, rfl⟩
  refine ixs hT 3 j rfl rfl xvO hjl (by decide) fun a68 ha => ?_
  cases ha
  simp only [add_mk, Nat.zero_add]
  refine sts hT 0 2 rfl rfl (by kernel_rfl) (by rw [smC_size, htl]; show j * 3 + 3 <= _; omega) (fun v hv => by simp [smV] at hv; rcases hv with rfl | rfl | rfl <;> rfl) ?_
  rw [smC_set (j := j) (by rw [htl]; exact hjl), tbM_set ss hjl hsm]
  have hq4 : ∀ q, q < j -> ∃ sq aq cq, ss[q]? = some sq /\ SlS 3 arcR K65 aq sq.arcs.length cq sq.arcs /\ sq.arcs.length <= 4096 /\ ¬ s = sq /\ ∀ (i : Nat) v, (stV sq aq sq.arcs.length cq)[i]? = some v -> Cell K65 ((ad.add (q * 3)).add i) v := by
   intro q hq
   obtain ⟨sq, hsq⟩ : ∃ sq, ss[q]? = some sq := ⟨_, List.getElem?_eq_getElem (by omega)⟩
   obtain ⟨csq, ⟨aq, nq, cq, rfl, xq⟩, hclq, hcellq⟩ := hS.cells hsq
   obtain rfl := xq.len
   refine ⟨sq, aq, cq, hsq, xq, hM0.arcsL hsq, fun e => ?_, hcellq⟩
   subst e
   have := (List.getElem?_inj (by omega) hM0.nd).1 (hsq.trans hget.symm)
   omega
  refine fin hT 1 rfl (th (sq (sq (rg ?_))))
  refine fin hT 2 rfl (th (ifF rfl ?_))
  refine sk (th (sq (rg ?_)))
  refine ldS hT 0 0 rfl rfl (by kernel_rfl) ?_
  refine cl hT 0 rfl (keyQC s ao7 s.arcs.length c7 x7 (by omega) (fun a ha => by have h10 := (hfm.arc a ha).lb; have h11 := h10.2.2.1; omega)) ?_
  rintro v72 K72 hs72 ⟨rfl, rfl, rfl⟩
  refine al hT 0 (.agg #[.int .i64 0, .int .i64 0, .int .i64 0, .int .i64 0]) rfl (by kernel_rfl) fun b9 => ?_
  refine stS hT 0 0 rfl rfl (by kernel_rfl) rfl rfl ?_
  refine fin hT 0 rfl (th (sq (sq (rg ?_))))
  refine WL.hs (pt b9 #[.int .i64 (keyQ s).1, .int .i64 (keyQ s).2.1, .int .i64 (keyQ s).2.2.1, .int .i64 (keyQ s).2.2.2] 205 :: pt b7 (stV s ao7 s.arcs.length c7).toArray 177 :: hm :: pt bO (smC (tbM ss (j + 1))) 202 :: pt b1 #[.int .i64 base, .slice (some ad) ss.length cS] 137 :: (es.map (·.g) ++ hs)) rfl ?_
  refine ldS hT 1 0 rfl rfl (by kernel_rfl) ?_
  obtain ⟨ao9, c9, js9, hq9, hin9, xs9, hlt9, hlen9, hval⟩ : ∃ ao9 c9 js9 hq9, In K72 (pt b9 #[.int .i64 (keyQ s).1, .int .i64 (keyQ s).2.1, .int .i64 (keyQ s).2.2.1, .int .i64 (keyQ s).2.2.2] 205 :: pt b7 (stV s ao7 s.arcs.length c7).toArray 177 :: hm :: pt bO (smC (tbM ss (j + 1))) 202 :: pt b1 #[.int .i64 base, .slice (some ad) ss.length cS] 137 :: (es.map (·.g) ++ hs)) hq9 /\
    IsS hq9 ao9 js9.length c9 1 (jsV js9) /\ (∀ q ∈ js9, q < j) /\ js9.length <= j /\ ((mget (keyQ s) (keM es) = none /\ Value.slice ao9 js9.length c9 = .slice none 0 0) \/ mget (keyQ s) (keM es) = some (.slice ao9 js9.length c9)) := by
   cases hg : mget (keyQ s) (keM es) with
   | none => exact ⟨none, 0, [], K72, .inl rfl, IsS.nil _ _ _ _, by simp, Nat.zero_le _, .inl ⟨rfl, rfl⟩⟩
   | some v =>
    obtain ⟨e1, e, e2, g1, g2, rfl⟩ := keM_get hg
    have he := hes e (by rw [g1]; simp)
    exact ⟨e.ao, e.cap, e.js, e.g, .inr (List.mem_iff_getElem?.1 (by rw [g1]; simp)), he.own.isS, he.lt, he.len, .inr rfl⟩
  refine lkuS hT 0 (z := .slice none 0 0) (keyQ s) (.slice ao9 js9.length c9) rfl Tryz.underlying199 (by kernel_rfl) keyOK4 rfl (.inr ⟨2, rfl⟩) hM hval ?_
  refine fin hT 2 rfl (th (bk ?_))
  refine loop (σ := Nat) (fun p => [(1, .pointer (some ⟨b1, 0, none⟩)), (2, .bool false), (3, .int .i64 ((R : Nat) : Int)), (4, .slice (some ⟨bO, 0, none⟩) ss.length ss.length), (5, .map (some bm)), (6, .int .i64 ((j : Nat) : Int)), (7, .pointer (some ⟨b7, 0, none⟩)), (9, .pointer (some ⟨b9, 0, none⟩)), (49, .slice (some ad) ss.length cS), (50, .int .i64 ((ss.length : Nat) : Int)), (51, .int .i64 ((j : Nat) : Int)), (75, .slice ao9 js9.length c9), (76, .int .i64 ((js9.length : Nat) : Int)), (77, .int .i64 ((p : Nat) : Int))]) (fun _ => K72)
   (fun _ => pt b9 #[.int .i64 (keyQ s).1, .int .i64 (keyQ s).2.1, .int .i64 (keyQ s).2.2.1, .int .i64 (keyQ s).2.2.2] 205 :: pt b7 (stV s ao7 s.arcs.length c7).toArray 177 :: hm :: pt bO (smC (tbM ss (j + 1))) 202 :: pt b1 #[.int .i64 base, .slice (some ad) ss.length cS] 137 :: (es.map (·.g) ++ hs)) (fun p => p <= js9.length) (fun p => js9.length - p) 0 (Nat.zero_le _) ⟨rfl, rfl, rfl, rfl, rfl, rfl, rfl, rfl, rfl, rfl, rfl, rfl, rfl, rfl, trivial⟩ rfl rfl ?_
  intro p hp
  refine sq (rg ?_)
  refine cmpS hT 0 rfl fun b78 h78 => ?_
  refine fin hT 0 rfl (th (sq (ifP h78 rfl (fun e22 => ?_) (fun e22 => ?_))))
  ·have hpl : p < js9.length := by omega
   obtain ⟨q, hqe⟩ : ∃ q, js9[p]? = some q := ⟨_, List.getElem?_eq_getElem hpl⟩
   have hqj := hlt9 q (List.mem_of_getElem? hqe)
   obtain ⟨sq', aq, cq, hsq, xq, hql, hne', hcq⟩ := hq4 q hqj
   refine sk (th (sq (bk (sq (rg ?_)))))
   refine ix1 hT 0 p rfl rfl rfl xs9 (show (jsV js9)[p]? = some (.int .i64 ((q : Nat) : Int)) by unfold jsV; rw [List.getElem?_map, hqe]; rfl) fun a79 hc79 => ?_
   refine ld hT 0 rfl hin9 hc79 ?_
   refine fin hT 1 rfl (th (sq (rga [pt b7 (stV s ao7 s.arcs.length c7).toArray 177, pt b1 #[.int .i64 base, .slice (some ad) ss.length cS] 137] 7 [0, 2, 4, 6, 8, 10, 13] (by simp) (by kernel_rfl) (by kernel_rfl) ?_)))
   refine dldS hT (by kernel_rfl) 0 0 rfl (by kernel_rfl) rfl (by kernel_rfl) ?_
   refine dldp hT (by kernel_rfl) 1 1 rfl rfl rfl ?_
   refine dixs hT (by kernel_rfl) 1 q rfl rfl (by omega) ?_
   refine dlds hT (by kernel_rfl) 0 (stV sq' aq sq'.arcs.length cq) rfl (by kernel_rfl) (by kernel_rfl) (.inl rfl) hcq ?_
   refine dact hT (by kernel_rfl) 0 rfl ?_
   refine cl hT 0 rfl (alikeC s sq' ao7 s.arcs.length c7 aq sq'.arcs.length cq x7 xq (by omega) (by omega)) ?_
   rintro v87 K87 hs87 ⟨rfl, rfl, b87, rfl, h87⟩
   obtain rfl : b87 = false := by cases b87 with
    | false => rfl
    | true => exact absurd (h87.1 rfl) hne'
   refine dnex [pt b7 (stV s ao7 s.arcs.length c7).toArray 177, pt b1 #[.int .i64 base, .slice (some ad) ss.length cS] 137] (by simp) (by simp) rfl ?_
   refine dend hT (by kernel_rfl) 0 rfl (th (ifF rfl ?_))
   refine sk (bl (th (rg ?_)))
   refine ar hT 0 rfl (i64w (x := ((p + 1 : Nat) : Int)) (by omega)) ?_
   refine fin hT 1 rfl ?_
   exact again (x := p) (p + 1) ⟨rfl, rfl, rfl, rfl, rfl, rfl, rfl, rfl, rfl, rfl, rfl, rfl, rfl, rfl, trivial⟩ rfl rfl hpl (by omega)
  ·refine ex (xt (xt (xb (th (rg ?_)))))
   refine ldS hT 1 0 rfl rfl (by kernel_rfl) ?_
   refine lit hT 1 #[.int .i64 ((j : Nat) : Int)] rfl (by decide) (by kernel_rfl) fun b93 => ?_
   have hup : ∀ e ∈ es, KeI (j + 1) e 3 := fun e he => ⟨(hes e he).own, fun q hq => by have := (hes e he).lt q hq; omega, by have := (hes e he).len; omega⟩
   cases hg : mget (keyQ s) (keM es) with
   | none =>
    refine mpe hT 0 3 (z := .slice none 0 0) (keyQ s) rfl rfl Tryz.underlying199 (by kernel_rfl) keyOK4 rfl hM hg fun hm2 cc hE => ?_
    refine WL.em ?_
    refine app hT 1 0 rfl rfl (Own.nil _ _) (.inr ⟨1, rfl⟩) (Own.ofPt (b := b93) (c := #[.int .i64 ((j : Nat) : Int)]) (e := 3) (n := 1) (size := 1) rfl (by simp [maxLen])).isS rfl (by decide) (fun u hu => by simp at hu; subst hu; rfl) (by decide) (by simp [maxLen]) fun ao95 c95 g95 o95 => ?_
    refine ets hT 1 4 rfl rfl rfl hE fun hm3 hM3 => ?_
    refine fin hT 0 rfl (bl (th (rg (WL.perm (hs' := pt b93 #[.int .i64 ((j : Nat) : Int)] 3 :: pt b9 #[.int .i64 (keyQ s).1, .int .i64 (keyQ s).2.1, .int .i64 (keyQ s).2.2.1, .int .i64 (keyQ s).2.2.2] 205 :: pt b7 (stV s ao7 s.arcs.length c7).toArray 177 :: hm3 :: pt bO (smC (tbM ss (j + 1))) 202 :: pt b1 #[.int .i64 base, .slice (some ad) ss.length cS] 137 :: ((es ++ [(⟨keyQ s, ao95, c95, [j], g95⟩ : KeE)]).map (·.g) ++ hs)) ?_ (WL.drop (WL.drop (WL.drop ?_)))))))
    ·have h1 := (List.perm_middle (a := g95) (l₁ := [pt b93 #[.int .i64 ((j : Nat) : Int)] 3, pt b9 #[.int .i64 (keyQ s).1, .int .i64 (keyQ s).2.1, .int .i64 (keyQ s).2.2.1, .int .i64 (keyQ s).2.2.2] 205, pt b7 (stV s ao7 s.arcs.length c7).toArray 177, hm3, pt bO (smC (tbM ss (j + 1))) 202, pt b1 #[.int .i64 base, .slice (some ad) ss.length cS] 137] ++ es.map (·.g)) (l₂ := hs)).symm
     simpa [List.append_assoc] using h1
    refine ar hT 0 rfl (i64w (x := ((j + 1 : Nat) : Int)) (by omega)) ?_
    refine fin hT 1 rfl ?_
    refine again (x := (⟨j, hm, es⟩ : RtS)) (⟨j + 1, hm3, es ++ [(⟨keyQ s, ao95, c95, [j], g95⟩ : KeE)]⟩ : RtS) ⟨rfl, rfl, rfl, rfl, rfl, rfl, rfl, rfl, trivial⟩ rfl rfl ⟨by dsimp only; omega, ?_, ?_, ?_⟩ (by dsimp only; omega)
    ·dsimp only
     have : keM (es ++ [(⟨keyQ s, ao95, c95, [j], g95⟩ : KeE)]) = keM es ++ [(keyQ s, .slice ao95 (0 + 1) c95)] := by simp [keM]
     rw [this]; exact hM3
    ·dsimp only
     have hni := mget_none.1 hg
     rw [keM_keys] at hni
     rw [List.map_append, List.nodup_append]
     refine ⟨hnd, by simp, fun a ha b hb e => ?_⟩
     simp only [List.map_cons, List.map_nil, List.mem_singleton] at hb
     rw [e, hb] at ha
     exact hni ha
    ·dsimp only
     intro e he
     rcases List.mem_append.1 he with he | he
     ·exact hup e he
     ·rw [List.mem_singleton.1 he]
      exact ⟨by simpa [jsV] using o95, fun q hq => by simp at hq; omega, by simp⟩
   | some v =>
    obtain ⟨e1, e, e2, rfl, hke, rfl⟩ := keM_get hg
    have he := hes e (by simp)
    have hel := he.len
    refine WL.perm (hs' := e.g :: pt b93 #[.int .i64 ((j : Nat) : Int)] 3 :: pt b9 #[.int .i64 (keyQ s).1, .int .i64 (keyQ s).2.1, .int .i64 (keyQ s).2.2.1, .int .i64 (keyQ s).2.2.2] 205 :: pt b7 (stV s ao7 s.arcs.length c7).toArray 177 :: hm :: pt bO (smC (tbM ss (j + 1))) 202 :: pt b1 #[.int .i64 base, .slice (some ad) ss.length cS] 137 :: (e1.map (·.g) ++ (e2.map (·.g) ++ hs))) ?_ ?_
    ·have h1 := List.perm_middle (a := e.g) (l₁ := [pt b93 #[.int .i64 ((j : Nat) : Int)] 3, pt b9 #[.int .i64 (keyQ s).1, .int .i64 (keyQ s).2.1, .int .i64 (keyQ s).2.2.1, .int .i64 (keyQ s).2.2.2] 205, pt b7 (stV s ao7 s.arcs.length c7).toArray 177, hm, pt bO (smC (tbM ss (j + 1))) 202, pt b1 #[.int .i64 base, .slice (some ad) ss.length cS] 137] ++ e1.map (·.g)) (l₂ := e2.map (·.g) ++ hs)
     simpa [List.append_assoc] using h1
    refine mpx hT 0 4 (keyQ s) rfl rfl Tryz.underlying199 keyOK4 rfl hM hg fun hm2 cc hE => ?_
    refine app hT 1 0 rfl rfl he.own (.inr ⟨1, rfl⟩) (Own.ofPt (b := b93) (c := #[.int .i64 ((j : Nat) : Int)]) (e := 3) (n := 1) (size := 1) rfl (by simp [maxLen])).isS rfl (by decide) (fun u hu => by simp at hu; subst hu; rfl) (by show (e.js.length + 1) * 8 <= _; omega) (by simp only [maxLen]; omega) fun ao95 c95 g95 o95 => ?_
    refine etx hT 1 4 rfl rfl rfl hE fun hm3 hM3 => ?_
    refine fin hT 0 rfl (bl (th (rg (WL.perm (hs' := pt b93 #[.int .i64 ((j : Nat) : Int)] 3 :: pt b9 #[.int .i64 (keyQ s).1, .int .i64 (keyQ s).2.1, .int .i64 (keyQ s).2.2.1, .int .i64 (keyQ s).2.2.2] 205 :: pt b7 (stV s ao7 s.arcs.length c7).toArray 177 :: hm3 :: pt bO (smC (tbM ss (j + 1))) 202 :: pt b1 #[.int .i64 base, .slice (some ad) ss.length cS] 137 :: ((e1 ++ (⟨e.k, ao95, c95, e.js ++ [j], g95⟩ : KeE) :: e2).map (·.g) ++ hs)) ?_ (WL.drop (WL.drop (WL.drop ?_)))))))
    ·have h1 := (List.perm_middle (a := g95) (l₁ := [pt b93 #[.int .i64 ((j : Nat) : Int)] 3, pt b9 #[.int .i64 (keyQ s).1, .int .i64 (keyQ s).2.1, .int .i64 (keyQ s).2.2.1, .int .i64 (keyQ s).2.2.2] 205, pt b7 (stV s ao7 s.arcs.length c7).toArray 177, hm3, pt bO (smC (tbM ss (j + 1))) 202, pt b1 #[.int .i64 base, .slice (some ad) ss.length cS] 137] ++ e1.map (·.g)) (l₂ := e2.map (·.g) ++ hs)).symm
     simpa [List.append_assoc] using h1
    refine ar hT 0 rfl (i64w (x := ((j + 1 : Nat) : Int)) (by omega)) ?_
    refine fin hT 1 rfl ?_
    refine again (x := (⟨j, hm, e1 ++ e :: e2⟩ : RtS)) (⟨j + 1, hm3, e1 ++ (⟨e.k, ao95, c95, e.js ++ [j], g95⟩ : KeE) :: e2⟩ : RtS) ⟨rfl, rfl, rfl, rfl, rfl, rfl, rfl, rfl, trivial⟩ rfl rfl ⟨by dsimp only; omega, ?_, ?_, ?_⟩ (by dsimp only; omega)
    ·dsimp only
     rw [<- keM_set (e := e) (e' := (⟨e.k, ao95, c95, e.js ++ [j], g95⟩ : KeE)) hnd rfl]
     dsimp only
     rw [List.length_append, hke]
     exact hM3
    ·dsimp only
     simpa using hnd
    ·dsimp only
     intro x hx
     rcases List.mem_append.1 hx with hx | hx
     ·exact hup x (by simp [hx])
     ·rcases List.mem_cons.1 hx with rfl | hx
      ·refine ⟨?_, fun q hq => ?_, by dsimp only; rw [List.length_append]; simp only [List.length_cons, List.length_nil]; omega⟩
       ·dsimp only
        rw [List.length_append]
        simpa [jsV] using o95
       ·rcases List.mem_append.1 hq with hq | hq
        ·have := he.lt q hq; omega
        ·simp at hq; omega
      ·exact hup x (by simp [hx])
 ·obtain rfl : j = ss.length := by omega
  have hT0 := hM0.topT
  rw [show ss.length - 1 = R by omega] at hT0
  obtain ⟨t, ht⟩ : ∃ t, t = (smT ss).getD R sm00 := ⟨_, rfl⟩
  rw [<- ht] at hT0
  have h20 : (smT ss)[R]? = some t := by
   rw [ht, List.getD_eq_getElem?_getD, List.getElem?_eq_getElem (by rw [smT_len]; omega)]; rfl
  have hcell2 : (smC (smT ss))[R * 3 + 2]? = some (.int .i64 t.t) := by
   have := flat_get (smC_ok (smT ss)) (i := R) (c := smV t) (by rw [List.getElem?_map, h20]; rfl) 2 (.int .i64 t.t) rfl
   simpa [smC] using this
  rw [tbM_end]
  refine ex (xt (xt (xb (th (sq (rga [pt bO (smC (smT ss)) 202, pt b1 #[.int .i64 base, .slice (some ad) ss.length cS] 137] 18 [0, 2, 4, 6, 8, 10, 12, 14, 16, 18, 20, 22, 24, 26, 28, 31, 32, 34] (by simp) (by kernel_rfl) (by kernel_rfl) ?_))))))
  refine dcb hT (by kernel_rfl) 1 rfl (fun h13 => ?_) (fun h13 => absurd h13 (by simp))
  refine dldp hT (by kernel_rfl) 2 1 rfl rfl rfl ?_
  refine dixs hT (by kernel_rfl) 2 R rfl rfl (by omega) ?_
  simp only [add_mk, Nat.zero_add]
  refine dldp hT (by kernel_rfl) 1 0 rfl rfl (v := .int .i64 t.t) hcell2 ?_
  refine dar hT (by kernel_rfl) 0 rfl (i64w (x := base + t.t) (by omega)) ?_
  refine dcmp hT (by kernel_rfl) 0 (base + t.t <= 1048576) rfl (by simp) (fun h14 => ?_) (fun h14 => absurd hT0.2 h14)
  refine dldS hT (by kernel_rfl) 2 1 rfl (by kernel_rfl) rfl (by kernel_rfl) ?_
  refine dact hT (by kernel_rfl) 0 rfl ?_
  refine cl hT 0 rfl (numberedG ss hM0.fm hM0.vis hne base (some ad) cS hS (by omega) (fun s hs => by obtain ⟨i, hi⟩ := List.mem_iff_getElem?.1 hs; have := hM0.arcsL hi; omega)) ?_
  rintro v113 K113 hs113 ⟨rfl, rfl, rfl⟩
  refine dnex [pt bO (smC (smT ss)) 202, pt b1 #[.int .i64 base, .slice (some ad) ss.length cS] 137] (by simp) (by simp) rfl ?_
  refine dend hT (by kernel_rfl) 2 rfl (th (rt (ngR (WQ.drop (WQ.drop (WQ.drop (WQ.dropL _ ?_)))))))
  exact ret1 rfl rfl ⟨rfl, rfl, rfl⟩
end Go.Proofs.YtejkjbkodcamoaaGreatDoor
end
section
namespace Go.En
theorem arcs_one : ∀ {css : List (List Value)} {l : List ArcP}, Al2 arcR css l -> ∀ u ∈ css.flatten, u.oneCell' = true
 | [], [], _, u, hu => by simp at hu
 | c :: css, x :: l, h, u, hu => by
  rw [List.flatten_cons, List.mem_append] at hu
  rcases hu with hu | hu
  ·have e : c = arcV x := h.1
   subst e
   simp [arcV] at hu
   rcases hu with rfl | rfl | rfl <;> rfl
  ·exact arcs_one h.2 u hu
 | _ :: _, [], h, _, _ => h.elim
 | [], _ :: _, h, _, _ => h.elim
structure WalkK (K : PH) (b : Nat) (base : Int) (sts : List StP) : Prop where
 bas : Cell K ⟨b, 0, none⟩ (.int .i64 base)
 sta : ∃ a c, Cell K ⟨b, 1, none⟩ (.slice (some a) sts.length c) /\ SlS 3 (stR K) K (some a) sts.length c sts
end Go.En
namespace Go.Proofs.YtejkjbkodcamoaaGreatDoor
open Go.En
attribute [local irreducible] Code.wp wpList Calls
theorem cloneAC {w0 : World} {K : PH} {hs : List PH} (ao : Option Addr) (n c : Nat) (l : List ArcP) (x : SlS 3 arcR K ao n c l) (hl : n <= 1000000) : Ct Tryz.prog w0 106 [.slice ao n c] K hs
  (fun v K' hs' => Le K K' /\ hs' = hs /\ ∃ ao' c', v = .slice ao' n c' /\ SlS 3 arcR K' ao' n c' l) := by
 cases ao with
 | none =>
  obtain rfl : n = 0 := by
   rcases Nat.eq_zero_or_pos n with h | h
   ·exact h
   ·obtain ⟨a, ha⟩ := x.addr h (by decide); cases ha
  have hl0 : l = [] := List.eq_nil_of_length_eq_zero x.len.symm
  subst hl0
  refine enter Tryz.func106 (by kernel_rfl) rfl rfl rfl ?_
  refine sq (rg ?_)
  refine fin hT 1 rfl (th (sq (sq (rg ?_))))
  refine cbS hT 1 True rfl (by simp) fun b4 h4 => ?_
  refine fin hT 0 rfl (th (ifP h4 rfl (fun e2 => ?_) (fun e2 => absurd trivial e2)))
  refine sq (rg ?_)
  refine fin hT 1 rfl (th (rt (rT ?_)))
  exact ret1 rfl rfl ⟨Le.refl _, rfl, none, _, rfl, SlS.nil _ _ _ _⟩
 | some a =>
  obtain rfl := x.len
  refine enter Tryz.func106 (by kernel_rfl) rfl rfl rfl ?_
  refine sq (rg ?_)
  refine fin hT 1 rfl (th (sq (sq (rg ?_))))
  refine cbS hT 1 False rfl (by simp) fun b4 h4 => ?_
  refine fin hT 0 rfl (th (ifP h4 rfl (fun e2 => e2.elim) (fun e2 => ?_)))
  refine sk (th (sq (rg ?_)))
  refine lit hT 0 #[] rfl (by decide) (by kernel_rfl) fun b5 => ?_
  obtain ⟨css, q1, q2, q3, q4⟩ := x
  refine app hT 1 0 rfl rfl (Own.ofPt (b := b5) (c := #[]) (e := 180) (n := 0) (size := 3) rfl (by simp [maxLen])) (.inl rfl) q2 rfl (by decide) (arcs_one q3) (by show (0 + l.length) * 24 <= _; omega) (by simp only [maxLen]; omega) fun ao7 c7 g7 o7 => ?_
  refine fin hT 1 rfl (th (rt (WQ.frz fun K2 le1 le2 => ?_)))
  refine ret1 rfl rfl ⟨le1, rfl, ao7, c7, by rw [Nat.zero_add], ⟨css, rfl, ?_, q3, q4⟩⟩
  have := o7.isS.le le2
  simpa using this
end Go.Proofs.YtejkjbkodcamoaaGreatDoor
namespace Go.En
attribute [local irreducible] Code.wp wpList Calls
section joinx
variable {P : Program} {w0 : World} {Q : Exit -> Act -> World -> Prop} {n : Nat} {l : Sl} {K : PH} {hs : List PH} {r : Option Nat} {ds : List Deferred}
def JX (ds : List Deferred) (w0 : World) {σ : Type} (F : σ -> Sl) (HK : σ -> PH) (H : σ -> List PH) (J : σ -> Prop) (n : Nat) (Q : Exit -> Act -> World -> Prop) : Exit -> Act -> World -> Prop
 | .normal, a', w => ∃ s a, J s /\ a' = wd ds a /\ Ag n (F s) a /\ Sat w0 w (HK s) (H s)
 | e, a, w => Q e a w
theorem jnX {σ : Type} {x y : Code} (F : σ -> Sl) (HK : σ -> PH) (H : σ -> List PH) (J : σ -> Prop) (h1 : WX P w0 r ds x (JX ds w0 F HK H J n Q) n l K hs) (h2 : ∀ s, J s -> WX P w0 r ds y Q n (F s) (HK s) (H s)) : WX P w0 r ds (.seq x y) Q n l K hs :=
 sqX fun a w ha hw => wpIn_mono (h1 a w ha hw) (fun e a w h => by
  cases e with
  | normal => obtain ⟨s, a1, hJ, rfl, ha, hw⟩ := h; exact h2 s hJ a1 w ha hw
  | _ => exact h)
theorem jxX {σ : Type} {F : σ -> Sl} {HK : σ -> PH} {H : σ -> List PH} {J : σ -> Prop} (s : σ) (hJ : J s) (hF : Sub l (F s)) (hK : K = HK s) (hH : hs = H s) : WQX ds w0 (JX ds w0 F HK H J n Q) .normal n l K hs :=
 fun a w ha hw => ⟨s, a, hJ, rfl, ha.sub hF, by rw [<- hK, <- hH]; exact hw⟩
end joinx
end Go.En
namespace Go.Proofs.YtejkjbkodcamoaaGreatDoor
open Go.En
attribute [local irreducible] Code.wp wpList Calls
end Go.Proofs.YtejkjbkodcamoaaGreatDoor
namespace Go.Proofs.YtejkjbkodcamoaaGreatDoor
open Go.En
attribute [local irreducible] Code.wp wpList Calls
end Go.Proofs.YtejkjbkodcamoaaGreatDoor
end
section
namespace Go.En
def cP (sts : List StP) (i : Nat) : Nat := ((wt sts).getD i []).length
def cV (sts : List StP) (n : Nat) : List Value := (List.range n).map fun i : Nat => Value.int .i64 ((cP sts i : Nat) : Int)
def pfx (sts : List StP) (s : StP) (j : Nat) : Nat := (w0P s ++ wa (wt sts) (s.arcs.take j)).length
theorem pfx_next {sts : List StP} {s : StP} {j : Nat} {a : ArcP} (h : s.arcs[j]? = some a) : pfx sts s (j + 1) = pfx sts s j + cP sts a.to.toNat := by
 have ht : s.arcs.take (j + 1) = s.arcs.take j ++ [a] := by rw [List.take_add_one, h]; rfl
 unfold pfx cP
 rw [ht]
 simp [wa, List.flatMap_append]
 omega
theorem pfx_end {sts : List StP} (hf : LFm sts) {i : Nat} {s : StP} (hs : sts[i]? = some s) : pfx sts s s.arcs.length = cP sts i := by
 have e1 : (wt sts).getD i [] = w0P s ++ wa (wt sts) s.arcs := by rw [List.getD_eq_getElem?_getD, wt_at hs (hf.to hs)]; rfl
 unfold pfx cP
 rw [e1, List.take_length]
theorem pfx_mono (sts : List StP) (s : StP) (j : Nat) : pfx sts s j <= pfx sts s s.arcs.length := by
 unfold pfx
 rw [List.take_length, List.length_append, List.length_append]
 have e2 : wa (wt sts) s.arcs = wa (wt sts) (s.arcs.take j) ++ wa (wt sts) (s.arcs.drop j) := by
  unfold wa
  rw [<- List.flatMap_append, List.take_append_drop]
 rw [e2, List.length_append]
 omega
theorem MOK.cnt {base : Int} {sts : List StP} (h : MOK base sts) {i : Nat} (hi : i < sts.length) : cP sts i <= 4096 := (h.wd i hi).1
structure NwS where
 j : Nat
 K : PH
 gS : PH
 gN : PH
 aoW : Option Addr
 cW : Nat
 aoN : Option Addr
 cN : Nat
end Go.En
namespace Go.Proofs.YtejkjbkodcamoaaGreatDoor
open Go.En
attribute [local irreducible] Code.wp wpList Calls
theorem newWG {w0 : World} {K : PH} {hs : List PH} (ss : List StP) (base : Int) (hM0 : MOK base ss) (aoS : Option Addr) (cS : Nat) (hS : SlS 3 (stR K) K aoS ss.length cS ss) (hG : LeastK K) :
  Ct Tryz.prog w0 65 [.agg #[.int .i64 base, .slice aoS ss.length cS]] K hs (fun v K' hs' => Le K K' /\ hs' = hs /\ ∃ b, v = .tuple #[.pointer (some ⟨b, 0, none⟩), .bool true] /\ WalkK K' b base ss) := by
 have hne := hM0.ne
 have hle := hM0.len
 have hS' := hS
 obtain ⟨ad, rfl⟩ := hS.addr (by omega) (by decide)
 obtain ⟨vs, xv⟩ := hS.isS
 refine enter Tryz.func65 (by kernel_rfl) rfl rfl rfl ?_
 refine sq (rg ?_)
 refine bx hT 0 rfl fun b1 => ?_
 refine fin hT 2 rfl (th (sq (sq (rg ?_))))
 refine ldS hT 0 0 rfl rfl (by kernel_rfl) ?_
 refine cl hT 0 rfl (rightG ss base hM0 (some ad) cS hS hG) ?_
 rintro v11 K11 hs11 ⟨rfl, rfl, rfl⟩
 refine fin hT 1 rfl (th (ifF rfl (sk (th (sq (rg ?_))))))
 refine ldp hT 1 0 rfl rfl rfl ?_
 refine bd hT 0 (.agg #[.int .i64 base, .slice none 0 0, .slice none 0 0]) rfl (fun w => by kernel_rfl) ?_
 refine bx hT 0 rfl fun b16 => ?_
 refine fin hT 1 rfl (th (sq (sq (rg ?_))))
 refine ldp hT 1 1 rfl rfl rfl ?_
 refine fin hT 2 rfl (th (bk (WC.em (WC.em ?_))))
 refine loop (σ := NwS) (fun x => [(2, .pointer none), (3, .bool false), (4, .pointer (some ⟨b16, 0, none⟩)), (18, .slice (some ad) ss.length cS), (19, .int .i64 ((ss.length : Nat) : Int)), (20, .int .i64 ((x.j : Nat) : Int))]) (fun x => x.K)
  (fun x => x.gS :: x.gN :: pt b16 #[.int .i64 base, .slice x.aoW x.j x.cW, .slice x.aoN x.j x.cN] 162 :: pt b1 #[.int .i64 base, .slice (some ad) ss.length cS] 137 :: hs)
  (fun x => x.j <= ss.length /\ Le K11 x.K /\ SlO 3 177 (stR x.K) x.gS x.aoW x.j x.cW (ss.take x.j) /\ Own x.gN x.aoN x.j x.cN 3 1 (cV ss x.j)) (fun x => ss.length - x.j) ⟨0, K11, em, em, none, 0, none, 0⟩
  ⟨Nat.zero_le _, Le.refl _, SlO.nil _ _, Own.nil _ _⟩ ⟨rfl, rfl, rfl, rfl, rfl, rfl, trivial⟩ rfl rfl ?_
 rintro ⟨j, K, gS, gN, aoW, cW, aoN, cN⟩ ⟨hj, le0, oS, oN⟩
 dsimp only at *
 refine sq (rg ?_)
 refine cmpS hT 0 rfl fun b21 h21 => ?_
 refine fin hT 0 rfl (th (sq (ifP h21 rfl (fun e3 => ?_) (fun e3 => ?_))))
 ·have hjl : j < ss.length := by omega
  obtain ⟨s, hget⟩ : ∃ s, ss[j]? = some s := ⟨_, List.getElem?_eq_getElem hjl⟩
  have hfm := hM0.fm j s hget
  have hA1 := hM0.arcsL hget
  have hpe := pfx_end hM0.fm hget
  have hcj := hM0.cnt hjl
  obtain ⟨vs2, xv2⟩ := (hS.le le0 (fun _ _ h => h)).isS
  obtain ⟨cs, ⟨ao7, n7, c7, rfl, x7⟩, hcl7, hcell7⟩ := (stS_le le0 hS).cells hget
  obtain rfl := x7.len
  refine sk (th (sq (bk (sq (rg ?_)))))
  refine ixs hT 0 j rfl rfl xv2 hjl (by decide) fun a22 ha => ?_
  cases ha
  refine lds hT 0 (stV s ao7 s.arcs.length c7) rfl (by kernel_rfl) (.inl rfl) hcell7 ?_
  refine al hT 0 (.agg #[.bool false, .int .i64 0, .slice none 0 0]) rfl (by kernel_rfl) fun b6 => ?_
  refine stS hT 0 0 rfl rfl (by kernel_rfl) rfl rfl ?_
  refine fin hT 0 rfl (th (sq (rg ?_)))
  refine ldp hT 1 0 rfl rfl rfl ?_
  refine cl hT 0 rfl (cloneAC ao7 s.arcs.length c7 s.arcs x7 (by omega)) ?_
  rintro v26 K26 hs26 ⟨le26, rfl, ao2, c2, rfl, x2⟩
  refine stp hT 1 0 rfl rfl rfl rfl ?_
  refine fin hT 0 rfl (th (sq (rg ?_)))
  refine fin hT 1 rfl (th (jn (σ := Int) (fun m => [(2, .pointer none), (3, .bool false), (4, .pointer (some ⟨b16, 0, none⟩)), (6, .pointer (some ⟨b6, 0, none⟩)), (7, .int .i64 m), (18, .slice (some ad) ss.length cS), (19, .int .i64 ((ss.length : Nat) : Int)), (20, .int .i64 ((j : Nat) : Int))]) (fun m => pt b6 (stV s ao2 s.arcs.length c2).toArray 177 :: gS :: gN :: pt b16 #[.int .i64 base, .slice aoW j cW, .slice aoN j cN] 162 :: pt b1 #[.int .i64 base, .slice (some ad) ss.length cS] 137 :: hs) (fun m => m = ((pfx ss s 0 : Nat) : Int)) ?_ ?_))
  ·refine sq (rg ?_)
   refine ldp hT 1 0 rfl rfl rfl ?_
   refine nmS fun b29 h29 => ?_
   refine fin hT 0 rfl (th (ifP h29 rfl (fun e4 => ?_) (fun e4 => ?_)))
   ·refine rg ?_
    refine fin hT 1 rfl ?_
    exact jx 1 (by simp [pfx, w0P, e4, wa]) ⟨rfl, rfl, rfl, rfl, rfl, rfl, rfl, rfl, trivial⟩ rfl rfl
   ·refine sk ?_
    exact jx 0 (by simp [pfx, w0P, e4, wa]) ⟨rfl, rfl, rfl, rfl, rfl, rfl, rfl, rfl, trivial⟩ rfl rfl
  ·rintro m0 hm0
   refine sq (sq (rg ?_))
   refine ldp hT 1 0 rfl rfl rfl ?_
   refine fin hT 2 rfl (th (bk ?_))
   refine loop (σ := Nat) (fun i => [(2, .pointer none), (3, .bool false), (4, .pointer (some ⟨b16, 0, none⟩)), (6, .pointer (some ⟨b6, 0, none⟩)), (7, .int .i64 ((pfx ss s i : Nat) : Int)), (18, .slice (some ad) ss.length cS), (19, .int .i64 ((ss.length : Nat) : Int)), (20, .int .i64 ((j : Nat) : Int)), (31, .slice ao2 s.arcs.length c2), (32, .int .i64 ((s.arcs.length : Nat) : Int)), (33, .int .i64 ((i : Nat) : Int))]) (fun _ => K26)
    (fun i => pt b6 (stV s ao2 s.arcs.length c2).toArray 177 :: gS :: gN :: pt b16 #[.int .i64 base, .slice aoW j cW, .slice aoN j cN] 162 :: pt b1 #[.int .i64 base, .slice (some ad) ss.length cS] 137 :: hs) (fun i => i <= s.arcs.length) (fun i => s.arcs.length - i) 0 (Nat.zero_le _) ⟨rfl, rfl, rfl, rfl, by rw [hm0]; rfl, rfl, rfl, rfl, rfl, rfl, rfl, trivial⟩ rfl rfl ?_
   intro i hi
   refine sq (rg ?_)
   refine cmpS hT 0 rfl fun b34 h34 => ?_
   refine fin hT 0 rfl (th (sq (ifP h34 rfl (fun e6 => ?_) (fun e6 => ?_))))
   ·have hil : i < s.arcs.length := by omega
    obtain ⟨a, ha0⟩ : ∃ a, s.arcs[i]? = some a := ⟨_, List.getElem?_eq_getElem hil⟩
    have hto := (hfm.arc a (List.mem_of_getElem? ha0)).to
    have htn : ((a.to.toNat : Nat) : Int) = a.to := by omega
    have hpn := pfx_next (sts := ss) ha0
    have hp2 := pfx_mono ss s (i + 1)
    obtain ⟨adA, rfl⟩ := x2.addr (by omega) (by decide)
    obtain ⟨csA, hcs, hclA, hcellA⟩ := x2.cells ha0
    obtain rfl := hcs
    obtain ⟨vsA, xvA⟩ := x2.isS
    have hcv : (cV ss j)[a.to.toNat]? = some (.int .i64 ((cP ss a.to.toNat : Nat) : Int)) := by
     unfold cV
     rw [List.getElem?_map, List.getElem?_range (by omega)]; rfl
    obtain ⟨aN, rfl⟩ := oN.isS.addr (j := a.to.toNat) (by omega) (by decide)
    have hcN : Cell gN (aN.add (a.to.toNat * 1)) (.int .i64 ((cP ss a.to.toNat : Nat) : Int)) := by
     obtain ⟨a', e, hc⟩ := oN.isS.2.2 a.to.toNat _ hcv
     cases e
     simpa using hc
    refine sk (th (sq (bk (sq (rg ?_)))))
    refine ixs hT 0 i rfl rfl xvA hil (by decide) fun a35 ha => ?_
    cases ha
    refine lds hT 0 (arcV a) rfl (by kernel_rfl) (.inl rfl) hcellA ?_
    refine al hT 0 (.agg #[.int .i32 0, .int .i64 0, .int .i64 0]) rfl (by kernel_rfl) fun b9 => ?_
    refine stS hT 0 0 rfl rfl (by kernel_rfl) rfl rfl ?_
    refine fin hT 0 rfl (th (rga [pt b9 (arcV a).toArray 180, pt b16 #[.int .i64 base, .slice aoW j cW, .slice (some aN) j cN] 162, gN] 11 [0, 2, 4, 6, 8, 10, 12, 14, 16, 18, 20] (by simp) (by kernel_rfl) (by kernel_rfl) ?_))
    refine dldp hT (by kernel_rfl) 4 1 rfl rfl rfl ?_
    refine dldp hT (by kernel_rfl) 1 0 rfl rfl rfl ?_
    refine dixs hT (by kernel_rfl) 0 a.to.toNat rfl htn.symm (by omega) ?_
    refine dld hT (by kernel_rfl) 0 rfl (.inr ⟨2, rfl⟩) hcN ?_
    refine dar hT (by kernel_rfl) 0 rfl (v' := .int .i64 ((pfx ss s (i + 1) : Nat) : Int)) (by rw [show ((pfx ss s i : Nat) : Int) + ((cP ss a.to.toNat : Nat) : Int) = ((pfx ss s (i + 1) : Nat) : Int) by omega]; exact i64w (by omega)) ?_
    refine dend hT (by kernel_rfl) 1 rfl (bl (th (rg ?_)))
    refine ar hT 0 rfl (i64w (x := ((i + 1 : Nat) : Int)) (by omega)) ?_
    refine fin hT 1 rfl (WQ.drop ?_)
    exact again (x := i) (i + 1) ⟨rfl, rfl, rfl, rfl, rfl, rfl, rfl, rfl, rfl, rfl, rfl, trivial⟩ rfl rfl hil (by omega)
   ·obtain rfl : i = s.arcs.length := by omega
    rw [hpe]
    refine ex (xt (xt (xb (th (sq (rga [pt b16 #[.int .i64 base, .slice aoW j cW, .slice aoN j cN] 162, pt b6 (stV s ao2 s.arcs.length c2).toArray 177] 10 [0, 2, 4, 6, 8, 10, 13, 15, 16, 18, 21] (by simp) (by kernel_rfl) (by kernel_rfl) ?_))))))
    refine dldpw hT (by kernel_rfl) 4 0 rfl (by kernel_rfl) rfl rfl ?_
    refine dldS hT (by kernel_rfl) 0 1 rfl (by kernel_rfl) rfl (by kernel_rfl) ?_
    refine dact hT (by kernel_rfl) 0 rfl ?_
    refine lit hT 0 (stV s ao2 s.arcs.length c2).toArray rfl (by decide) (by kernel_rfl) fun b54 => ?_
    refine dnex [pt b16 #[.int .i64 base, .slice aoW j cW, .slice aoN j cN] 162, pt b6 (stV s ao2 s.arcs.length c2).toArray 177] (by simp) (by simp) rfl ?_
    refine dact hT (by kernel_rfl) 0 rfl ?_
    refine appS hT 0 2 (stV s ao2 s.arcs.length c2) s rfl rfl rfl (oS.imp fun _ _ h => h.le le26) ⟨ao2, _, c2, rfl, x2⟩ rfl (by simp [stV, Value.oneCell']) rfl (by decide) (by show _ * 40 <= _; omega) (by simp only [maxLen]; omega) fun ao55 c55 g55 o55 => ?_
    refine dnex [pt b16 #[.int .i64 base, .slice aoW j cW, .slice aoN j cN] 162, pt b6 (stV s ao2 s.arcs.length c2).toArray 177] (by simp) (by simp) rfl ?_
    refine dact hT (by kernel_rfl) 2 rfl ?_
    refine stp hT 0 4 rfl rfl rfl rfl ?_
    refine dnext (.inl (by kernel_rfl)) ?_
    refine dend hT (by kernel_rfl) 0 rfl (th (rg ?_))
    refine ldp hT 4 4 rfl rfl rfl ?_
    refine lit hT 1 #[.int .i64 ((cP ss j : Nat) : Int)] rfl (by decide) (by kernel_rfl) fun b64 => ?_
    refine app hT 0 4 rfl rfl oN (.inr ⟨0, rfl⟩) (Own.ofPt (b := b64) (c := #[.int .i64 ((cP ss j : Nat) : Int)]) (e := 3) (n := 1) (size := 1) rfl (by simp [maxLen])).isS rfl (by decide) (fun u hu => by simp at hu; subst hu; rfl) (by show (j + 1) * 8 <= _; omega) (by simp only [maxLen]; omega) fun ao65 c65 g65 o65 => ?_
    refine stp hT 2 5 rfl rfl rfl rfl ?_
    refine fin hT 0 rfl (bl (th (rg (WL.drop (WL.drop (WL.drop ?_))))))
    refine ar hT 0 rfl (i64w (x := ((j + 1 : Nat) : Int)) (by omega)) ?_
    refine fin hT 1 rfl ?_
    refine again (x := (⟨j, K, gS, gN, aoW, cW, aoN, cN⟩ : NwS)) (⟨j + 1, K26, g55, g65, ao55, c55, ao65, c65⟩ : NwS) ⟨rfl, rfl, rfl, rfl, rfl, rfl, trivial⟩ rfl rfl ⟨by dsimp only; omega, le0.trans le26, ?_, ?_⟩ (by dsimp only; omega)
    ·dsimp only
     rw [List.take_add_one, hget]
     exact o55
    ·dsimp only
     rw [show cV ss (j + 1) = cV ss j ++ [.int .i64 ((cP ss j : Nat) : Int)] from by unfold cV; rw [List.range_succ, List.map_append]; rfl]
     exact o65
 ·obtain rfl : j = ss.length := by omega
  refine ex (xt (xt (xb (th (WC.perm (perm_front _ 2 _ rfl) (WC.frz fun K2 le2 l2 => WC.frz fun K3 le3 l3 => sq (rg ?_)))))))
  refine fin hT 3 rfl (th (rt (WQ.drop (WQ.drop ?_))))
  have xS := oS.slS
  rw [List.take_length] at xS
  obtain ⟨aW, rfl⟩ := xS.addr (by omega) (by decide)
  have xS3 : SlS 3 (stR K3) K3 (some aW) ss.length cW ss := xS.le l3 (fun _ _ h => (h.le le2).le le3)
  exact ret2 rfl rfl rfl ⟨le0.trans (le2.trans le3), rfl, b16, rfl, ((Cell.pt rfl).le l2).le le3, aW, cW, ((Cell.pt rfl).le l2).le le3, xS3⟩
end Go.Proofs.YtejkjbkodcamoaaGreatDoor
end
section
namespace Go.En
open Go.Proofs.YtejkjbkodcamoaaGreatDoor
def arcF (l : List ArcP) (r : Nat) : Option ArcP := l.find? fun a => decide (a.lb = (r : Int))
def fndF (ss : List StP) : List Nat -> Nat -> Option Int
 | [], i => match ss[i]? with
  | some s => if s.fin = true then some s.out else none
  | none => none
 | r :: rs, i => match ss[i]? with
  | some s => match arcF s.arcs r with
   | some a => (fndF ss rs a.to.toNat).map (a.out + ·)
   | none => none
  | none => none
def findW (W : List Wd) (rs : List Nat) : Option Int := (W.find? fun y => decide (y.1 = rs)).map (·.2)
theorem find_pre1 (a : ArcP) (r : Nat) (rs : List Nat) (h0 : 0 <= a.lb) : ∀ W : List Wd, findW (W.map (pre1 a)) (r :: rs) = if a.lb = (r : Int) then (findW W rs).map (a.out + ·) else none
 | [] => by simp [findW]
 | y :: W => by
  have ih := find_pre1 a r rs h0 W
  unfold findW at ih ⊢
  rw [List.map_cons, List.find?_cons, List.find?_cons]
  by_cases hl : a.lb = (r : Int)
  ·rw [if_pos hl] at ih ⊢
   have ht : a.lb.toNat = r := by omega
   by_cases hy : y.1 = rs
   ·simp [pre1, ht, hy]
   ·have h1 : ¬ (pre1 a y).1 = r :: rs := by simp [pre1, hy]
    simp only [h1, hy, decide_false]
    exact ih
  ·rw [if_neg hl] at ih ⊢
   have ht : ¬ a.lb.toNat = r := by omega
   have h1 : ¬ (pre1 a y).1 = r :: rs := by simp [pre1, ht]
   simp only [h1, decide_false]
   exact ih
theorem findW_append (V W : List Wd) (rs : List Nat) : findW (V ++ W) rs = match findW V rs with | some x => some x | none => findW W rs := by
 unfold findW
 rw [List.find?_append]
 cases V.find? fun y => decide (y.1 = rs) <;> rfl
theorem findW_wa (tb : List (List Wd)) (r : Nat) (rs : List Nat) : ∀ l : List ArcP, (∀ a ∈ l, 0 <= a.lb) -> (l.Pairwise fun a b => a.lb < b.lb) -> findW (wa tb l) (r :: rs) = match arcF l r with | some a => (findW (tb.getD a.to.toNat []) rs).map (a.out + ·) | none => none
 | [], _, _ => rfl
 | a :: l, h0, hp => by
  have hp := List.pairwise_cons.1 hp
  have ih := findW_wa tb r rs l (fun b hb => h0 b (by simp [hb])) hp.2
  have e : wa tb (a :: l) = (tb.getD a.to.toNat []).map (pre1 a) ++ wa tb l := by simp [wa]
  rw [e, findW_append, find_pre1 a r rs (h0 a (by simp)), ih]
  unfold arcF
  rw [List.find?_cons]
  by_cases hl : a.lb = (r : Int)
  ·rw [if_pos hl]
   have hn : l.find? (fun b => decide (b.lb = (r : Int))) = none := by
    rw [List.find?_eq_none]
    intro b hb
    have := hp.1 b hb
    simp; omega
   simp only [hl, decide_true, hn]
   cases (findW (tb.getD a.to.toNat []) rs) <;> rfl
  ·rw [if_neg hl]
   simp only [hl, decide_false]
theorem findW_nil (tb : List (List Wd)) (l : List ArcP) : findW (wa tb l) [] = none := by
 unfold findW
 rw [show (wa tb l).find? (fun y => decide (y.1 = [])) = none from by
  rw [List.find?_eq_none]
  intro y hy
  obtain ⟨a, _, hy⟩ := List.mem_flatMap.1 hy
  obtain ⟨z, _, rfl⟩ := List.mem_map.1 hy
  simp [pre1]]
 rfl
theorem fndF_words {ss : List StP} (hf : LFm ss) : ∀ (rs : List Nat) (i : Nat), i < ss.length -> fndF ss rs i = findW ((wt ss).getD i []) rs
 | [], i, hi => by
  obtain ⟨s, hs⟩ : ∃ s, ss[i]? = some s := ⟨_, List.getElem?_eq_getElem hi⟩
  have e1 : (wt ss).getD i [] = w0P s ++ wa (wt ss) s.arcs := by rw [List.getD_eq_getElem?_getD, wt_at hs (hf.to hs)]; rfl
  rw [e1, findW_append, findW_nil]
  unfold fndF w0P
  rw [hs]
  by_cases h : s.fin = true
  ·simp [h, findW]
  ·simp [h, findW]
 | r :: rs, i, hi => by
  obtain ⟨s, hs⟩ : ∃ s, ss[i]? = some s := ⟨_, List.getElem?_eq_getElem hi⟩
  have fm := hf i s hs
  have e1 : (wt ss).getD i [] = w0P s ++ wa (wt ss) s.arcs := by rw [List.getD_eq_getElem?_getD, wt_at hs (hf.to hs)]; rfl
  have e2 : findW (w0P s) (r :: rs) = none := by unfold w0P findW; split <;> simp
  rw [e1, findW_append, e2, findW_wa (wt ss) r rs s.arcs (fun a ha => by have := (fm.arc a ha).lb; omega) fm.ord]
  unfold fndF
  rw [hs]
  dsimp only
  cases ha : arcF s.arcs r with
  | none => rfl
  | some a =>
   have ham := List.mem_of_find?_eq_some ha
   have := (fm.arc a ham).to
   dsimp only
   rw [fndF_words hf rs a.to.toNat (by omega)]
def arcS (l : List ArcP) (r : Nat) (sum : Int) : Int × Int := match arcF l r with
 | some a => (a.to, sum + a.out)
 | none => (-1, sum)
theorem arcS_next {l : List ArcP} (hp : l.Pairwise fun a b => a.lb < b.lb) (r : Nat) (sum : Int) {j : Nat} {a : ArcP} (ha : l[j]? = some a) :
  (a.lb = (r : Int) -> arcF (l.take j) r = none /\ arcS (l.take (j + 1)) r sum = (a.to, sum + a.out)) /\ (¬ a.lb = (r : Int) -> arcS (l.take (j + 1)) r sum = arcS (l.take j) r sum) := by
 have hj := (List.getElem?_eq_some_iff.1 ha).1
 have ht : l.take (j + 1) = l.take j ++ [a] := by rw [List.take_add_one, ha]; rfl
 have hlt : ∀ b ∈ l.take j, b.lb < a.lb := by
  intro b hb
  have h2 : (l.take (j + 1)).Pairwise fun a b => a.lb < b.lb := hp.sublist (List.take_sublist _ _)
  rw [ht, List.pairwise_append] at h2
  exact h2.2.2 b hb a (by simp)
 refine ⟨fun h => ?_, fun h => ?_⟩
 ·have hn : arcF (l.take j) r = none := by
   unfold arcF
   rw [List.find?_eq_none]
   intro b hb
   have := hlt b hb
   simp; omega
  refine ⟨hn, ?_⟩
  have : arcF (l.take (j + 1)) r = some a := by
   unfold arcF at hn ⊢
   rw [ht, List.find?_append, hn]
   simp [h]
  unfold arcS
  rw [this]
 ·have : arcF (l.take (j + 1)) r = arcF (l.take j) r := by
   unfold arcF
   rw [ht, List.find?_append]
   cases (l.take j).find? fun a => decide (a.lb = (r : Int)) <;> simp [h]
  unfold arcS
  rw [this]
structure WalkQ (K : PH) (b : Nat) (base : Int) (ss : List StP) : Prop where
 bas : Cell K ⟨b, 0, none⟩ (.int .i64 base)
 sta : ∃ ao c, Cell K ⟨b, 1, none⟩ (.slice ao ss.length c) /\ SlS 3 (stR K) K ao ss.length c ss
theorem WalkK.q {K : PH} {b : Nat} {base : Int} {ss : List StP} (h : WalkK K b base ss) : WalkQ K b base ss := let ⟨a, c, h1, h2⟩ := h.sta; ⟨h.bas, some a, c, h1, h2⟩
def fndQ (ss : List StP) (base : Int) (s : List UInt8) : Option Int := match runesP s with
 | some rs => if ss = [] then none else (findW ((wt ss).getD (ss.length - 1) []) rs).map (base + ·)
 | none => none
structure FnS where
 k : Nat
 at_ : Int
 sum : Int
end Go.En
namespace Go.Proofs.YtejkjbkodcamoaaGreatDoor
open Go.En
attribute [local irreducible] Code.wp wpList Calls
theorem rootQ {w0 : World} {K : PH} {hs : List PH} (b : Nat) (base : Int) (ss : List StP) (x : WalkQ K b base ss) (hn : ss.length <= 1000000) : Ct Tryz.prog w0 101 [.pointer (some ⟨b, 0, none⟩)] K hs
  (fun v K' hs' => K' = K /\ hs' = hs /\ v = .int .i64 ((ss.length : Int) - 1)) := by
 obtain ⟨a, c, h1, h2⟩ := x.sta
 refine enter Tryz.func101 (by kernel_rfl) rfl rfl rfl ?_
 refine sq (rg ?_)
 refine fin hT 1 rfl (th (sq (rg ?_)))
 refine ld hT 3 rfl (.inl rfl) h1 ?_
 refine ar hT 1 rfl (i64w (by omega)) ?_
 refine fin hT 1 rfl (th (rt ?_))
 exact ret1 rfl rfl ⟨rfl, rfl, rfl⟩
theorem findWC {w0 : World} {K : PH} {hs : List PH} (b : Nat) (base : Int) (ss : List StP) (x : WalkQ K b base ss) (hf : LFm ss) (hn : ss.length <= 98305) (hal : ∀ s ∈ ss, s.arcs.length <= 4096) (hb : 0 <= base /\ base <= 1048576) (s : List UInt8) (hG : LeastK K) (hl : s.length < 1099511627776) :
  Ct Tryz.prog w0 91 [.pointer (some ⟨b, 0, none⟩), str s] K hs (fun v K' hs' => K' = K /\ hs' = hs /\ v = .tuple #[.int .i64 ((fndQ ss base s).getD 0), .bool (fndQ ss base s).isSome]) := by
 obtain ⟨ao, c, h1, hS⟩ := x.sta
 refine enter Tryz.func91 (by kernel_rfl) rfl rfl rfl ?_
 refine sq (rg ?_)
 refine fin hT 2 rfl (th (sq (rg ?_)))
 refine cl hT 1 rfl (runesC s hG hl) ?_
 rintro v17 K17 hs17 ⟨rfl, h, ao6, c6, rfl, rfl, o6⟩
 obtain ⟨rs, hrs⟩ : ∃ rs, rs = (runesP s).getD [] := ⟨_, rfl⟩
 obtain ⟨G, hG'⟩ : ∃ G : Option Int, G = if ss = [] then none else (fndF ss rs (ss.length - 1)).map (base + ·) := ⟨_, rfl⟩
 have hQ : fndQ ss base s = if (runesP s).isSome = true then G else none := by
  unfold fndQ
  cases hr : runesP s with
  | none => rfl
  | some l =>
   rw [hr] at hrs
   have hrs' : rs = l := hrs
   rw [hG', hrs']
   by_cases e : ss = []
   ·simp [e]
   ·have := List.length_pos_iff.2 e
    simp only [e, if_false, Option.isSome_some, if_true]
    rw [fndF_words hf l _ (by omega)]
 have hrl : rs.length < 1099511627776 := by
  rw [hrs]
  cases hr : runesP s with
  | none => simp
  | some l =>
   have := (runesF_text s.length s l (Nat.le_refl _) hr).2.2
   simpa using Nat.lt_of_le_of_lt this hl
 rw [<- hrs] at o6 ⊢
 have xs := o6.isS
 refine fin hT 5 rfl (th (sq (rga [] 8 [0, 4, 6, 8, 10, 3, 12, 14] (by simp) (by kernel_rfl) (by kernel_rfl) ?_)))
 refine dld hT (by kernel_rfl) 4 rfl (.inl rfl) x.bas ?_
 refine dact hT (by kernel_rfl) 0 rfl ?_
 refine cl hT 0 rfl (rootQ b base ss x (by omega)) ?_
 rintro v21 K21 hs21 ⟨rfl, rfl, rfl⟩
 refine dnex [] (by simp) (by simp) rfl ?_
 refine dend hT (by kernel_rfl) 2 rfl (th (sq (sq (rg ?_))))
 refine fin hT 3 rfl (th (bk ?_))
 refine loop (σ := FnS) (fun x => [(0, .pointer (some ⟨b, 0, none⟩)), (7, .bool (runesP s).isSome), (8, .int .i64 x.at_), (9, .int .i64 x.sum), (26, .slice ao6 rs.length c6), (27, .int .i64 ((rs.length : Nat) : Int)), (28, .int .i64 ((x.k : Nat) : Int))]) (fun _ => K21) (fun _ => h :: hs)
  (fun x => x.k <= rs.length /\ 0 <= x.sum /\ ((∃ i : Nat, x.at_ = (i : Int) /\ i < ss.length /\ G = (fndF ss (rs.drop x.k) i).map (x.sum + ·) /\ x.sum <= 1048576 * ((ss.length : Int) - (i : Int))) \/ (x.at_ = -1 /\ G = none /\ x.sum <= 1048576 * ((ss.length : Int) + 1)))) (fun x => rs.length - x.k)
  ⟨0, (ss.length : Int) - 1, base⟩ ⟨Nat.zero_le _, hb.1, by
   by_cases e : ss = []
   ·exact .inr ⟨by simp [e], by rw [hG', if_pos e], by simp [e]; omega⟩
   ·have := List.length_pos_iff.2 e
    exact .inl ⟨ss.length - 1, by dsimp only; omega, by omega, by rw [hG', if_neg e]; rfl, by dsimp only; omega⟩⟩ ⟨rfl, rfl, rfl, rfl, rfl, rfl, rfl, trivial⟩ rfl rfl ?_
 rintro ⟨k, at_, sum⟩ ⟨hk, hs0, hJ⟩
 dsimp only at *
 refine sq (rg ?_)
 refine cmpS hT 0 rfl fun b29 h29 => ?_
 refine fin hT 0 rfl (th (sq (ifP h29 rfl (fun e2 => ?_) (fun e2 => ?_))))
 ·have hkl : k < rs.length := by omega
  obtain ⟨r, hr⟩ : ∃ r, rs[k]? = some r := ⟨_, List.getElem?_eq_getElem hkl⟩
  have hdr : rs.drop k = r :: rs.drop (k + 1) := by rw [List.drop_eq_getElem_cons hkl, (List.getElem?_eq_some_iff.1 hr).2]
  refine sk (th (sq (bk (sq (rg ?_)))))
  refine ix1 hT 0 k rfl rfl rfl xs (show (rvv rs)[k]? = some (.int .i32 ((r : Nat) : Int)) by unfold rvv; rw [List.getElem?_map, hr]; rfl) fun a30 hc30 => ?_
  refine ld hT 0 rfl (.inr ⟨0, rfl⟩) hc30 ?_
  refine fin hT 1 rfl (th (sq (sq (rg ?_))))
  refine cmpS hT 1 rfl fun b33 h33 => ?_
  refine fin hT 0 rfl (th (ifP h33 rfl (fun e4 => ?_) (fun e4 => ?_)))
  ·rcases hJ with ⟨i, rfl, _⟩ | ⟨rfl, hGn, _⟩
   ·omega
   have hQn : fndQ ss base s = none := by rw [hQ, hGn]; split <;> rfl
   refine sq (rg ?_)
   refine fin hT 2 rfl (th (rt (rT (rB (rT (rT (rB (rT (WQ.drop ?_)))))))))
   exact ret2 rfl rfl rfl ⟨rfl, rfl, by rw [hQn]; rfl⟩
  ·rcases hJ with ⟨i, rfl, hi, hGi, hsum⟩ | ⟨rfl, _⟩
   ·obtain ⟨st, hst⟩ : ∃ st, ss[i]? = some st := ⟨_, List.getElem?_eq_getElem hi⟩
    have fm := hf i st hst
    have hA := hal st (List.mem_of_getElem? hst)
    obtain ⟨ad, rfl⟩ := hS.addr (by omega) (by decide)
    obtain ⟨vs, xv⟩ := hS.isS
    obtain ⟨cs, ⟨aoA, nA, cA, rfl, xA⟩, hcl, hcell⟩ := hS.cells hst
    obtain rfl := xA.len
    refine sk (th (sq (rg ?_)))
    refine ld hT 3 rfl (.inl rfl) h1 ?_
    refine ixs hT 1 i rfl rfl xv hi (by decide) fun a39 ha => ?_
    cases ha
    refine lds hT 0 (stV st aoA st.arcs.length cA) rfl (by kernel_rfl) (.inl rfl) hcell ?_
    refine al hT 0 (.agg #[.bool false, .int .i64 0, .slice none 0 0]) rfl (by kernel_rfl) fun b12 => ?_
    refine stS hT 0 0 rfl rfl (by kernel_rfl) rfl rfl ?_
    refine fin hT 0 rfl (th (sq (rg ?_)))
    refine fin hT 1 rfl (th (sq (rg ?_)))
    refine ldp hT 1 0 rfl rfl rfl ?_
    refine fin hT 2 rfl (th (bk ?_))
    have harc : ∀ a ∈ st.arcs, 0 <= a.out /\ a.out <= 1048576 /\ 0 <= a.to /\ a.to < (i : Int) := fun a ha => by have := (fm.arc a ha).out; have := (fm.arc a ha).to; omega
    refine loop (σ := Nat) (fun j => [(0, .pointer (some ⟨b, 0, none⟩)), (7, .bool (runesP s).isSome), (8, .int .i64 (arcS (st.arcs.take j) r sum).1), (9, .int .i64 (arcS (st.arcs.take j) r sum).2), (11, .int .i32 ((r : Nat) : Int)), (26, .slice ao6 rs.length c6), (27, .int .i64 ((rs.length : Nat) : Int)), (28, .int .i64 ((k : Nat) : Int)), (42, .slice aoA st.arcs.length cA), (43, .int .i64 ((st.arcs.length : Nat) : Int)), (44, .int .i64 ((j : Nat) : Int))]) (fun _ => K21)
     (fun _ => pt b12 (stV st aoA st.arcs.length cA).toArray 177 :: h :: hs) (fun j => j <= st.arcs.length) (fun j => st.arcs.length - j) 0 (Nat.zero_le _) ⟨rfl, rfl, rfl, rfl, rfl, rfl, rfl, rfl, rfl, rfl, rfl, trivial⟩ rfl rfl ?_
    intro j hj
    refine sq (rg ?_)
    refine cmpS hT 0 rfl fun b45 h45 => ?_
    refine fin hT 0 rfl (th (sq (ifP h45 rfl (fun e6 => ?_) (fun e6 => ?_))))
    ·have hjl : j < st.arcs.length := by omega
     obtain ⟨a, ha0⟩ : ∃ a, st.arcs[j]? = some a := ⟨_, List.getElem?_eq_getElem hjl⟩
     have hab := harc a (List.mem_of_getElem? ha0)
     obtain ⟨n1, n2⟩ := arcS_next fm.ord r sum ha0
     obtain ⟨adA, rfl⟩ := xA.addr (by omega) (by decide)
     obtain ⟨csA, hcs, hclA, hcellA⟩ := xA.cells ha0
     obtain rfl := hcs
     obtain ⟨vsA, xvA⟩ := xA.isS
     refine sk (th (sq (bk (sq (rg ?_)))))
     refine ixs hT 0 j rfl rfl xvA hjl (by decide) fun a46 ha => ?_
     cases ha
     refine lds hT 0 (arcV a) rfl (by kernel_rfl) (.inl rfl) hcellA ?_
     refine al hT 0 (.agg #[.int .i32 0, .int .i64 0, .int .i64 0]) rfl (by kernel_rfl) fun b14 => ?_
     refine stS hT 0 0 rfl rfl (by kernel_rfl) rfl rfl ?_
     refine WL.hs (pt b14 (arcV a).toArray 180 :: pt b12 (stV st (some adA) st.arcs.length cA).toArray 177 :: h :: hs) rfl ?_
     refine fin hT 0 rfl (th (sq (rg ?_)))
     refine ldp hT 1 0 (v := .int .i32 a.lb) rfl rfl rfl ?_
     refine cmpS hT 1 rfl fun b51 h51 => ?_
     refine fin hT 0 rfl (th (ifP h51 rfl (fun e8 => ?_) (fun e8 => ?_)))
     ·obtain ⟨m1, m2⟩ := n1 e8
      have m3 : (arcS (st.arcs.take j) r sum).2 = sum := by unfold arcS; rw [m1]
      rw [m3]
      refine sq (rg ?_)
      refine ldp hT 1 0 (v := .int .i64 a.to) rfl rfl rfl ?_
      refine fin hT 1 rfl (th (rg ?_))
      refine ldp hT 2 0 (v := .int .i64 a.out) rfl rfl rfl ?_
      refine ar hT 0 rfl (i64w (x := sum + a.out) (by omega)) ?_
      refine fin hT 1 rfl (bl (th (rg ?_)))
      refine ar hT 0 rfl (i64w (x := ((j + 1 : Nat) : Int)) (by omega)) ?_
      refine fin hT 1 rfl (WQ.drop ?_)
      exact again (x := j) (j + 1) ⟨rfl, rfl, by rw [m2]; rfl, by rw [m2]; rfl, rfl, rfl, rfl, rfl, rfl, rfl, rfl, trivial⟩ rfl rfl hjl (by omega)
     ·have m2 := n2 e8
      refine sk (bl (th (rg ?_)))
      refine ar hT 0 rfl (i64w (x := ((j + 1 : Nat) : Int)) (by omega)) ?_
      refine fin hT 1 rfl (WQ.drop ?_)
      exact again (x := j) (j + 1) ⟨rfl, rfl, by rw [m2]; rfl, by rw [m2]; rfl, rfl, rfl, rfl, rfl, rfl, rfl, rfl, trivial⟩ rfl rfl hjl (by omega)
    ·have hje : j = st.arcs.length := by omega
     rw [hje, List.take_length]
     refine ex (xt (xt (xb (bl (th (rg ?_))))))
     refine ar hT 0 rfl (i64w (x := ((k + 1 : Nat) : Int)) (by omega)) ?_
     refine fin hT 1 rfl (WQ.drop ?_)
     have hstep : fndF ss (rs.drop k) i = match arcF st.arcs r with | some a => (fndF ss (rs.drop (k + 1)) a.to.toNat).map (a.out + ·) | none => none := by
      rw [hdr]
      conv => lhs; unfold fndF
      rw [hst]
     cases hac : arcF st.arcs r with
     | some a =>
      have hab := harc a (List.mem_of_find?_eq_some hac)
      have e1 : arcS st.arcs r sum = (a.to, sum + a.out) := by unfold arcS; rw [hac]
      rw [hac] at hstep
      dsimp only at hstep
      rw [e1]
      refine again (x := (⟨k, (i : Int), sum⟩ : FnS)) (⟨k + 1, a.to, sum + a.out⟩ : FnS) ⟨rfl, rfl, rfl, rfl, rfl, rfl, rfl, trivial⟩ rfl rfl ⟨hkl, by dsimp only; omega, .inl ⟨a.to.toNat, by dsimp only; omega, by omega, ?_, by dsimp only; omega⟩⟩ (by dsimp only; omega)
      dsimp only
      rw [hGi, hstep]
      cases fndF ss (rs.drop (k + 1)) a.to.toNat with
      | none => rfl
      | some z => simp only [Option.map_some, Option.some.injEq]; omega
     | none =>
      have e1 : arcS st.arcs r sum = (-1, sum) := by unfold arcS; rw [hac]
      rw [hac] at hstep
      dsimp only at hstep
      rw [e1]
      exact again (x := (⟨k, (i : Int), sum⟩ : FnS)) (⟨k + 1, -1, sum⟩ : FnS) ⟨rfl, rfl, rfl, rfl, rfl, rfl, rfl, trivial⟩ rfl rfl ⟨hkl, hs0, .inr ⟨rfl, by rw [hGi, hstep]; rfl, by dsimp only; omega⟩⟩ (by dsimp only; omega)
   ·exact absurd (by decide) e4
 ·have hke : k = rs.length := by omega
  refine ex (xt (xt (xb (th (sq (sq (rg ?_)))))))
  cases hr : runesP s with
  | none =>
   have hQn : fndQ ss base s = none := by rw [hQ, hr]; rfl
   refine fin hT 17 rfl (th (ifT rfl ?_))
   refine sq (rg ?_)
   refine fin hT 2 rfl (th (rt (rT (WQ.drop ?_))))
   exact ret2 rfl rfl rfl ⟨rfl, rfl, by rw [hQn]; rfl⟩
  | some l =>
   have hQG : fndQ ss base s = G := by rw [hQ, hr]; rfl
   rcases hJ with ⟨i, rfl, hi, hGi, hsum⟩ | ⟨rfl, hGn, _⟩
   ·obtain ⟨st, hst⟩ : ∃ st, ss[i]? = some st := ⟨_, List.getElem?_eq_getElem hi⟩
    have fm := hf i st hst
    have hout := fm.out
    obtain ⟨ad, rfl⟩ := hS.addr (by omega) (by decide)
    obtain ⟨vs, xv⟩ := hS.isS
    obtain ⟨cs, ⟨aoA, nA, cA, rfl, xA⟩, hcl, hcell⟩ := hS.cells hst
    have hend : fndF ss (rs.drop k) i = if st.fin = true then some st.out else none := by
     rw [hke, List.drop_length]
     conv => lhs; unfold fndF
     rw [hst]
    refine cmp hT 4 rfl (fun h64 => absurd h64 (by omega)) (fun h64 => ?_)
    refine ld hT 5 rfl (.inl rfl) h1 ?_
    refine ixs hT 1 i rfl rfl xv hi (by decide) fun a72 ha => ?_
    cases ha
    refine ld hT 1 rfl (.inl rfl) (hcell 0 _ rfl) ?_
    cases hfin : st.fin with
    | true =>
     refine fin hT 2 rfl (th (ifF rfl ?_))
     refine sk (th (sq (rg ?_)))
     refine ld hT 4 rfl (.inl rfl) h1 ?_
     refine ixs hT 1 i rfl rfl xv hi (by decide) fun a83 ha => ?_
     cases ha
     refine ld hT 1 rfl (.inl rfl) (hcell 1 _ rfl) ?_
     refine ar hT 0 rfl (i64w (x := sum + st.out) (by omega)) ?_
     refine fin hT 2 rfl (th (rt (WQ.drop ?_)))
     exact ret2 rfl rfl rfl ⟨rfl, rfl, by rw [hQG, hGi, hend, if_pos hfin]; rfl⟩
    | false =>
     refine fin hT 2 rfl (th (ifT rfl ?_))
     refine sq (rg ?_)
     refine fin hT 2 rfl (th (rt (rT (WQ.drop ?_))))
     exact ret2 rfl rfl rfl ⟨rfl, rfl, by rw [hQG, hGi, hend, if_neg (by rw [hfin]; simp)]; rfl⟩
   ·refine cmp hT 4 rfl (fun h64 => ?_) (fun h64 => absurd (by decide) h64)
    refine fin hT 12 rfl (th (ifT rfl ?_))
    refine sq (rg ?_)
    refine fin hT 2 rfl (th (rt (rT (WQ.drop ?_))))
    exact ret2 rfl rfl rfl ⟨rfl, rfl, by rw [hQG, hGn]; rfl⟩
end Go.Proofs.YtejkjbkodcamoaaGreatDoor
end
section
namespace Go.En
open Go.Proofs.YtejkjbkodcamoaaGreatDoor
theorem str_add (a b : List UInt8) : Value.string ((⟨a.toArray⟩ : ByteArray) ++ (⟨b.toArray⟩ : ByteArray)) = str (a ++ b) := by
 unfold str
 congr 1
theorem cat_run {P : Program} {n : Nat} {l : Sl} {o : Oper} {t u : Nat} {x y : Operand} {a b : List UInt8} (hop : o.op = .binOp .add t x y u) (hx : ev l x = some (str a)) (hy : ev l y = some (str b)) (hl : a.length + b.length <= 9223372036854775807) : ∀ A w, Ag n l A -> (execOp A.eval o).run P w = .ok (.value (str (a ++ b))) w := by
 intro A w ha
 simp only [execOp, hop, ha.ev hx, ha.ev hy]
 rw [<- str_add]
 have h : ¬ (9223372036854775807 : Int) < ((⟨a.toArray⟩ : ByteArray).size : Int) + ((⟨b.toArray⟩ : ByteArray).size : Int) := by
  show ¬ (9223372036854775807 : Int) < ((a.toArray.size : Nat) : Int) + ((b.toArray.size : Nat) : Int)
  simp only [List.size_toArray]
  omega
 simp [eqGuard, binOp, str, Op.stringOp, Result.andThen, Sem.run_bind, h]
def elV (head : List UInt8) (sum : Int) (y : Wd) : List Value := [.agg (pairV ⟨head ++ textP y.1, sum + y.2⟩).toArray]
def elsP (ss : List StP) (base : Int) : List (List Value) := ((wt ss).getD (ss.length - 1) []).map (elV [] base)
def stepI (xs : List (List Value)) (i : Nat) (vs : List Value) (i' : Nat) : Prop := xs[i]? = some vs /\ i' = i + 1
theorem pre1_el (a : ArcP) (y : Wd) (head : List UInt8) (sum : Int) : elV head sum (pre1 a y) = elV (head ++ textP [a.lb.toNat]) (sum + a.out) y := by
 unfold elV pre1
 simp only [textP, List.append_assoc, List.append_nil]
 rw [show sum + (a.out + y.2) = sum + a.out + y.2 by omega]
def pfw (ss : List StP) (s : StP) (j : Nat) : List Wd := w0P s ++ wa (wt ss) (s.arcs.take j)
theorem pfw_next {ss : List StP} {s : StP} {j : Nat} {a : ArcP} (h : s.arcs[j]? = some a) : pfw ss s (j + 1) = pfw ss s j ++ ((wt ss).getD a.to.toNat []).map (pre1 a) := by
 have ht : s.arcs.take (j + 1) = s.arcs.take j ++ [a] := by rw [List.take_add_one, h]; rfl
 unfold pfw
 rw [ht]
 simp [wa, List.flatMap_append]
theorem pfw_pre (ss : List StP) (s : StP) (j : Nat) : ∃ t, w0P s ++ wa (wt ss) s.arcs = pfw ss s j ++ t := by
 refine ⟨wa (wt ss) (s.arcs.drop j), ?_⟩
 unfold pfw wa
 rw [List.append_assoc, <- List.flatMap_append, List.take_append_drop]
structure WalkA (K : PH) (b : Nat) (base : Int) (ss : List StP) (ad : Addr) (cS : Nat) (fa : Nat -> Option Addr × Nat) : Prop where
 bas : Cell K ⟨b, 0, none⟩ (.int .i64 base)
 sl : Cell K ⟨b, 1, none⟩ (.slice (some ad) ss.length cS)
 isS : ∃ vs, IsS K (some ad) ss.length cS 3 vs
 cell : ∀ (i : Nat) s, ss[i]? = some s -> ∀ (j : Nat) v, (stV s (fa i).1 s.arcs.length (fa i).2)[j]? = some v -> Cell K ((ad.add (i * 3)).add j) v
 arcs : ∀ (i : Nat) s, ss[i]? = some s -> SlS 3 arcR K (fa i).1 s.arcs.length (fa i).2 s.arcs
theorem WalkQ.fix {K : PH} {b : Nat} {base : Int} {ss : List StP} (h : WalkQ K b base ss) (hne : 0 < ss.length) : ∃ ad cS fa, WalkA K b base ss ad cS fa := by
 obtain ⟨ao, c, h1, h2⟩ := h.sta
 obtain ⟨ad, rfl⟩ := h2.addr (by omega) (by decide)
 have hex : ∀ i : Nat, ∃ p : Option Addr × Nat, ∀ s, ss[i]? = some s -> (∀ (j : Nat) v, (stV s p.1 s.arcs.length p.2)[j]? = some v -> Cell K ((ad.add (i * 3)).add j) v) /\ SlS 3 arcR K p.1 s.arcs.length p.2 s.arcs := by
  intro i
  cases hs : ss[i]? with
  | none => exact ⟨(none, 0), fun s h => by cases h⟩
  | some s =>
   obtain ⟨cs, ⟨aoA, nA, cA, rfl, xA⟩, hcl, hcell⟩ := h2.cells hs
   obtain rfl := xA.len
   exact ⟨(aoA, cA), fun s' h => by cases h; exact ⟨hcell, xA⟩⟩
 refine ⟨ad, c, fun i => Classical.choose (hex i), h.bas, h1, h2.isS, fun i s hs => (Classical.choose_spec (hex i) s hs).1, fun i s hs => (Classical.choose_spec (hex i) s hs).2⟩
structure FrS where
 j : Nat
 K : PH
 hs : List PH
end Go.En
namespace Go.Proofs.YtejkjbkodcamoaaGreatDoor
open Go.En
attribute [local irreducible] Code.wp wpList Calls
theorem fromC {w0 : World} (b : Nat) (base : Int) (ss : List StP) (hM0 : MOK base ss) (ad : Addr) (cS : Nat) (fa : Nat -> Option Addr × Nat) (L : Nat) (xs : List (List Value)) (St : Nat -> PH -> List PH -> Prop) (Sp : PH -> List PH -> Prop) (hRd : ∀ s K hs, St s K hs -> WalkA K b base ss ad cS fa /\ LeastK K)
  (hY : ∀ s vs s' K hs fr, stepI xs s vs s' -> St s K hs -> YCt Tryz.prog w0 L vs K (hs ++ fr) (fun v K' hs' => ∃ hs1, hs' = hs1 ++ fr /\ ((v = .bool true /\ St s' K' hs1) \/ (v = .bool false /\ Sp K' hs1)))) :
  ∀ (i : Nat), i < ss.length -> ∀ (o : Nat) (head : List UInt8) (sum : Int) (K : PH) (hs fr : List PH), St o K hs -> head.length <= 4 * (ss.length - i) -> 0 <= sum -> sum <= 1048576 -> (∀ q y, ((wt ss).getD i [])[q]? = some y -> xs[o + q]? = some (elV head sum y) /\ sum + y.2 <= 1048576) ->
   Ct Tryz.prog w0 100 [.pointer (some ⟨b, 0, none⟩), .int .i64 ((i : Nat) : Int), str head, .int .i64 sum, .func (.yield L) #[] #[]] K (hs ++ fr)
    (fun v K' hs' => ∃ hs1, hs' = hs1 ++ fr /\ ((v = .bool true /\ St (o + ((wt ss).getD i []).length) K' hs1) \/ (v = .bool false /\ Sp K' hs1))) := by
 intro i
 induction i using Nat.strongRecOn with
 | _ i ih =>
  intro hi o head sum K hs fr hSt hhl hs0 hs1 hel
  obtain ⟨s, hget⟩ : ∃ s, ss[i]? = some s := ⟨_, List.getElem?_eq_getElem hi⟩
  have fm := hM0.fm i s hget
  have hout := fm.out
  have hA := hM0.arcsL hget
  have hw : (wt ss).getD i [] = w0P s ++ wa (wt ss) s.arcs := by rw [List.getD_eq_getElem?_getD, wt_at hget (hM0.fm.to hget)]; rfl
  have hcnt := (hM0.wd i hi).1
  rw [hw] at hel hcnt ⊢
  obtain ⟨xW, hG⟩ := hRd o K hs hSt
  obtain ⟨vs, xv⟩ := xW.isS
  refine enterX Tryz.func100 (by kernel_rfl) rfl rfl rfl ?_
  refine sqX (rgX ?_)
  refine fin hT 1 rfl (nxX (thX (sqX (rgX ?_))))
  refine ld hT 3 rfl (.inl rfl) xW.sl ?_
  refine ixs hT 1 i rfl rfl xv hi (by decide) fun a21 ha => ?_
  cases ha
  refine lds hT 0 (stV s (fa i).1 s.arcs.length (fa i).2) rfl (by kernel_rfl) (.inl rfl) (xW.cell i s hget) ?_
  refine al hT 0 (.agg #[.bool false, .int .i64 0, .slice none 0 0]) rfl (by kernel_rfl) fun b11 => ?_
  refine stS hT 0 0 rfl rfl (by kernel_rfl) rfl rfl ?_
  refine WL.hs (pt b11 (stV s (fa i).1 s.arcs.length (fa i).2).toArray 177 :: (hs ++ fr)) rfl ?_
  refine fin hT 0 rfl (nxX (thX ?_))
  refine jnX (σ := FrS) (fun _ => [(0, .pointer (some ⟨b, 0, none⟩)), (2, str head), (3, .int .i64 sum), (4, .func (.yield L) #[] #[]), (11, .pointer (some ⟨b11, 0, none⟩))]) (fun x => x.K) (fun x => pt b11 (stV s (fa i).1 s.arcs.length (fa i).2).toArray 177 :: (x.hs ++ fr)) (fun x => St (o + (w0P s).length) x.K x.hs) ?_ ?_
  ·cases hfin : s.fin with
   | false =>
    have hz : (w0P s).length = 0 := by unfold w0P; rw [if_neg (by rw [hfin]; simp)]; rfl
    refine sqX (rgX ?_)
    refine ldp hT 1 0 (v := .bool false) rfl rfl (by simp [stV, hfin]) ?_
    refine fin hT 11 rfl (nxX (thX (ifFX rfl ?_)))
    refine skX ?_
    exact jxX (⟨0, K, hs⟩ : FrS) (by rw [hz]; exact hSt) ⟨rfl, rfl, rfl, rfl, rfl, trivial⟩ rfl rfl
   | true =>
    have hz : w0P s = [([], s.out)] := by unfold w0P; rw [if_pos hfin]
    have he := hel 0 ([], s.out) (by rw [hz]; rfl)
    have he1 : xs[o]? = some [.agg (pairV ⟨head, sum + s.out⟩).toArray] := by
     have := he.1
     simpa [elV, textP] using this
    have he2 : sum + s.out <= 1048576 := he.2
    refine sqX (rgI (WLI.cut 10 ?_))
    refine ldp hT 1 0 (v := .bool true) rfl rfl (by simp [stV, hfin]) ?_
    refine ldp hT 5 0 (v := .int .i64 s.out) rfl rfl rfl ?_
    refine ar hT 0 rfl (i64w (x := sum + s.out) (by omega)) ?_
    refine bd hT 0 (.agg (pairV ⟨head, sum + s.out⟩).toArray) rfl (fun w => by kernel_rfl) ?_
    refine fin hT 0 rfl (cutX ?_)
    have hperm : (pt b11 (stV s (fa i).1 s.arcs.length (fa i).2).toArray 177 :: (hs ++ fr)).Perm (hs ++ (pt b11 (stV s (fa i).1 s.arcs.length (fa i).2).toArray 177 :: fr)) := List.perm_middle.symm
    refine yld rfl (YCt.perm hperm (hY o _ (o + 1) K hs _ ⟨he1, rfl⟩ hSt)) ?_
    rintro v33 K33 hs33 ⟨hs1', rfl, ⟨rfl, hn⟩ | ⟨rfl, hp⟩⟩
    ·refine WLI.fin ?_
     refine fin hT 2 rfl (nxX (thX (ifFX rfl ?_)))
     refine skX (WQX.perm List.perm_middle ?_)
     exact jxX (⟨0, K33, hs1'⟩ : FrS) (by rw [hz]; exact hn) ⟨rfl, rfl, rfl, rfl, rfl, trivial⟩ rfl rfl
    ·refine WLI.fin ?_
     refine fin hT 2 rfl (nxX (thX (ifTX rfl ?_)))
     refine sqX (rgX ?_)
     refine fin hT 1 rfl (nxX (thX (rtX (rTX (WQX.perm List.perm_middle (WQX.drop ?_))))))
     exact ret1X rfl rfl ⟨hs1', rfl, .inr ⟨rfl, hp⟩⟩
  ·rintro ⟨_, K, hs⟩ hSt
   dsimp only at *
   refine sqX (sqX (rgX ?_))
   refine ldp hT 1 0 rfl rfl rfl ?_
   refine fin hT 2 rfl (nxX (thX (bkX ?_)))
   refine loopX (σ := FrS) (fun x => [(0, .pointer (some ⟨b, 0, none⟩)), (2, str head), (3, .int .i64 sum), (4, .func (.yield L) #[] #[]), (37, .slice (fa i).1 s.arcs.length (fa i).2), (38, .int .i64 ((s.arcs.length : Nat) : Int)), (39, .int .i64 ((x.j : Nat) : Int))]) (fun x => x.K) (fun x => pt b11 (stV s (fa i).1 s.arcs.length (fa i).2).toArray 177 :: (x.hs ++ fr))
    (fun x => x.j <= s.arcs.length /\ St (o + (pfw ss s x.j).length) x.K x.hs) (fun x => s.arcs.length - x.j) ⟨0, K, hs⟩ ⟨Nat.zero_le _, by simpa [pfw, wa] using hSt⟩ ⟨rfl, rfl, rfl, rfl, rfl, rfl, rfl, trivial⟩ rfl rfl ?_
   rintro ⟨j, K, hs⟩ ⟨hj, hSt⟩
   dsimp only at *
   refine sqX (rgX ?_)
   refine cmpS hT 0 rfl fun b40 h40 => ?_
   refine fin hT 0 rfl (nxX (thX (sqX (ifPX h40 rfl (fun e4 => ?_) (fun e4 => ?_)))))
   ·have hjl : j < s.arcs.length := by omega
    obtain ⟨a, ha0⟩ : ∃ a, s.arcs[j]? = some a := ⟨_, List.getElem?_eq_getElem hjl⟩
    have ham := List.mem_of_getElem? ha0
    have hto := (fm.arc a ham).to
    have hao := (fm.arc a ham).out
    have hlb := (fm.arc a ham).lb
    have htn : ((a.to.toNat : Nat) : Int) = a.to := by omega
    have hln : ((a.lb.toNat : Nat) : Int) = a.lb := by omega
    obtain ⟨xW2, hG2⟩ := hRd _ K hs hSt
    have xA := xW2.arcs i s hget
    have hpn := pfw_next (ss := ss) ha0
    obtain ⟨t, ht⟩ := pfw_pre ss s (j + 1)
    have htl : (textP [a.lb.toNat]).length <= 4 := by
     have := wr_len a.lb.toNat
     simpa [textP] using this
    have hle := hM0.len
    have hsub : ∀ q y, ((wt ss).getD a.to.toNat [])[q]? = some y -> xs[o + (pfw ss s j).length + q]? = some (elV (head ++ textP [a.lb.toNat]) (sum + a.out) y) /\ sum + a.out + y.2 <= 1048576 := by
     intro q y hq
     have hql := (List.getElem?_eq_some_iff.1 hq).1
     have h1 : (w0P s ++ wa (wt ss) s.arcs)[(pfw ss s j).length + q]? = some (pre1 a y) := by
      rw [ht, hpn, List.append_assoc, List.getElem?_append_right (by omega), Nat.add_sub_cancel_left, List.getElem?_append_left (by rw [List.length_map]; exact hql), List.getElem?_map, hq]; rfl
     have h2 := hel _ _ h1
     rw [pre1_el, <- Nat.add_assoc] at h2
     exact ⟨h2.1, by have := h2.2; simp only [pre1] at this; omega⟩
    have hsum : sum + a.out <= 1048576 := by
     obtain ⟨_, hne, hnn⟩ := sm_words hM0.fm a.to.toNat (by omega)
     obtain ⟨y, hy⟩ := List.exists_mem_of_ne_nil _ hne
     obtain ⟨q, hq⟩ := List.mem_iff_getElem?.1 hy
     have h1 := (hsub q y hq).2
     have h2 := hnn y hy
     omega
    obtain ⟨ad2, had2⟩ : ∃ ad2, (fa i).1 = some ad2 := xA.addr (by omega) (by decide)
    rw [had2] at xA ⊢
    obtain ⟨vsA, xvA⟩ := xA.isS
    obtain ⟨csA, hcs, hclA, hcellA⟩ := xA.cells ha0
    obtain rfl := hcs
    refine skX (thX (sqX (bkX (sqX (rgX ?_)))))
    refine ixs hT 0 j rfl rfl xvA hjl (by decide) fun a41 ha => ?_
    cases ha
    refine lds hT 0 (arcV a) rfl (by kernel_rfl) (.inl rfl) hcellA ?_
    refine al hT 0 (.agg #[.int .i32 0, .int .i64 0, .int .i64 0]) rfl (by kernel_rfl) fun b13 => ?_
    refine stS hT 0 0 rfl rfl (by kernel_rfl) rfl rfl ?_
    refine fin hT 0 rfl (nxX (thX (sqX (rgX ?_))))
    refine ldp hT 1 0 (v := .int .i32 a.lb) rfl rfl rfl ?_
    refine lit hT 0 #[.int .i32 a.lb] rfl (by decide) (by kernel_rfl) fun b46 => ?_
    refine cl hT 0 rfl (textC (some ⟨b46, 0, none⟩) 1 [a.lb.toNat] (.inr ⟨0, rfl⟩) (by simpa [rvv, hln] using (Own.ofPt (b := b46) (c := #[.int .i32 a.lb]) (e := 21) (n := 1) (size := 1) rfl (by simp [maxLen])).isS) (by simp; exact hlb.2.2) hG2 (by simp)) ?_
    rintro v47 K47 hs47 ⟨rfl, rfl, rfl⟩
    refine fin hT 5 rfl (nxX (thX (sqX (rgX (WL.drop ?_)))))
    refine ldp hT 2 0 (v := .int .i64 a.to) rfl rfl rfl ?_
    refine opr hT 2 rfl (v := str (head ++ textP [a.lb.toNat])) (fun A w ha hw => cat_run rfl rfl rfl (by omega) A w ha) ?_
    refine ldp hT 2 0 (v := .int .i64 a.out) rfl rfl rfl ?_
    refine ar hT 0 rfl (i64w (x := sum + a.out) (by omega)) ?_
    refine WL.drop ?_
    have hrec := ih a.to.toNat (by omega) (by omega) (o + (pfw ss s j).length) (head ++ textP [a.lb.toNat]) (sum + a.out) K47 hs (pt b11 (stV s (some ad2) s.arcs.length (fa i).2).toArray 177 :: fr) hSt (by rw [List.length_append]; omega) (by omega) hsum hsub
    rw [htn] at hrec
    refine WL.perm List.perm_middle.symm ?_
    refine cl hT 1 rfl hrec ?_
    rintro v61 K61 hs61 ⟨hs2, rfl, ⟨rfl, hn⟩ | ⟨rfl, hp⟩⟩
    ·refine WL.perm List.perm_middle ?_
     refine fin hT 1 rfl (nxX (thX (ifFX rfl ?_)))
     refine skX (blX (thX (rgX ?_)))
     refine ar hT 0 rfl (i64w (x := ((j + 1 : Nat) : Int)) (by omega)) ?_
     refine fin hT 1 rfl (nxX ?_)
     refine againX (x := (⟨j, K47, hs⟩ : FrS)) (⟨j + 1, K61, hs2⟩ : FrS) ⟨rfl, rfl, rfl, rfl, rfl, rfl, rfl, trivial⟩ rfl rfl ⟨hjl, ?_⟩ (by dsimp only; omega)
     dsimp only
     rw [hpn, List.length_append, List.length_map, <- Nat.add_assoc]
     exact hn
    ·refine WL.perm List.perm_middle (WL.drop ?_)
     refine fin hT 1 rfl (nxX (thX (ifTX rfl ?_)))
     refine sqX (rgX ?_)
     refine fin hT 1 rfl (nxX (thX (rtX (rBX (rTX (rTX (rBX (rTX ?_))))))))
     exact ret1X rfl rfl ⟨hs2, rfl, .inr ⟨rfl, hp⟩⟩
   ·have hje : j = s.arcs.length := by omega
    have hpe : pfw ss s j = w0P s ++ wa (wt ss) s.arcs := by unfold pfw; rw [hje, List.take_length]
    rw [hpe] at hSt
    refine exX (xtX (xtX (xbX (thX (sqX (rgX ?_))))))
    refine fin hT 1 rfl (nxX (thX (rtX (WQX.drop ?_))))
    exact ret1X rfl rfl ⟨hs, rfl, .inl ⟨rfl, hSt⟩⟩
theorem rootA {w0 : World} {K : PH} {hs : List PH} (b : Nat) (n : Nat) (a : Option Addr) (c : Nat) (h1 : Cell K ⟨b, 1, none⟩ (.slice a n c)) (hn : n <= 1000000) : Ct Tryz.prog w0 101 [.pointer (some ⟨b, 0, none⟩)] K hs
  (fun v K' hs' => K' = K /\ hs' = hs /\ v = .int .i64 ((n : Int) - 1)) := by
 refine enter Tryz.func101 (by kernel_rfl) rfl rfl rfl ?_
 refine sq (rg ?_)
 refine fin hT 1 rfl (th (sq (rg ?_)))
 refine ld hT 3 rfl (.inl rfl) h1 ?_
 refine ar hT 1 rfl (i64w (by omega)) ?_
 refine fin hT 1 rfl (th (rt ?_))
 exact ret1 rfl rfl ⟨rfl, rfl, rfl⟩
theorem allI {w0 : World} (b : Nat) (base : Int) (ss : List StP) (hM0 : MOK base ss) (b1 : Nat) (ad : Addr) (cS : Nat) (fa : Nat -> Option Addr × Nat) :
  ItG Tryz.prog w0 99 [.pointer (some ⟨b1, 0, none⟩)] (stepI (elsP ss base)) (fun i => i = (elsP ss base).length) 0 (fun K hs => WalkA K b base ss ad cS fa /\ LeastK K /\ Cell K ⟨b1, 0, none⟩ (.pointer (some ⟨b, 0, none⟩))) := by
 intro L St Sp hRd hY K hs h0
 have hne := hM0.ne
 have hle := hM0.len
 have hb := hM0.bas
 obtain ⟨xW, hG, c1⟩ := hRd 0 K hs h0
 have hF := fromC (w0 := w0) b base ss hM0 ad cS fa L (elsP ss base) St Sp (fun s K hs h => ⟨(hRd s K hs h).1, (hRd s K hs h).2.1⟩) hY (ss.length - 1) (by omega) 0 [] base K hs [] h0 (Nat.zero_le _) (by omega) hb.2 (fun q y hq => ⟨by
   unfold elsP
   rw [Nat.zero_add, List.getElem?_map, hq]; rfl, hM0.top y (List.mem_of_getElem? hq)⟩)
 rw [List.append_nil] at hF
 have hln : (elsP ss base).length = ((wt ss).getD (ss.length - 1) []).length := by simp [elsP]
 refine enterX Tryz.func99 (by kernel_rfl) rfl rfl rfl ?_
 refine sqX (rgX ?_)
 refine ld hT 0 rfl (.inl rfl) c1 ?_
 refine ld hT 2 rfl (.inl rfl) xW.sl ?_
 refine cmp hT 1 rfl (fun h8 => ?_) (fun h8 => absurd (by omega) h8)
 refine fin hT 0 rfl (nxX (thX (ifTX rfl ?_)))
 refine rgaX [] 8 [0, 2, 6, 8, 10, 12, 14, 5, 17] (by simp) (by kernel_rfl) (by kernel_rfl) ?_
 refine dldw hT (by kernel_rfl) 0 rfl (by kernel_rfl) (.inl rfl) c1 ?_
 refine dldt [2] hT (by kernel_rfl) 0 rfl (by kernel_rfl) (.inl rfl) c1 ?_
 refine dldt [6, 5, 4] hT (by kernel_rfl) 0 rfl (by kernel_rfl) (.inl rfl) c1 ?_
 refine dldw hT (by kernel_rfl) 2 rfl (by kernel_rfl) (.inl rfl) xW.bas ?_
 refine dact hT (by kernel_rfl) 1 rfl ?_
 refine cl hT 0 rfl (rootA b ss.length (some ad) cS xW.sl (by omega)) ?_
 rintro v11 K11 hs11 ⟨rfl, rfl, rfl⟩
 refine dnex [] (by simp) (by simp) rfl ?_
 refine dact hT (by kernel_rfl) 0 rfl ?_
 rw [show ((ss.length - 1 : Nat) : Int) = (ss.length : Int) - 1 by omega] at hF
 refine cl hT 0 rfl hF ?_
 rintro v17 K17 hs17 ⟨hs1, rfl, h⟩
 rw [List.append_nil]
 refine dnext (.inl (by kernel_rfl)) ?_
 refine dend hT (by kernel_rfl) 0 rfl (nxX ?_)
 refine end0X rfl ?_
 rcases h with ⟨_, h⟩ | ⟨_, h⟩
 ·exact .inl ⟨_, by rw [hln, Nat.zero_add], h⟩
 ·exact .inr h
end Go.Proofs.YtejkjbkodcamoaaGreatDoor
end
section
namespace Go.Proofs.YtejkjbkodcamoaaGreatDoor
open Go.En
attribute [local irreducible] Code.wp wpList Calls
def parV (p : PairP) : List Value := [.agg (pairV p).toArray]
theorem appSeqP {w0 : World} {K : PH} {hs : List PH} (f : Nat) (cap : List Value) (ps : List PairP) (Rd : PH -> List PH -> Prop) (it : ItG Tryz.prog w0 f cap (stepI (ps.map parV)) (fun i => i = (ps.map parV).length) 0 Rd) (hcal : callable Tryz.prog f = true)
  (hl : ps.length <= 1000000000) (hR : ∀ x y fr, Rd K (x :: y :: (hs ++ fr))) :
  Ct Tryz.prog w0 98 [.slice none 0 0, .func (.func f) #[] cap.toArray] K hs
   (fun v K' hs' => K' = K /\ ∃ (ao : Option Addr) (c : Nat) (g : PH), hs' = g :: hs /\ v = .slice ao ps.length c /\ SlO 2 100 pairR g ao ps.length c ps) := by
 refine enterX Tryz.func98 (by kernel_rfl) rfl rfl rfl ?_
 refine sqX (rgX ?_)
 refine bx hT 0 rfl fun b2 => ?_
 refine fin hT 1 rfl (nxX (thX (sqX (sqX (rgX ?_)))))
 refine fin hT 1 rfl (nxX (thX (bkX (WX.em (WX.perm (List.Perm.swap _ _ _) ?_)))))
 refine rgG cap (stepI (ps.map parV)) (fun i => i = (ps.map parV).length) 0 Rd rfl it hcal (fun s vs s' h => by
   obtain ⟨h, _⟩ := h
   rw [List.getElem?_map] at h
   obtain ⟨p, _, rfl⟩ := Option.map_eq_some_iff.1 h
   rfl) rfl
  (fun i K' hs' => K' = K /\ i <= ps.length /\ ∃ ao c g, hs' = pt b2 #[.slice ao i c] 26 :: g :: hs /\ SlO 2 100 pairR g ao i c (ps.take i))
  (fun _ _ _ => False) ⟨rfl, Nat.zero_le _, none, 0, em, rfl, SlO.nil _ _⟩ (fun s K' hs' t u h => by obtain ⟨rfl, _, ao, c, g, rfl, _⟩ := h; exact hR _ _ _) ?_ ?_ ?_
 ·rintro L s vs s' K' hs' fr t u ⟨hvs, rfl⟩ ⟨rfl, hsl, ao, c, g, rfl, o⟩
  rw [List.getElem?_map] at hvs
  obtain ⟨p, hp, rfl⟩ := Option.map_eq_some_iff.1 hvs
  have hpl := (List.getElem?_eq_some_iff.1 hp).1
  refine rgX ?_
  refine al hT 0 (.agg #[.string ⟨#[]⟩, .int .i64 0]) rfl (by kernel_rfl) fun b5 => ?_
  refine stS hT 0 0 rfl rfl (by kernel_rfl) rfl rfl ?_
  refine fin hT 0 rfl (nxX (asgX (hs' := pt b5 (pairV p).toArray 100 :: pt b2 #[.slice ao s c] 26 :: g :: (hs ++ fr)) (by simp) fun u => ?_))
  refine bkX (rgX ?_)
  refine ldp hT 0 1 rfl rfl rfl ?_
  refine ldS hT 0 0 rfl rfl (by kernel_rfl) ?_
  refine lit hT 0 (pairV p).toArray rfl (by decide) (by kernel_rfl) fun b10 => ?_
  refine appS hT 0 3 (pairV p) p rfl rfl rfl o rfl rfl (by simp [pairV, Value.oneCell', str]) rfl (by decide) (by show (s + 1) * 24 <= _; omega) (by simp only [maxLen]; omega) fun ao11 c11 g11 o11 => ?_
  refine stp hT 0 2 rfl rfl rfl rfl ?_
  refine fin hT 0 rfl (nxX (blX (WQX.drop (WQX.drop (rndX (hs' := pt b2 #[.slice ao11 (s + 1) c11] 26 :: g11 :: (hs ++ fr)) rfl ?_)))))
  refine ⟨pt b2 #[.slice ao11 (s + 1) c11] 26 :: g11 :: hs, rfl, rfl, hpl, ao11, c11, g11, rfl, ?_⟩
  rw [List.take_add_one, hp]
  exact o11
 ·rintro D s K' hs' hov ⟨rfl, hsl, ao, c, g, rfl, o⟩
  have hse : s = ps.length := by rw [hov, List.length_map]
  subst hse
  rw [List.take_length] at o
  refine id (blX (thX (sqX (rgX ?_))))
  refine ldp hT 0 0 rfl rfl rfl ?_
  refine fin hT 1 rfl (nxX (thX (rtX (WQX.drop ?_))))
  exact ret1M D (hs' := g :: hs) rfl rfl rfl ⟨rfl, ao, c, g, rfl, rfl, o⟩
 ·rintro D c K hs hj
  exact hj.elim
theorem collectP {w0 : World} {K : PH} {hs : List PH} (f : Nat) (cap : List Value) (ps : List PairP) (Rd : PH -> List PH -> Prop) (it : ItG Tryz.prog w0 f cap (stepI (ps.map parV)) (fun i => i = (ps.map parV).length) 0 Rd) (hcal : callable Tryz.prog f = true)
  (hl : ps.length <= 1000000000) (hR : ∀ x y fr, Rd K (x :: y :: (hs ++ fr))) :
  Ct Tryz.prog w0 62 [.func (.func f) #[] cap.toArray] K hs
   (fun v K' hs' => K' = K /\ ∃ (ao : Option Addr) (c : Nat) (g : PH), hs' = g :: hs /\ v = .slice ao ps.length c /\ SlO 2 100 pairR g ao ps.length c ps) := by
 refine enter Tryz.func62 (by kernel_rfl) rfl rfl rfl ?_
 refine sq (rg ?_)
 refine fin hT 1 rfl (th (sq (rg ?_)))
 refine cl hT 1 rfl (appSeqP f cap ps Rd it hcal hl hR) ?_
 rintro v4 K4 hs4 ⟨rfl, ao, c, g, rfl, rfl, o⟩
 refine fin hT 1 rfl (th (rt ?_))
 exact ret1 rfl rfl ⟨rfl, ao, c, g, rfl, rfl, o⟩
theorem allC {w0 : World} {K : PH} {hs : List PH} (b : Nat) : Ct Tryz.prog w0 63 [.pointer (some ⟨b, 0, none⟩)] K hs
  (fun v K' hs' => K' = K /\ ∃ b1, hs' = pt b1 #[.pointer (some ⟨b, 0, none⟩)] 124 :: hs /\ v = .func (.func 99) #[] #[.pointer (some ⟨b1, 0, none⟩)]) := by
 refine enter Tryz.func63 (by kernel_rfl) rfl rfl rfl ?_
 refine sq (rg ?_)
 refine bx hT 0 rfl fun b1 => ?_
 refine fin hT 1 rfl (th (sq (rg ?_)))
 refine fin hT 2 rfl (th (rt ?_))
 exact ret1 rfl rfl ⟨rfl, b1, rfl, rfl⟩
theorem allE {w0 : World} (b : Nat) (b1 : Nat) (ao : Option Addr) (c : Nat) :
  ItG Tryz.prog w0 99 [.pointer (some ⟨b1, 0, none⟩)] (stepI ([].map parV)) (fun i => i = ([].map parV).length) 0 (fun K hs => Cell K ⟨b, 1, none⟩ (.slice ao 0 c) /\ Cell K ⟨b1, 0, none⟩ (.pointer (some ⟨b, 0, none⟩))) := by
 intro L St Sp hRd hY K hs h0
 obtain ⟨h1, c1⟩ := hRd 0 K hs h0
 refine enterX Tryz.func99 (by kernel_rfl) rfl rfl rfl ?_
 refine sqX (rgX ?_)
 refine ld hT 0 rfl (.inl rfl) c1 ?_
 refine ld hT 2 rfl (.inl rfl) h1 ?_
 refine cmp hT 1 rfl (fun h8 => absurd h8 (by decide)) (fun h8 => ?_)
 refine fin hT 0 rfl (nxX (thX (ifFX rfl ?_)))
 refine skX ?_
 exact end0X rfl (.inl ⟨0, rfl, h0⟩)
def prsP (ss : List StP) (base : Int) : List PairP := if ss = [] then [] else ((wt ss).getD (ss.length - 1) []).map fun y => ⟨textP y.1, base + y.2⟩
theorem collectAll {w0 : World} {K : PH} {hs : List PH} (b b1 : Nat) (base : Int) (ss : List StP) (hM0 : ss = [] \/ MOK base ss) (x : WalkQ K b base ss) (hG : LeastK K) (c1 : Cell K ⟨b1, 0, none⟩ (.pointer (some ⟨b, 0, none⟩))) :
  Ct Tryz.prog w0 62 [.func (.func 99) #[] #[.pointer (some ⟨b1, 0, none⟩)]] K hs
   (fun v K' hs' => K' = K /\ ∃ (ao : Option Addr) (c : Nat) (g : PH), hs' = g :: hs /\ v = .slice ao (prsP ss base).length c /\ SlO 2 100 pairR g ao (prsP ss base).length c (prsP ss base)) := by
 by_cases e : ss = []
 ·subst e
  obtain ⟨ao, c, h1, _⟩ := x.sta
  have hp : prsP [] base = [] := by simp [prsP]
  rw [hp]
  exact collectP _ [.pointer (some ⟨b1, 0, none⟩)] [] _ (allE b b1 ao c) (by kernel_rfl) (by simp) (fun _ _ _ => ⟨h1, c1⟩)
 ·rcases hM0 with h | hM0
  ·exact absurd h e
  obtain ⟨ad, cS, fa, xA⟩ := x.fix hM0.ne
  have hp : elsP ss base = (prsP ss base).map parV := by
   unfold elsP prsP
   rw [if_neg e, List.map_map]
   rfl
  have it := allI (w0 := w0) b base ss hM0 b1 ad cS fa
  rw [hp] at it
  refine collectP _ [.pointer (some ⟨b1, 0, none⟩)] (prsP ss base) _ it (by kernel_rfl) ?_ (fun _ _ _ => ⟨xA, hG, c1⟩)
  have := (hM0.wd (ss.length - 1) (by have := hM0.ne; omega)).1
  unfold prsP
  rw [if_neg e, List.length_map]
  omega
end Go.Proofs.YtejkjbkodcamoaaGreatDoor
end
section
namespace Go.Proofs.YtejkjbkodcamoaaGreatDoor
open Go.En
attribute [local irreducible] Code.wp wpList Calls
theorem rightE {w0 : World} {K : PH} {hs : List PH} (ao : Option Addr) (c : Nat) : Ct Tryz.prog w0 105 [.agg #[.int .i64 0, .slice ao 0 c]] K hs (fun v K' hs' => K' = K /\ hs' = hs /\ v = .bool true) := by
 refine enter Tryz.func105 (by kernel_rfl) rfl rfl rfl ?_
 refine sq (rg ?_)
 refine bx hT 0 rfl fun b1 => ?_
 refine fin hT 1 rfl (th (scp (sq (sq (rg ?_)))))
 refine ldp hT 1 0 rfl rfl rfl ?_
 refine cmp hT 1 rfl (fun h2 => ?_) (fun h2 => absurd rfl h2)
 refine fin hT 0 rfl (th (ifT rfl ?_))
 refine sq (rg ?_)
 refine ldp hT 1 0 rfl rfl rfl ?_
 refine cmp hT 0 rfl (fun h3 => ?_) (fun h3 => absurd rfl h3)
 refine fin hT 1 rfl (th (rt (rT (ngR (WQ.drop ?_)))))
 exact ret1 rfl rfl ⟨rfl, rfl, rfl⟩
theorem newWE {w0 : World} {K : PH} {hs : List PH} (ao : Option Addr) (c : Nat) : Ct Tryz.prog w0 65 [.agg #[.int .i64 0, .slice ao 0 c]] K hs (fun v K' hs' => Le K K' /\ hs' = hs /\ ∃ b, v = .tuple #[.pointer (some ⟨b, 0, none⟩), .bool true] /\ WalkQ K' b 0 []) := by
 refine enter Tryz.func65 (by kernel_rfl) rfl rfl rfl ?_
 refine sq (rg ?_)
 refine bx hT 0 rfl fun b1 => ?_
 refine fin hT 2 rfl (th (sq (sq (rg ?_))))
 refine ldS hT 0 0 rfl rfl (by kernel_rfl) ?_
 refine cl hT 0 rfl (rightE ao c) ?_
 rintro v11 K11 hs11 ⟨rfl, rfl, rfl⟩
 refine fin hT 1 rfl (th (ifF rfl (sk (th (sq (rg ?_))))))
 refine ldp hT 1 0 rfl rfl rfl ?_
 refine bd hT 0 (.agg #[.int .i64 0, .slice none 0 0, .slice none 0 0]) rfl (fun w => by kernel_rfl) ?_
 refine bx hT 0 rfl fun b16 => ?_
 refine fin hT 1 rfl (th (sq (sq (rg ?_))))
 refine ldp hT 1 1 rfl rfl rfl ?_
 refine fin hT 2 rfl (th (bk ?_))
 refine loop (σ := Unit) (fun _ => [(2, .pointer none), (3, .bool false), (4, .pointer (some ⟨b16, 0, none⟩)), (19, .int .i64 0), (20, .int .i64 0)]) (fun _ => K11)
  (fun _ => pt b16 #[.int .i64 0, .slice none 0 0, .slice none 0 0] 162 :: pt b1 #[.int .i64 0, .slice ao 0 c] 137 :: hs) (fun _ => True) (fun _ => 0) () trivial ⟨rfl, rfl, rfl, rfl, rfl, trivial⟩ rfl rfl ?_
 rintro - -
 refine sq (rg ?_)
 refine cmp hT 0 rfl (fun h => absurd h (by decide)) (fun _ => ?_)
 refine fin hT 0 rfl (th (sq (ifF rfl ?_)))
 refine ex (xt (xt (xb (th (WC.frz fun K2 le2 l2 => sq (rg ?_))))))
 refine fin hT 3 rfl (th (rt (WQ.drop ?_)))
 exact ret2 rfl rfl rfl ⟨le2, rfl, b16, rfl, (Cell.pt rfl).le l2, none, 0, (Cell.pt rfl).le l2, SlS.nil _ _ _ _⟩
end Go.Proofs.YtejkjbkodcamoaaGreatDoor
end
section
namespace Go.En
open Go.Proofs.YtejkjbkodcamoaaGreatDoor
theorem word_text {s : List UInt8} (h : wordP s) : textP (rl s) = s := (runesP_text (wsome h)).1
theorem RightD.okX {l : List PairP} (h : RightD l) : OkX 24 (l.map restP) := by
 refine ⟨h.ok, fun r hr c hc => ?_, fun r hr => ?_⟩
 ·obtain ⟨p, hp, rfl⟩ := List.mem_map.1 hr
  have hw := (h.one p hp).1
  have h1 := hw.2.2.1 c hc
  exact ⟨h1.1, h1.2, (runesP_text (wsome hw)).2.1 c hc⟩
 ·obtain ⟨p, hp, rfl⟩ := List.mem_map.1 hr
  exact (h.one p hp).2.2
theorem build_ok {l : List PairP} (h : RightD l) : (((buildP l).2 = [] /\ (buildP l).1 = 0) \/ MOK (buildP l).1 (buildP l).2) /\ prsP (buildP l).2 (buildP l).1 = l /\ (l = [] \/ (wt (buildP l).2).getD ((buildP l).2.length - 1) [] = wdsR (buildP l).1 (l.map restP)) := by
 by_cases e : l = []
 ·subst e
  have hb : buildP [] = (0, []) := by simp [buildP]
  rw [hb]
  exact ⟨.inl ⟨rfl, rfl⟩, by simp [prsP], .inl rfl⟩
 ·have hb : buildP l = (leastP (l.map restP), (stateP 25 bld0 (l.map restP)).1.sts) := by unfold buildP; rw [if_neg e]
  rw [hb]
  have hk := mok_built h.okX (by simpa using e) (by rw [List.length_map]; exact h.few) (fun r hr => by
    obtain ⟨p, hp, rfl⟩ := List.mem_map.1 hr
    have := (h.one p hp).1.2.2.2.1
    exact List.length_pos_iff.1 this) (fun r hr => by
    obtain ⟨p, hp, rfl⟩ := List.mem_map.1 hr
    exact (h.one p hp).2.1) (by have := h.tot; have := h.few; omega)
  refine ⟨.inr hk.1, ?_, .inr hk.2⟩
  have hne := hk.1.ne
  unfold prsP
  dsimp only
  rw [if_neg (List.length_pos_iff.1 hne), hk.2]
  unfold wdsR
  rw [List.map_map, List.map_map]
  conv => rhs; rw [<- List.map_id l]
  refine List.map_congr_left fun p hp => ?_
  simp only [Function.comp_apply, restP, id]
  rw [word_text (h.one p hp).1, show leastP (l.map restP) + (p.w - leastP (l.map restP)) = p.w by omega]
theorem findW_prs (base : Int) (s : List UInt8) (rs : List Nat) (hs : runesP s = some rs) : ∀ W : List Wd, (∀ y ∈ W, runesP (textP y.1) = some y.1) -> (findW W rs).map (base + ·) = ((W.map fun y => (⟨textP y.1, base + y.2⟩ : PairP)).find? fun p => decide (p.word = s)).map (·.w)
 | [], _ => rfl
 | y :: W, h => by
  have ih := findW_prs base s rs hs W fun z hz => h z (by simp [hz])
  have h1 := h y (by simp)
  unfold findW at ih ⊢
  rw [List.map_cons, List.find?_cons, List.find?_cons]
  by_cases e : y.1 = rs
  ·have e2 : textP y.1 = s := by rw [e]; exact (runesP_text hs).1
   rw [show decide (y.1 = rs) = true by simpa using e, show decide ((⟨textP y.1, base + y.2⟩ : PairP).word = s) = true by simpa using e2]
   rfl
  ·have e2 : ¬ textP y.1 = s := fun h2 => by
    rw [h2, hs] at h1
    exact e (Option.some.inj h1).symm
   simp only [e, e2, decide_false]
   exact ih
theorem fnd_built {l : List PairP} (h : RightD l) (s : List UInt8) : fndQ (buildP l).2 (buildP l).1 s = (l.find? fun p => decide (p.word = s)).map (·.w) := by
 obtain ⟨h1, h2, h3⟩ := build_ok h
 unfold fndQ
 cases hs : runesP s with
 | none =>
  have : l.find? (fun p => decide (p.word = s)) = none := by
   rw [List.find?_eq_none]
   intro p hp
   have hw := (h.one p hp).1.2.1
   simp only [decide_eq_true_eq]
   intro e
   rw [e, hs] at hw
   cases hw
  rw [this]; rfl
 | some rs =>
  dsimp only
  by_cases e : (buildP l).2 = []
  ·rw [if_pos e]
   have : l = [] := by rw [<- h2]; unfold prsP; rw [if_pos e]
   rw [this]; rfl
  ·rw [if_neg e]
   have hp : prsP (buildP l).2 (buildP l).1 = ((wt (buildP l).2).getD ((buildP l).2.length - 1) []).map fun y => ⟨textP y.1, (buildP l).1 + y.2⟩ := by unfold prsP; rw [if_neg e]
   rw [findW_prs _ s rs hs _ (fun y hy => ?_), <- hp, h2]
   rcases h3 with h3 | h3
   ·subst h3
    exact absurd (by simp [buildP]) e
   ·rw [h3] at hy
    obtain ⟨r, hr, rfl⟩ := List.mem_map.1 hy
    obtain ⟨p, hp, rfl⟩ := List.mem_map.1 hr
    have hw := (h.one p hp).1
    show runesP (textP (rl p.word)) = some (rl p.word)
    rw [word_text hw, wsome hw]
end Go.En
end
section
namespace Go.En
theorem find_take2 {α : Type} {p : α -> Bool} {l : List α} {i : Nat} {e : α} (h0 : (l.take i).find? p = none) (he : l[i]? = some e) (hp : p e = true) : l.find? p = some e := by
 have hi := (List.getElem?_eq_some_iff.1 he).1
 have : l = l.take i ++ (e :: l.drop (i + 1)) := by
  have h2 : l.drop i = e :: l.drop (i + 1) := by rw [List.drop_eq_getElem_cons hi, show l[i] = e from by rw [List.getElem?_eq_getElem hi] at he; exact Option.some.inj he]
  rw [<- h2, List.take_append_drop]
 rw [this, List.find?_append, h0]
 simp [hp]
theorem retccM {P : Program} {w0 : World} {fn : Func} {R : Value -> PH -> List PH -> Prop} {n : Nat} {l : Sl} {K : PH} {hs hs' : List PH} {x y : Value} (D i j m : Nat) (hh : hs = hs' ++ [dfr D]) {t ty u tu b1 b2 ty1 ty2 : Nat} (hr : fn.results = #[.cell t ty, .cell u tu])
  (hv : look l t = some (.pointer (some ⟨b1, 0, none⟩))) (hu : look l u = some (.pointer (some ⟨b2, 0, none⟩))) (h1 : ∀ w, (isAgg ty).run P w = .ok false w) (h2 : ∀ w, (isAgg tu).run P w = .ok false w) (hi : hs'[i]? = some (pt b1 #[x] ty1)) (hj : hs'[j]? = some (pt b2 #[y] ty2))
  (hk : R (.tuple #[x, y]) K (hs'.drop m)) : WQX [mkd D] w0 (bodyPostM (fz none) 0 P fn (endR w0 R)) .ret n l K hs := by
 subst hh
 intro a w ha hw
 have hw1 : Sat w0 (w.putObj D (.deferred none)) K hs' := (hw.putLast (.deferred none)).dropLast
 have hd := run_takeDeferred (P := P) (hw.last)
 have c1 : (w.putObj D (.deferred none)).cell? ⟨b1, 0, none⟩ = some x := hw1.cell (.inr ⟨i, hi⟩) (Cell.pt rfl)
 have c2 : (w.putObj D (.deferred none)).cell? ⟨b2, 0, none⟩ = some y := hw1.cell (.inr ⟨j, hj⟩) (Cell.pt rfl)
 have hres : (results fn a.tmps).run P (w.putObj D (.deferred none)) = .ok (.tuple #[x, y]) (w.putObj D (.deferred none)) := by
  simp [results, hr, ha.slot t _ hv, ha.slot u _ hu, asAddr, loadVar, h1, h2, c1, c2]
 exact ⟨by simp, .inl ⟨D, _, rfl, hd, .tuple #[x, y], hres, .tuple #[x, y], K, _, rfl, hk, hw1.dropN m⟩⟩
def lastF (l : List PairP) (s : List UInt8) : Option Int := (l.reverse.find? fun p => decide (p.word = s)).map (·.w)
end Go.En
namespace Go.Proofs.YtejkjbkodcamoaaGreatDoor
open Go.En
attribute [local irreducible] Code.wp wpList Calls
theorem backPC {w0 : World} {K : PH} {hs : List PH} (ao : Option Addr) (n c : Nat) : Ct Tryz.prog w0 109 [.slice ao n c] K hs
  (fun v K' hs' => K' = K /\ ∃ b, hs' = pt b #[.slice ao n c] 26 :: hs /\ v = .func (.func 127) #[] #[.pointer (some ⟨b, 0, none⟩)]) := by
 refine enter Tryz.func109 (by kernel_rfl) rfl rfl rfl ?_
 refine sq (rg ?_)
 refine bx hT 0 rfl fun b1 => ?_
 refine fin hT 1 rfl (th (sq (rg ?_)))
 refine fin hT 2 rfl (th (rt ?_))
 exact ret1 rfl rfl ⟨rfl, b1, rfl, rfl⟩
theorem backPI {w0 : World} (b : Nat) (ao : Option Addr) (c : Nat) (l : List PairP) (hl : l.length <= 1099511627776) : ItCt Tryz.prog w0 127 [.pointer (some ⟨b, 0, none⟩)] (backV pairV l) (BackRd 2 pairR b ao c l) := by
 intro L St Sp hRd hY K hs h0
 refine enterX Tryz.func127 (by kernel_rfl) rfl rfl rfl ?_
 obtain ⟨⟨h1, m1, c1⟩, _⟩ := hRd 0 K hs h0
 refine sqX (rgX ?_)
 refine ld hT 0 rfl m1 c1 ?_
 refine ar hT 1 rfl (v' := .int .i64 ((l.length : Int) - 1 - ((0 : Nat) : Int))) (by rw [i64w (by omega)]; simp) ?_
 refine fin hT 1 rfl (nxX (thX (bkX ?_)))
 refine loopX (σ := Nat × PH × List PH) (fun s => [(0, .func (.yield L) #[] #[]), (1, .pointer (some ⟨b, 0, none⟩)), (3, .int .i64 ((l.length : Int) - 1 - ((s.1 : Nat) : Int)))]) (fun s => s.2.1) (fun s => s.2.2) (fun s => s.1 <= l.length /\ St s.1 s.2.1 s.2.2) (fun s => l.length - s.1) (0, K, hs) ⟨Nat.zero_le _, h0⟩ ⟨rfl, rfl, rfl, trivial⟩ rfl rfl ?_
 rintro ⟨i, K, hs⟩ ⟨hi, hst⟩
 dsimp only at *
 obtain ⟨⟨h1, m1, c1⟩, h2, m2, c2⟩ := hRd i K hs hst
 refine sqX (sqX (rgX ?_))
 refine cmpS hT 1 rfl fun b8 h8 => ?_
 refine fin hT 0 rfl (nxX (thX (ifPX h8 rfl (fun e2 => ?_) (fun e2 => ?_))))
 ·have hil : i < l.length := by omega
  obtain ⟨a, rfl⟩ := c2.addr (by omega) (by decide)
  obtain ⟨vs, xs⟩ := c2.isS
  obtain ⟨cs, hc, hcl, hcell⟩ := c2.cells (i := l.length - 1 - i) (x := l[l.length - 1 - i]'(by omega)) (List.getElem?_eq_getElem _)
  refine skX (thX (sqX (bkX (sqX (rgI (WLI.cut 6 ?_))))))
  refine ld hT 2 rfl m1 c1 ?_
  refine ixs hT 1 (l.length - 1 - i) rfl (show _ = ((l.length - 1 - i : Nat) : Int) by omega) xs (by omega) (by decide) fun a15 ha => ?_
  cases ha
  refine lds hT 0 cs rfl (by rw [hcl]; kernel_rfl) m2 hcell ?_
  refine fin hT 0 rfl (cutX ?_)
  have hv : (backV pairV l)[i]? = some [.int .i64 ((l.length : Int) - 1 - ((i : Nat) : Int)), .agg cs.toArray] := by
   rw [backV_get pairV hil, hc, show ((l.length - 1 - i : Nat) : Int) = (l.length : Int) - 1 - ((i : Nat) : Int) from by omega]
  refine yld rfl (hY i _ K hs hv hst) ?_
  rintro v17 K17 hs17 (⟨rfl, hn⟩ | ⟨rfl, hp⟩)
  ·refine WLI.fin ?_
   refine fin hT 1 rfl (nxX (thX (ifFX rfl ?_)))
   refine skX (blX (thX (rgX ?_)))
   refine ar hT 1 rfl (v' := .int .i64 ((l.length : Int) - 1 - ((i + 1 : Nat) : Int))) (by rw [i64w (by omega)]; congr 1; omega) ?_
   refine fin hT 1 rfl (nxX ?_)
   exact againX (x := (i, K, hs)) (i + 1, K17, hs17) ⟨rfl, rfl, rfl, trivial⟩ rfl rfl ⟨by dsimp only; omega, hn⟩ (by dsimp only; omega)
  ·refine WLI.fin ?_
   refine fin hT 1 rfl (nxX (thX (ifTX rfl ?_)))
   refine rtX (rBX (rTX (rTX (rBX ?_))))
   exact ret0X rfl (.inr hp)
 ·refine exX (xtX (xtX (xbX ?_)))
  obtain rfl : i = l.length := by omega
  exact end0X rfl (.inl (by rw [backV_len]; exact hst))
theorem findPC {w0 : World} {K : PH} {hs : List PH} (ao : Option Addr) (c : Nat) (l : List PairP) (s : List UInt8) (x : SlS 2 pairR K ao l.length c l) (hl : l.length <= 1000000) :
  Ct Tryz.prog w0 90 [.slice ao l.length c, str s] K hs (fun v K' hs' => K' = K /\ hs' = hs /\ v = .tuple #[.int .i64 ((lastF l s).getD 0), .bool (lastF l s).isSome]) := by
 refine enterX Tryz.func90 (by kernel_rfl) rfl rfl rfl ?_
 refine sqX (rgX ?_)
 refine bx hT 0 rfl fun b3 => ?_
 refine al hT 0 (.int .i64 0) rfl (by kernel_rfl) fun b4 => ?_
 refine al hT 0 (.bool false) rfl (by kernel_rfl) fun b5 => ?_
 refine fin hT 0 rfl (nxX (thX (sqX (sqX (rgX ?_)))))
 refine cl hT 1 rfl (backPC ao l.length c) ?_
 rintro v9 K9 hs9 ⟨rfl, b1, rfl, rfl⟩
 refine fin hT 0 rfl (nxX (thX (bkX ?_)))
 refine rgf [.pointer (some ⟨b1, 0, none⟩)] (backV pairV l) (BackRd 2 pairR b1 ao c l) rfl (backPI b1 ao c l (by omega)) (by kernel_rfl) (fun vs hv => ?_) rfl
  (fun i K' hs' => K' = K9 /\ hs' = pt b1 #[.slice ao l.length c] 26 :: pt b5 #[.bool false] 4 :: pt b4 #[.int .i64 0] 3 :: pt b3 #[str s] 9 :: hs /\ (l.reverse.take i).find? (fun p => decide (p.word = s)) = none)
  (fun cd K' hs' => cd = .ret /\ K' = K9 /\ hs' = pt b1 #[.slice ao l.length c] 26 :: pt b5 #[.bool (lastF l s).isSome] 4 :: pt b4 #[.int .i64 ((lastF l s).getD 0)] 3 :: pt b3 #[str s] 9 :: hs)
  ⟨rfl, rfl, by simp⟩ (fun i K' hs' t u h => by obtain ⟨rfl, rfl, _⟩ := h; exact ⟨⟨_, .inr ⟨0, rfl⟩, Cell.pt rfl⟩, K', .inl rfl, x⟩) ?_ ?_ ?_
 ·obtain ⟨y, _, rfl⟩ := List.mem_map.1 (List.mem_reverse.1 hv)
  rfl
 ·rintro LL i vs K' hs' t u hvs ⟨rfl, rfl, hno⟩
  have hi : i < l.length := by have := (List.getElem?_eq_some_iff.1 hvs).1; rw [backV_len] at this; exact this
  rw [backV_get pairV hi] at hvs
  cases hvs
  obtain ⟨p, hp⟩ : ∃ p, p = l[l.length - 1 - i]'(by omega) := ⟨_, rfl⟩
  rw [<- hp]
  have her : l.reverse[i]? = some p := by
   rw [List.getElem?_reverse (by omega), hp]
   exact List.getElem?_eq_getElem _
  refine rgX ?_
  refine al hT 0 (.agg #[.string ⟨#[]⟩, .int .i64 0]) rfl (by kernel_rfl) fun b7 => ?_
  refine stS hT 0 0 rfl rfl (by kernel_rfl) rfl rfl ?_
  refine fin hT 0 rfl (nxX (asgX (hs' := pt b7 (pairV p).toArray 100 :: pt b1 #[.slice ao l.length c] 26 :: pt b5 #[.bool false] 4 :: pt b4 #[.int .i64 0] 3 :: pt b3 #[str s] 9 :: hs) rfl fun u => ?_))
  refine bkX (sqX (rgX ?_))
  refine ldp hT 1 0 (v := str p.word) rfl rfl rfl ?_
  refine ldp hT 0 4 (v := str s) rfl rfl rfl ?_
  refine seS hT 0 rfl fun b15 h15 => ?_
  refine fin hT 0 rfl (nxX (thX (ifPX h15 rfl (fun e2 => ?_) (fun e2 => ?_))))
  ·have hF : lastF l s = some p.w := by unfold lastF; rw [find_take2 hno her (by simpa using e2)]; rfl
   refine sqX (rgX ?_)
   refine ldp hT 1 0 (v := .int .i64 p.w) rfl rfl rfl ?_
   refine stp hT 0 3 rfl rfl rfl rfl ?_
   refine stp hT 0 2 rfl rfl rfl rfl ?_
   refine fin hT 0 rfl (nxX (thX (rtX (rBX ?_))))
   refine WQX.drop (jmpR (hs' := pt b1 #[.slice ao l.length c] 26 :: pt b5 #[.bool true] 4 :: pt b4 #[.int .i64 p.w] 3 :: pt b3 #[str s] 9 :: hs) rfl ?_)
   rw [hF]
   exact ⟨rfl, rfl, rfl⟩
  ·refine skX (blX (WQX.drop (rndX (hs' := pt b1 #[.slice ao l.length c] 26 :: pt b5 #[.bool false] 4 :: pt b4 #[.int .i64 0] 3 :: pt b3 #[str s] 9 :: hs) rfl ?_)))
   refine ⟨rfl, rfl, ?_⟩
   rw [List.take_add_one, her, List.find?_append, hno]
   simp [show ¬ p.word = s by simpa using e2]
 ·rintro DD K' hs' ⟨rfl, rfl, hno⟩
  rw [backV_len, List.take_of_length_le (by simp)] at hno
  have hF : lastF l s = none := by unfold lastF; rw [hno]; rfl
  refine id (blX (thX (sqX (rgX ?_))))
  refine stp hT 0 2 rfl rfl rfl rfl ?_
  refine stp hT 0 1 rfl rfl rfl rfl ?_
  refine fin hT 0 rfl (nxX (thX (rtX ?_)))
  exact retccM DD 2 1 4 (hs' := pt b1 #[.slice ao l.length c] 26 :: pt b5 #[.bool false] 4 :: pt b4 #[.int .i64 0] 3 :: pt b3 #[str s] 9 :: hs) rfl rfl rfl rfl (fun w => by kernel_rfl) (fun w => by kernel_rfl) rfl rfl ⟨rfl, rfl, by rw [hF]; rfl⟩
 ·rintro DD cd K' hs' ⟨rfl, rfl, rfl⟩
  refine rtX ?_
  exact retccM DD 2 1 4 (hs' := pt b1 #[.slice ao l.length c] 26 :: pt b5 #[.bool (lastF l s).isSome] 4 :: pt b4 #[.int .i64 ((lastF l s).getD 0)] 3 :: pt b3 #[str s] 9 :: hs) rfl rfl rfl rfl (fun w => by kernel_rfl) (fun w => by kernel_rfl) rfl rfl ⟨rfl, rfl, rfl⟩
end Go.Proofs.YtejkjbkodcamoaaGreatDoor
end
section
namespace Go.En
theorem swE_of {α : Type} {i j : Nat} {xs : List α} {x y : α} (hx : xs[i]? = some x) (hy : xs[j]? = some y) : swE i j xs = (xs.set i y).set j x := by
 simp only [swE, hx, hy]
theorem ptsInj {g e : Nat} {a b : Array Value} (h : pt g a e = pt g b e) : a = b := by
 have h2 := congrFun h g
 simpa [pt, sg] using h2
end Go.En
namespace Go.Proofs.YtejkjbkodcamoaaGreatDoor
open Go.En
attribute [local irreducible] Code.wp wpList Calls
theorem swapRangeC {w0 : World} {K : PH} {hs : List PH} (m : PH) (ao : Option Addr) (cap : Nat) (xs : List PairP) (p q n : Nat) (cmp : Value) (hx : SlZ 2 100 pairR m ao xs.length cap xs) (h1 : p + n <= q) (h2 : q + n <= xs.length) (hl : xs.length <= 1048576) :
  Ct Tryz.prog w0 141 [.slice ao xs.length cap, .int .i64 ((p : Nat) : Int), .int .i64 ((q : Nat) : Int), .int .i64 ((n : Nat) : Int), cmp] K (m :: hs)
  (fun v K' hs' => K' = K /\ v = .tuple #[] /\ ∃ m', hs' = m' :: hs /\ SlZ 2 100 pairR m' ao xs.length cap (swR p q n xs)) := by
 refine enter Tryz.func141 (by kernel_rfl) rfl rfl rfl ?_
 refine sq (rg ?_)
 refine fin hT 1 rfl (th (bk ?_))
 refine loop (σ := Nat × PH) (fun x => [(0, .slice ao xs.length cap), (1, .int .i64 ((p : Nat) : Int)), (2, .int .i64 ((q : Nat) : Int)), (3, .int .i64 ((n : Nat) : Int)), (10, .int .i64 ((x.1 : Nat) : Int))]) (fun _ => K) (fun x => x.2 :: hs) (fun x => x.1 <= n /\ SlZ 2 100 pairR x.2 ao xs.length cap (swR p q x.1 xs)) (fun x => n - x.1) (0, m) ⟨Nat.zero_le _, hx⟩ ⟨rfl, rfl, rfl, rfl, rfl, trivial⟩ rfl rfl ?_
 rintro ⟨i, m⟩ ⟨hi, o⟩
 dsimp only at *
 refine sq (sq (rg ?_))
 refine cmpS hT 2 rfl fun b13 h13 => ?_
 refine fin hT 0 rfl (th (ifP h13 rfl (fun e2 => ?_) (fun e2 => ?_)))
 ·have hin : i < n := by omega
  have hlen := swR_len p q i xs
  generalize hys : swR p q i xs = ys at *
  obtain ⟨x, hxi⟩ : ∃ x, ys[p + i]? = some x := ⟨_, List.getElem?_eq_getElem (by omega)⟩
  obtain ⟨y, hyi⟩ : ∃ y, ys[q + i]? = some y := ⟨_, List.getElem?_eq_getElem (by omega)⟩
  have xS := o.slS
  obtain ⟨gb, off, cur, rfl, rfl, hcs, hcap, hset⟩ := o.pts (show 0 < xs.length by omega)
  obtain ⟨vs, xv⟩ := xS.isS
  obtain ⟨cx, hcx, hcxl, hcxc⟩ := xS.cells hxi
  obtain ⟨cy, hcy, hcyl, hcyc⟩ := xS.cells hyi
  obtain rfl := hcx
  obtain rfl := hcy
  have o2 := hset (p + i) (pairV y) y (by omega) rfl rfl
  obtain ⟨gb2, off2, cur2, hao, hm2, hcs2, hcap2, hset2⟩ := o2.pts (show 0 < xs.length by omega)
  cases hao
  obtain rfl := ptsInj hm2
  have o3 := hset2 (q + i) (pairV x) x (by omega) rfl rfl
  refine sk (th (sq (bk (rga [pt gb cur 100] 21 [0, 2, 4, 6, 8, 10, 12, 14, 16, 18, 20, 22, 24, 26, 28, 30, 32, 34, 36, 38, 40, 43, 44, 47] (by simp) (by kernel_rfl) (by kernel_rfl) ?_))))
  refine dar hT (by kernel_rfl) 3 rfl (v' := .int .i64 ((p + i : Nat) : Int)) (i64w (by omega)) ?_
  refine dar hT (by kernel_rfl) 3 rfl (v' := .int .i64 ((q + i : Nat) : Int)) (i64w (by omega)) ?_
  refine dar hT (by kernel_rfl) 3 rfl (v' := .int .i64 ((q + i : Nat) : Int)) (i64w (by omega)) ?_
  refine dixs hT (by kernel_rfl) 0 (q + i) rfl rfl (by omega) ?_
  refine dlds hT (by kernel_rfl) 0 (pairV y) rfl (by kernel_rfl) (by kernel_rfl) (.inr ⟨0, rfl⟩) hcyc ?_
  refine dar hT (by kernel_rfl) 3 rfl (v' := .int .i64 ((p + i : Nat) : Int)) (i64w (by omega)) ?_
  refine dixs hT (by kernel_rfl) 0 (p + i) rfl rfl (by omega) ?_
  refine dlds hT (by kernel_rfl) 0 (pairV x) rfl (by kernel_rfl) (by kernel_rfl) (.inr ⟨0, rfl⟩) hcxc ?_
  refine dixs hT (by kernel_rfl) 0 (p + i) rfl rfl (by omega) ?_
  simp only [add_mk]
  refine dact hT (by kernel_rfl) 0 rfl ?_
  refine sts hT 0 0 rfl rfl (by kernel_rfl) (by simp [pairV]; omega) (fun v hv => by simp [pairV] at hv; rcases hv with rfl | rfl <;> rfl) ?_
  refine dnext (.inl (by kernel_rfl)) ?_
  refine dixs hT (by kernel_rfl) 0 (q + i) rfl rfl (by omega) ?_
  simp only [add_mk]
  refine dact hT (by kernel_rfl) 0 rfl ?_
  refine sts hT 0 0 rfl rfl (by kernel_rfl) (by simp [pairV]; omega) (fun v hv => by simp [pairV] at hv; rcases hv with rfl | rfl <;> rfl) ?_
  refine dnext (.inl (by kernel_rfl)) ?_
  refine dend hT (by kernel_rfl) 0 rfl (bl (th (rg ?_)))
  refine ar hT 1 rfl (i64w (by omega)) ?_
  refine fin hT 1 rfl ?_
  refine again (x := (i, pt gb cur 100)) (i + 1, _) ⟨rfl, rfl, rfl, rfl, rfl, trivial⟩ rfl rfl ⟨by omega, ?_⟩ (by (try dsimp only); omega)
  rw [swR, hys, swE_of hxi hyi]
  exact o3
 ·refine ex (xt (xt (xb ?_)))
  have : i = n := by omega
  subst this
  exact end0 rfl ⟨rfl, rfl, m, rfl, o⟩
end Go.Proofs.YtejkjbkodcamoaaGreatDoor
end
section
namespace Go.Proofs.YtejkjbkodcamoaaGreatDoor
open Go.En
attribute [local irreducible] Code.wp wpList Calls
theorem rotateC {w0 : World} {K : PH} {hs : List PH} (g : PH) (ao : Option Addr) (cap : Nat) (xs : List PairP) (a m b : Nat) (cmp : Value) (hx : SlZ 2 100 pairR g ao xs.length cap xs) (h1 : a < m) (h2 : m < b) (h3 : b <= xs.length) (hl : xs.length <= 1048576) :
  Ct Tryz.prog w0 140 [.slice ao xs.length cap, .int .i64 ((a : Nat) : Int), .int .i64 ((m : Nat) : Int), .int .i64 ((b : Nat) : Int), cmp] K (g :: hs)
  (fun v K' hs' => K' = K /\ v = .tuple #[] /\ ∃ g', hs' = g' :: hs /\ SlZ 2 100 pairR g' ao xs.length cap (rotL a m b xs)) := by
 refine enter Tryz.func140 (by kernel_rfl) rfl rfl rfl ?_
 refine sq (rg ?_)
 refine ar hT 2 rfl (v' := .int .i64 ((m - a : Nat) : Int)) (by rw [i64w (by omega)]; congr 1; omega) ?_
 refine fin hT 1 rfl (th (sq (rg ?_)))
 refine ar hT 2 rfl (v' := .int .i64 ((b - m : Nat) : Int)) (by rw [i64w (by omega)]; congr 1; omega) ?_
 refine fin hT 1 rfl (th (sq (bk ?_)))
 refine loop (σ := Nat × Nat × PH × List PairP) (fun x => [(0, .slice ao xs.length cap), (2, .int .i64 ((m : Nat) : Int)), (4, cmp), (10, .int .i64 ((x.1 : Nat) : Int)), (11, .int .i64 ((x.2.1 : Nat) : Int))]) (fun _ => K) (fun x => x.2.2.1 :: hs)
  (fun x => 0 < x.1 /\ 0 < x.2.1 /\ x.1 <= m /\ m + x.2.1 <= xs.length /\ x.2.2.2.length = xs.length /\ SlZ 2 100 pairR x.2.2.1 ao xs.length cap x.2.2.2 /\ rotL (m - x.1) m (m + x.2.1) x.2.2.2 = rotL a m b xs) (fun x => x.1 + x.2.1) (m - a, b - m, g, xs)
  ⟨by dsimp only; omega, by dsimp only; omega, by dsimp only; omega, by dsimp only; omega, rfl, hx, by dsimp only; rw [show m - (m - a) = a by omega, show m + (b - m) = b by omega]⟩ ⟨rfl, rfl, rfl, rfl, rfl, trivial⟩ rfl rfl ?_
 rintro ⟨i, j, g, ys⟩ ⟨hi, hj, him, hjl, hlen, o, hr⟩
 dsimp only at *
 refine sq (sq (rg ?_))
 refine cmpS hT 2 rfl fun b20 h20 => ?_
 have o' := o
 rw [<- hlen] at o'
 refine fin hT 0 rfl (th (ifP h20 rfl (fun e2 => ?_) (fun e2 => ?_)))
 ·refine sk (th (bk (sq (rg ?_))))
  refine cmpS hT 2 rfl fun b23 h23 => ?_
  refine fin hT 0 rfl (th (ifP h23 rfl (fun e4 => ?_) (fun e4 => ?_)))
  ·refine sq (rg ?_)
   refine ar hT 3 rfl (v' := .int .i64 ((m - i : Nat) : Int)) (by rw [i64w (by omega)]; congr 1; omega) ?_
   refine cl hT 3 rfl (by rw [<- hlen]; exact swapRangeC g ao cap ys (m - i) m j cmp o' (by omega) (by omega) (by omega)) ?_
   rintro v31 K31 hs31 ⟨rfl, rfl, g', rfl, o2⟩
   refine fin hT 0 rfl (th (rg ?_))
   refine ar hT 2 rfl (v' := .int .i64 ((i - j : Nat) : Int)) (by rw [i64w (by omega)]; congr 1; omega) ?_
   refine fin hT 1 rfl (bl ?_)
   exact again (x := (i, j, g, ys)) (i - j, j, g', swR (m - i) m j ys) ⟨rfl, rfl, rfl, rfl, rfl, trivial⟩ rfl rfl ⟨by dsimp only; omega, hj, by dsimp only; omega, hjl, by dsimp only; rw [swR_len]; exact hlen, by rw [<- hlen]; exact o2, by dsimp only; rw [rot_more him hj (by omega) (by omega)]; exact hr⟩ (by (try dsimp only); omega)
  ·refine sq (rg ?_)
   refine ar hT 3 rfl (v' := .int .i64 ((m - i : Nat) : Int)) (by rw [i64w (by omega)]; congr 1; omega) ?_
   refine ar hT 2 rfl (v' := .int .i64 ((m + j : Nat) : Int)) (i64w (by omega)) ?_
   refine ar hT 1 rfl (v' := .int .i64 ((m + j - i : Nat) : Int)) (by rw [i64w (by omega)]; congr 1; omega) ?_
   refine cl hT 2 rfl (by rw [<- hlen]; exact swapRangeC g ao cap ys (m - i) (m + j - i) i cmp o' (by omega) (by omega) (by omega)) ?_
   rintro v46 K46 hs46 ⟨rfl, rfl, g', rfl, o2⟩
   refine fin hT 0 rfl (th (rg ?_))
   refine ar hT 2 rfl (v' := .int .i64 ((j - i : Nat) : Int)) (by rw [i64w (by omega)]; congr 1; omega) ?_
   refine fin hT 1 rfl (bl ?_)
   exact again (x := (i, j, g, ys)) (i, j - i, g', swR (m - i) (m + j - i) i ys) ⟨rfl, rfl, rfl, rfl, rfl, trivial⟩ rfl rfl ⟨hi, by dsimp only; omega, him, by dsimp only; omega, by dsimp only; rw [swR_len]; exact hlen, by rw [<- hlen]; exact o2, by dsimp only; rw [rot_less him hi (by omega) (by omega)]; exact hr⟩ (by (try dsimp only); omega)
 ·refine ex (xt (xt (xb (th (rg ?_)))))
  have hij : i = j := by omega
  subst hij
  refine ar hT 3 rfl (v' := .int .i64 ((m - i : Nat) : Int)) (by rw [i64w (by omega)]; congr 1; omega) ?_
  refine cl hT 3 rfl (by rw [<- hlen]; exact swapRangeC g ao cap ys (m - i) m i cmp o' (by omega) (by omega) (by omega)) ?_
  rintro v57 K57 hs57 ⟨rfl, rfl, g', rfl, o2⟩
  refine fin hT 0 rfl ?_
  exact end0 rfl ⟨rfl, rfl, g', rfl, by rw [<- hr, <- rot_even him (by omega), <- hlen]; exact o2⟩
end Go.Proofs.YtejkjbkodcamoaaGreatDoor
end
section
namespace Go.En
theorem cmpB_lt : ∀ (x y : List UInt8), decide (Lib.compareBytes x y < 0) = Op.bytesLess x y
 | [], [] => rfl
 | [], _ :: _ => rfl
 | _ :: _, [] => rfl
 | a :: x, b :: y => by
  rw [bl_cons]
  unfold Lib.compareBytes
  by_cases h : a < b
  ·simp [h]
  ·by_cases g : b < a
   ·have : a ≠ b := fun e => by subst e; exact UInt8.lt_irrefl _ g
    simp [h, g, this]
   ·have e : a = b := by
     apply UInt8.toNat_inj.1
     rw [UInt8.lt_iff_toNat_lt] at h g
     omega
    subst e
    simp only [h, if_false]
    rw [cmpB_lt x y]
    simp
def cmpW (a b : PairP) : Int := Lib.compareBytes a.word b.word
theorem cmpW_lt (a b : PairP) : cmpW a b < 0 ↔ ltP a b = true := by
 have := cmpB_lt a.word b.word
 unfold cmpW ltP
 rw [<- this, decide_eq_true_eq]
theorem cmpW_nlt {a b : PairP} (h : ¬ cmpW a b < 0) : ltP a b = false := by
 cases g : ltP a b with
 | false => rfl
 | true => exact absurd ((cmpW_lt a b).2 g) h
end Go.En
namespace Go.Proofs.YtejkjbkodcamoaaGreatDoor
open Go.En
attribute [local irreducible] Code.wp wpList Calls
theorem cmpSBC {w0 : World} {K : PH} {hs : List PH} (x y : List UInt8) :
  Ct Tryz.prog w0 131 [str x, str y] K hs (fun v K' hs' => K' = K /\ hs' = hs /\ v = .int .i64 (Lib.compareBytes x y)) := by
 refine enter Tryz.func131 (by kernel_rfl) rfl rfl rfl ?_
 refine sq (rg ?_)
 refine fin hT 1 rfl (th (sq (rg ?_)))
 refine clx hT 2 rfl Tryz.func138 rfl rfl (by kernel_rfl) (e := Extern.BytealgCompare.compare) (by kernel_rfl) (v := .int .i64 (Lib.compareBytes x y)) (fun w hw => Lib.run_compareString ⟨x.toArray⟩ ⟨y.toArray⟩ w) ?_
 refine fin hT 1 rfl (th (rt ?_))
 exact ret1 rfl rfl ⟨rfl, rfl, rfl⟩
theorem cmpSC {w0 : World} {K : PH} {hs : List PH} (x y : List UInt8) :
  Ct Tryz.prog w0 116 [str x, str y] K hs (fun v K' hs' => K' = K /\ hs' = hs /\ v = .int .i64 (Lib.compareBytes x y)) := by
 refine enter Tryz.func116 (by kernel_rfl) rfl rfl rfl ?_
 refine sq (rg ?_)
 refine fin hT 1 rfl (th (sq (rg ?_)))
 refine cl hT 2 rfl (cmpSBC x y) ?_
 rintro v7 K7 hs7 ⟨rfl, rfl, rfl⟩
 refine fin hT 1 rfl (th (rt ?_))
 exact ret1 rfl rfl ⟨rfl, rfl, rfl⟩
def cmpF : Value := .func (.func 115) #[] #[]
theorem cmpPC {w0 : World} {K : PH} {hs : List PH} (x y : PairP) :
  Ct Tryz.prog w0 115 [.agg (pairV x).toArray, .agg (pairV y).toArray] K hs (fun v K' hs' => K' = K /\ hs' = hs /\ v = .int .i64 (cmpW x y)) := by
 refine enter Tryz.func115 (by kernel_rfl) rfl rfl rfl ?_
 refine sq (rg ?_)
 refine bx hT 0 rfl fun b2 => ?_
 refine bx hT 0 rfl fun b3 => ?_
 refine WL.hs (pt b3 #[str y.word, .int .i64 y.w] 100 :: pt b2 #[str x.word, .int .i64 x.w] 100 :: hs) rfl ?_
 refine fin hT 1 rfl (th (sq (rg ?_)))
 refine ldp hT 1 1 rfl rfl rfl ?_
 refine ldp hT 1 0 rfl rfl rfl ?_
 refine WL.drop (WL.drop ?_)
 refine cl hT 0 rfl (cmpSC x.word y.word) ?_
 rintro v9 K9 hs9 ⟨rfl, rfl, rfl⟩
 refine fin hT 1 rfl (th (rt ?_))
 exact ret1 rfl rfl ⟨rfl, rfl, rfl⟩
end Go.Proofs.YtejkjbkodcamoaaGreatDoor
end
section
namespace Go.En
theorem SrtT.cut {α : Type} {lt : α -> α -> Bool} {a b c d : Nat} {xs : List α} (h : SrtT lt a b xs) (h1 : a <= c) (h2 : d <= b) : SrtT lt c d xs := fun i j x y i1 ij j1 hx hy => h i j x y (by omega) ij (by omega) hx hy
inductive Blk {α : Type} (lt : α -> α -> Bool) (n e : Nat) (xs : List α) : Nat -> Prop
 | fin {a : Nat} : e <= a -> Blk lt n e xs a
 | more {a : Nat} : SrtT lt a (min (a + n) e) xs -> Blk lt n e xs (a + n) -> Blk lt n e xs a
inductive Bup {α : Type} (lt : α -> α -> Bool) (n : Nat) (xs : List α) : Nat -> Prop
 | zero : Bup lt n xs 0
 | more {a : Nat} : Bup lt n xs a -> SrtT lt a (a + n) xs -> Bup lt n xs (a + n)
theorem Bup.blk {α : Type} {lt : α -> α -> Bool} {n e a : Nat} {xs : List α} (h : Bup lt n xs a) : Blk lt n e xs a -> Blk lt n e xs 0 := by
 induction h with
 | zero => exact id
 | more h hs ih => exact fun g => ih (.more (hs.cut (Nat.le_refl _) (Nat.min_le_left _ _)) g)
theorem Blk.seg {α : Type} {lt : α -> α -> Bool} {n e c a b : Nat} {xs ys : List α} (h : Blk lt n e xs c) (g : SegT lt a b xs ys) : b <= c -> Blk lt n e ys c := by
 induction h with
 | fin h => exact fun _ => .fin h
 | more h h2 ih => exact fun hb => .more (h.same fun p p1 p2 => g.out (.inr (by omega))) (ih (by omega))
theorem Bup.seg {α : Type} {lt : α -> α -> Bool} {n c a b : Nat} {xs ys : List α} (h : Bup lt n xs c) (g : SegT lt a b xs ys) : c <= a -> Bup lt n ys c := by
 induction h with
 | zero => exact fun _ => .zero
 | more h h2 ih => exact fun hb => .more (ih (by omega)) (h2.same fun p p1 p2 => g.out (.inl (by omega)))
theorem Bup.step {α : Type} {lt : α -> α -> Bool} {n a : Nat} {xs ys : List α} (h : Bup lt n xs a) (g : SegT lt a (a + n) xs ys) (s : SrtT lt a (a + n) ys) : Bup lt n ys (a + n) :=
 .more (h.seg g (Nat.le_refl _)) s
theorem Bup.last {α : Type} {lt : α -> α -> Bool} {n a e : Nat} {xs ys : List α} (h : Bup lt n xs a) (g : SegT lt a e xs ys) (s : SrtT lt a e ys) (hn : e <= a + n) : Blk lt n e ys 0 :=
 (h.seg g (Nat.le_refl _)).blk (.more (s.cut (Nat.le_refl _) (Nat.min_le_right _ _)) (.fin hn))
theorem Blk.two {α : Type} {lt : α -> α -> Bool} {n e a : Nat} {xs : List α} (h : Blk lt n e xs a) (hn : 0 < n) (hb : a + n < e) : SrtT lt a (a + n) xs /\ SrtT lt (a + n) (min (a + n + n) e) xs /\ Blk lt n e xs (a + n + n) := by
 cases h with
 | fin h => omega
 | more h h2 =>
  cases h2 with
  | fin h2 => omega
  | more h2 h3 => exact ⟨h.cut (Nat.le_refl _) (by omega), h2, h3⟩
theorem Blk.one {α : Type} {lt : α -> α -> Bool} {n e a : Nat} {xs : List α} (h : Blk lt n e xs a) (hb : e <= a + n) : SrtT lt a e xs := by
 cases h with
 | fin h => exact fun i j x y i1 ij j1 => by omega
 | more h h2 => exact h.cut (Nat.le_refl _) (by omega)
structure RndT {α : Type} (lt : α -> α -> Bool) (n e a : Nat) (xs : List α) : Prop where
 up : Bup lt (2 * n) xs a
 on : Blk lt n e xs a
theorem RndT.zero {α : Type} {lt : α -> α -> Bool} {n e : Nat} {xs : List α} (h : Blk lt n e xs 0) : RndT lt n e 0 xs := ⟨.zero, h⟩
theorem RndT.step {α : Type} {lt : α -> α -> Bool} {n e a : Nat} {xs ys : List α} (h : RndT lt n e a xs) (hn : 0 < n) (hb : a + 2 * n <= e) (g : SegT lt a (a + 2 * n) xs ys) (s : SrtT lt a (a + 2 * n) ys) : RndT lt n e (a + 2 * n) ys := by
 have e2 : a + 2 * n = a + n + n := by omega
 refine ⟨h.up.step g s, ?_⟩
 have := (h.on.two hn (by omega)).2.2
 rw [<- e2] at this
 exact this.seg g (Nat.le_refl _)
theorem RndT.parts {α : Type} {lt : α -> α -> Bool} {n e a : Nat} {xs : List α} (h : RndT lt n e a xs) (hn : 0 < n) (hb : a + n < e) : SrtT lt a (a + n) xs /\ SrtT lt (a + n) (min (a + 2 * n) e) xs := by
 have g := h.on.two hn hb
 rw [show a + n + n = a + 2 * n by omega] at g
 exact ⟨g.1, g.2.1⟩
theorem RndT.last {α : Type} {lt : α -> α -> Bool} {n e a : Nat} {xs ys : List α} (h : RndT lt n e a xs) (hb : e <= a + 2 * n) (g : SegT lt a e xs ys) (s : SrtT lt a e ys) : Blk lt (2 * n) e ys 0 := h.up.last g s hb
theorem RndT.rest {α : Type} {lt : α -> α -> Bool} {n e a : Nat} {xs : List α} (h : RndT lt n e a xs) (hb : e <= a + n) : Blk lt (2 * n) e xs 0 :=
 h.last (by omega) (SegT.refl lt a e xs) (h.on.one hb)
theorem Blk.all {α : Type} {lt : α -> α -> Bool} {n e : Nat} {xs : List α} (h : Blk lt n e xs 0) (hb : e <= n) : SrtT lt 0 e xs := h.one (by omega)
end Go.En
end
section
namespace Go.Proofs.YtejkjbkodcamoaaGreatDoor
open Go.En
attribute [local irreducible] Code.wp wpList Calls
theorem insC {w0 : World} {K : PH} {hs : List PH} (g : PH) (ao : Option Addr) (cap : Nat) (xs : List PairP) (a b : Nat) (hx : SlZ 2 100 pairR g ao xs.length cap xs) (h1 : a <= b) (h2 : b <= xs.length) (hl : xs.length <= 1048576) :
  Ct Tryz.prog w0 136 [.slice ao xs.length cap, .int .i64 ((a : Nat) : Int), .int .i64 ((b : Nat) : Int), cmpF] K (g :: hs)
  (fun v K' hs' => K' = K /\ v = .tuple #[] /\ ∃ g' ys, hs' = g' :: hs /\ SlZ 2 100 pairR g' ao xs.length cap ys /\ SegT ltP a b xs ys /\ SrtT ltP a b ys) := by
 refine enter Tryz.func136 (by kernel_rfl) rfl rfl rfl ?_
 refine sq (rg ?_)
 refine ar hT 1 rfl (v' := .int .i64 ((a + 1 : Nat) : Int)) (i64w (by omega)) ?_
 refine fin hT 1 rfl (th (bk ?_))
 refine loop (σ := Nat × PH × List PairP) (fun x => [(0, .slice ao xs.length cap), (1, .int .i64 ((a : Nat) : Int)), (2, .int .i64 ((b : Nat) : Int)), (3, cmpF), (8, .int .i64 ((x.1 : Nat) : Int))]) (fun _ => K) (fun x => x.2.1 :: hs)
  (fun x => a + 1 <= x.1 /\ (x.1 <= b \/ x.1 = a + 1) /\ SlZ 2 100 pairR x.2.1 ao xs.length cap x.2.2 /\ SegT ltP a b xs x.2.2 /\ SrtT ltP a x.1 x.2.2) (fun x => b - x.1) (a + 1, g, xs)
  ⟨Nat.le_refl _, .inr rfl, hx, SegT.refl _ _ _ _, fun i j x y i1 i2 i3 => by omega⟩ ⟨rfl, rfl, rfl, rfl, rfl, trivial⟩ rfl rfl ?_
 rintro ⟨i, g, ys⟩ ⟨hi, hib, o, sg, st⟩
 dsimp only at *
 have hlen := sg.len
 refine sq (sq (rg ?_))
 refine cmpS hT 2 rfl fun b14 h14 => ?_
 refine fin hT 0 rfl (th (ifP h14 rfl (fun e2 => ?_) (fun e2 => ?_)))
 ·refine sk (th (sq (bk (sq (rg ?_)))))
  refine fin hT 2 rfl (th (bk ?_))
  obtain ⟨z, hz⟩ : ∃ z, ys[i]? = some z := ⟨_, List.getElem?_eq_getElem (by omega)⟩
  refine loop (σ := Nat × PH × List PairP) (fun x => [(0, .slice ao xs.length cap), (1, .int .i64 ((a : Nat) : Int)), (2, .int .i64 ((b : Nat) : Int)), (3, cmpF), (8, .int .i64 ((i : Nat) : Int)), (9, .int .i64 ((x.1 : Nat) : Int))]) (fun _ => K) (fun x => x.2.1 :: hs)
   (fun x => a <= x.1 /\ x.1 <= i /\ SlZ 2 100 pairR x.2.1 ao xs.length cap x.2.2 /\ x.2.2 = rotL x.1 i (i + 1) ys /\ (x.1 < i -> ∀ x' y, ys[x.1]? = some x' -> ys[i]? = some y -> ltP y x' = true)) (fun x => x.1) (i, g, ys)
   ⟨by dsimp only; omega, Nat.le_refl _, o, (rotL_nil (Nat.le_succ _) (show i + 1 <= ys.length by omega)).1.symm, fun h => absurd h (Nat.lt_irrefl _)⟩ ⟨rfl, rfl, rfl, rfl, rfl, rfl, trivial⟩ rfl rfl ?_
  rintro ⟨j, g1, zs⟩ ⟨hj, hji, o, hzs, hR⟩
  dsimp only at *
  have hzl : zs.length = xs.length := by rw [hzs, rotL_len hji (by omega) (by omega), hlen]
  have hzj : zs[j]? = some z := by rw [hzs, rotL_b hji (by omega) (by omega) (Nat.le_refl _) (by omega), Nat.sub_self]; exact hz
  have xS := o.slS
  have done : (a < j -> ∀ x y, ys[j - 1]? = some x -> ys[i]? = some y -> ltP y x = false) -> SegT ltP a b xs zs /\ SrtT ltP a (i + 1) zs := fun hL => by
   have := one_r wkoP hj hji (by omega) st hR hL
   rw [<- hzs] at this
   exact ⟨sg.trans (this.1.wide (Nat.le_refl _) (by omega)), this.2⟩
  by_cases haj : a < j
  ·obtain ⟨y, hyi⟩ : ∃ y, zs[j - 1]? = some y := ⟨_, List.getElem?_eq_getElem (by omega)⟩
   have hyy : ys[j - 1]? = some y := by rw [<- hyi, hzs, rotL_lo hji (by omega) (by omega) (by omega)]
   obtain ⟨gb, off, cur, rfl, rfl, hcs, hcap, hset⟩ := o.pts (show 0 < xs.length by omega)
   obtain ⟨vs, xv⟩ := xS.isS
   obtain ⟨cx, hcx, hcxl, hcxc⟩ := xS.cells hzj
   obtain ⟨cy, hcy, hcyl, hcyc⟩ := xS.cells hyi
   obtain rfl := hcx
   obtain rfl := hcy
   refine sq (sq (rga [pt gb cur 100] 17 [0, 2, 4, 6, 8, 10, 12, 14, 16, 18, 20, 22, 24, 26, 29, 30, 32] (by simp) (by kernel_rfl) (by kernel_rfl) ?_))
   refine dcmp hT (by kernel_rfl) 2 (a < j) rfl (by simp) (fun h3 => ?_) (fun h3 => absurd haj h3)
   refine dixs hT (by kernel_rfl) 4 j rfl rfl (by omega) ?_
   refine dlds hT (by kernel_rfl) 0 (pairV z) rfl (by kernel_rfl) (by kernel_rfl) (.inr ⟨0, rfl⟩) hcxc ?_
   refine dar hT (by kernel_rfl) 2 rfl (v' := .int .i64 ((j - 1 : Nat) : Int)) (by rw [i64w (by omega)]; congr 1; omega) ?_
   refine dixs hT (by kernel_rfl) 0 (j - 1) rfl rfl (by omega) ?_
   refine dlds hT (by kernel_rfl) 0 (pairV y) rfl (by kernel_rfl) (by kernel_rfl) (.inr ⟨0, rfl⟩) hcyc ?_
   refine dact hT (by kernel_rfl) 0 rfl ?_
   refine cl hT 0 rfl (cmpPC z y) ?_
   rintro v32 K32 hs32 ⟨rfl, rfl, rfl⟩
   refine dnext (.inr ⟨rfl, rfl⟩) ?_
   refine dcbS hT (by kernel_rfl) 0 (cmpW z y < 0) rfl (by simp) fun b33 h33 => ?_
   refine dend hT (by kernel_rfl) 1 rfl (th (ifP h33 rfl (fun e4 => ?_) (fun e4 => ?_)))
   ·obtain ⟨k, rfl⟩ : ∃ k, j = k + 1 := ⟨j - 1, by omega⟩
    have o2 := hset (k + 1) (pairV y) y (by omega) rfl rfl
    obtain ⟨gb2, off2, cur2, hao, hm2, hcs2, hcap2, hset2⟩ := o2.pts (show 0 < xs.length by omega)
    cases hao
    obtain rfl := ptsInj hm2
    have o3 := hset2 (k + 1 - 1) (pairV z) z (by omega) rfl rfl
    refine sk (th (sq (bk (rga [pt gb cur 100] 15 [0, 2, 4, 6, 8, 10, 12, 14, 16, 18, 20, 22, 24, 26, 28, 31, 32, 35] (by simp) (by kernel_rfl) (by kernel_rfl) ?_))))
    refine dar hT (by kernel_rfl) 4 rfl (v' := .int .i64 ((k + 1 - 1 : Nat) : Int)) (by rw [i64w (by omega)]; congr 1; omega) ?_
    refine dar hT (by kernel_rfl) 2 rfl (v' := .int .i64 ((k + 1 - 1 : Nat) : Int)) (by rw [i64w (by omega)]; congr 1; omega) ?_
    refine dixs hT (by kernel_rfl) 0 (k + 1 - 1) rfl rfl (by omega) ?_
    refine dlds hT (by kernel_rfl) 0 (pairV y) rfl (by kernel_rfl) (by kernel_rfl) (.inr ⟨0, rfl⟩) hcyc ?_
    refine dixs hT (by kernel_rfl) 2 (k + 1) rfl rfl (by omega) ?_
    refine dlds hT (by kernel_rfl) 0 (pairV z) rfl (by kernel_rfl) (by kernel_rfl) (.inr ⟨0, rfl⟩) hcxc ?_
    refine dixs hT (by kernel_rfl) 0 (k + 1) rfl rfl (by omega) ?_
    simp only [add_mk]
    refine dact hT (by kernel_rfl) 0 rfl ?_
    refine sts hT 0 0 rfl rfl (by kernel_rfl) (by simp [pairV]; omega) (fun v hv => by simp [pairV] at hv; rcases hv with rfl | rfl <;> rfl) ?_
    refine dnext (.inl (by kernel_rfl)) ?_
    refine dixs hT (by kernel_rfl) 0 (k + 1 - 1) rfl rfl (by omega) ?_
    simp only [add_mk]
    refine dact hT (by kernel_rfl) 0 rfl ?_
    refine sts hT 0 0 rfl rfl (by kernel_rfl) (by simp [pairV]; omega) (fun v hv => by simp [pairV] at hv; rcases hv with rfl | rfl <;> rfl) ?_
    refine dnext (.inl (by kernel_rfl)) ?_
    refine dend hT (by kernel_rfl) 0 rfl (bl (th (rg ?_)))
    refine ar hT 1 rfl (v' := .int .i64 ((k : Nat) : Int)) (by rw [i64w (by omega)]; congr 1; omega) ?_
    refine fin hT 1 rfl ?_
    refine again (x := (k + 1, pt gb cur 100, zs)) (k, _, swE (k + 1) k zs) ⟨rfl, rfl, rfl, rfl, rfl, rfl, trivial⟩ rfl rfl ⟨by dsimp only; omega, by dsimp only; omega, ?_, ?_, ?_⟩ (by (try dsimp only); omega)
    ·dsimp only
     rw [swE_of hzj (show zs[k]? = some y from hyi)]
     exact o3
    ·dsimp only
     rw [hzs]
     exact rot_down (by omega) (by omega)
    ·intro _ x y' hx hy'
     rw [show ys[k]? = some y from hyy] at hx
     rw [hz] at hy'
     cases hx
     cases hy'
     exact (cmpW_lt _ _).1 e4
   ·refine ex (xt (xt (xb (bl (th (rg ?_))))))
    obtain ⟨d1, d2⟩ := done (fun _ x y' hx hy' => by rw [hyy] at hx; rw [hz] at hy'; cases hx; cases hy'; exact cmpW_nlt e4)
    refine ar hT 1 rfl (v' := .int .i64 ((i + 1 : Nat) : Int)) (i64w (by omega)) ?_
    refine fin hT 1 rfl ?_
    exact again (x := (i, g, ys)) (i + 1, pt gb cur 100, zs) ⟨rfl, rfl, rfl, rfl, rfl, trivial⟩ rfl rfl ⟨by dsimp only; omega, .inl (by dsimp only; omega), o, d1, d2⟩ (by (try dsimp only); omega)
  ·refine sq (sq (rga [] 17 [0, 2, 4, 6, 8, 10, 12, 14, 16, 18, 20, 22, 24, 26, 28, 30, 32] (by simp) (by kernel_rfl) (by kernel_rfl) ?_))
   refine dcmp hT (by kernel_rfl) 2 (a < j) rfl (by simp) (fun h3 => absurd h3 haj) (fun h3 => ?_)
   refine dend hT (by kernel_rfl) 14 rfl (th (ifF rfl (ex (xt (xt (xb (bl (th (rg ?_)))))))))
   obtain ⟨d1, d2⟩ := done (fun h => absurd h haj)
   refine ar hT 1 rfl (v' := .int .i64 ((i + 1 : Nat) : Int)) (i64w (by omega)) ?_
   refine fin hT 1 rfl ?_
   exact again (x := (i, g, ys)) (i + 1, g1, zs) ⟨rfl, rfl, rfl, rfl, rfl, trivial⟩ rfl rfl ⟨by dsimp only; omega, .inl (by dsimp only; omega), o, d1, d2⟩ (by (try dsimp only); omega)
 ·refine ex (xt (xt (xb ?_)))
  exact end0 rfl ⟨rfl, rfl, g, ys, rfl, o, sg, SrtT.cut st (Nat.le_refl _) (by omega)⟩
end Go.Proofs.YtejkjbkodcamoaaGreatDoor
end
section
namespace Go.En
theorem u64shr1 (m : Nat) : Value.int .u64 ((m : Int).fdiv (2 ^ (min (1 : Int).toNat IntKind.u64.bits))) = .int .u64 ((m / 2 : Nat) : Int) := by
 have : min (1 : Int).toNat IntKind.u64.bits = 1 := by decide
 rw [this]
 congr 1
 rw [Int.fdiv_eq_ediv_of_nonneg _ (by decide)]
 norm_cast
end Go.En
namespace Go.Proofs.YtejkjbkodcamoaaGreatDoor
open Go.En
attribute [local irreducible] Code.wp wpList Calls
theorem symC : ∀ (z : Nat) {w0 : World} {K : PH} {hs : List PH} (g : PH) (ao : Option Addr) (cap ln : Nat) (xs : List PairP) (a m b : Nat) (hln : xs.length = ln) (hx : SlZ 2 100 pairR g ao ln cap xs) (h1 : a < m) (h2 : m < b) (h3 : b <= ln) (hl : ln <= 1048576) (hz : b - a <= z) (l1 : SrtT ltP a m xs) (l2 : SrtT ltP m b xs),
  Ct Tryz.prog w0 137 [.slice ao ln cap, .int .i64 ((a : Nat) : Int), .int .i64 ((m : Nat) : Int), .int .i64 ((b : Nat) : Int), cmpF] K (g :: hs)
  (fun v K' hs' => K' = K /\ v = .tuple #[] /\ ∃ g' ys, hs' = g' :: hs /\ SlZ 2 100 pairR g' ao ln cap ys /\ SegT ltP a b xs ys /\ SrtT ltP a b ys) := by
 intro z
 induction z with
 | zero => intro w0 K hs g ao cap ln xs a m b hln hx h1 h2 h3 hl hz l1 l2; omega
 | succ z ih =>
 intro w0 K hs g ao cap ln xs a m b hln hx h1 h2 h3 hl hz l1 l2
 refine enter Tryz.func137 (by kernel_rfl) rfl rfl rfl ?_
 refine sq (sq (rg ?_))
 refine ar hT 2 rfl (v' := .int .i64 ((m - a : Nat) : Int)) (by rw [i64w (by omega)]; congr 1; omega) ?_
 refine cmpS hT 0 rfl fun b28 h28 => ?_
 obtain ⟨gb, off, cur, rfl, rfl, hcs, hcap, hset⟩ := hx.pts (show 0 < ln by omega)
 have xS := hx.slS
 refine fin hT 0 rfl (th (ifP h28 rfl (fun e2 => ?_) (fun e2 => ?_)))
 ·obtain rfl : m = a + 1 := by omega
  obtain ⟨u, hu⟩ : ∃ u, xs[a]? = some u := ⟨_, List.getElem?_eq_getElem (by omega)⟩
  obtain ⟨cu, hcu, hcul, hcuc⟩ := xS.cells hu
  obtain rfl := hcu
  refine sq (rg ?_)
  refine fin hT 2 rfl (th (sq (rg ?_)))
  refine fin hT 2 rfl (th (sq (bk ?_)))
  refine loop (σ := Nat × Nat) (fun x => [(0, .slice (some ⟨gb, off, none⟩) ln cap), (1, .int .i64 ((a : Nat) : Int)), (4, cmpF), (10, .int .i64 ((x.1 : Nat) : Int)), (11, .int .i64 ((x.2 : Nat) : Int))]) (fun _ => K) (fun x => pt gb cur 100 :: hs)
   (fun x => a + 1 <= x.1 /\ x.1 <= x.2 /\ x.2 <= b /\ (a + 1 < x.1 -> ∀ p q, xs[a]? = some p -> xs[x.1 - 1]? = some q -> ltP q p = true) /\ (x.2 < b -> ∀ p q, xs[a]? = some p -> xs[x.2]? = some q -> ltP q p = false)) (fun x => x.2 - x.1) (a + 1, b)
   ⟨Nat.le_refl _, by dsimp only; omega, Nat.le_refl _, fun h => absurd h (Nat.lt_irrefl _), fun h => absurd h (Nat.lt_irrefl _)⟩ ⟨rfl, rfl, rfl, rfl, rfl, trivial⟩ rfl rfl ?_
  rintro ⟨i, j⟩ ⟨hi, hij, hjb, hL, hR⟩
  dsimp only at *
  refine sq (sq (rg ?_))
  refine cmpS hT 2 rfl fun b33 h33 => ?_
  refine fin hT 0 rfl (th (ifP h33 rfl (fun e4 => ?_) (fun e4 => ?_)))
  ·refine sk (th (bk (sq (rg ?_))))
   refine ar hT 2 rfl (v' := .int .i64 ((i + j : Nat) : Int)) (i64w (by omega)) ?_
   refine ar hT 0 rfl (u64w (by omega)) ?_
   refine ar hT 0 rfl (u64shr1 _) ?_
   refine ar hT 0 rfl (i64w (by omega)) ?_
   obtain ⟨h, hh⟩ : ∃ h, h = (i + j) / 2 := ⟨_, rfl⟩
   rw [<- hh]
   obtain ⟨v, hv⟩ : ∃ v, xs[h]? = some v := ⟨_, List.getElem?_eq_getElem (by omega)⟩
   obtain ⟨cv, hcv, hcvl, hcvc⟩ := xS.cells hv
   obtain rfl := hcv
   refine fin hT 1 rfl (th (sq (rga [pt gb cur 100] 11 [0, 2, 4, 6, 8, 10, 12, 14, 16, 19, 20] (by simp) (by kernel_rfl) (by kernel_rfl) ?_)))
   refine dixs hT (by kernel_rfl) 3 h rfl rfl (by omega) ?_
   refine dlds hT (by kernel_rfl) 0 (pairV v) rfl (by kernel_rfl) (by kernel_rfl) (.inr ⟨0, rfl⟩) hcvc ?_
   refine dixs hT (by kernel_rfl) 2 a rfl rfl (by omega) ?_
   refine dlds hT (by kernel_rfl) 0 (pairV u) rfl (by kernel_rfl) (by kernel_rfl) (.inr ⟨0, rfl⟩) hcuc ?_
   refine dact hT (by kernel_rfl) 0 rfl ?_
   refine cl hT 0 rfl (cmpPC v u) ?_
   rintro v49 K49 hs49 ⟨rfl, rfl, rfl⟩
   refine dnext (.inr ⟨rfl, rfl⟩) ?_
   refine dcbS hT (by kernel_rfl) 0 (cmpW v u < 0) rfl (by simp) fun b50 h50 => ?_
   refine dend hT (by kernel_rfl) 0 rfl (th (ifP h50 rfl (fun e5 => ?_) (fun e5 => ?_)))
   ·refine rg ?_
    refine ar hT 1 rfl (v' := .int .i64 ((h + 1 : Nat) : Int)) (i64w (by omega)) ?_
    refine fin hT 1 rfl (bl ?_)
    refine again (x := (i, j)) (h + 1, j) ⟨rfl, rfl, rfl, rfl, rfl, trivial⟩ rfl rfl ⟨by dsimp only; omega, by dsimp only; omega, hjb, fun _ p q hp hq => ?_, hR⟩ (by (try dsimp only); omega)
    rw [hu] at hp
    rw [show xs[h]? = some q from hq] at hv
    cases hp
    cases hv
    exact (cmpW_lt _ _).1 e5
   ·refine rg ?_
    refine fin hT 2 rfl (bl ?_)
    refine again (x := (i, j)) (i, h) ⟨rfl, rfl, rfl, rfl, rfl, trivial⟩ rfl rfl ⟨hi, by dsimp only; omega, by dsimp only; omega, hL, fun _ p q hp hq => ?_⟩ (by (try dsimp only); omega)
    rw [hu] at hp
    rw [show xs[h]? = some q from hq] at hv
    cases hp
    cases hv
    exact cmpW_nlt e5
  ·refine ex (xt (xt (xb (th (sq (sq (rg ?_)))))))
   obtain rfl : i = j := by omega
   have fine := one_l wkoP hi hjb (by omega) l2 hL hR
   refine fin hT 2 rfl (th (bk ?_))
   refine loop (σ := Nat × PH × List PairP) (fun x => [(0, .slice (some ⟨gb, off, none⟩) ln cap), (10, .int .i64 ((i : Nat) : Int)), (13, .int .i64 ((x.1 : Nat) : Int))]) (fun _ => K) (fun x => x.2.1 :: hs)
    (fun x => a <= x.1 /\ x.1 + 1 <= i /\ SlZ 2 100 pairR x.2.1 (some ⟨gb, off, none⟩) ln cap x.2.2 /\ x.2.2 = rotL a (a + 1) (x.1 + 1) xs) (fun x => i - x.1) (a, pt gb cur 100, xs)
    ⟨Nat.le_refl _, hi, hx, (rotL_nil (Nat.le_succ _) (by show a + 1 <= xs.length; omega)).2.symm⟩ ⟨rfl, rfl, rfl, trivial⟩ rfl rfl ?_
   rintro ⟨k, g1, zs⟩ ⟨hk, hki, o, hzs⟩
   dsimp only at *
   have hzl : zs.length = ln := by rw [hzs, rotL_len (by omega) (by omega) (by omega), hln]
   refine sq (sq (rg ?_))
   refine ar hT 2 rfl (v' := .int .i64 ((i - 1 : Nat) : Int)) (by rw [i64w (by omega)]; congr 1; omega) ?_
   refine cmpS hT 0 rfl fun b58 h58 => ?_
   refine fin hT 0 rfl (th (ifP h58 rfl (fun e7 => ?_) (fun e7 => ?_)))
   ·have oS := o.slS
    obtain ⟨x, hxi⟩ : ∃ x, zs[k]? = some x := ⟨_, List.getElem?_eq_getElem (by omega)⟩
    obtain ⟨y, hyi⟩ : ∃ y, zs[k + 1]? = some y := ⟨_, List.getElem?_eq_getElem (by omega)⟩
    obtain ⟨gb1, off1, cur1, hao1, rfl, hcs, hcap, hset⟩ := o.pts (show 0 < ln by omega)
    cases hao1
    obtain ⟨cx, hcx, hcxl, hcxc⟩ := oS.cells hxi
    obtain ⟨cy, hcy, hcyl, hcyc⟩ := oS.cells hyi
    obtain rfl := hcx
    obtain rfl := hcy
    have o2 := hset k (pairV y) y (by omega) rfl rfl
    obtain ⟨gb2, off2, cur2, hao, hm2, hcs2, hcap2, hset2⟩ := o2.pts (show 0 < ln by omega)
    cases hao
    obtain rfl := ptsInj hm2
    have o3 := hset2 (k + 1) (pairV x) x (by omega) rfl rfl
    refine sk (th (sq (bk (rga [pt gb cur1 100] 15 [0, 2, 4, 6, 8, 10, 12, 14, 16, 18, 20, 22, 24, 26, 28, 31, 32, 35] (by simp) (by kernel_rfl) (by kernel_rfl) ?_))))
    refine dar hT (by kernel_rfl) 4 rfl (v' := .int .i64 ((k + 1 : Nat) : Int)) (i64w (by omega)) ?_
    refine dar hT (by kernel_rfl) 2 rfl (v' := .int .i64 ((k + 1 : Nat) : Int)) (i64w (by omega)) ?_
    refine dixs hT (by kernel_rfl) 0 (k + 1) rfl rfl (by omega) ?_
    refine dlds hT (by kernel_rfl) 0 (pairV y) rfl (by kernel_rfl) (by kernel_rfl) (.inr ⟨0, rfl⟩) hcyc ?_
    refine dixs hT (by kernel_rfl) 2 k rfl rfl (by omega) ?_
    refine dlds hT (by kernel_rfl) 0 (pairV x) rfl (by kernel_rfl) (by kernel_rfl) (.inr ⟨0, rfl⟩) hcxc ?_
    refine dixs hT (by kernel_rfl) 0 k rfl rfl (by omega) ?_
    simp only [add_mk]
    refine dact hT (by kernel_rfl) 0 rfl ?_
    refine sts hT 0 0 rfl rfl (by kernel_rfl) (by simp [pairV]; omega) (fun v hv => by simp [pairV] at hv; rcases hv with rfl | rfl <;> rfl) ?_
    refine dnext (.inl (by kernel_rfl)) ?_
    refine dixs hT (by kernel_rfl) 0 (k + 1) rfl rfl (by omega) ?_
    simp only [add_mk]
    refine dact hT (by kernel_rfl) 0 rfl ?_
    refine sts hT 0 0 rfl rfl (by kernel_rfl) (by simp [pairV]; omega) (fun v hv => by simp [pairV] at hv; rcases hv with rfl | rfl <;> rfl) ?_
    refine dnext (.inl (by kernel_rfl)) ?_
    refine dend hT (by kernel_rfl) 0 rfl (bl (th (rg ?_)))
    refine ar hT 1 rfl (v' := .int .i64 ((k + 1 : Nat) : Int)) (i64w (by omega)) ?_
    refine fin hT 1 rfl ?_
    refine again (x := (k, pt gb cur1 100, zs)) (k + 1, _, swE k (k + 1) zs) ⟨rfl, rfl, rfl, trivial⟩ rfl rfl ⟨by dsimp only; omega, by dsimp only; omega, ?_, ?_⟩ (by (try dsimp only); omega)
    ·dsimp only
     rw [swE_of hxi hyi]
     exact o3
    ·dsimp only
     rw [hzs]
     exact rot_up hk (by omega)
   ·refine ex (xt (xt (xb (th (rt (rT ?_))))))
    obtain rfl : i = k + 1 := by omega
    rw [<- hzs] at fine
    exact ret0 rfl ⟨rfl, rfl, g1, zs, rfl, o, fine⟩
 ·refine sk (th (sq (sq (rg ?_))))
  refine ar hT 2 rfl (v' := .int .i64 ((b - m : Nat) : Int)) (by rw [i64w (by omega)]; congr 1; omega) ?_
  refine cmpS hT 0 rfl fun b80 h80 => ?_
  refine fin hT 0 rfl (th (ifP h80 rfl (fun e9 => ?_) (fun e9 => ?_)))
  ·obtain rfl : b = m + 1 := by omega
   obtain ⟨u, hu⟩ : ∃ u, xs[m]? = some u := ⟨_, List.getElem?_eq_getElem (by omega)⟩
   obtain ⟨cu, hcu, hcul, hcuc⟩ := xS.cells hu
   obtain rfl := hcu
   refine sq (rg ?_)
   refine fin hT 2 rfl (th (sq (rg ?_)))
   refine fin hT 2 rfl (th (sq (bk ?_)))
   refine loop (σ := Nat × Nat) (fun x => [(0, .slice (some ⟨gb, off, none⟩) ln cap), (2, .int .i64 ((m : Nat) : Int)), (4, cmpF), (14, .int .i64 ((x.1 : Nat) : Int)), (15, .int .i64 ((x.2 : Nat) : Int))]) (fun _ => K) (fun x => pt gb cur 100 :: hs)
    (fun x => a <= x.1 /\ x.1 <= x.2 /\ x.2 <= m /\ (a < x.1 -> ∀ p q, xs[x.1 - 1]? = some p -> xs[m]? = some q -> ltP q p = false) /\ (x.2 < m -> ∀ p q, xs[x.2]? = some p -> xs[m]? = some q -> ltP q p = true)) (fun x => x.2 - x.1) (a, m)
    ⟨Nat.le_refl _, by dsimp only; omega, Nat.le_refl _, fun h => absurd h (Nat.lt_irrefl _), fun h => absurd h (Nat.lt_irrefl _)⟩ ⟨rfl, rfl, rfl, rfl, rfl, trivial⟩ rfl rfl ?_
   rintro ⟨i, j⟩ ⟨hi, hij, hjb, hL, hR⟩
   dsimp only at *
   refine sq (sq (rg ?_))
   refine cmpS hT 2 rfl fun b85 h85 => ?_
   refine fin hT 0 rfl (th (ifP h85 rfl (fun e11 => ?_) (fun e11 => ?_)))
   ·refine sk (th (bk (sq (rg ?_))))
    refine ar hT 2 rfl (v' := .int .i64 ((i + j : Nat) : Int)) (i64w (by omega)) ?_
    refine ar hT 0 rfl (u64w (by omega)) ?_
    refine ar hT 0 rfl (u64shr1 _) ?_
    refine ar hT 0 rfl (i64w (by omega)) ?_
    obtain ⟨h, hh⟩ : ∃ h, h = (i + j) / 2 := ⟨_, rfl⟩
    rw [<- hh]
    obtain ⟨v, hv⟩ : ∃ v, xs[h]? = some v := ⟨_, List.getElem?_eq_getElem (by omega)⟩
    obtain ⟨cv, hcv, hcvl, hcvc⟩ := xS.cells hv
    obtain rfl := hcv
    refine fin hT 1 rfl (th (sq (rga [pt gb cur 100] 12 [0, 2, 4, 6, 8, 10, 12, 14, 16, 19, 20, 22] (by simp) (by kernel_rfl) (by kernel_rfl) ?_)))
    refine dixs hT (by kernel_rfl) 3 m rfl rfl (by omega) ?_
    refine dlds hT (by kernel_rfl) 0 (pairV u) rfl (by kernel_rfl) (by kernel_rfl) (.inr ⟨0, rfl⟩) hcuc ?_
    refine dixs hT (by kernel_rfl) 2 h rfl rfl (by omega) ?_
    refine dlds hT (by kernel_rfl) 0 (pairV v) rfl (by kernel_rfl) (by kernel_rfl) (.inr ⟨0, rfl⟩) hcvc ?_
    refine dact hT (by kernel_rfl) 0 rfl ?_
    refine cl hT 0 rfl (cmpPC u v) ?_
    rintro v101 K101 hs101 ⟨rfl, rfl, rfl⟩
    refine dnext (.inr ⟨rfl, rfl⟩) ?_
    refine dcbS hT (by kernel_rfl) 0 (cmpW u v < 0) rfl (by simp) fun b102 h102 => ?_
    refine dend hT (by kernel_rfl) 1 rfl (th (ifB rfl (fun h12 => ?_) (fun h12 => ?_)))
    ·have e5 : ¬ cmpW u v < 0 := fun e => by rw [h102.2 e] at h12; simp at h12
     refine rg ?_
     refine ar hT 1 rfl (v' := .int .i64 ((h + 1 : Nat) : Int)) (i64w (by omega)) ?_
     refine fin hT 1 rfl (bl ?_)
     refine again (x := (i, j)) (h + 1, j) ⟨rfl, rfl, rfl, rfl, rfl, trivial⟩ rfl rfl ⟨by dsimp only; omega, by dsimp only; omega, hjb, fun _ p q hp hq => ?_, hR⟩ (by (try dsimp only); omega)
     rw [hu] at hq
     rw [show xs[h]? = some p from hp] at hv
     cases hq
     cases hv
     exact cmpW_nlt e5
    ·have e5 : cmpW u v < 0 := h102.1 (by cases b102 <;> simp_all)
     refine rg ?_
     refine fin hT 2 rfl (bl ?_)
     refine again (x := (i, j)) (i, h) ⟨rfl, rfl, rfl, rfl, rfl, trivial⟩ rfl rfl ⟨hi, by dsimp only; omega, by dsimp only; omega, hL, fun _ p q hp hq => ?_⟩ (by (try dsimp only); omega)
     rw [hu] at hq
     rw [show xs[h]? = some p from hp] at hv
     cases hq
     cases hv
     exact (cmpW_lt _ _).1 e5
   ·refine ex (xt (xt (xb (th (sq (sq (rg ?_)))))))
    obtain rfl : i = j := by omega
    have fine := one_r wkoP hi hjb (by omega) l1 hR hL
    refine fin hT 2 rfl (th (bk ?_))
    refine loop (σ := Nat × PH × List PairP) (fun x => [(0, .slice (some ⟨gb, off, none⟩) ln cap), (14, .int .i64 ((i : Nat) : Int)), (17, .int .i64 ((x.1 : Nat) : Int))]) (fun _ => K) (fun x => x.2.1 :: hs)
     (fun x => i <= x.1 /\ x.1 <= m /\ SlZ 2 100 pairR x.2.1 (some ⟨gb, off, none⟩) ln cap x.2.2 /\ x.2.2 = rotL x.1 m (m + 1) xs) (fun x => x.1) (m, pt gb cur 100, xs)
     ⟨hjb, Nat.le_refl _, hx, (rotL_nil (Nat.le_succ _) (by show m + 1 <= xs.length; omega)).1.symm⟩ ⟨rfl, rfl, rfl, trivial⟩ rfl rfl ?_
    rintro ⟨k', g1, zs⟩ ⟨hk, hki, o, hzs⟩
    dsimp only at *
    have hzl : zs.length = ln := by rw [hzs, rotL_len (by omega) (by omega) (by omega), hln]
    refine sq (sq (rg ?_))
    refine cmpS hT 2 rfl fun b110 h110 => ?_
    refine fin hT 0 rfl (th (ifP h110 rfl (fun e14 => ?_) (fun e14 => ?_)))
    ·obtain ⟨k, rfl⟩ : ∃ k, k' = k + 1 := ⟨k' - 1, by omega⟩
     have oS := o.slS
     obtain ⟨x, hxi⟩ : ∃ x, zs[k + 1]? = some x := ⟨_, List.getElem?_eq_getElem (by omega)⟩
     obtain ⟨y, hyi⟩ : ∃ y, zs[k]? = some y := ⟨_, List.getElem?_eq_getElem (by omega)⟩
     obtain ⟨gb1, off1, cur1, hao1, rfl, hcs, hcap, hset⟩ := o.pts (show 0 < ln by omega)
     cases hao1
     obtain ⟨cx, hcx, hcxl, hcxc⟩ := oS.cells hxi
     obtain ⟨cy, hcy, hcyl, hcyc⟩ := oS.cells hyi
     obtain rfl := hcx
     obtain rfl := hcy
     have o2 := hset (k + 1) (pairV y) y (by omega) rfl rfl
     obtain ⟨gb2, off2, cur2, hao, hm2, hcs2, hcap2, hset2⟩ := o2.pts (show 0 < ln by omega)
     cases hao
     obtain rfl := ptsInj hm2
     have o3 := hset2 k (pairV x) x (by omega) rfl rfl
     refine sk (th (sq (bk (rga [pt gb cur1 100] 15 [0, 2, 4, 6, 8, 10, 12, 14, 16, 18, 20, 22, 24, 26, 28, 31, 32, 35] (by simp) (by kernel_rfl) (by kernel_rfl) ?_))))
     refine dar hT (by kernel_rfl) 4 rfl (v' := .int .i64 ((k : Nat) : Int)) (by rw [i64w (by omega)]; congr 1; omega) ?_
     refine dar hT (by kernel_rfl) 2 rfl (v' := .int .i64 ((k : Nat) : Int)) (by rw [i64w (by omega)]; congr 1; omega) ?_
     refine dixs hT (by kernel_rfl) 0 k rfl rfl (by omega) ?_
     refine dlds hT (by kernel_rfl) 0 (pairV y) rfl (by kernel_rfl) (by kernel_rfl) (.inr ⟨0, rfl⟩) hcyc ?_
     refine dixs hT (by kernel_rfl) 2 (k + 1) rfl rfl (by omega) ?_
     refine dlds hT (by kernel_rfl) 0 (pairV x) rfl (by kernel_rfl) (by kernel_rfl) (.inr ⟨0, rfl⟩) hcxc ?_
     refine dixs hT (by kernel_rfl) 0 (k + 1) rfl rfl (by omega) ?_
     simp only [add_mk]
     refine dact hT (by kernel_rfl) 0 rfl ?_
     refine sts hT 0 0 rfl rfl (by kernel_rfl) (by simp [pairV]; omega) (fun v hv => by simp [pairV] at hv; rcases hv with rfl | rfl <;> rfl) ?_
     refine dnext (.inl (by kernel_rfl)) ?_
     refine dixs hT (by kernel_rfl) 0 k rfl rfl (by omega) ?_
     simp only [add_mk]
     refine dact hT (by kernel_rfl) 0 rfl ?_
     refine sts hT 0 0 rfl rfl (by kernel_rfl) (by simp [pairV]; omega) (fun v hv => by simp [pairV] at hv; rcases hv with rfl | rfl <;> rfl) ?_
     refine dnext (.inl (by kernel_rfl)) ?_
     refine dend hT (by kernel_rfl) 0 rfl (bl (th (rg ?_)))
     refine ar hT 1 rfl (v' := .int .i64 ((k : Nat) : Int)) (by rw [i64w (by omega)]; congr 1; omega) ?_
     refine fin hT 1 rfl ?_
     refine again (x := (k + 1, pt gb cur1 100, zs)) (k, _, swE (k + 1) k zs) ⟨rfl, rfl, rfl, trivial⟩ rfl rfl ⟨by dsimp only; omega, by dsimp only; omega, ?_, ?_⟩ (by (try dsimp only); omega)
     ·dsimp only
      rw [swE_of hxi hyi]
      exact o3
     ·dsimp only
      rw [hzs]
      exact rot_down (by omega) (by omega)
    ·refine ex (xt (xt (xb (th (rt (rT ?_))))))
     obtain rfl : i = k' := by omega
     rw [<- hzs] at fine
     exact ret0 rfl ⟨rfl, rfl, g1, zs, rfl, o, fine⟩
  ·refine sk (th (sq (rg ?_)))
   refine ar hT 2 rfl (v' := .int .i64 ((a + b : Nat) : Int)) (i64w (by omega)) ?_
   refine ar hT 0 rfl (u64w (by omega)) ?_
   refine ar hT 0 rfl (u64shr1 _) ?_
   refine ar hT 0 rfl (i64w (by omega)) ?_
   obtain ⟨mid, hmid⟩ : ∃ mid, mid = (a + b) / 2 := ⟨_, rfl⟩
   rw [<- hmid]
   refine fin hT 1 rfl (th (sq (rg ?_)))
   refine ar hT 2 rfl (v' := .int .i64 ((mid + m : Nat) : Int)) (i64w (by omega)) ?_
   refine fin hT 1 rfl (th (sq (rg ?_)))
   obtain ⟨s0, hs0⟩ : ∃ s0, s0 = if mid < m then mid + m - b else a := ⟨_, rfl⟩
   obtain ⟨r0, hr0⟩ : ∃ r0, r0 = if mid < m then mid else m := ⟨_, rfl⟩
   have hb1 : a <= s0 /\ s0 <= r0 /\ r0 <= m /\ mid + m <= b + s0 /\ r0 <= mid := by rw [hs0, hr0]; split <;> omega
   refine fin hT 2 rfl (th (jn (σ := Nat × Nat) (fun s => [(0, .slice (some ⟨gb, off, none⟩) ln cap), (1, .int .i64 ((a : Nat) : Int)), (2, .int .i64 ((m : Nat) : Int)), (3, .int .i64 ((b : Nat) : Int)), (4, cmpF), (18, .int .i64 ((mid : Nat) : Int)), (19, .int .i64 ((mid + m : Nat) : Int)), (20, .int .i64 ((s.1 : Nat) : Int)), (21, .int .i64 ((s.2 : Nat) : Int))]) (fun s => pt gb cur 100 :: hs) (fun s => s.1 = s0 /\ s.2 = r0) ?_ ?_))
   ·refine sq (rg ?_)
    refine cmpS hT 2 rfl fun b140 h140 => ?_
    refine fin hT 0 rfl (th (ifP h140 rfl (fun e16 => ?_) (fun e16 => ?_)))
    ·refine sq (rg ?_)
     refine ar hT 2 rfl (v' := .int .i64 ((mid + m - b : Nat) : Int)) (by rw [i64w (by omega)]; congr 1; omega) ?_
     refine fin hT 1 rfl (th (rg ?_))
     refine fin hT 2 rfl ?_
     exact jx (mid + m - b, mid) ⟨by rw [hs0, if_pos (by omega)], by rw [hr0, if_pos (by omega)]⟩ ⟨rfl, rfl, rfl, rfl, rfl, rfl, rfl, rfl, rfl, trivial⟩ rfl rfl
    ·refine sq (rg ?_)
     refine fin hT 2 rfl (th (rg ?_))
     refine fin hT 2 rfl ?_
     exact jx (a, m) ⟨by rw [hs0, if_neg (by omega)], by rw [hr0, if_neg (by omega)]⟩ ⟨rfl, rfl, rfl, rfl, rfl, rfl, rfl, rfl, rfl, trivial⟩ rfl rfl
   rintro ⟨s, r⟩ ⟨e1, e2⟩
   dsimp only at *
   subst e1
   subst e2
   refine sq (rg ?_)
   refine ar hT 1 rfl (v' := .int .i64 ((mid + m - 1 : Nat) : Int)) (by rw [i64w (by omega)]; congr 1; omega) ?_
   refine fin hT 1 rfl (th (sq (bk ?_)))
   refine loop (σ := Nat × Nat) (fun x => [(0, .slice (some ⟨gb, off, none⟩) ln cap), (1, .int .i64 ((a : Nat) : Int)), (2, .int .i64 ((m : Nat) : Int)), (3, .int .i64 ((b : Nat) : Int)), (4, cmpF), (18, .int .i64 ((mid : Nat) : Int)), (19, .int .i64 ((mid + m : Nat) : Int)), (20, .int .i64 ((x.1 : Nat) : Int)), (21, .int .i64 ((x.2 : Nat) : Int)), (22, .int .i64 ((mid + m - 1 : Nat) : Int))]) (fun _ => K) (fun x => pt gb cur 100 :: hs)
    (fun x => s <= x.1 /\ x.1 <= x.2 /\ x.2 <= r /\ (s < x.1 -> ∀ p q, xs[x.1 - 1]? = some p -> xs[mid + m - x.1]? = some q -> ltP q p = false) /\ (x.2 < r -> ∀ p q, xs[x.2]? = some p -> xs[mid + m - 1 - x.2]? = some q -> ltP q p = true)) (fun x => x.2 - x.1) (s, r)
    ⟨Nat.le_refl _, by dsimp only; omega, Nat.le_refl _, fun h => absurd h (Nat.lt_irrefl _), fun h => absurd h (Nat.lt_irrefl _)⟩ ⟨rfl, rfl, rfl, rfl, rfl, rfl, rfl, rfl, rfl, rfl, trivial⟩ rfl rfl ?_
   rintro ⟨i, j⟩ ⟨hi, hij, hjb, hL, hR⟩
   dsimp only at *
   refine sq (sq (rg ?_))
   refine cmpS hT 2 rfl fun b151 h151 => ?_
   refine fin hT 0 rfl (th (ifP h151 rfl (fun e18 => ?_) (fun e18 => ?_)))
   ·refine sk (th (bk (sq (rg ?_))))
    refine ar hT 2 rfl (v' := .int .i64 ((i + j : Nat) : Int)) (i64w (by omega)) ?_
    refine ar hT 0 rfl (u64w (by omega)) ?_
    refine ar hT 0 rfl (u64shr1 _) ?_
    refine ar hT 0 rfl (i64w (by omega)) ?_
    obtain ⟨h, hh⟩ : ∃ h, h = (i + j) / 2 := ⟨_, rfl⟩
    rw [<- hh]
    obtain ⟨v, hv⟩ : ∃ v, xs[h]? = some v := ⟨_, List.getElem?_eq_getElem (by omega)⟩
    obtain ⟨cv, hcv, hcvl, hcvc⟩ := xS.cells hv
    obtain rfl := hcv
    obtain ⟨u, hu⟩ : ∃ u, xs[mid + m - 1 - h]? = some u := ⟨_, List.getElem?_eq_getElem (by omega)⟩
    obtain ⟨cu, hcu, hcul, hcuc⟩ := xS.cells hu
    obtain rfl := hcu
    refine fin hT 1 rfl (th (sq (rga [pt gb cur 100] 14 [0, 2, 4, 6, 8, 10, 12, 14, 16, 18, 20, 23, 24, 26] (by simp) (by kernel_rfl) (by kernel_rfl) ?_)))
    refine dar hT (by kernel_rfl) 4 rfl (v' := .int .i64 ((mid + m - 1 - h : Nat) : Int)) (by rw [i64w (by omega)]; congr 1; omega) ?_
    refine dixs hT (by kernel_rfl) 0 (mid + m - 1 - h) rfl rfl (by omega) ?_
    refine dlds hT (by kernel_rfl) 0 (pairV u) rfl (by kernel_rfl) (by kernel_rfl) (.inr ⟨0, rfl⟩) hcuc ?_
    refine dixs hT (by kernel_rfl) 2 h rfl rfl (by omega) ?_
    refine dlds hT (by kernel_rfl) 0 (pairV v) rfl (by kernel_rfl) (by kernel_rfl) (.inr ⟨0, rfl⟩) hcvc ?_
    refine dact hT (by kernel_rfl) 0 rfl ?_
    refine cl hT 0 rfl (cmpPC u v) ?_
    rintro v169 K169 hs169 ⟨rfl, rfl, rfl⟩
    refine dnext (.inr ⟨rfl, rfl⟩) ?_
    refine dcbS hT (by kernel_rfl) 0 (cmpW u v < 0) rfl (by simp) fun b170 h170 => ?_
    refine dend hT (by kernel_rfl) 1 rfl (th (ifB rfl (fun h19 => ?_) (fun h19 => ?_)))
    ·have e5 : ¬ cmpW u v < 0 := fun e => by rw [h170.2 e] at h19; simp at h19
     refine rg ?_
     refine ar hT 1 rfl (v' := .int .i64 ((h + 1 : Nat) : Int)) (i64w (by omega)) ?_
     refine fin hT 1 rfl (bl ?_)
     refine again (x := (i, j)) (h + 1, j) ⟨rfl, rfl, rfl, rfl, rfl, rfl, rfl, rfl, rfl, rfl, trivial⟩ rfl rfl ⟨by dsimp only; omega, by dsimp only; omega, hjb, fun _ p q hp hq => ?_, hR⟩ (by (try dsimp only); omega)
     rw [show mid + m - (h + 1, j).1 = mid + m - 1 - h by dsimp only; omega, hu] at hq
     rw [show xs[h]? = some p from hp] at hv
     cases hq
     cases hv
     exact cmpW_nlt e5
    ·have e5 : cmpW u v < 0 := h170.1 (by cases b170 <;> simp_all)
     refine rg ?_
     refine fin hT 2 rfl (bl ?_)
     refine again (x := (i, j)) (i, h) ⟨rfl, rfl, rfl, rfl, rfl, rfl, rfl, rfl, rfl, rfl, trivial⟩ rfl rfl ⟨hi, by dsimp only; omega, by dsimp only; omega, hL, fun _ p q hp hq => ?_⟩ (by (try dsimp only); omega)
     rw [hu] at hq
     rw [show xs[h]? = some p from hp] at hv
     cases hq
     cases hv
     exact (cmpW_lt _ _).1 e5
   ·refine ex (xt (xt (xb (th (sq (rg ?_))))))
    obtain rfl : i = j := by omega
    have hF : SymF ltP a m b i xs := ⟨h1, h2, by omega, l1, l2, by rw [<- hmid, <- hs0]; exact hi, by rw [<- hmid, <- hr0]; exact hjb, by rw [<- hmid, <- hs0]; exact hL, by rw [<- hmid, <- hr0]; exact hR⟩
    have hbd := hF.bds
    obtain ⟨q1, q2, q3, q4, q5, q6⟩ := hF.rot wkoP
    rw [<- hmid] at hbd q1 q2 q3 q4 q5 q6
    obtain ⟨b1, b2, b3, b4, b5, b6, b7⟩ := hbd
    refine ar hT 2 rfl (v' := .int .i64 ((mid + m - i : Nat) : Int)) (by rw [i64w (by omega)]; congr 1; omega) ?_
    obtain ⟨e, he⟩ : ∃ e, e = mid + m - i := ⟨_, rfl⟩
    rw [<- he] at q1 q2 q3 q4 q5 q6 b4 b5 b6 b7 ⊢
    refine fin hT 1 rfl (th (jn (σ := PH) (fun s => [(0, .slice (some ⟨gb, off, none⟩) ln cap), (1, .int .i64 ((a : Nat) : Int)), (3, .int .i64 ((b : Nat) : Int)), (4, cmpF), (18, .int .i64 ((mid : Nat) : Int)), (20, .int .i64 ((i : Nat) : Int)), (24, .int .i64 ((e : Nat) : Int))]) (fun s => s :: hs) (fun s => SlZ 2 100 pairR s (some ⟨gb, off, none⟩) ln cap (rotL i m e xs)) ?_ ?_))
    ·refine sq (rg ?_)
     refine cmpS hT 2 rfl fun b180 h180 => ?_
     refine' bja hT 1 4 185 [180, 181] h180 rfl rfl rfl rfl rfl rfl rfl (fun _ => ?x21) (fun b185 h185 => ?_)
     case x21 =>
      refine cmpS hT 2 rfl fun b184 h184 => ?_
      exact fin hT 1 rfl (bjx h184 rfl rfl rfl)
     refine fin hT 0 rfl (th (ifP h185 rfl (fun e23 => ?_) (fun e23 => ?_)))
     ·refine rg ?_
      refine cl hT 5 rfl (by rw [<- hln]; exact rotateC (pt gb cur 100) (some ⟨gb, off, none⟩) cap xs i m e cmpF (by rw [hln]; exact hx) (by omega) (by omega) (by omega) (by omega)) ?_
      rintro v191 K191 hs191 ⟨rfl, rfl, g', rfl, o2⟩
      refine fin hT 0 rfl ?_
      exact jx g' (by rw [<- hln]; exact o2) ⟨rfl, rfl, rfl, rfl, rfl, rfl, rfl, trivial⟩ rfl rfl
     ·refine sk ?_
      refine jx (pt gb cur 100) ?_ ⟨rfl, rfl, rfl, rfl, rfl, rfl, rfl, trivial⟩ rfl rfl
      by_cases hc : i = m
      ·subst hc
       rw [(rotL_nil b4 (by omega)).1]
       exact hx
      ·obtain rfl : m = e := by omega
       rw [(rotL_nil b2 (by omega)).2]
       exact hx
    rintro g1 o1
    have hl1 : (rotL i m e xs).length = ln := by rw [q1.len, hln]
    generalize rotL i m e xs = y1 at *
    refine jn (σ := PH × List PairP) (fun s => [(0, .slice (some ⟨gb, off, none⟩) ln cap), (3, .int .i64 ((b : Nat) : Int)), (4, cmpF), (18, .int .i64 ((mid : Nat) : Int)), (24, .int .i64 ((e : Nat) : Int))]) (fun s => s.1 :: hs) (fun s => SlZ 2 100 pairR s.1 (some ⟨gb, off, none⟩) ln cap s.2 /\ SegT ltP a mid y1 s.2 /\ SrtT ltP a mid s.2) ?_ ?_
    ·refine sq (rg ?_)
     refine cmpS hT 2 rfl fun b194 h194 => ?_
     refine' bja hT 1 4 199 [194, 195] h194 rfl rfl rfl rfl rfl rfl rfl (fun _ => ?x25) (fun b199 h199 => ?_)
     case x25 =>
      refine cmpS hT 2 rfl fun b198 h198 => ?_
      exact fin hT 1 rfl (bjx h198 rfl rfl rfl)
     refine fin hT 0 rfl (th (ifP h199 rfl (fun e27 => ?_) (fun e27 => ?_)))
     ·refine rg ?_
      refine cl hT 5 rfl (ih g1 (some ⟨gb, off, none⟩) cap ln y1 a i mid hl1 o1 (by omega) (by omega) (by omega) hl (by omega) q2 q3) ?_
      rintro v205 K205 hs205 ⟨rfl, rfl, g', y2, rfl, o2, r1, r2⟩
      refine fin hT 0 rfl ?_
      exact jx (g', y2) ⟨o2, r1, r2⟩ ⟨rfl, rfl, rfl, rfl, rfl, trivial⟩ rfl rfl
     ·refine sk ?_
      refine jx (g1, y1) ⟨o1, SegT.refl _ _ _ _, ?_⟩ ⟨rfl, rfl, rfl, rfl, rfl, trivial⟩ rfl rfl
      by_cases hc : a = i
      ·rw [hc]; exact q3
      ·obtain rfl : i = mid := by omega
       exact q2
    ·rintro ⟨g2, y2⟩ ⟨o2, r1, r2⟩
     dsimp only at *
     have hl2 : y2.length = ln := by rw [r1.len, hl1]
     have out : ∀ p, mid <= p -> y2[p]? = y1[p]? := fun p hp => r1.out (.inr hp)
     have q4' : SrtT ltP mid e y2 := SrtT.same q4 fun p p1 p2 => out p p1
     have q5' : SrtT ltP e b y2 := SrtT.same q5 fun p p1 p2 => out p (by omega)
     refine sq (rg ?_)
     refine cmpS hT 2 rfl fun b208 h208 => ?_
     refine' bja hT 1 4 213 [208, 209] h208 rfl rfl rfl rfl rfl rfl rfl (fun _ => ?x29) (fun b213 h213 => ?_)
     case x29 =>
      refine cmpS hT 2 rfl fun b212 h212 => ?_
      exact fin hT 1 rfl (bjx h212 rfl rfl rfl)
     refine fin hT 0 rfl (th (ifP h213 rfl (fun e31 => ?_) (fun e31 => ?_)))
     ·refine rg ?_
      refine cl hT 5 rfl (ih g2 (some ⟨gb, off, none⟩) cap ln y2 mid e b hl2 o2 (by omega) (by omega) (by omega) hl (by omega) q4' q5') ?_
      rintro v219 K219 hs219 ⟨rfl, rfl, g', y3, rfl, o3, r3, r4⟩
      refine fin hT 0 rfl ?_
      have := both_srt wkoP q6 r1 r2 r3 r4 (by omega) (by omega)
      exact end0 rfl ⟨rfl, rfl, g', y3, rfl, o3, q1.trans this.1, this.2⟩
     ·refine sk ?_
      have r4 : SrtT ltP mid b y2 := by
       by_cases hc : mid = e
       ·rw [hc]; exact q5'
       ·obtain rfl : e = b := by omega
        exact q4'
      have := both_srt wkoP q6 r1 r2 (SegT.refl _ _ _ _) r4 (by omega) (by omega)
      exact end0 rfl ⟨rfl, rfl, g2, y2, rfl, o2, q1.trans this.1, this.2⟩
end Go.Proofs.YtejkjbkodcamoaaGreatDoor
end
section
namespace Go.Proofs.YtejkjbkodcamoaaGreatDoor
open Go.En
attribute [local irreducible] Code.wp wpList Calls
theorem insC' {w0 : World} {K : PH} {hs : List PH} (g : PH) (ao : Option Addr) (cap ln : Nat) (xs : List PairP) (a b : Nat) (hln : xs.length = ln) (hx : SlZ 2 100 pairR g ao ln cap xs) (h1 : a <= b) (h2 : b <= ln) (hl : ln <= 1048576) :
  Ct Tryz.prog w0 136 [.slice ao ln cap, .int .i64 ((a : Nat) : Int), .int .i64 ((b : Nat) : Int), cmpF] K (g :: hs)
  (fun v K' hs' => K' = K /\ v = .tuple #[] /\ ∃ g' ys, hs' = g' :: hs /\ SlZ 2 100 pairR g' ao ln cap ys /\ SegT ltP a b xs ys /\ SrtT ltP a b ys) := by
 subst hln
 exact insC g ao cap xs a b hx h1 h2 hl
theorem stableC {w0 : World} {K : PH} {hs : List PH} (g : PH) (ao : Option Addr) (cap ln : Nat) (xs : List PairP) (hln : xs.length = ln) (hx : SlZ 2 100 pairR g ao ln cap xs) (hl : ln <= 1048576) :
  Ct Tryz.prog w0 130 [.slice ao ln cap, .int .i64 ((ln : Nat) : Int), cmpF] K (g :: hs)
  (fun v K' hs' => K' = K /\ v = .tuple #[] /\ ∃ g' ys, hs' = g' :: hs /\ SlZ 2 100 pairR g' ao ln cap ys /\ SegT ltP 0 ln xs ys /\ SrtT ltP 0 ln ys) := by
 refine enter Tryz.func130 (by kernel_rfl) rfl rfl rfl ?_
 refine sq (rg ?_)
 refine fin hT 1 rfl (th (sq (rg ?_)))
 refine fin hT 3 rfl (th (sq (bk ?_)))
 refine loop (σ := Nat × PH × List PairP) (fun x => [(0, .slice ao ln cap), (1, .int .i64 ((ln : Nat) : Int)), (2, cmpF), (6, .int .i64 ((20 : Nat) : Int)), (7, .int .i64 ((x.1 : Nat) : Int)), (8, .int .i64 ((x.1 + 20 : Nat) : Int))]) (fun _ => K) (fun x => x.2.1 :: hs)
  (fun x => x.1 <= ln /\ SlZ 2 100 pairR x.2.1 ao ln cap x.2.2 /\ SegT ltP 0 ln xs x.2.2 /\ Bup ltP 20 x.2.2 x.1) (fun x => ln - x.1) (0, g, xs)
  ⟨Nat.zero_le _, hx, SegT.refl _ _ _ _, .zero⟩ ⟨rfl, rfl, rfl, rfl, rfl, rfl, trivial⟩ rfl rfl ?_
 rintro ⟨a, g, ys⟩ ⟨ha, o, sg, bu⟩
 dsimp only at *
 have hyl : ys.length = ln := by rw [sg.len, hln]
 refine sq (sq (rg ?_))
 refine cmpS hT 2 rfl fun b13 h13 => ?_
 refine fin hT 0 rfl (th (ifP h13 rfl (fun e2 => ?_) (fun e2 => ?_)))
 ·refine sk (th (bk (sq (rg ?_))))
  refine cl hT 4 rfl (insC' g ao cap ln ys a (a + 20) hyl o (by omega) (by omega) hl) ?_
  rintro v18 K18 hs18 ⟨rfl, rfl, g', zs, rfl, o2, s1, s2⟩
  refine fin hT 0 rfl (th (sq (rg ?_)))
  refine fin hT 2 rfl (th (rg ?_))
  refine ar hT 2 rfl (v' := .int .i64 ((a + 20 + 20 : Nat) : Int)) (i64w (by omega)) ?_
  refine fin hT 1 rfl (bl ?_)
  exact again (x := (a, g, ys)) (a + 20, g', zs) ⟨rfl, rfl, rfl, rfl, rfl, rfl, trivial⟩ rfl rfl ⟨by dsimp only; omega, o2, sg.trans (s1.wide (Nat.zero_le _) (by omega)), bu.step s1 s2⟩ (by (try dsimp only); omega)
 ·refine ex (xt (xt (xb (th (sq (rg ?_))))))
  refine cl hT 4 rfl (insC' g ao cap ln ys a ln hyl o (by omega) (by omega) hl) ?_
  rintro v27 K27 hs27 ⟨rfl, rfl, g', zs, rfl, o2, s1, s2⟩
  refine fin hT 0 rfl (th (bk ?_))
  refine loop (σ := Nat × PH × List PairP) (fun x => [(0, .slice ao ln cap), (1, .int .i64 ((ln : Nat) : Int)), (2, cmpF), (6, .int .i64 ((x.1 : Nat) : Int))]) (fun _ => K27) (fun x => x.2.1 :: hs)
   (fun x => 0 < x.1 /\ x.1 <= 2097152 /\ SlZ 2 100 pairR x.2.1 ao ln cap x.2.2 /\ SegT ltP 0 ln xs x.2.2 /\ Blk ltP x.1 ln x.2.2 0) (fun x => ln - x.1) (20, g', zs)
   ⟨show 0 < 20 by decide, show 20 <= 2097152 by decide, o2, sg.trans (s1.wide (Nat.zero_le _) (by omega)), bu.last s1 s2 (by omega)⟩ ⟨rfl, rfl, rfl, rfl, trivial⟩ rfl rfl ?_
  clear o2 s1 s2 bu sg hyl o
  rintro ⟨bs, g, ys⟩ ⟨hb0, hbm, o, sg, bk0⟩
  dsimp only at *
  refine sq (sq (rg ?_))
  refine cmpS hT 2 rfl fun b30 h30 => ?_
  refine fin hT 0 rfl (th (ifP h30 rfl (fun e4 => ?_) (fun e4 => ?_)))
  ·refine sk (th (bk (sq (rg ?_))))
   refine ar hT 1 rfl (v' := .int .i64 ((0 + 2 * bs : Nat) : Int)) (by rw [i64w (by omega)]; congr 1; omega) ?_
   refine fin hT 2 rfl (th (sq (bk ?_)))
   refine loop (σ := Nat × PH × List PairP) (fun x => [(0, .slice ao ln cap), (1, .int .i64 ((ln : Nat) : Int)), (2, cmpF), (6, .int .i64 ((bs : Nat) : Int)), (7, .int .i64 ((x.1 : Nat) : Int)), (8, .int .i64 ((x.1 + 2 * bs : Nat) : Int))]) (fun _ => K27) (fun x => x.2.1 :: hs)
    (fun x => x.1 <= ln /\ SlZ 2 100 pairR x.2.1 ao ln cap x.2.2 /\ SegT ltP 0 ln xs x.2.2 /\ RndT ltP bs ln x.1 x.2.2) (fun x => ln - x.1) (0, g, ys)
    ⟨Nat.zero_le _, o, sg, RndT.zero bk0⟩ ⟨rfl, rfl, rfl, rfl, rfl, rfl, trivial⟩ rfl rfl ?_
   clear o sg bk0
   rintro ⟨a, g, zs⟩ ⟨ha, o, sg, rd⟩
   dsimp only at *
   have hyl : zs.length = ln := by rw [sg.len, hln]
   refine sq (sq (rg ?_))
   refine cmpS hT 2 rfl fun b35 h35 => ?_
   refine fin hT 0 rfl (th (ifP h35 rfl (fun e6 => ?_) (fun e6 => ?_)))
   ·refine sk (th (bk (sq (rg ?_))))
    obtain ⟨p1, p2⟩ := rd.parts hb0 (by omega)
    rw [Nat.min_eq_left (by omega)] at p2
    refine ar hT 4 rfl (v' := .int .i64 ((a + bs : Nat) : Int)) (i64w (by omega)) ?_
    refine cl hT 2 rfl (symC (2 * bs) g ao cap ln zs a (a + bs) (a + 2 * bs) hyl o (by omega) (by omega) (by omega) hl (by omega) p1 p2) ?_
    rintro v43 K43 hs43 ⟨rfl, rfl, g2, y2, rfl, o2, s1, s2⟩
    refine fin hT 0 rfl (th (sq (rg ?_)))
    refine fin hT 2 rfl (th (rg ?_))
    refine ar hT 2 rfl (v' := .int .i64 ((2 * bs : Nat) : Int)) (i64w (by omega)) ?_
    refine ar hT 0 rfl (v' := .int .i64 ((a + 2 * bs + 2 * bs : Nat) : Int)) (i64w (by omega)) ?_
    refine fin hT 1 rfl (bl ?_)
    exact again (x := (a, g, zs)) (a + 2 * bs, g2, y2) ⟨rfl, rfl, rfl, rfl, rfl, rfl, trivial⟩ rfl rfl ⟨by dsimp only; omega, o2, sg.trans (s1.wide (Nat.zero_le _) (by omega)), rd.step hb0 (by omega) s1 s2⟩ (by (try dsimp only); omega)
   ·refine ex (xt (xt (xb (th (jn (σ := PH × List PairP) (fun s => [(0, .slice ao ln cap), (1, .int .i64 ((ln : Nat) : Int)), (2, cmpF), (6, .int .i64 ((bs : Nat) : Int))]) (fun s => s.1 :: hs) (fun s => SlZ 2 100 pairR s.1 ao ln cap s.2 /\ SegT ltP 0 ln xs s.2 /\ Blk ltP (2 * bs) ln s.2 0) ?_ ?_)))))
    ·refine sq (rg ?_)
     refine ar hT 2 rfl (v' := .int .i64 ((a + bs : Nat) : Int)) (i64w (by omega)) ?_
     refine fin hT 1 rfl (th (sq (rg ?_)))
     refine cmpS hT 2 rfl fun b54 h54 => ?_
     refine fin hT 0 rfl (th (ifP h54 rfl (fun e8 => ?_) (fun e8 => ?_)))
     ·refine rg ?_
      obtain ⟨p1, p2⟩ := rd.parts hb0 (by omega)
      rw [Nat.min_eq_right (by omega)] at p2
      refine cl hT 5 rfl (symC ln g ao cap ln zs a (a + bs) ln hyl o (by omega) (by omega) (by omega) hl (by omega) p1 p2) ?_
      rintro v60 K60 hs60 ⟨rfl, rfl, g2, y2, rfl, o2, s1, s2⟩
      refine fin hT 0 rfl ?_
      exact jx (g2, y2) ⟨o2, sg.trans (s1.wide (Nat.zero_le _) (by omega)), rd.last (by omega) s1 s2⟩ ⟨rfl, rfl, rfl, rfl, trivial⟩ rfl rfl
     ·refine sk ?_
      exact jx (g, zs) ⟨o, sg, rd.rest (by omega)⟩ ⟨rfl, rfl, rfl, rfl, trivial⟩ rfl rfl
    ·rintro ⟨g2, y2⟩ ⟨o2, s1, s2⟩
     dsimp only at *
     refine rg ?_
     refine ar hT 1 rfl (v' := .int .i64 ((2 * bs : Nat) : Int)) (by rw [i64w (by omega)]; congr 1; omega) ?_
     refine fin hT 1 rfl (bl ?_)
     exact again (x := (bs, g, ys)) (2 * bs, g2, y2) ⟨rfl, rfl, rfl, rfl, trivial⟩ rfl rfl ⟨by dsimp only; omega, by dsimp only; omega, o2, s1, s2⟩ (by (try dsimp only); omega)
  ·refine ex (xt (xt (xb ?_)))
   exact end0 rfl ⟨rfl, rfl, g, ys, rfl, o, sg, bk0.all (by omega)⟩
theorem sortStC {w0 : World} {K : PH} {hs : List PH} (g : PH) (ao : Option Addr) (cap ln : Nat) (xs : List PairP) (hln : xs.length = ln) (hx : SlZ 2 100 pairR g ao ln cap xs) (hl : ln <= 1048576) :
  Ct Tryz.prog w0 114 [.slice ao ln cap, cmpF] K (g :: hs)
  (fun v K' hs' => K' = K /\ v = .tuple #[] /\ ∃ g' ys, hs' = g' :: hs /\ SlZ 2 100 pairR g' ao ln cap ys /\ SegT ltP 0 ln xs ys /\ SrtT ltP 0 ln ys) := by
 refine enter Tryz.func114 (by kernel_rfl) rfl rfl rfl ?_
 refine rg ?_
 refine cl hT 4 rfl (stableC g ao cap ln xs hln hx hl) ?_
 rintro v8 K8 hs8 ⟨rfl, rfl, h⟩
 refine fin hT 0 rfl ?_
 exact end0 rfl ⟨rfl, rfl, h⟩
end Go.Proofs.YtejkjbkodcamoaaGreatDoor
end
section
namespace Go.En
theorem zc_size (z : Array Value) (n : Nat) : (Builtin.zeroCells z n).size = n * z.size := by simp [Builtin.zeroCells]
theorem zc_mem {z : Array Value} {n : Nat} {u : Value} (hz : 0 < z.size) (h : u ∈ (Builtin.zeroCells z n).toList) : u ∈ z.toList := by
 unfold Builtin.zeroCells at h
 simp only [Array.toList_map, List.mem_map] at h
 obtain ⟨i, _, rfl⟩ := h
 have : i % z.size < z.size := Nat.mod_lt _ hz
 rw [getElem!_pos z (i % z.size) this]
 exact Array.getElem_mem_toList this
section ext
variable {P : Program} {T : Tab} {w0 : World} {ops : Array Oper} {Q : Exit -> Act -> World -> Prop} {rest rest' : List Oper} {n : Nat} {l l' : Sl} {K : PH} {hs : List PH}
def b1At (T : Tab) (ops : Array Oper) (n k : Nat) (rest : List Oper) (l : Sl) : Option (Nat × Oper × Builtin × Nat × Value × List Oper × Sl) :=
 match ovAt T ops n k rest l with
 | some (d, o, r, l') => match o.op with
  | .call { callee := .builtin b, args, argTypes } => match args.toList, argTypes.toList with
   | [x], [t] => match ev l' x with
    | some vx => some (d, o, b, t, vx, r, l')
    | _ => none
   | _, _ => none
  | _ => none
 | none => none
theorem b1At_spec {k d t : Nat} {o : Oper} {b : Builtin} {vx : Value} (h : b1At T ops n k rest l = some (d, o, b, t, vx, rest', l')) :
  ovAt T ops n k rest l = some (d, o, rest', l') /\ ∀ a w, Ag n l' a -> ∃ cs, (execOp a.eval o).run P w = (builtin b #[t] o.type cs #[vx]).run P w := by
 unfold b1At at h
 split at h
 ·rename_i d' o' r l2 ho
  split at h
  ·rename_i b' args argTypes hop
   split at h
   ·rename_i x t' e1 e2
    split at h
    ·rename_i vx' hx
     simp only [Option.some.injEq, Prod.mk.injEq] at h
     obtain ⟨rfl, rfl, rfl, rfl, rfl, rfl, rfl⟩ := h
     have a1' : args = #[x] := by cases args; simp_all
     have a2' : argTypes = #[t'] := by cases argTypes; simp_all
     subst a1' a2'
     refine ⟨ho, fun a w ha => ⟨#[x].map fun | .const _ => true | _ => false, ?_⟩⟩
     simp only [execOp, hop]
     simp [resolve, invoke, ha.ev hx]
     cases x <;> rfl
    ·simp at h
   ·simp at h
  ·simp at h
 ·simp at h
theorem capv (hT : TabOK P T) (k : Nat) {d t n1 c1 : Nat} {o : Oper} {si : SlI} {ao : Option Addr} (h0 : b1At T ops n k rest l = some (d, o, .cap, t, .slice ao n1 c1, rest', l')) (hsi : asc T.sls t = some si)
  (hk : WL P w0 ops Q rest' n ((d, .int .i64 (c1 : Int)) :: l') K hs) : WL P w0 ops Q rest n l K hs := by
 obtain ⟨ho, hex⟩ := b1At_spec h0
 refine opr hT k ho (fun a w ha hw => ?_) hk
 obtain ⟨cs, he⟩ := hex a w ha
 obtain ⟨g1, _⟩ := hT.sl hsi
 rw [he]
 simp only [builtin]
 simp [Builtin.cap_, run_underlying g1, goInt]
theorem apz2 (hT : TabOK P T) (k : Nat) {d t u : Nat} {o : Oper} {si : SlI} {kk : IntKind} {jj : Int} (m : Nat)
  (h0 : b2At T ops n k rest l = some (d, o, .append, t, u, .slice none 0 0, .int .i64 jj, rest', l')) (hj : jj = (m : Int)) (hm0 : 0 < m) (hsi : asc T.sls t = some si) (hu : P.underlying u = some (.int kk)) (hz : si.zero.cells.size = si.size)
  (hb : m * si.bytes <= 140737488355328) (h63 : m <= maxLen)
  (hk : ∀ b cap' cur, m <= cap' -> cap' <= maxLen -> cur.size = cap' * si.size -> WL P w0 ops Q rest' n ((d, .slice (some ⟨b, 0, none⟩) m cap') :: l') K (pt b cur si.elem :: hs)) : WL P w0 ops Q rest n l K hs := by
 obtain ⟨ho, hex⟩ := b2At_spec h0
 subst hj
 have hm63 : (m : Int) <= 9223372036854775807 := by simp only [maxLen] at h63; omega
 refine opa hT k (R := fun v K' hs' => ∃ b cap' cur, v = .slice (some ⟨b, 0, none⟩) m cap' /\ m <= cap' /\ cap' <= maxLen /\ cur.size = cap' * si.size /\ K' = K /\ hs' = pt b cur si.elem :: hs) ho (fun a w ha hw => ?_) ?_
 ·obtain ⟨cs, he⟩ := hex a w ha
  obtain ⟨g1, ii, g2, g3, g4, g5⟩ := hT.sl hsi
  have hfo : (Builtin.firstCells si.size 0 (.slice none 0 0)).run P w.drew = .ok #[] w.drew := run_firstCells_isS (P := P) (hw.drew.addEm) (.inr ⟨0, rfl⟩) (IsS.nil em none 0 si.size)
  have hg : 0 < 0 + m := by omega
  have h48 : ¬ (281474976710656 < Builtin.nextslicecap (0 + m) 0 * ii.bytes) := by have := growslice_fits (need := 0 + m) (old := 0) (bytes := ii.bytes) hg (by rw [g5, Nat.zero_add]; exact hb); omega
  have hw64 : IntKind.i64.wrap ((m : Nat) : Int) = (m : Int) := by simp [IntKind.wrap, IntKind.bits, IntKind.signed]; omega
  have hneg : ¬ ((m : Nat) : Int) < 0 := by omega
  have h47 : ¬ (281474976710656 : Int) < ((m : Nat) : Int) * (ii.bytes : Int) := by
   have h9 : ((m * ii.bytes : Nat) : Int) = ((m : Nat) : Int) * (ii.bytes : Int) := by push_cast; rfl
   rw [g5] at h9 ⊢
   omega
  have hm1 : m ≠ 0 := by omega
  rw [Nat.zero_add] at h48
  have hge := grownCap_ge w m 0 si.elem
  have hcm : grownCap w m 0 si.elem <= maxLen := grownCap_le_maxLen w m 0 si.elem h63
  refine ⟨.slice (some ⟨w.heap.size, 0, none⟩) m (grownCap w m 0 si.elem), w.drew.alloc (.cells (Builtin.zeroCells si.zero.cells m ++ Builtin.zeroCells si.zero.cells (grownCap w m 0 si.elem - m)) si.elem), K, _, ?_, hw.drew.alloc _,
   w.heap.size, grownCap w m 0 si.elem, Builtin.zeroCells si.zero.cells m ++ Builtin.zeroCells si.zero.cells (grownCap w m 0 si.elem - m), rfl, hge, hcm, ?_, rfl, rfl⟩
  ·rw [he]
   simp only [builtin]
   have h63' : ¬ (9223372036854775807 < ((m : Nat) : Int)) := by omega
   simp [Builtin.append_, run_underlying g1, run_underlying hu, sizeOf, typeInfo, zeroValue, g2, g3, g4, asInt, asIntOf, hw64, hneg, h47, h63', h48, Question.forced, hfo, newRow, grownCap, hm1]
   intro h
   rw [Array.eq_empty_of_size_eq_zero (by rw [zc_size, hz]; exact h : (Builtin.zeroCells si.zero.cells m).size = 0)]
   simp
  ·rw [Array.size_append, zc_size, zc_size, hz, <- Nat.add_mul]
   congr 1
   omega
 ·rintro v K' hs' ⟨b, cap', cur, rfl, g1, g2, g3, rfl, rfl⟩
  exact hk b cap' cur g1 g2 g3
def k1At (T : Tab) (ops : Array Oper) (n k : Nat) (rest : List Oper) (l : Sl) : Option (Oper × Nat × Value × List Oper × Sl) :=
 match opAt T ops n k rest l with
 | some (o, r, l') => match o.dst, o.op with
  | none, .call { callee := .builtin .clear, args, argTypes } => match args.toList, argTypes.toList with
   | [x], [t] => match ev l' x with
    | some u => some (o, t, u, r, l')
    | _ => none
   | _, _ => none
  | _, _ => none
 | none => none
theorem list_set_self {α : Type} {l : List α} {i : Nat} {x : α} (h : l[i]? = some x) : l.set i x = l := by
 have hil : i < l.length := (List.getElem?_eq_some_iff.1 h).1
 have e2 : l[i] = x := by rw [List.getElem?_eq_getElem hil] at h; exact Option.some.inj h
 rw [<- e2]
 exact List.set_getElem_self hil
theorem clrS (hT : TabOK P T) (k i : Nat) {t off n1 c1 b ty : Nat} {o : Oper} {si : SlI} {ao : Option Addr} {c : Array Value} (h0 : k1At T ops n k rest l = some (o, t, .slice ao n1 c1, rest', l')) (hsi : asc T.sls t = some si) (hz : si.zero.cells.size = si.size) (hz0 : 0 < si.size) (hone : ∀ u ∈ si.zero.cells.toList, u.oneCell' = true)
  (hi : hs[i]? = some (pt b c ty)) (ha : 0 < n1 -> ao = some ⟨b, off, none⟩) (hf : 0 < n1 -> off + n1 * si.size <= c.size)
  (hk : ∀ zs : List Value, zs.length = n1 * si.size -> WL P w0 ops Q rest' n l' K (hs.set i (pt b (if n1 = 0 then c else (c.toList.take off ++ zs ++ c.toList.drop (off + zs.length)).toArray) ty))) : WL P w0 ops Q rest n l K hs := by
 unfold k1At at h0
 split at h0
 ·rename_i o' r l2 ho
  split at h0
  ·rename_i args argTypes hd hop
   split at h0
   ·rename_i x t' e1 e2
    split at h0
    ·rename_i u hx
     simp only [Option.some.injEq, Prod.mk.injEq] at h0
     obtain ⟨rfl, rfl, rfl, rfl, rfl⟩ := h0
     have a1' : args = #[x] := by cases args; simp_all
     have a2' : argTypes = #[t'] := by cases argTypes; simp_all
     subst a1' a2'
     obtain ⟨g1, ii, g2, g3, g4, g5⟩ := hT.sl hsi
     refine WL.at' hT ho fun hg => ?_
     intro a w haa hw
     have hb : w.heap[b]? = some (.cells c ty (0, 0)) := hw.own i _ hi b _ (by simp)
     have hzl : (Builtin.zeroCells si.zero.cells n1).toList.length = n1 * si.size := by rw [Array.length_toList, zc_size, hz]
     have key : ∃ w', (execOp a.eval o').run P w = .ok (.value (.tuple #[])) w' /\ Sat w0 w' K (hs.set i (pt b (if n1 = 0 then c else (c.toList.take off ++ (Builtin.zeroCells si.zero.cells n1).toList ++ c.toList.drop (off + (Builtin.zeroCells si.zero.cells n1).toList.length)).toArray) ty)) := by
      rcases Nat.eq_zero_or_pos n1 with h | h
      ·subst h
       refine ⟨w, ?_, ?_⟩
       ·simp only [execOp, hop]
        cases ao <;> simp [resolve, invoke, builtin, haa.ev hx, Builtin.clear_, run_underlying g1]
       ·rw [if_pos rfl, list_set_self hi]
        exact hw
      ·have hst := run_storeCells_at P b off ty (Builtin.zeroCells si.zero.cells n1).toList 0 c w hb (by rw [hzl]; simpa using hf h) (fun u hu => hone u (zc_mem (by omega) hu))
       simp only [Nat.add_zero] at hst
       rw [if_neg (by omega)]
       refine ⟨_, ?_, hw.setRow hi _⟩
       simp only [execOp, hop]
       obtain ⟨n2, rfl⟩ : ∃ n2, n1 = n2 + 1 := ⟨n1 - 1, by omega⟩
       simp [resolve, invoke, builtin, haa.ev hx, Builtin.clear_, run_underlying g1, ha h, zeroValue, g2, g3, typeInfo, hst]
     obtain ⟨w', hrun, hsat⟩ := key
     have hw1 := gOK_wanted haa hg
     unfold wpList
     rw [if_pos hw1]
     refine .inl ?_
     unfold Oper.wp
     rw [hrun]
     simp only [Oper.upon, hd, Act.put]
     exact hk _ hzl _ _ haa hsat
    ·simp at h0
   ·simp at h0
  ·simp at h0
 ·simp at h0
end ext
end Go.En
end
section
namespace Go.En
theorem appO {α : Type} {P : Program} {T : Tab} {w0 : World} {ops : Array Oper} {Q : Exit -> Act -> World -> Prop} {rest rest' : List Oper} {n : Nat} {l l' : Sl} {K : PH} {hs : List PH} {R : List Value -> α -> Prop}
  (hT : TabOK P T) (k i : Nat) {d : Nat} {si : SlI} {ao ao2 : Option Addr} {n1 c1 n2 c2 : Nat} {h h2 : PH} {xs ys : List α} (h0 : apAt T ops n k rest l = some (d, si, (ao, n1, c1), (ao2, n2, c2), rest', l'))
  (hi : hs[i]? = some h) (o : SlO si.size si.elem R h ao n1 c1 xs) (hm : In K hs h2) (x : SlS si.size R h2 ao2 n2 c2 ys) (hc : ∀ c y, R c y -> ∀ u ∈ c, u.oneCell' = true) (hz : si.zero.cells.size = si.size) (hsz : 0 < si.size) (hb : (n1 + n2) * si.bytes <= 140737488355328) (h63 : n1 + n2 <= maxLen)
  (hk : ∀ ao' cap' h', SlO si.size si.elem R h' ao' (n1 + n2) cap' (xs ++ ys) -> WL P w0 ops Q rest' n ((d, .slice ao' (n1 + n2) cap') :: l') K (hs.set i h')) : WL P w0 ops Q rest n l K hs := by
 obtain ⟨css, q1, q2, q3, q4⟩ := o
 obtain ⟨dss, p1, p2, p3, p4⟩ := x
 have hone : ∀ u ∈ dss.flatten, u.oneCell' = true := by
  intro u hu
  obtain ⟨c, hcm, huc⟩ := List.mem_flatten.1 hu
  obtain ⟨j, hj⟩ := List.mem_iff_getElem?.1 hcm
  obtain ⟨h1, h2⟩ := List.getElem?_eq_some_iff.1 hj
  have hl := p3.len
  obtain ⟨y, hy⟩ : ∃ y, ys[j]? = some y := ⟨_, List.getElem?_eq_getElem (by omega)⟩
  obtain ⟨c', hc', hr⟩ := p3.get hy
  rw [hj] at hc'
  cases hc'
  exact hc c y hr u huc
 refine app hT k i h0 hi q2 hm p2 hz hsz hone hb h63 fun ao' cap' h' o' => hk ao' cap' h' ?_
 refine ⟨css ++ dss, by simp [q1, p1], by simpa using o', q3.append p3, fun d hd => ?_⟩
 rcases List.mem_append.1 hd with hd | hd
 ·exact q4 d hd
 ·exact p4 d hd
theorem cat_take {α : Type} {ls : List (List α)} {i : Nat} {l : List α} (h : ls[i]? = some l) : (ls.take (i + 1)).flatten = (ls.take i).flatten ++ l := by
 rw [List.take_add_one, h]
 simp
theorem cat_le {α : Type} (ls : List (List α)) (i : Nat) : (ls.take i).flatten.length <= ls.flatten.length := by
 conv => rhs; rw [<- List.take_append_drop i ls]
 rw [List.flatten_append, List.length_append]
 omega
theorem pairR_one (c : List Value) (y : PairP) (h : pairR c y) : ∀ u ∈ c, u.oneCell' = true := by
 intro u hu
 rw [h] at hu
 simp [pairV] at hu
 rcases hu with rfl | rfl <;> rfl
def prlR (K : PH) (c : List Value) (l : List PairP) : Prop := ∃ ao cap, c = [.slice ao l.length cap] /\ SlS 2 pairR K ao l.length cap l
end Go.En
namespace Go.Proofs.YtejkjbkodcamoaaGreatDoor
open Go.En
attribute [local irreducible] Code.wp wpList Calls
theorem growPC {w0 : World} {K : PH} {hs : List PH} (n : Nat) (hn : n <= 1048576) :
  Ct Tryz.prog w0 129 [.slice none 0 0, .int .i64 ((n : Nat) : Int)] K hs
  (fun v K' hs' => K' = K /\ ∃ ao c g, v = .slice ao 0 c /\ hs' = g :: hs /\ SlO 2 100 pairR g ao 0 c []) := by
 refine enter Tryz.func129 (by kernel_rfl) rfl rfl rfl ?_
 refine sq (rg ?_)
 refine fin hT 1 rfl (th (sq (sq (rg ?_))))
 refine cmpS hT 1 rfl fun b6 h6 => ?_
 refine fin hT 0 rfl (th (ifP h6 rfl (fun e2 => by omega) (fun e2 => ?_)))
 refine sk (th (sq (sq (rg ?_))))
 refine capv hT 2 rfl rfl ?_
 refine ar hT 2 rfl (v' := .int .i64 0) (by rw [i64w (by omega)]; rfl) ?_
 refine ar hT 0 rfl (v' := .int .i64 ((n : Nat) : Int)) (by rw [i64w (by omega)]; simp) ?_
 refine fin hT 1 rfl (th (sq (rg ?_)))
 refine cmpS hT 1 rfl fun b16 h16 => ?_
 refine fin hT 0 rfl (th (ifP h16 rfl (fun e6 => ?_) (fun e6 => ?_)))
 ·refine rg ?_
  refine capv hT 2 rfl rfl ?_
  refine slx hT 0 0 0 rfl rfl rfl (by omega) ?_
  refine apz2 hT 1 n rfl rfl (by omega) rfl Tryz.underlying3 rfl (by show n * 24 <= _; omega) (by simp only [maxLen]; omega) fun b22 c22 cur q1 q2 q3 => ?_
  refine slx hT 2 0 0 rfl rfl rfl (by omega) ?_
  rw [cutA_0, Nat.sub_zero]
  refine fin hT 1 rfl (th (sq (rg ?_)))
  refine fin hT 2 rfl (th (rt ?_))
  exact ret1 rfl rfl ⟨rfl, _, _, _, rfl, rfl, [], rfl, ⟨rfl, Nat.zero_le _, q2, .inr ⟨b22, 0, cur, rfl, rfl, by rw [q3]; simp, by simp⟩⟩, trivial, by simp⟩
 ·refine sk (th (sq (rg ?_)))
  refine fin hT 2 rfl (th (rt ?_))
  refine WQ.em ?_
  exact ret1 rfl rfl ⟨rfl, none, 0, _, rfl, rfl, SlO.nil _ _⟩
theorem concatC {w0 : World} {K hL : PH} {hs : List PH} (aL : Option Addr) (cL : Nat) (ls : List (List PairP)) (hm : In K hs hL) (x : SlS 1 (prlR K) hL aL ls.length cL ls) (hl : ls.flatten.length <= 1048576) (hn : ls.length <= 4096) :
  Ct Tryz.prog w0 113 [.slice aL ls.length cL] K hs
  (fun v K' hs' => K' = K /\ ∃ ao c g, v = .slice ao ls.flatten.length c /\ hs' = g :: hs /\ SlO 2 100 pairR g ao ls.flatten.length c ls.flatten) := by
 refine enter Tryz.func113 (by kernel_rfl) rfl rfl rfl ?_
 obtain ⟨vs, xv⟩ := x.isS
 have hcell : ∀ (i : Nat) l, ls[i]? = some l -> ∃ ao cap, SlS 2 pairR K ao l.length cap l /\ ∀ a, aL = some a -> Cell hL (a.add (i * 1)) (.slice ao l.length cap) := fun i l hi => by
  obtain ⟨a, rfl⟩ := x.addr (by have := (List.getElem?_eq_some_iff.1 hi).1; omega) (by decide)
  obtain ⟨c, ⟨ao, cap, rfl, h2⟩, h3, h4⟩ := x.cells hi
  refine ⟨ao, cap, h2, fun a' e => ?_⟩
  cases e
  have := h4 0 _ rfl
  rwa [show (Addr.add (a.add (i * 1)) 0) = a.add (i * 1) from by simp [Addr.add]] at this
 refine sq (rg ?_)
 refine fin hT 1 rfl (th (sq (rg ?_)))
 refine fin hT 1 rfl (th (sq (sq (rg ?_))))
 refine fin hT 3 rfl (th (bk ?_))
 refine loop (σ := Nat) (fun i => [(0, .slice aL ls.length cL), (3, .int .i64 (((ls.take i).flatten.length : Nat) : Int)), (9, .slice aL ls.length cL), (10, .int .i64 ((ls.length : Nat) : Int)), (11, .int .i64 ((i : Nat) : Int))]) (fun _ => K) (fun _ => hs) (fun i => i <= ls.length) (fun i => ls.length - i) 0 (Nat.zero_le _) ⟨rfl, rfl, rfl, rfl, rfl, trivial⟩ rfl rfl ?_
 rintro i hi
 have hle := cat_le ls i
 refine sq (rg ?_)
 refine cmpS hT 0 rfl fun b12 h12 => ?_
 refine fin hT 0 rfl (th (sq (ifP h12 rfl (fun e2 => ?_) (fun e2 => ?_))))
 ·obtain ⟨y, hy⟩ : ∃ y, ls[i]? = some y := ⟨_, List.getElem?_eq_getElem (by omega)⟩
  obtain ⟨ao, cap, h2, h3⟩ := hcell i y hy
  have hle1 := cat_le ls (i + 1)
  rw [cat_take hy, List.length_append] at hle1
  obtain ⟨aa, rfl⟩ := x.addr (by omega) (by decide)
  refine sk (th (sq (bk (sq (rg ?_)))))
  refine ixs hT 0 i rfl rfl xv (by omega) (by decide) fun a13 e13 => ?_
  refine ld hT 0 rfl hm (h3 _ e13) ?_
  refine fin hT 1 rfl (th (sq (rg ?_)))
  refine ar hT 3 rfl (v' := .int .i64 (((ls.take (i + 1)).flatten.length : Nat) : Int)) (by rw [i64w (by omega), cat_take hy, List.length_append]; congr 1) ?_
  refine fin hT 1 rfl (th (sq (rg ?_)))
  refine cmpS hT 1 rfl fun b20 h20 => ?_
  refine fin hT 0 rfl (th (ifP h20 rfl (fun e4 => by omega) (fun e4 => ?_)))
  refine sk (bl (th (rg ?_)))
  refine ar hT 0 rfl (v' := .int .i64 ((i + 1 : Nat) : Int)) (i64w (by omega)) ?_
  refine fin hT 1 rfl ?_
  exact again (x := i) (i + 1) ⟨rfl, rfl, rfl, rfl, rfl, trivial⟩ rfl rfl (by omega) (by (try dsimp only); omega)
 ·refine ex (xt (xt (xb (th (sq (rg ?_))))))
  obtain rfl : i = ls.length := by omega
  rw [List.take_length]
  refine cl hT 1 rfl (growPC ls.flatten.length hl) ?_
  rintro v24 K24 hs24 ⟨rfl, ao, c, g, rfl, rfl, o⟩
  refine fin hT 1 rfl (th (sq (sq (rg ?_))))
  refine fin hT 3 rfl (th (bk ?_))
  refine loop (σ := Nat × Option Addr × Nat × PH) (fun s => [(25, .slice aL ls.length cL), (6, .slice s.2.1 (ls.take s.1).flatten.length s.2.2.1), (26, .int .i64 ((ls.length : Nat) : Int)), (27, .int .i64 ((s.1 : Nat) : Int))]) (fun _ => K24) (fun s => s.2.2.2 :: hs) (fun s => s.1 <= ls.length /\ SlO 2 100 pairR s.2.2.2 s.2.1 (ls.take s.1).flatten.length s.2.2.1 (ls.take s.1).flatten) (fun s => ls.length - s.1) (0, ao, c, g) ⟨Nat.zero_le _, o⟩ ⟨rfl, rfl, rfl, rfl, trivial⟩ rfl rfl ?_
  clear o
  rintro ⟨i, ao, c, g⟩ ⟨hi, o⟩
  dsimp only at *
  have hle := cat_le ls i
  refine sq (rg ?_)
  refine cmpS hT 0 rfl fun b28 h28 => ?_
  refine fin hT 0 rfl (th (sq (ifP h28 rfl (fun e6 => ?_) (fun e6 => ?_))))
  ·obtain ⟨y, hy⟩ : ∃ y, ls[i]? = some y := ⟨_, List.getElem?_eq_getElem (by omega)⟩
   obtain ⟨ao2, cap2, h2, h3⟩ := hcell i y hy
   have hle1 := cat_le ls (i + 1)
   rw [cat_take hy, List.length_append] at hle1
   obtain ⟨aa, rfl⟩ := x.addr (by omega) (by decide)
   have hm2 : In K24 (g :: hs) hL := by rcases hm with h | ⟨j, h⟩; exact .inl h; exact .inr ⟨j + 1, h⟩
   refine sk (th (sq (bk (sq (rg ?_)))))
   refine ixs hT 0 i rfl rfl xv (by omega) (by decide) fun a13 e13 => ?_
   refine ld hT 0 rfl hm2 (h3 _ e13) ?_
   refine fin hT 1 rfl (th (rg ?_))
   refine appO hT 2 0 rfl rfl o (.inl rfl) h2 pairR_one rfl (by decide) (by show (_ + _) * 24 <= _; omega) (by simp only [maxLen]; omega) fun ao33 c33 g33 o33 => ?_
   refine fin hT 1 rfl (bl (th (rg ?_)))
   refine ar hT 0 rfl (v' := .int .i64 ((i + 1 : Nat) : Int)) (i64w (by omega)) ?_
   refine fin hT 1 rfl ?_
   refine again (x := (i, ao, c, g)) (i + 1, ao33, c33, g33) ⟨rfl, ?_, rfl, rfl, trivial⟩ rfl rfl ⟨by dsimp only; omega, ?_⟩ (by (try dsimp only); omega)
   ·dsimp only
    rw [cat_take hy, List.length_append]
    rfl
   ·dsimp only
    rw [cat_take hy, List.length_append]
    exact o33
  ·refine ex (xt (xt (xb (th (sq (rg ?_))))))
   obtain rfl : i = ls.length := by omega
   rw [List.take_length] at o ⊢
   refine fin hT 2 rfl (th (rt ?_))
   exact ret1 rfl rfl ⟨rfl, ao, c, g, rfl, rfl, o⟩
end Go.Proofs.YtejkjbkodcamoaaGreatDoor
end
section
namespace Go.En
theorem SlO.slZ {α : Type} {R : List Value -> α -> Prop} {size e : Nat} {h : PH} {ao : Option Addr} {n cap : Nat} {xs : List α} (x : SlO size e R h ao n cap xs) : SlZ size e R h ao n cap xs :=
 let ⟨css, h1, h2, h3, h4⟩ := x
 ⟨css, h1, .inl h2, h3, h4⟩
structure NrmR (l out : List PairP) : Prop where
 rise : out.Pairwise fun x y => ltP x y = true
 fil : ∀ k, out.filter (eqv ltP k) = ((l.filter (eqv ltP k)).getLast?).toList
theorem nrm_sort {l ys : List PairP} (h : SegT ltP 0 l.length l ys) (s : SrtT ltP 0 l.length ys) : NrmR l (lstT ltP ys) := by
 have hl := h.len
 rw [<- hl] at s
 exact ⟨lstT_rise wkoP ys s.pw, fun k => by rw [lstT_fil wkoP k ys s.pw, h.fil k]⟩
theorem lstT_len : ∀ (l : List PairP), (lstT ltP l).length <= l.length
 | [] => Nat.le_refl _
 | [x] => Nat.le_refl _
 | x :: y :: t => by
  have ih := lstT_len (y :: t)
  rw [lstT]
  split
  ·simp only [List.length_cons] at ih ⊢; omega
  ·simp only [List.length_cons] at ih ⊢; omega
theorem lst_last {ys out : List PairP} {i : Nat} {p : PairP} (h : out ++ lstT ltP (ys.drop i) = lstT ltP ys) (hp : ys[i]? = some p) (hi : i + 1 = ys.length) : out ++ [p] ++ lstT ltP (ys.drop (i + 1)) = lstT ltP ys := by
 obtain ⟨h1, h2⟩ := List.getElem?_eq_some_iff.1 hp
 rw [List.drop_eq_getElem_cons h1, h2, hi, List.drop_length] at h
 rw [hi, List.drop_length, <- h]
 simp [lstT]
theorem lst_keep {ys out : List PairP} {i : Nat} {p q : PairP} (h : out ++ lstT ltP (ys.drop i) = lstT ltP ys) (hp : ys[i]? = some p) (hq : ys[i + 1]? = some q) (hn : q.word ≠ p.word) : out ++ [p] ++ lstT ltP (ys.drop (i + 1)) = lstT ltP ys := by
 obtain ⟨h1, h2⟩ := List.getElem?_eq_some_iff.1 hp
 obtain ⟨h3, h4⟩ := List.getElem?_eq_some_iff.1 hq
 rw [List.drop_eq_getElem_cons h1, h2, List.drop_eq_getElem_cons h3, h4, lstT, eqvP, decide_eq_false (fun e => hn e.symm)] at h
 rw [List.drop_eq_getElem_cons h3, h4, <- h]
 simp
theorem lst_skip {ys out : List PairP} {i : Nat} {p q : PairP} (h : out ++ lstT ltP (ys.drop i) = lstT ltP ys) (hp : ys[i]? = some p) (hq : ys[i + 1]? = some q) (hn : q.word = p.word) : out ++ lstT ltP (ys.drop (i + 1)) = lstT ltP ys := by
 obtain ⟨h1, h2⟩ := List.getElem?_eq_some_iff.1 hp
 obtain ⟨h3, h4⟩ := List.getElem?_eq_some_iff.1 hq
 rw [List.drop_eq_getElem_cons h1, h2, List.drop_eq_getElem_cons h3, h4, lstT, eqvP, decide_eq_true hn.symm] at h
 rw [List.drop_eq_getElem_cons h3, h4, <- h]
 simp
end Go.En
namespace Go.Proofs.YtejkjbkodcamoaaGreatDoor
open Go.En
attribute [local irreducible] Code.wp wpList Calls
theorem orderedC {w0 : World} {K hL : PH} {hs : List PH} (aL : Option Addr) (cL : Nat) (ls : List (List PairP)) (hm : In K hs hL) (x : SlS 1 (prlR K) hL aL ls.length cL ls) (hl : ls.flatten.length <= 1048576) (hn : ls.length <= 4096) :
  Ct Tryz.prog w0 96 [.slice aL ls.length cL] K hs
  (fun v K' hs' => K' = K /\ ∃ ao c g out, NrmR ls.flatten out /\ v = .slice ao out.length c /\ hs' = g :: hs /\ SlZ 2 100 pairR g ao out.length c out) := by
 refine enter Tryz.func96 (by kernel_rfl) rfl rfl rfl ?_
 refine sq (rg ?_)
 refine fin hT 1 rfl (th (sq (rg ?_)))
 refine cl hT 1 rfl (concatC aL cL ls hm x hl hn) ?_
 rintro v8 K8 hs8 ⟨rfl, ao, c, g, rfl, rfl, o⟩
 refine fin hT 1 rfl (th (sq (rg ?_)))
 refine cl hT 1 rfl (sortStC g ao c ls.flatten.length ls.flatten rfl o.slZ hl) ?_
 clear o
 rintro v10 K10 hs10 ⟨rfl, rfl, g, ys, rfl, o, sg, st⟩
 have hnr := nrm_sort sg st
 obtain ⟨n, hN⟩ : ∃ n, n = ls.flatten.length := ⟨_, rfl⟩
 have hyl : ys.length = n := by rw [hN]; exact sg.len
 rw [<- hN] at o hl ⊢
 refine fin hT 0 rfl (th (sq (rg ?_)))
 refine fin hT 1 rfl (th (sq (sq (rg ?_))))
 refine WL.em ?_
 refine fin hT 3 rfl (th (bk ?_))
 refine loop (σ := Nat × List PairP × Option Addr × Nat × PH) (fun s => [(3, .slice ao n c), (4, .slice s.2.2.1 s.2.1.length s.2.2.2.1), (11, .slice ao n c), (12, .int .i64 ((n : Nat) : Int)), (13, .int .i64 ((s.1 : Nat) : Int))]) (fun _ => K10) (fun s => s.2.2.2.2 :: g :: hs)
  (fun s => s.1 <= n /\ SlZ 2 100 pairR s.2.2.2.2 s.2.2.1 s.2.1.length s.2.2.2.1 s.2.1 /\ s.2.1 ++ lstT ltP (ys.drop s.1) = lstT ltP ys) (fun s => n - s.1) (0, [], none, 0, Go.En.em)
  ⟨Nat.zero_le _, SlZ.nil _ _, rfl⟩ ⟨rfl, rfl, rfl, rfl, rfl, trivial⟩ rfl rfl ?_
 rintro ⟨i, out, a4, c4, g4⟩ ⟨hi, o4, ho⟩
 dsimp only at *
 have xS := o.slS
 have hol : out.length <= n := by
  have h1 := congrArg List.length ho
  rw [List.length_append] at h1
  have h2 : (lstT ltP ys).length <= ys.length := lstT_len ys
  omega
 refine sq (rg ?_)
 refine cmpS hT 0 rfl fun b14 h14 => ?_
 refine fin hT 0 rfl (th (sq (ifP h14 rfl (fun e2 => ?_) (fun e2 => ?_))))
 ·obtain ⟨p, hp⟩ : ∃ p, ys[i]? = some p := ⟨_, List.getElem?_eq_getElem (by omega)⟩
  obtain ⟨gb, off, cur, rfl, rfl, hcs, hcap, hset⟩ := o.pts (show 0 < n by omega)
  obtain ⟨vs, xv⟩ := xS.isS
  obtain ⟨cp, hcp, hcpl, hcpc⟩ := xS.cells hp
  obtain rfl := hcp
  refine sk (th (sq (bk (sq (rg ?_)))))
  refine ixs hT 1 i rfl rfl xv (by omega) (by decide) fun a16 e16 => ?_
  cases e16
  refine lds hT 0 (pairV p) rfl (by kernel_rfl) (.inr ⟨1, rfl⟩) hcpc ?_
  refine al hT 0 (.agg #[.string ⟨#[]⟩, .int .i64 0]) rfl (by kernel_rfl) fun b6 => ?_
  refine stS hT 1 0 rfl rfl (by kernel_rfl) rfl rfl ?_
  refine WL.hs (pt b6 #[str p.word, .int .i64 p.w] 100 :: g4 :: pt gb cur 100 :: hs) rfl ?_
  refine fin hT 0 rfl (th (sq (rga [pt b6 #[str p.word, .int .i64 p.w] 100, pt gb cur 100] 16 [0, 2, 4, 6, 8, 10, 12, 14, 16, 18, 20, 22, 24, 26, 28, 30] (by simp) (by kernel_rfl) (by kernel_rfl) ?_)))
  refine dar hT (by kernel_rfl) 1 rfl (v' := .int .i64 ((i + 1 : Nat) : Int)) (i64w (by omega)) ?_
  refine dcmp hT (by kernel_rfl) 2 (i + 1 = n) rfl (by simp; omega) (fun h3 => ?_) (fun h3 => ?_)
  ·refine dend hT (by kernel_rfl) 11 rfl (th (ifT rfl (rg ?_)))
   refine ldS hT 1 0 rfl rfl (by kernel_rfl) ?_
   refine lit hT 0 (pairV p).toArray rfl (by decide) (by kernel_rfl) fun b36 => ?_
   refine appSq hT 0 2 (pairV p) p rfl rfl rfl o4 rfl rfl (pairR_one _ p rfl) rfl (by decide) (by show (_ + 1) * 24 <= _; omega) (by simp only [maxLen]; omega) fun ao37 c37 g37 o37 => ?_
   refine WL.drop (WL.drop ?_)
   refine fin hT 1 rfl (bl (th (rg ?_)))
   refine ar hT 0 rfl (v' := .int .i64 ((i + 1 : Nat) : Int)) (i64w (by omega)) ?_
   refine fin hT 1 rfl ?_
   exact again (x := (i, out, a4, c4, g4)) (i + 1, out ++ [p], ao37, c37, g37) ⟨rfl, by simp; rfl, rfl, rfl, rfl, trivial⟩ rfl rfl ⟨by dsimp only; omega, by dsimp only; rw [List.length_append]; exact o37, lst_last ho hp (by omega)⟩ (by (try dsimp only); omega)
  ·obtain ⟨q, hq⟩ : ∃ q, ys[i + 1]? = some q := ⟨_, List.getElem?_eq_getElem (by omega)⟩
   obtain ⟨cq, hcq, hcql, hcqc⟩ := xS.cells hq
   obtain rfl := hcq
   refine dar hT (by kernel_rfl) 3 rfl (v' := .int .i64 ((i + 1 : Nat) : Int)) (i64w (by omega)) ?_
   refine dixs hT (by kernel_rfl) 0 (i + 1) rfl rfl (by omega) ?_
   refine dld hT (by kernel_rfl) 1 rfl (.inr ⟨1, rfl⟩) (hcqc 0 _ rfl) ?_
   refine dldp hT (by kernel_rfl) 1 0 rfl rfl rfl ?_
   refine dcbS hT (by kernel_rfl) 0 (q.word ≠ p.word) rfl (by simp) fun b32 h32 => ?_
   refine dend hT (by kernel_rfl) 1 rfl (th (ifP h32 rfl (fun e4 => ?_) (fun e4 => ?_)))
   ·refine rg ?_
    refine ldS hT 1 0 rfl rfl (by kernel_rfl) ?_
    refine lit hT 0 (pairV p).toArray rfl (by decide) (by kernel_rfl) fun b36 => ?_
    refine appSq hT 0 2 (pairV p) p rfl rfl rfl o4 rfl rfl (pairR_one _ p rfl) rfl (by decide) (by show (_ + 1) * 24 <= _; omega) (by simp only [maxLen]; omega) fun ao37 c37 g37 o37 => ?_
    refine WL.drop (WL.drop ?_)
    refine fin hT 1 rfl (bl (th (rg ?_)))
    refine ar hT 0 rfl (v' := .int .i64 ((i + 1 : Nat) : Int)) (i64w (by omega)) ?_
    refine fin hT 1 rfl ?_
    exact again (x := (i, out, a4, c4, g4)) (i + 1, out ++ [p], ao37, c37, g37) ⟨rfl, by simp; rfl, rfl, rfl, rfl, trivial⟩ rfl rfl ⟨by dsimp only; omega, by dsimp only; rw [List.length_append]; exact o37, lst_keep ho hp hq e4⟩ (by (try dsimp only); omega)
   ·refine sk (bl (th (rg ?_)))
    refine ar hT 0 rfl (v' := .int .i64 ((i + 1 : Nat) : Int)) (i64w (by omega)) ?_
    refine WL.drop ?_
    refine fin hT 1 rfl ?_
    exact again (x := (i, out, a4, c4, g4)) (i + 1, out, a4, c4, g4) ⟨rfl, rfl, rfl, rfl, rfl, trivial⟩ rfl rfl ⟨by dsimp only; omega, o4, lst_skip ho hp hq (Classical.not_not.1 e4)⟩ (by (try dsimp only); omega)
 ·refine ex (xt (xt (xb (th (sq (rg ?_))))))
  have : i = n := by omega
  subst this
  rw [List.drop_of_length_le (by omega)] at ho
  have ho' : out = lstT ltP ys := by simpa [lstT] using ho
  subst ho'
  refine fin hT 2 rfl (th (rt ?_))
  refine WQ.drop1 ?_
  exact ret1 rfl rfl ⟨rfl, a4, c4, g4, _, hnr, rfl, rfl, o4⟩
end Go.Proofs.YtejkjbkodcamoaaGreatDoor
end
section
namespace Go.En
theorem SlZ.cleared {α : Type} {R : List Value -> α -> Prop} {size e gb off n cap : Nat} {cur : Array Value} {xs : List α} (x : SlZ size e R (pt gb cur e) (some ⟨gb, off, none⟩) n cap xs) (hn : 0 < n) (i : Nat) (hi : i <= n) (Z : List Value) (hZ : Z.length = (n - i) * size) :
  SlZ size e R (pt gb (cur.toList.take (off + i * size) ++ Z ++ cur.toList.drop (off + i * size + Z.length)).toArray e) (some ⟨gb, off, none⟩) i cap (xs.take i) := by
 obtain ⟨css, h1, h2, h3, h4⟩ := x
 rcases h2 with ⟨o1, o2, o3, o4⟩ | ⟨h, _⟩
 ·rcases o4 with ⟨h, _⟩ | ⟨g, off', cur', e1, e2, e3, e4⟩
  ·cases h
  ·cases e1
   obtain rfl := ptsInj e2
   have hsz : i * size + (n - i) * size = n * size := by rw [<- Nat.add_mul]; congr 1; omega
   have hcn : n * size <= cap * size := Nat.mul_le_mul_right _ o2
   have hcl : cur.toList.length = off + cap * size := by rw [Array.length_toList]; exact e3
   refine ⟨css.take i, by simp; omega, .inl ⟨?_, by omega, o3, .inr ⟨gb, off, _, rfl, rfl, ?_, ?_⟩⟩, h3.take i, fun d hd => h4 d (List.mem_of_mem_take hd)⟩
   ·rw [flat_len (fun d hd => h4 d (List.mem_of_mem_take hd)), List.length_take, h3.len]
    congr 1
    omega
   ·simp only [List.size_toArray, List.length_append, List.length_take, List.length_drop]
    omega
   ·rw [<- flat_take i h4, <- e4]
    simp only [List.append_assoc]
    rw [List.drop_append_of_le_length (by simp; omega), List.take_append_of_le_length (by simp; omega), List.drop_take, List.take_take, List.take_take]
    congr 1
    omega
 ·omega
theorem fil_no : ∀ (m : List PairP), m.filter (fun _ => false) = []
 | [] => rfl
 | a :: m => by rw [List.filter_cons_of_neg (by simp), fil_no m]
theorem fil_sum (l : List PairP) (out : List PairP) : (∀ k, (out.filter (eqv ltP k)).length <= (l.filter (eqv ltP k)).length) -> out.length <= l.length := by
 intro h
 by_cases hc : out = []
 ·subst hc; simp
 ·obtain ⟨k, hk⟩ : ∃ k, k ∈ out := List.exists_mem_of_ne_nil out hc
  have ek : eqv ltP k k = true := by rw [eqvP]; simp
  have h1 : (out.filter fun x => !eqv ltP k x).length < out.length := by
   rw [<- List.countP_eq_length_filter]
   have e := List.length_eq_countP_add_countP (eqv ltP k) (l := out)
   have p : 0 < out.countP (eqv ltP k) := List.countP_pos_iff.2 ⟨k, hk, ek⟩
   have q : out.countP (fun x => !eqv ltP k x) = out.countP (fun x => ¬ eqv ltP k x = true) := by congr 1; funext x; cases eqv ltP k x <;> simp
   omega
  have e2 := List.length_eq_countP_add_countP (eqv ltP k) (l := l)
  have e3 := List.length_eq_countP_add_countP (eqv ltP k) (l := out)
  have ih := fil_sum (l.filter fun x => !eqv ltP k x) (out.filter fun x => !eqv ltP k x) fun j => by
   have hj := h j
   rw [List.filter_filter, List.filter_filter]
   by_cases hjk : eqv ltP j k = true
   ·have e : ∀ x, (eqv ltP j x && !eqv ltP k x) = false := fun x => by
     simp only [eqvP, decide_eq_true_eq] at hjk ⊢
     by_cases g : j.word = x.word <;> simp [g, <- hjk]
    simp only [e]
    rw [fil_no, fil_no]
    exact Nat.le_refl _
   ·have e : ∀ x, (eqv ltP j x && !eqv ltP k x) = eqv ltP j x := fun x => by
     simp only [eqvP, decide_eq_true_eq] at hjk ⊢
     by_cases g : j.word = x.word
     ·have : ¬ k.word = x.word := fun e => hjk (g.trans e.symm)
      simp [g, this]
     ·simp [g]
    simp only [e]; exact hj
  have hk2 := h k
  simp only [<- List.countP_eq_length_filter] at ih hk2
  have q1 : out.countP (fun x => !eqv ltP k x) = out.countP (fun x => ¬ eqv ltP k x = true) := by congr 1; funext x; cases eqv ltP k x <;> simp
  have q2 : l.countP (fun x => !eqv ltP k x) = l.countP (fun x => ¬ eqv ltP k x = true) := by congr 1; funext x; cases eqv ltP k x <;> simp
  omega
termination_by out.length
decreasing_by exact h1
theorem NrmR.len {l out : List PairP} (h : NrmR l out) : out.length <= l.length := fil_sum l out fun k => by
 rw [h.fil k]
 cases l.filter (eqv ltP k) <;> simp [List.getLast?]
def zfP (p : PairP) : Bool := decide (p.w = 0)
def fzI (l : List PairP) : Int := match l.findIdx? zfP with
 | some i => (i : Int)
 | none => -1
theorem fzI_none {l : List PairP} (h : fzI l = -1) : l.filter (fun p => !zfP p) = l := by
 unfold fzI at h
 split at h
 ·omega
 ·rename_i h2
  rw [List.findIdx?_eq_none_iff] at h2
  rw [List.filter_eq_self]
  intro p hp
  rw [h2 p hp]; rfl
theorem fzI_some {l : List PairP} (h : fzI l ≠ -1) : ∃ i : Nat, fzI l = (i : Int) /\ i < l.length /\ l.take i = (l.take (i + 1)).filter (fun p => !zfP p) := by
 unfold fzI at h ⊢
 split at h
 ·rename_i i h2
  refine ⟨i, rfl, ?_⟩
  obtain ⟨h3, h4, h5⟩ := List.findIdx?_eq_some_iff_getElem.1 h2
  refine ⟨h3, ?_⟩
  rw [List.take_add_one, List.getElem?_eq_getElem h3, List.filter_append]
  simp only [Option.toList_some, List.filter_cons, h4, Bool.not_true, List.filter_nil, List.append_nil]
  simp only [Bool.false_eq_true, if_false, List.append_nil]
  symm
  rw [List.filter_eq_self]
  intro p hp
  obtain ⟨j, hj, rfl⟩ := List.mem_take_iff_getElem.1 hp
  have := h5 j (by omega)
  simp only [Bool.not_eq_true] at this
  rw [this]; rfl
 ·exact absurd rfl h
end Go.En
namespace Go.Proofs.YtejkjbkodcamoaaGreatDoor
open Go.En
attribute [local irreducible] Code.wp wpList Calls
theorem normPC {w0 : World} {K : PH} {hs : List PH} (ao : Option Addr) (c : Nat) (l : List PairP) (x : SlS 2 pairR K ao l.length c l) (hl : l.length <= 1048576) :
  Ct Tryz.prog w0 93 [.slice ao l.length c] K hs
  (fun v K' hs' => K' = K /\ ∃ ao c g out, NrmR l out /\ v = .slice ao out.length c /\ hs' = g :: hs /\ SlZ 2 100 pairR g ao out.length c out) := by
 refine enter Tryz.func93 (by kernel_rfl) rfl rfl rfl ?_
 refine sq (rg ?_)
 refine fin hT 1 rfl (th (sq (rg ?_)))
 refine lit hT 1 #[.slice ao l.length c] rfl (by decide) (by kernel_rfl) fun b4 => ?_
 refine cl hT 0 rfl (orderedC (some ⟨b4, 0, none⟩) 1 [l] (.inr ⟨0, rfl⟩) ⟨[[.slice ao l.length c]], rfl, isS_ptL rfl rfl, ⟨⟨ao, c, rfl, x⟩, trivial⟩, by simp⟩ (by simpa using hl) (by simp)) ?_
 rintro v5 K5 hs5 ⟨rfl, ao, c, g, out, h1, rfl, rfl, h2⟩
 rw [show [l].flatten = l by simp] at h1
 refine fin hT 1 rfl (th (rt ?_))
 refine WQ.drop1 ?_
 exact ret1 rfl rfl ⟨rfl, ao, c, g, out, h1, rfl, rfl, h2⟩
def zeroF : Value := .func (.func 97) #[] #[]
theorem zeroPC {w0 : World} {K : PH} {hs : List PH} (p : PairP) :
  Ct Tryz.prog w0 97 [.agg (pairV p).toArray] K hs (fun v K' hs' => K' = K /\ hs' = hs /\ ∃ t : Bool, v = .bool t /\ (t = true ↔ p.w = 0)) := by
 refine enter Tryz.func97 (by kernel_rfl) rfl rfl rfl ?_
 refine sq (rg ?_)
 refine bx hT 0 rfl fun b1 => ?_
 refine WL.hs (pt b1 #[str p.word, .int .i64 p.w] 100 :: hs) rfl ?_
 refine fin hT 1 rfl (th (sq (rg ?_)))
 refine ldp hT 1 0 rfl rfl rfl ?_
 refine cmpS hT 0 rfl fun b5 h5 => ?_
 refine WL.drop ?_
 refine fin hT 1 rfl (th (rt ?_))
 exact ret1 rfl rfl ⟨rfl, rfl, b5, rfl, h5⟩
theorem indexPC {w0 : World} {K h : PH} {hs : List PH} (ao : Option Addr) (c : Nat) (l : List PairP) (hm : In K hs h) (x : SlS 2 pairR h ao l.length c l) (hl : l.length <= 1048576) :
  Ct Tryz.prog w0 112 [.slice ao l.length c, zeroF] K hs
  (fun v K' hs' => K' = K /\ hs' = hs /\ v = .int .i64 (fzI l)) := by
 refine enter Tryz.func112 (by kernel_rfl) rfl rfl rfl ?_
 obtain ⟨vs, xv⟩ := x.isS
 refine sq (rg ?_)
 refine fin hT 1 rfl (th (sq (sq (rg ?_))))
 refine fin hT 3 rfl (th (bk ?_))
 refine loop (σ := Nat) (fun i => [(0, .slice ao l.length c), (1, zeroF), (7, .int .i64 ((l.length : Nat) : Int)), (8, .int .i64 ((i : Nat) : Int))]) (fun _ => K) (fun _ => hs) (fun i => i <= l.length /\ ∀ p ∈ l.take i, zfP p = false) (fun i => l.length - i) 0 ⟨Nat.zero_le _, by simp⟩ ⟨rfl, rfl, rfl, rfl, trivial⟩ rfl rfl ?_
 rintro i ⟨hi, hno⟩
 refine sq (rg ?_)
 refine cmpS hT 0 rfl fun b9 h9 => ?_
 refine fin hT 0 rfl (th (sq (ifP h9 rfl (fun e2 => ?_) (fun e2 => ?_))))
 ·obtain ⟨p, hp⟩ : ∃ p, l[i]? = some p := ⟨_, List.getElem?_eq_getElem (by omega)⟩
  refine sk (th (sq (bk (sq (rg ?_)))))
  refine fin hT 2 rfl (th (sq (rg ?_)))
  refine ixs hT 3 i rfl rfl xv (by omega) (by decide) fun a14 e14 => ?_
  subst e14
  obtain ⟨cp, hcp, hcpl, hcpc⟩ := x.cells hp
  obtain rfl := hcp
  refine lds hT 0 (pairV p) rfl (by kernel_rfl) hm hcpc ?_
  refine cl hT 0 rfl (zeroPC p) ?_
  rintro v16 K16 hs16 ⟨rfl, rfl, b16, rfl, h16⟩
  refine fin hT 0 rfl (th (ifP h16 rfl (fun e3 => ?_) (fun e3 => ?_)))
  ·refine sq (rg ?_)
   have e : fzI l = (i : Int) := by
    have : l.findIdx? zfP = some i := by
     rw [List.findIdx?_eq_some_iff_getElem]
     obtain ⟨q1, q2⟩ := List.getElem?_eq_some_iff.1 hp
     refine ⟨q1, by rw [q2]; simp [zfP, e3], fun j hj => ?_⟩
     rw [hno _ (List.mem_take_iff_getElem.2 ⟨j, by omega, rfl⟩)]
     simp
    unfold fzI
    rw [this]
   refine fin hT 2 rfl (th (rt (rB (rT (rT (rB (rT ?_)))))))
   exact ret1 rfl rfl ⟨rfl, rfl, by rw [e]⟩
  ·refine sk (bl (th (rg ?_)))
   refine ar hT 0 rfl (v' := .int .i64 ((i + 1 : Nat) : Int)) (i64w (by omega)) ?_
   refine fin hT 1 rfl ?_
   refine again (x := i) (i + 1) ⟨rfl, rfl, rfl, rfl, trivial⟩ rfl rfl ⟨by omega, fun q hq => ?_⟩ (by (try dsimp only); omega)
   rw [List.take_add_one, hp] at hq
   rcases List.mem_append.1 hq with hq | hq
   ·exact hno q hq
   ·simp at hq
    subst hq
    simp [zfP, e3]
 ·refine ex (xt (xt (xb (th (sq (rg ?_))))))
  have e : fzI l = -1 := by
   have : i = l.length := by omega
   subst this
   rw [List.take_length] at hno
   have : l.findIdx? zfP = none := List.findIdx?_eq_none_iff.2 hno
   unfold fzI
   rw [this]
  refine fin hT 1 rfl (th (rt ?_))
  exact ret1 rfl rfl ⟨rfl, rfl, by rw [e]⟩
theorem deletePC {w0 : World} {K g : PH} {hs : List PH} (ao : Option Addr) (c : Nat) (l : List PairP) (o : SlZ 2 100 pairR g ao l.length c l) (hl : l.length <= 1048576) :
  Ct Tryz.prog w0 95 [.slice ao l.length c, zeroF] K (g :: hs)
  (fun v K' hs' => K' = K /\ ∃ c' g', v = .slice ao (l.filter fun p => !zfP p).length c' /\ hs' = g' :: hs /\ SlZ 2 100 pairR g' ao (l.filter fun p => !zfP p).length c' (l.filter fun p => !zfP p)) := by
 refine enter Tryz.func95 (by kernel_rfl) rfl rfl rfl ?_
 refine sq (rg ?_)
 refine fin hT 1 rfl (th (sq (rg ?_)))
 refine cl hT 2 rfl (indexPC ao c l (.inr ⟨0, rfl⟩) o.slS hl) ?_
 rintro v10 K10 hs10 ⟨rfl, rfl, rfl⟩
 refine fin hT 1 rfl (th (sq (sq (rg ?_))))
 refine cmpS hT 1 rfl fun b12 h12 => ?_
 refine fin hT 0 rfl (th (ifP h12 rfl (fun e2 => ?_) (fun e2 => ?_)))
 ·refine sq (rg ?_)
  refine fin hT 2 rfl (th (rt (rT ?_)))
  exact ret1 rfl rfl ⟨rfl, c, g, by rw [fzI_none e2], rfl, by rw [fzI_none e2]; exact o⟩
 ·obtain ⟨i0, hi0, hil, htk⟩ := fzI_some e2
  rw [hi0]
  obtain ⟨n, hN⟩ : ∃ n, n = l.length := ⟨_, rfl⟩
  rw [<- hN] at o hl hil ⊢
  refine sk (th (sq (sq (rg ?_))))
  refine ar hT 1 rfl (v' := .int .i64 ((i0 + 1 : Nat) : Int)) (i64w (by omega)) ?_
  refine fin hT 1 rfl (th (bk ?_))
  refine loop (σ := Nat × Nat × PH × List PairP) (fun s => [(0, .slice ao n c), (1, zeroF), (5, .int .i64 ((s.1 : Nat) : Int)), (6, .int .i64 ((s.2.1 : Nat) : Int))]) (fun _ => K10) (fun s => s.2.2.1 :: hs)
   (fun s => s.1 < s.2.1 /\ s.2.1 <= n /\ SlZ 2 100 pairR s.2.2.1 ao n c s.2.2.2 /\ s.2.2.2.take s.1 = (l.take s.2.1).filter (fun p => !zfP p) /\ s.2.2.2.drop s.2.1 = l.drop s.2.1) (fun s => n - s.2.1) (i0, i0 + 1, g, l)
   ⟨Nat.lt_succ_self _, hil, o, htk, rfl⟩ ⟨rfl, rfl, rfl, rfl, trivial⟩ rfl rfl ?_
  clear o
  rintro ⟨i, j, g, zs⟩ ⟨hij, hjn, o, hz1, hz2⟩
  dsimp only at *
  have hzl : zs.length = n := o.len.symm
  have xS := o.slS
  obtain ⟨vs, xv⟩ := xS.isS
  refine sq (sq (rg ?_))
  refine cmpS hT 3 rfl fun b19 h19 => ?_
  obtain ⟨gb, off, cur, rfl, rfl, hcs, hcap, hset⟩ := o.pts (show 0 < n by omega)
  refine fin hT 0 rfl (th (ifP h19 rfl (fun e4 => ?_) (fun e4 => ?_)))
  ·obtain ⟨p, hp⟩ : ∃ p, zs[j]? = some p := ⟨_, List.getElem?_eq_getElem (by omega)⟩
   have hlp : l[j]? = some p := by
    have := congrArg (fun t => t[0]?) hz2
    simp only [List.getElem?_drop, Nat.add_zero] at this
    rw [<- this]; exact hp
   obtain ⟨cp, hcp, hcpl, hcpc⟩ := xS.cells hp
   obtain rfl := hcp
   have hft : (l.take (j + 1)).filter (fun p => !zfP p) = (l.take j).filter (fun p => !zfP p) ++ (if p.w = 0 then [] else [p]) := by
    rw [List.take_add_one, hlp, List.filter_append]
    congr 1
    by_cases h : p.w = 0 <;> simp [zfP, h]
   refine sk (th (sq (bk (sq (rg ?_)))))
   refine ixs hT 2 j rfl rfl xv (by omega) (by decide) fun a24 e24 => ?_
   cases e24
   refine lds hT 0 (pairV p) rfl (by kernel_rfl) (.inr ⟨0, rfl⟩) hcpc ?_
   refine al hT 0 (.agg #[.string ⟨#[]⟩, .int .i64 0]) rfl (by kernel_rfl) fun b7 => ?_
   refine stS hT 0 0 rfl rfl (by kernel_rfl) rfl rfl ?_
   refine WL.hs (pt b7 #[str p.word, .int .i64 p.w] 100 :: pt gb cur 100 :: hs) rfl ?_
   refine fin hT 0 rfl (th (sq (rg ?_)))
   refine ldS hT 1 0 rfl rfl (by kernel_rfl) ?_
   refine cl hT 0 rfl (zeroPC p) ?_
   rintro v28 K28 hs28 ⟨rfl, rfl, b28, rfl, h28⟩
   refine cbS hT 0 _ rfl (bnot h28) fun b29 h29 => ?_
   refine fin hT 0 rfl (th (ifP h29 rfl (fun e5 => ?_) (fun e5 => ?_)))
   ·have o2 := hset i (pairV p) p (by omega) rfl rfl
    refine sq (rg ?_)
    refine ldS hT 2 0 rfl rfl (by kernel_rfl) ?_
    refine ixs hT 0 i rfl rfl xv (by omega) (by decide) fun a33 e33 => ?_
    cases e33
    simp only [add_mk]
    refine sts hT 0 1 rfl rfl (by kernel_rfl) (by simp [pairV]; omega) (pairR_one _ p rfl) ?_
    refine WL.drop ?_
    refine fin hT 0 rfl (th (rg ?_))
    refine ar hT 1 rfl (v' := .int .i64 ((i + 1 : Nat) : Int)) (i64w (by omega)) ?_
    refine fin hT 1 rfl (bl (th (rg ?_)))
    refine ar hT 1 rfl (v' := .int .i64 ((j + 1 : Nat) : Int)) (i64w (by omega)) ?_
    refine fin hT 1 rfl ?_
    refine again (x := (i, j, pt gb cur 100, zs)) (i + 1, j + 1, _, zs.set i p) ⟨rfl, rfl, rfl, rfl, trivial⟩ rfl rfl ⟨by dsimp only; omega, by dsimp only; omega, o2, ?_, ?_⟩ (by (try dsimp only); omega)
    ·dsimp only
     rw [hft, if_neg e5, <- hz1, List.take_add_one, List.getElem?_set_self (by omega)]
     rw [List.take_set_of_le (Nat.le_refl _)]
     rfl
    ·dsimp only
     rw [List.drop_set_of_lt (by omega), <- List.drop_drop, <- List.drop_drop, hz2]
   ·refine sk (bl (th (rg ?_)))
    refine ar hT 1 rfl (v' := .int .i64 ((j + 1 : Nat) : Int)) (i64w (by omega)) ?_
    refine WL.drop ?_
    refine fin hT 1 rfl ?_
    refine again (x := (i, j, pt gb cur 100, zs)) (i, j + 1, _, zs) ⟨rfl, rfl, rfl, rfl, trivial⟩ rfl rfl ⟨by dsimp only; omega, by dsimp only; omega, o, ?_, ?_⟩ (by (try dsimp only); omega)
    ·dsimp only
     rw [hft, if_pos (Classical.not_not.1 e5), List.append_nil, <- hz1]
    ·dsimp only
     rw [<- List.drop_drop, <- List.drop_drop, hz2]
  ·refine ex (xt (xt (xb (th (sq (rg ?_))))))
   obtain rfl : j = n := by omega
   have e : zs.take i = l.filter fun p => !zfP p := by rw [hz1, hN, List.take_length]
   have el : (l.filter fun p => !zfP p).length = i := by rw [<- e, List.length_take]; omega
   refine slx hT 2 i (j - i) rfl rfl (show ((j : Nat) : Int) = _ by omega) (by omega) ?_
   rw [cutA_lt (by omega)]
   refine clrS hT 0 0 (b := gb) (off := off + i * 2) rfl rfl rfl (by decide) (by decide) rfl (fun _ => rfl) (fun _ => by show off + i * 2 + (j - i) * 2 <= cur.size; omega) fun Z hZ => ?_
   refine fin hT 0 rfl (th (sq (rg ?_)))
   refine slx hT 2 0 i rfl rfl (show ((i : Nat) : Int) = _ by omega) (by omega) ?_
   rw [cutA_0, Nat.sub_zero]
   refine fin hT 1 rfl (th (rt ?_))
   have oc := o.cleared (by omega) i (by omega) Z hZ
   rw [if_neg (by omega)]
   exact ret1 rfl rfl ⟨rfl, c, _, by rw [el], rfl, by rw [el, <- e]; exact oc⟩
theorem mergePC {w0 : World} {K : PH} {hs : List PH} (ao ao2 : Option Addr) (c c2 : Nat) (l l2 : List PairP) (x : SlS 2 pairR K ao l.length c l) (x2 : SlS 2 pairR K ao2 l2.length c2 l2) (hl : l.length + l2.length <= 1048576) :
  Ct Tryz.prog w0 61 [.slice ao l.length c, .slice ao2 l2.length c2] K hs
  (fun v K' hs' => K' = K /\ ∃ ao c g out, NrmR (l ++ l2) out /\ v = .slice ao (out.filter fun p => !zfP p).length c /\ hs' = g :: hs /\ SlZ 2 100 pairR g ao (out.filter fun p => !zfP p).length c (out.filter fun p => !zfP p)) := by
 refine enter Tryz.func61 (by kernel_rfl) rfl rfl rfl ?_
 refine sq (rg ?_)
 refine fin hT 1 rfl (th (sq (rg ?_)))
 refine lit hT 2 #[.slice ao l.length c, .slice ao2 l2.length c2] rfl (by decide) (by kernel_rfl) fun b7 => ?_
 refine cl hT 0 rfl (orderedC (some ⟨b7, 0, none⟩) 2 [l, l2] (.inr ⟨0, rfl⟩) ⟨[[.slice ao l.length c], [.slice ao2 l2.length c2]], rfl, isS_ptL rfl rfl, ⟨⟨ao, c, rfl, x⟩, ⟨ao2, c2, rfl, x2⟩, trivial⟩, by simp⟩ (by simpa using hl) (by simp)) ?_
 rintro v8 K8 hs8 ⟨rfl, ao3, c3, g, out, h1, rfl, rfl, h2⟩
 rw [show [l, l2].flatten = l ++ l2 by simp] at h1
 refine cl hT 0 rfl (deletePC ao3 c3 out h2 (by have := h1.len; simp at this; omega)) ?_
 rintro v9 K9 hs9 ⟨rfl, c4, g4, rfl, rfl, h4⟩
 refine fin hT 1 rfl (th (rt ?_))
 refine WQ.drop1 ?_
 exact ret1 rfl rfl ⟨rfl, ao3, c4, g4, out, h1, rfl, rfl, h4⟩
end Go.Proofs.YtejkjbkodcamoaaGreatDoor
end
section
namespace Go.Proofs.YtejkjbkodcamoaaGreatDoor
open Go.En
attribute [local irreducible] Code.wp wpList Calls
theorem newWB {w0 : World} {K : PH} {hs : List PH} (l : List PairP) (h : RightD l) (ao : Option Addr) (c : Nat) (hS : SlS 3 (stR K) K ao (buildP l).2.length c (buildP l).2) (hG : LeastK K) :
  Ct Tryz.prog w0 65 [.agg #[.int .i64 (buildP l).1, .slice ao (buildP l).2.length c]] K hs (fun v K' hs' => Le K K' /\ hs' = hs /\ ∃ b, v = .tuple #[.pointer (some ⟨b, 0, none⟩), .bool true] /\ WalkQ K' b (buildP l).1 (buildP l).2) := by
 rcases (build_ok h).1 with ⟨e1, e2⟩ | hM
 ·rw [e1, e2]
  exact newWE ao c
 ·exact (newWG _ _ hM ao c hS hG).mono fun v K' hs' ⟨le, e, b, hv, hw⟩ => ⟨le, e, b, hv, hw.q⟩
def DictH (K : PH) (b : Nat) (l0 over : List PairP) (many : Nat) (h : PH) : Prop := ∃ bw ao c, h = pt b #[.pointer (some ⟨bw, 0, none⟩), .slice ao over.length c, .int .i64 ((many : Nat) : Int)] 126 /\ WalkQ K bw (buildP l0).1 (buildP l0).2 /\ SlS 2 pairR K ao over.length c over
theorem loadDC {w0 : World} {K : PH} {hs : List PH} (ao : Option Addr) (c : Nat) (l : List PairP) (x : SlS 2 pairR K ao l.length c l) (hr : RightD l) (hG : LeastK K) :
  Ct Tryz.prog w0 38 [.slice ao l.length c] K hs (fun v K' hs' => Le K K' /\ ∃ b h, hs' = h :: hs /\ DictH K' b l [] l.length h /\ v = .tuple #[.pointer (some ⟨b, 0, none⟩), .int .i64 0]) := by
 have hfew := hr.few
 refine enter Tryz.func38 (by kernel_rfl) rfl rfl rfl ?_
 refine sq (rg ?_)
 refine fin hT 2 rfl (th (sq (rg ?_)))
 refine cl hT 1 rfl (buildC ao l.length c l x hr hG) ?_
 rintro v10 K10 hs10 ⟨rfl, le1, aoS, cS, rfl, hS⟩
 refine al hT 3 (.agg #[.int .i64 0, .slice none 0 0]) rfl (by kernel_rfl) fun b4 => ?_
 refine stS hT 0 0 rfl rfl (by kernel_rfl) rfl rfl ?_
 refine fin hT 1 rfl (th (sq (sq (rg ?_))))
 refine cmp hT 1 rfl (fun h => absurd rfl h) (fun _ => ?_)
 refine fin hT 0 rfl (th (ifF rfl (sk (th (sq (rg ?_))))))
 refine ldS hT 0 0 rfl rfl (by kernel_rfl) ?_
 refine cl hT 0 rfl (newWB l hr aoS cS hS (fun j hj => (hG j hj).le le1)) ?_
 rintro v18 K18 hs18 ⟨le2, rfl, bw, rfl, hW⟩
 refine fin hT 5 rfl (th (sq (rg ?_)))
 refine bd hT 3 (.agg #[.pointer (some ⟨bw, 0, none⟩), .slice none 0 0, .int .i64 ((l.length : Nat) : Int)]) rfl (fun w => by kernel_rfl) ?_
 refine bx hT 0 rfl fun b25 => ?_
 refine fin hT 2 rfl (th (rt (WQ.perm (List.Perm.swap _ _ _) (WQ.drop ?_))))
 exact ret2 rfl rfl rfl ⟨le1.trans le2, b25, _, rfl, ⟨bw, none, 0, rfl, hW, SlS.nil _ _ _ _⟩, rfl⟩
theorem newDi {w0 : World} {K : PH} {hs : List PH} (hG : LeastK K) :
  Ct Tryz.prog w0 13 [] K hs (fun v K' hs' => Le K K' /\ ∃ b h, hs' = h :: hs /\ DictH K' b [] [] 0 h /\ v = .pointer (some ⟨b, 0, none⟩)) := by
 have hr : RightD [] := ⟨by simp, by simp, by simp⟩
 refine enter Tryz.func13 (by kernel_rfl) rfl rfl rfl ?_
 refine sq (rg ?_)
 refine fin hT 1 rfl (th (sq (rg ?_)))
 refine cl hT 0 rfl (loadDC none 0 [] (SlS.nil _ _ _ _) hr hG) ?_
 rintro v2 K2 hs2 ⟨le1, b, h, rfl, hD, rfl⟩
 refine fin hT 5 rfl (th (sq (rg ?_)))
 refine fin hT 2 rfl (th (rt ?_))
 exact ret1 rfl rfl ⟨le1, b, h, rfl, hD, rfl⟩
def wgtD (l0 over : List PairP) (s : List UInt8) : Int × Bool := match lastF over s with
 | some n => (n, decide (0 < n))
 | none => (((l0.find? fun p => decide (p.word = s)).map (·.w)).getD 0, ((l0.find? fun p => decide (p.word = s)).map (·.w)).isSome)
theorem weightC {w0 : World} {K h : PH} {hs : List PH} (b : Nat) (l0 over : List PairP) (many : Nat) (hD : DictH K b l0 over many h) (hr : RightD l0) (ho : over.length <= 1000000) (s : List UInt8) (hl : s.length < 1099511627776) (hG : LeastK K) :
  Ct Tryz.prog w0 57 [.pointer (some ⟨b, 0, none⟩), str s] K (h :: hs) (fun v K' hs' => K' = K /\ hs' = h :: hs /\ v = .tuple #[.int .i64 (wgtD l0 over s).1, .bool (wgtD l0 over s).2]) := by
 obtain ⟨bw, ao, c, rfl, hW, x⟩ := hD
 have hbk := (build_ok hr).1
 have hf : LFm (buildP l0).2 := by
  rcases hbk with ⟨e, _⟩ | hM
  ·rw [e]; intro i s h; simp at h
  ·exact hM.fm
 have hn : (buildP l0).2.length <= 98305 := by
  rcases hbk with ⟨e, _⟩ | hM
  ·rw [e]; simp
  ·exact hM.len
 have hal : ∀ s ∈ (buildP l0).2, s.arcs.length <= 4096 := by
  intro s hs
  rcases hbk with ⟨e, _⟩ | hM
  ·rw [e] at hs; cases hs
  ·obtain ⟨i, hi⟩ := List.mem_iff_getElem?.1 hs
   exact hM.arcsL hi
 have hb : 0 <= (buildP l0).1 /\ (buildP l0).1 <= 1048576 := by
  rcases hbk with ⟨_, e⟩ | hM
  ·rw [e]; decide
  ·have := hM.bas; omega
 refine enter Tryz.func57 (by kernel_rfl) rfl rfl rfl ?_
 refine sq (rg ?_)
 refine fin hT 2 rfl (th (sq (rg ?_)))
 refine ldp hT 3 0 rfl rfl rfl ?_
 refine cl hT 1 rfl (findPC ao c over s x ho) ?_
 rintro v11 K11 hs11 ⟨rfl, rfl, rfl⟩
 cases hF : lastF over s with
 | some n =>
  have hw : wgtD l0 over s = (n, decide (0 < n)) := by unfold wgtD; rw [hF]
  refine fin hT 5 rfl (th (sq (sq (rg ?_))))
  refine fin hT 1 rfl (th (ifT rfl ?_))
  refine sq (rg ?_)
  refine cmpS hT 2 rfl fun b20 h20 => ?_
  refine fin hT 2 rfl (th (rt (rT ?_)))
  exact ret2 rfl rfl rfl ⟨rfl, rfl, by
   rw [hw, show b20 = decide (0 < n) from by rw [Bool.eq_iff_iff, h20, decide_eq_true_iff]; exact Iff.rfl]; rfl⟩
 | none =>
  have hw : wgtD l0 over s = (((l0.find? fun p => decide (p.word = s)).map (·.w)).getD 0, ((l0.find? fun p => decide (p.word = s)).map (·.w)).isSome) := by unfold wgtD; rw [hF]
  refine fin hT 5 rfl (th (sq (sq (rg ?_))))
  refine fin hT 1 rfl (th (ifF rfl ?_))
  refine sk (th (sq (rg ?_)))
  refine ldp hT 3 0 rfl rfl rfl ?_
  refine cl hT 1 rfl (findWC bw _ _ hW hf hn hal hb s hG hl) ?_
  rintro v26 K26 hs26 ⟨rfl, rfl, rfl⟩
  rw [fnd_built hr s]
  refine fin hT 4 rfl (th (rt ?_))
  exact ret2 rfl rfl rfl ⟨rfl, rfl, by rw [hw]; rfl⟩
end Go.Proofs.YtejkjbkodcamoaaGreatDoor
end
section
namespace Go.En
abbrev Rise (l : List PairP) : Prop := l.Pairwise fun x y => ltP x y = true
theorem lastF_fil (l : List PairP) (s : List UInt8) : lastF l s = ((l.filter (eqv ltP ⟨s, 0⟩)).getLast?).map (·.w) := by
 have e : (fun p : PairP => decide (p.word = s)) = eqv ltP ⟨s, 0⟩ := by
  funext p
  rw [eqvP]
  by_cases h : p.word = s <;> simp [h]
  exact fun g => h g.symm
 unfold lastF
 rw [<- List.head?_filter, List.filter_reverse, List.head?_reverse, e]
theorem NrmR.last {l out : List PairP} (h : NrmR l out) (s : List UInt8) : lastF out s = lastF l s := by
 rw [lastF_fil, lastF_fil, h.fil]
 cases (l.filter (eqv ltP ⟨s, 0⟩)).getLast? <;> rfl
theorem lastF_cons (x : PairP) (l : List PairP) (s : List UInt8) : lastF (x :: l) s = (lastF l s).or (if x.word = s then some x.w else none) := by
 unfold lastF
 rw [List.reverse_cons, List.find?_append]
 cases (l.reverse.find? fun p => decide (p.word = s)) with
 | some p => simp
 | none => by_cases h : x.word = s <;> simp [h]
theorem lastF_app (l m : List PairP) (s : List UInt8) : lastF (l ++ m) s = (lastF m s).or (lastF l s) := by
 unfold lastF
 rw [List.reverse_append, List.find?_append]
 cases (m.reverse.find? fun p => decide (p.word = s)) <;> simp
theorem rise_inj {l : List PairP} (h : Rise l) {p q : PairP} (hp : p ∈ l) (hq : q ∈ l) (e : p.word = q.word) : p = q := by
 obtain ⟨i, hi, rfl⟩ := List.mem_iff_getElem.1 hp
 obtain ⟨j, hj, rfl⟩ := List.mem_iff_getElem.1 hq
 have hh := List.pairwise_iff_getElem.1 h
 rcases Nat.lt_trichotomy i j with g | g | g
 ·have := hh i j hi hj g
  unfold ltP at this
  rw [e, bl_irr] at this
  exact Bool.noConfusion this
 ·subst g; rfl
 ·have := hh j i hj hi g
  unfold ltP at this
  rw [e, bl_irr] at this
  exact Bool.noConfusion this
theorem find_mem {l : List PairP} (h : Rise l) {m : List PairP} (hm : ∀ x, x ∈ m ↔ x ∈ l) (s : List UInt8) (w : Int) : (m.find? fun p => decide (p.word = s)).map (·.w) = some w ↔ (⟨s, w⟩ : PairP) ∈ l := by
 constructor
 ·intro g
  cases hf : m.find? fun p => decide (p.word = s) with
  | none => rw [hf] at g; cases g
  | some p =>
   rw [hf] at g
   have h1 := (hm p).1 (List.mem_of_find?_eq_some hf)
   have h2 := List.find?_some hf
   simp only [decide_eq_true_eq] at h2
   simp only [Option.map_some, Option.some.injEq] at g
   subst h2 g
   exact h1
 ·intro g
  cases hf : m.find? fun p => decide (p.word = s) with
  | none =>
   have := List.find?_eq_none.1 hf _ ((hm _).2 g)
   simp at this
  | some p =>
   have h1 := (hm p).1 (List.mem_of_find?_eq_some hf)
   have h2 := List.find?_some hf
   simp only [decide_eq_true_eq] at h2
   rw [rise_inj h h1 g h2]
   rfl
theorem rise_mem {l : List PairP} (h : Rise l) (s : List UInt8) (w : Int) : lastF l s = some w ↔ (⟨s, w⟩ : PairP) ∈ l := find_mem h (fun x => List.mem_reverse) s w
theorem rise_find {l : List PairP} (h : Rise l) (s : List UInt8) : (l.find? fun p => decide (p.word = s)).map (·.w) = lastF l s := by
 apply Option.ext
 intro w
 rw [rise_mem h]
 exact find_mem h (fun x => Iff.rfl) s w
theorem rise_ext : ∀ {l m : List PairP}, Rise l -> Rise m -> (∀ x, x ∈ l ↔ x ∈ m) -> l = m
 | [], [], _, _, _ => rfl
 | [], b :: u, _, _, h => absurd ((h b).2 List.mem_cons_self) (by simp)
 | a :: t, [], _, _, h => absurd ((h a).1 List.mem_cons_self) (by simp)
 | a :: t, b :: u, hl, hm, h => by
  obtain ⟨h1, h2⟩ := List.pairwise_cons.1 hl
  obtain ⟨h3, h4⟩ := List.pairwise_cons.1 hm
  have e : a = b := by
   rcases List.mem_cons.1 ((h a).1 List.mem_cons_self) with e | e
   ·exact e
   ·rcases List.mem_cons.1 ((h b).2 List.mem_cons_self) with e' | e'
    ·exact e'.symm
    ·have := wkoP.tr _ _ _ (h1 b e') (h3 a e)
     rw [wkoP.irr] at this
     exact Bool.noConfusion this
  subst e
  rw [rise_ext h2 h4 fun x => ⟨fun g => ?_, fun g => ?_⟩]
  ·rcases List.mem_cons.1 ((h x).1 (List.mem_cons_of_mem _ g)) with e | e
   ·subst e
    have := h1 x g
    rw [wkoP.irr] at this
    exact Bool.noConfusion this
   ·exact e
  ·rcases List.mem_cons.1 ((h x).2 (List.mem_cons_of_mem _ g)) with e | e
   ·subst e
    have := h3 x g
    rw [wkoP.irr] at this
    exact Bool.noConfusion this
   ·exact e
theorem RightD.rise {l : List PairP} (h : RightD l) : Rise l := h.ord
def lkD (l0 over : List PairP) (s : List UInt8) : Option Int := match lastF over s with
 | some w => if w = 0 then none else some w
 | none => lastF l0 s
structure DInv (l0 over W : List PairP) : Prop where
 hb : RightD l0
 rise : Rise over
 ovr : ∀ p ∈ over, wordP p.word /\ 0 <= p.w /\ p.w <= 1048576
 hr : RightD W
 lk : ∀ s, lastF W s = lkD l0 over s
theorem DInv.nil : DInv [] [] [] := ⟨⟨by simp, by simp, by simp⟩, by simp, by simp, ⟨by simp, by simp, by simp⟩, fun s => rfl⟩
theorem DInv.merged {l0 over W out : List PairP} (h : DInv l0 over W) (hn : NrmR (l0 ++ over) out) : out.filter (fun p => !zfP p) = W := by
 refine rise_ext (List.Pairwise.filter _ hn.rise) h.hr.rise fun x => ?_
 rw [<- rise_mem h.hr.rise x.word x.w, h.lk, List.mem_filter, show x ∈ out ↔ lastF out x.word = some x.w from (rise_mem hn.rise x.word x.w).symm, hn.last, lastF_app]
 unfold lkD
 cases hF : lastF over x.word with
 | some w =>
  simp only [Option.some_or, Option.some.injEq]
  by_cases hw : w = 0
  ·rw [if_pos hw]
   simp only [reduceCtorEq, iff_false, not_and]
   intro e
   simp [zfP, <- e, hw]
  ·rw [if_neg hw]
   constructor
   ·rintro ⟨e, _⟩; rw [e]
   ·intro e
    cases e
    exact ⟨rfl, by simp [zfP, hw]⟩
 | none =>
  simp only [Option.none_or]
  constructor
  ·exact fun g => g.1
  ·intro g
   refine ⟨g, ?_⟩
   have := h.hb.one _ ((rise_mem h.hb.rise x.word x.w).1 g)
   simp [zfP]
   intro e
   have h2 : (1 : Int) <= x.w := this.2.1
   omega
theorem DInv.change {l0 over W ov W' : List PairP} {p : PairP} (h : DInv l0 over W) (hw : wordP p.word /\ 0 <= p.w /\ p.w <= 1048576) (hn : NrmR (over ++ [p]) ov) (hr : RightD W') (hW : ∀ s, lastF W' s = if p.word = s then (if p.w = 0 then none else some p.w) else lastF W s) : DInv l0 ov W' := by
 have hl : ∀ s, lastF ov s = if p.word = s then some p.w else lastF over s := fun s => by
  rw [hn.last, lastF_app, lastF_cons]
  by_cases e : p.word = s
  ·simp [lastF, e]
  ·simp [lastF, e]
 refine ⟨h.hb, hn.rise, fun q hq => ?_, hr, fun s => ?_⟩
 ·have h1 := (rise_mem hn.rise q.word q.w).2 hq
  rw [hl] at h1
  split at h1
  ·rename_i e
   rw [<- e, <- Option.some.inj h1]
   exact hw
  ·exact h.ovr _ ((rise_mem h.rise q.word q.w).1 h1)
 ·rw [hW]
  unfold lkD
  rw [hl]
  by_cases e : p.word = s
  ·rw [if_pos e, if_pos e]
  ·rw [if_neg e, if_neg e, h.lk]; rfl
theorem DInv.compact {l0 over W : List PairP} (h : DInv l0 over W) : DInv W [] W := ⟨h.hr, by simp, by simp, h.hr, fun s => rfl⟩
def insP (l : List PairP) (p : PairP) : List PairP := l.filter (fun x => ltP x p) ++ p :: l.filter (fun x => ltP p x)
def rmvP (l : List PairP) (s : List UInt8) : List PairP := l.filter fun x => decide (x.word ≠ s)
theorem ltP_ne {a b : PairP} (h : ltP a b = true) : a.word ≠ b.word := fun e => by
 unfold ltP at h
 rw [e, bl_irr] at h
 exact Bool.noConfusion h
theorem ltP_or {a b : PairP} (h : a.word ≠ b.word) : ltP a b = true \/ ltP b a = true := by
 cases g : ltP a b with
 | true => exact .inl rfl
 | false => cases g2 : ltP b a with
  | true => exact .inr rfl
  | false => exact absurd (bl_eq _ _ g g2) h
theorem ins_mem {l : List PairP} {p x : PairP} : x ∈ insP l p ↔ x = p \/ (x ∈ l /\ x.word ≠ p.word) := by
 unfold insP
 simp only [List.mem_append, List.mem_cons, List.mem_filter]
 constructor
 ·rintro (⟨h1, h2⟩ | h | ⟨h1, h2⟩)
  ·exact .inr ⟨h1, ltP_ne h2⟩
  ·exact .inl h
  ·exact .inr ⟨h1, fun e => ltP_ne h2 e.symm⟩
 ·rintro (h | ⟨h1, h2⟩)
  ·exact .inr (.inl h)
  ·rcases ltP_or h2 with g | g
   ·exact .inl ⟨h1, g⟩
   ·exact .inr (.inr ⟨h1, g⟩)
theorem ins_rise {l : List PairP} {p : PairP} (h : Rise l) : Rise (insP l p) := by
 unfold insP
 rw [Rise, List.pairwise_append]
 refine ⟨h.filter _, List.pairwise_cons.2 ⟨fun x hx => (List.mem_filter.1 hx).2, h.filter _⟩, fun a ha b hb => ?_⟩
 have h1 := (List.mem_filter.1 ha).2
 rcases List.mem_cons.1 hb with e | e
 ·rw [e]; exact h1
 ·exact wkoP.tr _ _ _ h1 (List.mem_filter.1 e).2
theorem ins_last {l : List PairP} {p : PairP} (h : Rise l) (s : List UInt8) : lastF (insP l p) s = if p.word = s then some p.w else lastF l s := by
 apply Option.ext
 intro w
 rw [rise_mem (ins_rise h), ins_mem]
 by_cases e : p.word = s
 ·rw [if_pos e]
  constructor
  ·rintro (g | ⟨_, g⟩)
   ·rw [<- g]
   ·exact absurd e.symm g
  ·intro g
   cases g
   exact .inl (by rw [<- e])
 ·rw [if_neg e, rise_mem h]
  constructor
  ·rintro (g | ⟨g, _⟩)
   ·exact absurd (by rw [<- g]) e
   ·exact g
  ·intro g
   exact .inr ⟨g, fun q => e q.symm⟩
theorem ins_len (p : PairP) : ∀ l : List PairP, (insP l p).length = (rmvP l p.word).length + 1
 | [] => rfl
 | x :: l => by
  have ih := ins_len p l
  unfold insP rmvP at ih ⊢
  simp only [List.length_append, List.length_cons, List.filter_cons, ne_eq] at ih ⊢
  by_cases e : x.word = p.word
  ·have h1 : ltP x p = false := by unfold ltP; rw [e, bl_irr]
   have h2 : ltP p x = false := by unfold ltP; rw [e, bl_irr]
   simp only [h1, h2, e, ne_eq, not_true_eq_false, decide_false, Bool.false_eq_true, if_false]
   exact ih
  ·rcases ltP_or e with g | g
   ·have h2 : ltP p x = false := by
     cases q : ltP p x with
     | false => rfl
     | true => have := wkoP.tr _ _ _ g q; rw [wkoP.irr] at this; exact Bool.noConfusion this
    simp only [g, h2, e, ne_eq, not_false_eq_true, decide_true, Bool.false_eq_true, if_false, if_true, List.length_cons]
    omega
   ·have h2 : ltP x p = false := by
     cases q : ltP x p with
     | false => rfl
     | true => have := wkoP.tr _ _ _ g q; rw [wkoP.irr] at this; exact Bool.noConfusion this
    simp only [g, h2, e, ne_eq, not_false_eq_true, decide_true, Bool.false_eq_true, if_false, if_true, List.length_cons]
    omega
theorem rmv_none {l : List PairP} {s : List UInt8} (h : lastF l s = none) : rmvP l s = l := by
 unfold rmvP
 rw [List.filter_eq_self]
 intro x hx
 unfold lastF at h
 rw [Option.map_eq_none_iff, List.find?_eq_none] at h
 have := h x (List.mem_reverse.2 hx)
 simpa using this
theorem rmv_len {s : List UInt8} : ∀ {l : List PairP}, Rise l -> (rmvP l s).length + (if (lastF l s).isSome then 1 else 0) = l.length
 | [], _ => rfl
 | x :: l, h => by
  obtain ⟨h1, h2⟩ := List.pairwise_cons.1 h
  rw [lastF_cons]
  by_cases e : x.word = s
  ·have hn : lastF l s = none := by
    cases g : lastF l s with
    | none => rfl
    | some w =>
     have := h1 _ ((rise_mem h2 s w).1 g)
     exact absurd e (ltP_ne this)
   have hr : rmvP (x :: l) s = l := by
    have := rmv_none hn
    unfold rmvP at this ⊢
    rw [List.filter_cons_of_neg (by simp [e]), this]
   rw [hr, hn]
   simp [e]
  ·have ih := rmv_len (s := s) h2
   have hr : rmvP (x :: l) s = x :: rmvP l s := by unfold rmvP; rw [List.filter_cons_of_pos (by simp [e])]
   rw [hr]
   simp only [e, if_false, Option.or_none, List.length_cons]
   omega
theorem rmv_last {l : List PairP} {t : List UInt8} (h : Rise l) (s : List UInt8) : lastF (rmvP l t) s = if t = s then none else lastF l s := by
 have hr : Rise (rmvP l t) := h.filter _
 apply Option.ext
 intro w
 rw [rise_mem hr, rmvP, List.mem_filter]
 by_cases e : t = s
 ·rw [if_pos e]
  simp [e]
 ·rw [if_neg e, rise_mem h]
  simp only [ne_eq, decide_eq_true_eq, and_iff_left_iff_imp]
  exact fun _ q => e q.symm
theorem RightD.ins {W : List PairP} {p : PairP} (h : RightD W) (hw : wordP p.word) (h1 : 1 <= p.w /\ p.w <= 1048576) (hf : (lastF W p.word).isSome = true \/ W.length < 4096) : RightD (insP W p) := by
 have hl := rmv_len (s := p.word) h.rise
 have hi := ins_len p W
 have := h.few
 refine ⟨?_, fun x hx => ?_, ins_rise h.rise⟩
 ·rcases hf with hf | hf
  ·rw [hf, if_pos rfl] at hl; omega
  ·split at hl <;> omega
 ·rcases ins_mem.1 hx with e | ⟨e, _⟩
  ·rw [e]; exact ⟨hw, h1⟩
  ·exact h.one x e
theorem RightD.rmv {W : List PairP} (h : RightD W) (s : List UInt8) : RightD (rmvP W s) :=
 ⟨Nat.le_trans (List.length_filter_le _ _) h.few, fun x hx => h.one x (List.mem_filter.1 hx).1, h.rise.filter _⟩
end Go.En
namespace Go.Proofs.YtejkjbkodcamoaaGreatDoor
open Go.En
theorem wgtD_eq {l0 over W : List PairP} (h : DInv l0 over W) (s : List UInt8) : wgtD l0 over s = ((lastF W s).getD 0, (lastF W s).isSome) := by
 unfold wgtD
 rw [h.lk, rise_find h.hb.rise]
 unfold lkD
 cases hF : lastF over s with
 | some w =>
  have hm := h.ovr _ ((rise_mem h.rise s w).1 hF)
  have h0 : (0 : Int) <= w := hm.2.1
  dsimp only
  by_cases hw : w = 0
  ·rw [if_pos hw, hw]; rfl
  ·rw [if_neg hw, show decide (0 < w) = true from decide_eq_true (by omega)]; rfl
 | none => rfl
end Go.Proofs.YtejkjbkodcamoaaGreatDoor
end
section
namespace Go.En
attribute [local irreducible] Code.wp wpList Calls
theorem mksH {P : Program} {T : Tab} {w0 : World} {ops : Array Oper} {Q : Exit -> Act -> World -> Prop} {rest rest' : List Oper} {n : Nat} {l l' : Sl} {K : PH} {hs : List PH}
  (hT : TabOK P T) (k : Nat) {d : Nat} {si : SlI} {i j : Int} (M N : Nat) (h0 : mslAt T ops n k rest l = some (d, si, i, j, rest', l')) (hi : i = (M : Int)) (hj : j = (N : Int)) (hMN : M <= N) (hz0 : 0 < si.size) (hr : N * si.bytes <= roomBytes) (hN0 : 0 < N) (hN : N <= 16777216) (hb2 : si.bytes <= 1024)
  (hk : ∀ b cur, cur.size = N * si.size -> WL P w0 ops Q rest' n ((d, .slice (some ⟨b, 0, none⟩) M N) :: l') K (pt b cur si.elem :: hs)) : WL P w0 ops Q rest n l K hs := by
 unfold mslAt at h0
 split at h0
 ·rename_i o r l2 ho
  split at h0
  ·rename_i d' t x y hd hop
   split at h0
   ·rename_i si' ii jj hb hsi hx hy
    simp only [Option.some.injEq, Prod.mk.injEq] at h0
    obtain ⟨rfl, rfl, rfl, rfl, rfl, rfl⟩ := h0
    subst hi hj
    obtain ⟨h1, im, h2, h3, h4, h5⟩ := hT.sl hsi
    refine WL.at' hT ho fun hg => WL.val (R := fun u K' hs' => ∃ b cur, u = .slice (some ⟨b, 0, none⟩) M N /\ cur.size = N * si'.size /\ K' = K /\ hs' = pt b cur si'.elem :: hs) hd hb hg
     (fun A w ha hw => ⟨.slice (some ⟨w.heap.size, 0, none⟩) M N, _, K, _, ?_, hw.alloc _, w.heap.size, (Array.range (N * si'.size)).map (fun x => si'.zero.cells[x % si'.zero.cells.size]!), rfl, by simp, rfl, rfl⟩) ?_
    ·have e1 : IntKind.i64.wrap ((N : Nat) : Int) = (N : Int) := by simp [IntKind.wrap, IntKind.bits, IntKind.signed]; omega
     have e2 : IntKind.i64.wrap ((M : Nat) : Int) = (M : Int) := by simp [IntKind.wrap, IntKind.bits, IntKind.signed]; omega
     simp only [execOp, hop, ha.ev hx, ha.ev hy]
     rw [h5.symm] at hr hb2
     have hm : im.bytes * N <= 1024 * 16777216 := Nat.mul_le_mul hb2 hN
     have c2 : ¬ (281474976710656 : Int) < (im.bytes : Int) * (N : Int) := by
      have : ((im.bytes * N : Nat) : Int) = (im.bytes : Int) * (N : Int) := by push_cast; rfl
      omega
     have c1 : ¬ ((N : Nat) : Int) < 0 := by omega
     have c4 : ¬ ((M : Nat) : Int) < 0 := by omega
     have c5 : ¬ ((N : Nat) : Int) < ((M : Nat) : Int) := by omega
     have c6 : ¬ N < M := by omega
     have c3 : ¬ roomBytes < N * im.bytes := by omega
     have hzz : N ≠ 0 := by omega
     have hz4 : N * si'.size ≠ 0 := Nat.mul_ne_zero hzz (by omega)
     simp [Instr.makeSlice, asInt, asIntOf, run_underlying h1, sizeOf, typeInfo, h2, h4, e1, e2, c1, c2, c3, c4, c5, c6, askRoom, newRow, zeroValue, h3, hz4, pt]
    ·rintro u K' hs' ⟨b, cur, rfl, hc, rfl, rfl⟩
     exact hk b cur hc
   ·simp at h0
  ·simp at h0
 ·simp at h0
theorem flat_one {css : List (List Value)} {xs : List PairP} (h : Al2 pairR css xs) {u : Value} (hu : u ∈ css.flatten) : u.oneCell' = true := by
 obtain ⟨c, hcm, huc⟩ := List.mem_flatten.1 hu
 obtain ⟨j, hj⟩ := List.mem_iff_getElem?.1 hcm
 obtain ⟨h1, h2⟩ := List.getElem?_eq_some_iff.1 hj
 have hl := h.len
 obtain ⟨y, hy⟩ : ∃ y, xs[j]? = some y := ⟨_, List.getElem?_eq_getElem (by omega)⟩
 obtain ⟨c', hc', hr⟩ := h.get hy
 rw [hj] at hc'
 cases hc'
 exact pairR_one c y hr u huc
theorem WalkQ.le {K K' : PH} (l : Le K K') {b : Nat} {base : Int} {ss : List StP} (h : WalkQ K b base ss) : WalkQ K' b base ss :=
 let ⟨ao, c, h1, h2⟩ := h.sta
 ⟨h.bas.le l, ao, c, h1.le l, h2.le l fun _ _ => stR.le l⟩
end Go.En
namespace Go.Proofs.YtejkjbkodcamoaaGreatDoor
open Go.En
attribute [local irreducible] Code.wp wpList Calls
theorem LeastK.le' {K K' : PH} (l : Le K K') (h : LeastK K) : LeastK K' := fun j hj => (h j hj).le l
theorem DictH.le {K K' : PH} (l : Le K K') {b : Nat} {l0 over : List PairP} {many : Nat} {h : PH} (x : DictH K b l0 over many h) : DictH K' b l0 over many h :=
 let ⟨bw, ao, c, h1, h2, h3⟩ := x
 ⟨bw, ao, c, h1, h2.le l, h3.le l fun _ _ h => h⟩
theorem pairsDC {w0 : World} {K h : PH} {hs : List PH} (b : Nat) (l0 over W : List PairP) (many : Nat) (hD : DictH K b l0 over many h) (hI : DInv l0 over W) (ho : over.length <= 64) (hG : LeastK K) :
  Ct Tryz.prog w0 37 [.pointer (some ⟨b, 0, none⟩)] K (h :: hs)
   (fun v K' hs' => Le K K' /\ ∃ ao c g, v = .slice ao W.length c /\ hs' = g :: h :: hs /\ SlZ 2 100 pairR g ao W.length c W) := by
 obtain ⟨bw, ao, c, rfl, hW, x⟩ := hD
 have hbk := build_ok hI.hb
 have hf0 := hI.hb.few
 refine enter Tryz.func37 (by kernel_rfl) rfl rfl rfl ?_
 refine sq (rg ?_)
 refine fin hT 1 rfl (th (sq (rga [pt b #[.pointer (some ⟨bw, 0, none⟩), .slice ao over.length c, .int .i64 ((many : Nat) : Int)] 126] 12 [0, 2, 4, 6, 12, 14, 16, 18, 9, 11, 21, 22] (by simp) (by kernel_rfl) (by kernel_rfl) ?_)))
 refine dldp hT (by kernel_rfl) 3 0 rfl rfl rfl ?_
 refine dldp hT (by kernel_rfl) 3 0 rfl rfl rfl ?_
 refine dact hT (by kernel_rfl) 0 rfl ?_
 refine cl hT 0 rfl (allC bw) ?_
 rintro v7 K7 hs7 ⟨rfl, b1, rfl, rfl⟩
 refine WL.frz fun K2 le2 le3 => ?_
 refine dnexL [pt b #[.pointer (some ⟨bw, 0, none⟩), .slice ao over.length c, .int .i64 ((many : Nat) : Int)] 126] (by simp) (by simp) le2 ?_
 refine dact hT (by kernel_rfl) 0 rfl ?_
 refine cl hT 0 rfl (collectAll bw b1 (buildP l0).1 (buildP l0).2 (by rcases hbk.1 with ⟨e, _⟩ | e; exact .inl e; exact .inr e) (hW.le le2) (LeastK.le' le2 hG) ((Cell.pt rfl).le le3)) ?_
 rintro v8 K8 hs8 ⟨rfl, ao8, c8, g8, rfl, rfl, o8⟩
 rw [hbk.2.1] at o8 ⊢
 refine WL.frz fun K3 le4 le5 => ?_
 refine dnexL [pt b #[.pointer (some ⟨bw, 0, none⟩), .slice ao over.length c, .int .i64 ((many : Nat) : Int)] 126] (by simp) (by simp) le4 ?_
 refine dact hT (by kernel_rfl) 0 rfl ?_
 refine cl hT 0 rfl (mergePC ao8 ao c8 c l0 over (o8.slS.le le5 fun _ _ h => h) ((x.le (le2.trans le4) fun _ _ h => h)) (by omega)) ?_
 rintro v13 K13 hs13 ⟨rfl, ao9, c9, g9, out, hn, rfl, rfl, o9⟩
 rw [hI.merged hn] at o9 ⊢
 refine dnexL [pt b #[.pointer (some ⟨bw, 0, none⟩), .slice ao over.length c, .int .i64 ((many : Nat) : Int)] 126] (by simp) (by simp) (Le.refl _) ?_
 refine dend hT (by kernel_rfl) 1 rfl (th (rt ?_))
 exact ret1 rfl rfl ⟨le2.trans le4, ao9, c9, g9, rfl, rfl, o9⟩
theorem machineDC {w0 : World} {K h : PH} {hs : List PH} (b : Nat) (l0 over W : List PairP) (many : Nat) (hD : DictH K b l0 over many h) (hI : DInv l0 over W) (ho : over.length <= 64) (hG : LeastK K) :
  Ct Tryz.prog w0 111 [.pointer (some ⟨b, 0, none⟩)] K (h :: hs)
   (fun v K' hs' => Le K K' /\ hs' = h :: hs /\ ∃ aoS cS, v = .agg #[.int .i64 (buildP W).1, .slice aoS (buildP W).2.length cS] /\ SlS 3 (stR K') K' aoS (buildP W).2.length cS (buildP W).2) := by
 refine enter Tryz.func111 (by kernel_rfl) rfl rfl rfl ?_
 refine sq (rg ?_)
 refine al hT 0 (.agg #[.int .i64 0, .slice none 0 0]) rfl (by kernel_rfl) fun b2 => ?_
 refine WL.perm (List.Perm.swap _ _ _) ?_
 refine fin hT 0 rfl (th (sq (rg ?_)))
 refine cl hT 1 rfl (pairsDC b l0 over W many hD hI ho hG) ?_
 rintro v7 K7 hs7 ⟨le7, ao7, c7, g7, rfl, rfl, o7⟩
 refine WL.frz fun K2 le2 le3 => ?_
 refine cl hT 0 rfl (buildC ao7 W.length c7 W (o7.slS.le le3 fun _ _ h => h) hI.hr (LeastK.le' (le7.trans le2) hG)) ?_
 rintro v8 K8 hs8 ⟨rfl, le8, aoS, cS, rfl, hS⟩
 refine al hT 3 (.agg #[.int .i64 0, .slice none 0 0]) rfl (by kernel_rfl) fun b3 => ?_
 refine stS hT 0 0 rfl rfl (by kernel_rfl) rfl rfl ?_
 refine fin hT 1 rfl (th (sq (rg ?_)))
 refine ldS hT 0 0 rfl rfl (by kernel_rfl) ?_
 refine stS hT 0 2 rfl rfl (by kernel_rfl) rfl rfl ?_
 refine fin hT 0 rfl (th (rt ?_))
 refine WQ.perm ((List.Perm.swap _ _ _).cons _) ?_
 refine retcA 1 2 rfl rfl rfl (by kernel_rfl) ?_
 exact ⟨le7.trans (le2.trans le8), rfl, aoS, cS, rfl, hS⟩
theorem compactDC {w0 : World} {K h : PH} {hs : List PH} (b : Nat) (l0 over W : List PairP) (many : Nat) (hD : DictH K b l0 over many h) (hI : DInv l0 over W) (ho : over.length <= 64) (hG : LeastK K) :
  Ct Tryz.prog w0 94 [.pointer (some ⟨b, 0, none⟩)] K (h :: hs)
   (fun v K' hs' => Le K K' /\ v = .tuple #[] /\ ∃ h', hs' = h' :: hs /\ DictH K' b W [] many h') := by
 refine enter Tryz.func94 (by kernel_rfl) rfl rfl rfl ?_
 refine sq (rg ?_)
 refine cl hT 1 rfl (machineDC b l0 over W many hD hI ho hG) ?_
 rintro v6 K6 hs6 ⟨le6, rfl, aoS, cS, rfl, hS⟩
 refine cl hT 0 rfl (newWB W hI.hr aoS cS hS (LeastK.le' le6 hG)) ?_
 rintro v7 K7 hs7 ⟨le7, rfl, bw2, rfl, hW2⟩
 obtain ⟨bw, ao, c, rfl, hW, x⟩ := hD
 refine fin hT 5 rfl (th (rg ?_))
 refine stp hT 5 0 rfl rfl rfl rfl ?_
 refine stp hT 2 0 rfl rfl rfl rfl ?_
 refine fin hT 0 rfl ?_
 exact end0 rfl ⟨le6.trans le7, rfl, _, rfl, bw2, none, 0, rfl, hW2, SlS.nil _ _ _ _⟩
theorem changeDC {w0 : World} {K h : PH} {hs : List PH} (b : Nat) (l0 over W W' : List PairP) (p : PairP) (many : Nat) (hD : DictH K b l0 over many h) (hI : DInv l0 over W) (ho : over.length <= 32) (hG : LeastK K)
  (hw : wordP p.word /\ 0 <= p.w /\ p.w <= 1048576) (hr : RightD W') (hW' : ∀ s, lastF W' s = if p.word = s then (if p.w = 0 then none else some p.w) else lastF W s) :
  Ct Tryz.prog w0 59 [.pointer (some ⟨b, 0, none⟩), .agg (pairV p).toArray] K (h :: hs)
   (fun v K' hs' => Le K K' /\ v = .tuple #[] /\ ∃ h' l1 ov, hs' = h' :: hs /\ DictH K' b l1 ov many h' /\ DInv l1 ov W' /\ ov.length <= 32) := by
 obtain ⟨bw, ao, c, rfl, hW, x⟩ := hD
 obtain ⟨vs, hvs⟩ := x.isS
 refine enter Tryz.func59 (by kernel_rfl) rfl rfl rfl ?_
 refine sq (rg ?_)
 refine bx hT 0 rfl fun b3 => ?_
 refine WL.hs (pt b3 #[str p.word, .int .i64 p.w] 100 :: pt b #[.pointer (some ⟨bw, 0, none⟩), .slice ao over.length c, .int .i64 ((many : Nat) : Int)] 126 :: hs) rfl ?_
 refine fin hT 0 rfl (th (sq (rga [pt b #[.pointer (some ⟨bw, 0, none⟩), .slice ao over.length c, .int .i64 ((many : Nat) : Int)] 126] 13 [0, 2, 4, 6, 8, 10, 12, 14, 16, 18, 20, 23, 24] (by simp) (by kernel_rfl) (by kernel_rfl) ?_)))
 refine dldp hT (by kernel_rfl) 3 0 rfl rfl rfl ?_
 refine dldp hT (by kernel_rfl) 4 0 rfl rfl rfl ?_
 refine dar hT (by kernel_rfl) 1 rfl (v' := .int .i64 ((over.length + 1 : Nat) : Int)) (i64w (by omega)) ?_
 refine dact hT (by kernel_rfl) 0 rfl ?_
 refine mksH hT 0 over.length (over.length + 1) rfl rfl rfl (by omega) (by decide) (by show (over.length + 1) * 24 <= roomBytes; simp only [roomBytes]; omega) (by omega) (by omega) (by decide) fun b16 cur hcur => ?_
 refine dnexL [pt b #[.pointer (some ⟨bw, 0, none⟩), .slice ao over.length c, .int .i64 ((many : Nat) : Int)] 126] (by simp) (by simp) (Le.refl _) ?_
 refine dend hT (by kernel_rfl) 1 rfl (th (sq (rg ?_)))
 refine ldp hT 4 2 rfl rfl rfl ?_
 obtain ⟨css, q1, q2, q3, q4⟩ := x
 have hcl : css.flatten.length = over.length * 2 := q2.1
 have htk : css.flatten.take (over.length * 2) = css.flatten := List.take_of_length_le (by omega)
 refine cpy hT 0 0 over.length rfl rfl rfl (.inl rfl) q2 (by omega) (fun u hu => flat_one q3 (List.mem_of_mem_take hu)) (by rw [hcur]; show 0 + over.length * 2 <= (over.length + 1) * 2; omega) ?_
 refine fin hT 0 rfl (th (sq (rg ?_)))
 refine ldS hT 2 1 rfl rfl (by kernel_rfl) ?_
 refine lit hT 0 (pairV p).toArray rfl (by decide) (by kernel_rfl) fun b26 => ?_
 have oX : SlZ 2 100 pairR (pt b16 (cur.toList.take 0 ++ css.flatten.take (over.length * 2) ++ cur.toList.drop (0 + over.length * 2)).toArray 100) (some ⟨b16, 0, none⟩) over.length (over.length + 1) over := by
  have hc2 : cur.toList.length = (over.length + 1) * 2 := by rw [Array.length_toList]; exact hcur
  refine ⟨css, q1, .inl ⟨hcl, by omega, by simp only [maxLen]; omega, .inr ⟨b16, 0, _, rfl, rfl, ?_, ?_⟩⟩, q3, q4⟩
  ·simp only [List.size_toArray, List.length_append, List.length_take, List.length_drop]
   omega
  ·rw [htk]
   simp [hcl]
 refine appSq hT 0 1 (pairV p) p rfl rfl rfl oX rfl rfl (pairR_one _ p rfl) rfl (by decide) (by show (_ + 1) * 24 <= _; omega) (by simp only [maxLen]; omega) fun ao27 c27 g27 o27 => ?_
 refine WL.drop (WL.frz fun K2 le2 le3 => WL.drop ?_)
 have hlp : (over ++ [p]).length = over.length + 1 := by simp
 refine cl hT 0 rfl (by rw [<- hlp]; exact normPC ao27 c27 (over ++ [p]) (by rw [hlp]; exact o27.slS.le le3 fun _ _ h => h) (by omega)) ?_
 rintro v28 K28 hs28 ⟨rfl, ao28, c28, g28, ov, hn, rfl, rfl, o28⟩
 have hol : ov.length <= over.length + 1 := by have := hn.len; simpa using this
 have hI2 := hI.change hw hn hr hW'
 refine WL.frz fun K3 le4 le5 => ?_
 have hD2 : DictH K3 b l0 ov many (pt b #[.pointer (some ⟨bw, 0, none⟩), .slice ao28 ov.length c28, .int .i64 ((many : Nat) : Int)] 126) := ⟨bw, ao28, c28, rfl, hW.le (le2.trans le4), o28.slS.le le5 fun _ _ h => h⟩
 refine stp hT 2 0 rfl rfl rfl rfl ?_
 refine WL.hs (pt b #[.pointer (some ⟨bw, 0, none⟩), .slice ao28 ov.length c28, .int .i64 ((many : Nat) : Int)] 126 :: hs) rfl ?_
 refine fin hT 0 rfl (th (sq (rg ?_)))
 refine ldp hT 3 0 rfl rfl rfl ?_
 refine cmpS hT 1 rfl fun b36 h36 => ?_
 refine fin hT 0 rfl (th (ifP h36 rfl (fun e2 => ?_) (fun e2 => ?_)))
 ·refine rg ?_
  refine cl hT 1 rfl (compactDC b l0 ov W' many hD2 hI2 (by omega) (LeastK.le' (le2.trans le4) hG)) ?_
  rintro v38 K38 hs38 ⟨le6, rfl, h', rfl, hD3⟩
  refine fin hT 0 rfl ?_
  exact end0 rfl ⟨(le2.trans le4).trans le6, rfl, h', W', [], rfl, hD3, hI2.compact, by simp⟩
 ·refine sk ?_
  exact end0 rfl ⟨le2.trans le4, rfl, _, l0, ov, rfl, hD2, hI2, by omega⟩
end Go.Proofs.YtejkjbkodcamoaaGreatDoor
end
section
namespace Go.En
def setD (W : List PairP) (s : List UInt8) (w : Int) : List PairP × Int × Int :=
 if ¬ wordP s then (W, 0, 140) else if w < 1 \/ w > 1048576 then (W, 0, 141) else if (lastF W s).isSome = false /\ W.length = 4096 then (W, 0, 142) else (insP W ⟨s, w⟩, (lastF W s).getD 0, 0)
def rmvD (W : List PairP) (s : List UInt8) : List PairP × Int × Int :=
 if ¬ wordP s then (W, 0, 140) else if (lastF W s).isSome = false then (W, 0, 143) else (rmvP W s, (lastF W s).getD 0, 0)
theorem setD_right {W : List PairP} (h : RightD W) (s : List UInt8) (w : Int) : RightD (setD W s w).1 := by
 unfold setD
 split
 ·exact h
 ·rename_i h1
  split
  ·exact h
  ·rename_i h2
   split
   ·exact h
   ·rename_i h3
    refine h.ins (Classical.not_not.1 h1) ⟨?_, ?_⟩ ?_
    ·show 1 <= w
     omega
    ·show w <= 1048576
     omega
    ·have := h.few
     cases e : (lastF W s).isSome with
     | true => exact .inl rfl
     | false => exact .inr (by rw [e] at h3; simp at h3; omega)
theorem rmvD_right {W : List PairP} (h : RightD W) (s : List UInt8) : RightD (rmvD W s).1 := by
 unfold rmvD
 split
 ·exact h
 ·split
  ·exact h
  ·exact h.rmv s
end Go.En
namespace Go.Proofs.YtejkjbkodcamoaaGreatDoor
open Go.En
attribute [local irreducible] Code.wp wpList Calls
theorem setDC {w0 : World} {K h : PH} {hs : List PH} (b : Nat) (l0 over W : List PairP) (s : List UInt8) (w : Int) (hD : DictH K b l0 over W.length h) (hI : DInv l0 over W) (ho : over.length <= 32) (hG : LeastK K) (hl : s.length < 1099511627776) :
  Ct Tryz.prog w0 31 [.pointer (some ⟨b, 0, none⟩), str s, .int .i64 w] K (h :: hs)
   (fun v K' hs' => Le K K' /\ v = .tuple #[.int .i64 (setD W s w).2.1, .int .i64 (setD W s w).2.2] /\ ∃ h' l1 ov, hs' = h' :: hs /\ DictH K' b l1 ov (setD W s w).1.length h' /\ DInv l1 ov (setD W s w).1 /\ ov.length <= 32) := by
 have hfew := hI.hr.few
 refine enter Tryz.func31 (by kernel_rfl) rfl rfl rfl ?_
 refine sq (rg ?_)
 refine fin hT 2 rfl (th (sq (rg ?_)))
 refine cl hT 2 rfl (weightC b l0 over W.length hD hI.hb (by omega) s hl hG) ?_
 rintro v13 K13 hs13 ⟨rfl, rfl, rfl⟩
 rw [wgtD_eq hI]
 obtain ⟨t9, ht9⟩ : ∃ t, t = (lastF W s).isSome := ⟨_, rfl⟩
 have h13 : t9 = true ↔ (lastF W s).isSome = true := by rw [ht9]
 rw [<- ht9]
 refine fin hT 5 rfl (th (sq (bk (sq (rg ?_)))))
 refine cl hT 1 rfl (wordC s hG) ?_
 rintro v18 K18 hs18 ⟨rfl, rfl, t18, rfl, h18⟩
 refine cbS hT 0 _ rfl (bnot h18) fun b19 h19 => ?_
 refine fin hT 1 rfl (th (ifP h19 rfl (fun e1 => ?_) (fun e1 => ?_)))
 ·refine sq (rg ?_)
  refine fin hT 2 rfl (th (rt (rB (rT ?_))))
  have e : setD W s w = (W, 0, 140) := by unfold setD; rw [if_pos e1]
  rw [e]
  exact ret2 rfl rfl rfl ⟨Le.refl _, rfl, h, l0, over, rfl, hD, hI, ho⟩
 ·refine sq (rg ?_)
  refine cmpS hT 1 rfl fun b22 h22 => ?_
  refine' bjo hT 1 3 26 [22, 23] h22 rfl rfl rfl rfl rfl rfl rfl (fun _ => ?x3) (fun b26 h26 => ?_)
  case x3 =>
   refine cmpS hT 1 rfl fun b25 h25 => ?_
   exact fin hT 1 rfl (bjx h25 rfl rfl rfl)
  refine fin hT 1 rfl (th (ifP h26 rfl (fun e5 => ?_) (fun e5 => ?_)))
  ·refine sq (rg ?_)
   refine fin hT 2 rfl (th (rt (rB (rT ?_))))
   have e : setD W s w = (W, 0, 141) := by unfold setD; rw [if_neg e1, if_pos (by omega)]
   rw [e]
   exact ret2 rfl rfl rfl ⟨Le.refl _, rfl, h, l0, over, rfl, hD, hI, ho⟩
  ·refine sq (rg ?_)
   have hDk := hD
   obtain ⟨bw, ao, c, rfl, hW, x⟩ := hD
   refine cbS hT 1 _ rfl (bnot h13) fun b29 h29 => ?_
   refine' bja hT 1 6 36 [29, 30] h29 rfl rfl rfl rfl rfl rfl rfl (fun _ => ?x6) (fun b36 h36 => ?_)
   case x6 =>
    refine ldp hT 3 0 rfl rfl rfl ?_
    refine cmpS hT 0 rfl fun b35 h35 => ?_
    exact fin hT 1 rfl (bjx h35 rfl rfl rfl)
   refine fin hT 1 rfl (th (ifP h36 rfl (fun e8 => ?_) (fun e8 => ?_)))
   ·refine sq (rg ?_)
    refine fin hT 2 rfl (th (rt (rB (rT ?_))))
    have e : setD W s w = (W, 0, 142) := by unfold setD; rw [if_neg e1, if_neg (by omega), if_pos ⟨by simpa using e8.1, by omega⟩]
    rw [e]
    exact ret2 rfl rfl rfl ⟨Le.refl _, rfl, _, l0, over, rfl, hDk, hI, ho⟩
   ·have hnf : ¬ ((lastF W s).isSome = false /\ W.length = 4096) := fun g => e8 ⟨by simpa using g.1, by omega⟩
    have e : setD W s w = (insP W ⟨s, w⟩, (lastF W s).getD 0, 0) := by unfold setD; rw [if_neg e1, if_neg (by omega), if_neg hnf]
    have hr := setD_right hI.hr s w
    rw [e] at hr ⊢
    have hli : (insP W ⟨s, w⟩).length = (rmvP W s).length + 1 := ins_len ⟨s, w⟩ W
    have hlr := rmv_len (s := s) hI.hr.rise
    have hW' : ∀ q, lastF (insP W ⟨s, w⟩) q = if (⟨s, w⟩ : PairP).word = q then (if (⟨s, w⟩ : PairP).w = 0 then none else some (⟨s, w⟩ : PairP).w) else lastF W q := fun q => by
     rw [ins_last hI.hr.rise, if_neg (show ¬ (⟨s, w⟩ : PairP).w = 0 from by show ¬ w = 0; omega)]
    refine sq (rg ?_)
    refine cbS hT 1 _ rfl (bnot h13) fun b39 h39 => ?_
    refine fin hT 1 rfl (th (ifP h39 rfl (fun e9 => ?_) (fun e9 => ?_)))
    ·have hlen : (insP W ⟨s, w⟩).length = W.length + 1 := by
      rw [if_neg e9] at hlr
      omega
     refine rg ?_
     refine ldp hT 3 0 rfl rfl rfl ?_
     refine ar hT 0 rfl (v' := .int .i64 ((W.length + 1 : Nat) : Int)) (i64w (by omega)) ?_
     refine stp hT 2 0 rfl rfl rfl rfl ?_
     refine WL.hs (pt b #[.pointer (some ⟨bw, 0, none⟩), .slice ao over.length c, .int .i64 ((W.length + 1 : Nat) : Int)] 126 :: hs) rfl ?_
     refine fin hT 0 rfl (bl (th (sq (rg ?_))))
     refine bd hT 3 (.agg (pairV ⟨s, w⟩).toArray) rfl (fun w => by kernel_rfl) ?_
     refine cl hT 0 rfl (changeDC b l0 over W (insP W ⟨s, w⟩) ⟨s, w⟩ (W.length + 1) ⟨bw, ao, c, rfl, hW, x⟩ hI ho hG ⟨Classical.not_not.1 e1, by show 0 <= w; omega, by show w <= 1048576; omega⟩ hr hW') ?_
     rintro v51 K51 hs51 ⟨le, rfl, h', l1, ov, rfl, hD', hI', ho'⟩
     refine fin hT 0 rfl (th (sq (rg ?_)))
     refine fin hT 3 rfl (th (rt ?_))
     exact ret2 rfl rfl rfl ⟨le, rfl, h', l1, ov, rfl, by rw [hlen]; exact hD', hI', ho'⟩
    ·have hlen : (insP W ⟨s, w⟩).length = W.length := by
      rw [if_pos (Classical.not_not.1 e9)] at hlr
      omega
     refine sk (bl (th (sq (rg ?_))))
     refine bd hT 3 (.agg (pairV ⟨s, w⟩).toArray) rfl (fun w => by kernel_rfl) ?_
     refine cl hT 0 rfl (changeDC b l0 over W (insP W ⟨s, w⟩) ⟨s, w⟩ W.length hDk hI ho hG ⟨Classical.not_not.1 e1, by show 0 <= w; omega, by show w <= 1048576; omega⟩ hr hW') ?_
     rintro v51 K51 hs51 ⟨le, rfl, h', l1, ov, rfl, hD', hI', ho'⟩
     refine fin hT 0 rfl (th (sq (rg ?_)))
     refine fin hT 3 rfl (th (rt ?_))
     exact ret2 rfl rfl rfl ⟨le, rfl, h', l1, ov, rfl, by rw [hlen]; exact hD', hI', ho'⟩
theorem removeDC {w0 : World} {K h : PH} {hs : List PH} (b : Nat) (l0 over W : List PairP) (s : List UInt8) (hD : DictH K b l0 over W.length h) (hI : DInv l0 over W) (ho : over.length <= 32) (hG : LeastK K) (hl : s.length < 1099511627776) :
  Ct Tryz.prog w0 34 [.pointer (some ⟨b, 0, none⟩), str s] K (h :: hs)
   (fun v K' hs' => Le K K' /\ v = .tuple #[.int .i64 (rmvD W s).2.1, .int .i64 (rmvD W s).2.2] /\ ∃ h' l1 ov, hs' = h' :: hs /\ DictH K' b l1 ov (rmvD W s).1.length h' /\ DInv l1 ov (rmvD W s).1 /\ ov.length <= 32) := by
 have hfew := hI.hr.few
 refine enter Tryz.func34 (by kernel_rfl) rfl rfl rfl ?_
 refine sq (rg ?_)
 refine fin hT 2 rfl (th (sq (rg ?_)))
 refine cl hT 2 rfl (weightC b l0 over W.length hD hI.hb (by omega) s hl hG) ?_
 rintro v11 K11 hs11 ⟨rfl, rfl, rfl⟩
 rw [wgtD_eq hI]
 obtain ⟨t9, ht9⟩ : ∃ t, t = (lastF W s).isSome := ⟨_, rfl⟩
 have h11 : t9 = true ↔ (lastF W s).isSome = true := by rw [ht9]
 rw [<- ht9]
 refine fin hT 5 rfl (th (sq (bk (sq (rg ?_)))))
 refine cl hT 1 rfl (wordC s hG) ?_
 rintro v16 K16 hs16 ⟨rfl, rfl, t16, rfl, h16⟩
 refine cbS hT 0 _ rfl (bnot h16) fun b17 h17 => ?_
 refine fin hT 1 rfl (th (ifP h17 rfl (fun e1 => ?_) (fun e1 => ?_)))
 ·refine sq (rg ?_)
  refine fin hT 2 rfl (th (rt (rB (rT ?_))))
  have e : rmvD W s = (W, 0, 140) := by unfold rmvD; rw [if_pos e1]
  rw [e]
  exact ret2 rfl rfl rfl ⟨Le.refl _, rfl, h, l0, over, rfl, hD, hI, ho⟩
 ·refine sq (rg ?_)
  refine cbS hT 1 _ rfl (bnot h11) fun b20 h20 => ?_
  refine fin hT 1 rfl (th (ifP h20 rfl (fun e2 => ?_) (fun e2 => ?_)))
  ·refine sq (rg ?_)
   refine fin hT 2 rfl (th (rt (rB (rT ?_))))
   have e : rmvD W s = (W, 0, 143) := by unfold rmvD; rw [if_neg e1, if_pos (by simpa using e2)]
   rw [e]
   exact ret2 rfl rfl rfl ⟨Le.refl _, rfl, h, l0, over, rfl, hD, hI, ho⟩
  ·have e : rmvD W s = (rmvP W s, (lastF W s).getD 0, 0) := by unfold rmvD; rw [if_neg e1, if_neg (by simpa using e2)]
   have hr := rmvD_right hI.hr s
   rw [e] at hr ⊢
   have hlr := rmv_len (s := s) hI.hr.rise
   rw [if_pos (Classical.not_not.1 e2)] at hlr
   have hW' : ∀ q, lastF (rmvP W s) q = if (⟨s, 0⟩ : PairP).word = q then (if (⟨s, 0⟩ : PairP).w = 0 then none else some (⟨s, 0⟩ : PairP).w) else lastF W q := fun q => by
    rw [rmv_last hI.hr.rise, if_pos (show (⟨s, 0⟩ : PairP).w = 0 from rfl)]
   obtain ⟨bw, ao, c, rfl, hW, x⟩ := hD
   refine sk (bl (th (sq (rg ?_))))
   refine ldp hT 3 0 rfl rfl rfl ?_
   refine ar hT 0 rfl (v' := .int .i64 (((rmvP W s).length : Nat) : Int)) (by rw [i64w (by omega)]; congr 1; omega) ?_
   refine stp hT 2 0 rfl rfl rfl rfl ?_
   refine WL.hs (pt b #[.pointer (some ⟨bw, 0, none⟩), .slice ao over.length c, .int .i64 (((rmvP W s).length : Nat) : Int)] 126 :: hs) rfl ?_
   refine fin hT 0 rfl (th (sq (rg ?_)))
   refine bd hT 2 (.agg (pairV ⟨s, 0⟩).toArray) rfl (fun w => by kernel_rfl) ?_
   refine cl hT 0 rfl (changeDC b l0 over W (rmvP W s) ⟨s, 0⟩ (rmvP W s).length ⟨bw, ao, c, rfl, hW, x⟩ hI ho hG ⟨Classical.not_not.1 e1, show (0 : Int) <= 0 by decide, show (0 : Int) <= 1048576 by decide⟩ hr hW') ?_
   rintro v31 K31 hs31 ⟨le, rfl, h', l1, ov, rfl, hD', hI', ho'⟩
   refine fin hT 0 rfl (th (sq (rg ?_)))
   refine fin hT 3 rfl (th (rt ?_))
   exact ret2 rfl rfl rfl ⟨le, rfl, h', l1, ov, rfl, hD', hI', ho'⟩
end Go.Proofs.YtejkjbkodcamoaaGreatDoor
end
section
namespace Go.En
theorem Ct.atT {P : Program} {w0 : World} {f : FuncId} {args : List Value} {K : PH} {hs : List PH} {a b : PH} {S : Value -> PH -> PH -> PH -> Prop} (i j : Nat) (hi : hs[i]? = some a) (hj : (hs.eraseIdx i)[j]? = some b)
  (c : Ct P w0 f args K (a :: b :: (hs.eraseIdx i).eraseIdx j) (fun v K' hs' => ∃ a' b', hs' = a' :: b' :: (hs.eraseIdx i).eraseIdx j /\ S v K' a' b')) :
  Ct P w0 f args K hs (fun v K' hs' => ∃ a' b', hs' = ((hs.eraseIdx i).set j b').insertIdx i a' /\ S v K' a' b') := by
 have p1 := perm_front hs i a hi
 have p2 := perm_front (hs.eraseIdx i) j b hj
 refine ⟨c.1, fun w hw => (c.2 w (hw.perm (p1.trans (p2.cons a)))).mono ?_⟩
 rintro e w' ⟨v, K', hs', rfl, ⟨a', b', rfl, hS⟩, hw'⟩
 have q2 := perm_set (hs.eraseIdx i) j b b' hj
 have hil : i <= ((hs.eraseIdx i).set j b').length := by
  have : i < hs.length := (List.getElem?_eq_some_iff.1 hi).1
  rw [List.length_set, List.length_eraseIdx, if_pos this]
  omega
 exact ⟨v, K', _, rfl, ⟨a', b', rfl, hS⟩, hw'.perm ((q2.cons a').trans (List.perm_insertIdx a' _ hil).symm)⟩
def doP (W : List PairP) (rows : List RwP) (c : Cmd) : List PairP × List RwP × AnP :=
 if c.kind = 1 then (if rows.length = 4096 then (W, rows, ⟨152, 0, 0⟩) else (W, rows ++ [rw0], ⟨0, rows.length + 1, 0⟩))
 else if ¬ (c.kind = 2 \/ c.kind = 3) then (W, rows, ⟨161, 0, 0⟩)
 else if (chkT rows c.ses c.seq).2.2 ≠ 0 then (W, rows, ⟨(chkT rows c.ses c.seq).2.2, 0, 0⟩)
 else if (chkT rows c.ses c.seq).2.1 = true then (W, rows, (chkT rows c.ses c.seq).1)
 else if c.kind = 2 then ((setD W c.word c.wt).1, rows.set (c.ses - 1) ⟨c.seq, ⟨(setD W c.word c.wt).2.2, 0, (setD W c.word c.wt).2.1⟩⟩, ⟨(setD W c.word c.wt).2.2, 0, (setD W c.word c.wt).2.1⟩)
 else ((rmvD W c.word).1, rows.set (c.ses - 1) ⟨c.seq, ⟨(rmvD W c.word).2.2, 0, (rmvD W c.word).2.1⟩⟩, ⟨(rmvD W c.word).2.2, 0, (rmvD W c.word).2.1⟩)
theorem chk_go {l : List RwP} {id seq : Nat} (h1 : (chkT l id seq).2.2 = 0) (h2 : (chkT l id seq).2.1 = false) : (chkT l id seq).1 = an0 /\ kpT l id seq := by
 unfold chkT at *
 by_cases e1 : id = 0 \/ l.length < id
 ·rw [if_pos e1] at h1; exact absurd h1 (by decide)
 ·rw [if_neg e1] at h1 h2 ⊢
  by_cases e2 : seq = 0 \/ seq < (l.getD (id - 1) rw0).seq
  ·rw [if_pos e2] at h1; exact absurd h1 (by decide)
  ·rw [if_neg e2] at h1 h2 ⊢
   by_cases e3 : seq = (l.getD (id - 1) rw0).seq
   ·rw [if_pos e3] at h2; exact absurd h2 (by simp)
   ·rw [if_neg e3]
    refine ⟨rfl, ⟨by omega, by omega⟩, by omega⟩
end Go.En
namespace Go.Proofs.YtejkjbkodcamoaaGreatDoor
open Go.En
attribute [local irreducible] Code.wp wpList Calls
def StM (K : PH) (b : Nat) (W : List PairP) (rows : List RwP) (m : List PH) : Prop :=
 ∃ bd bt l0 over hd a g, m = [pt b #[.pointer (some ⟨bd, 0, none⟩), .pointer (some ⟨bt, 0, none⟩)] 60, hd, a, g] /\ DictH K bd l0 over W.length hd /\ DInv l0 over W /\ over.length <= 32 /\ TblM bt rows [a, g] /\ rows.length <= 4096 /\ ∀ r ∈ rows, r.seq <= 18446744073709551615
theorem StM.le {K K' : PH} (l : Le K K') {b : Nat} {W : List PairP} {rows : List RwP} {m : List PH} (h : StM K b W rows m) : StM K' b W rows m :=
 let ⟨bd, bt, l0, over, hd, a, g, e, h1, h2⟩ := h
 ⟨bd, bt, l0, over, hd, a, g, e, h1.le l, h2⟩
theorem newStC {w0 : World} {K : PH} {hs : List PH} (hG : LeastK K) :
  Ct Tryz.prog w0 4 [] K hs (fun v K' hs' => Le K K' /\ ∃ b m, hs' = m ++ hs /\ StM K' b [] [] m /\ v = .pointer (some ⟨b, 0, none⟩)) := by
 refine enter Tryz.func4 (by kernel_rfl) rfl rfl rfl ?_
 refine sq (rg ?_)
 refine fin hT 1 rfl (th (sq (rg ?_)))
 refine cl hT 0 rfl (newDi hG) ?_
 rintro v1 K1 hs1 ⟨le1, bD, hd, rfl, hD, rfl⟩
 refine cl hT 0 rfl newTC ?_
 rintro v2 K2 hs2 ⟨rfl, bt, m, rfl, hm, rfl⟩
 have hm0 := hm
 obtain ⟨ao, cap, g, rfl, o⟩ := hm
 refine bd hT 0 (.agg #[.pointer (some ⟨bD, 0, none⟩), .pointer (some ⟨bt, 0, none⟩)]) rfl (fun w => by kernel_rfl) ?_
 refine bx hT 0 rfl fun b4 => ?_
 refine fin hT 1 rfl (th (rt ?_))
 refine WQ.perm ((((List.Perm.swap _ _ _).cons _).trans (List.Perm.swap _ _ _)).cons _) ?_
 exact ret1 rfl rfl ⟨le1, b4, _, rfl, ⟨bD, bt, [], [], hd, _, g, rfl, hD, DInv.nil, by simp, hm0, by simp, by simp⟩, rfl⟩
theorem wordsStC {w0 : World} {K : PH} {hs m : List PH} (b : Nat) (W : List PairP) (rows : List RwP) (hm : StM K b W rows m) (hG : LeastK K) :
  Ct Tryz.prog w0 12 [.pointer (some ⟨b, 0, none⟩)] K (m ++ hs)
   (fun v K' hs' => Le K K' /\ ∃ ao c, v = .slice ao W.length c /\ hs' = m ++ hs /\ SlS 2 pairR K' ao W.length c W) := by
 obtain ⟨bd, bt, l0, over, hd, a, g, rfl, hD, hI, ho, hTb, hr1, hr2⟩ := hm
 refine enter Tryz.func12 (by kernel_rfl) rfl rfl rfl ?_
 refine sq (rg ?_)
 refine fin hT 1 rfl (th (sq (rg ?_)))
 refine ldp hT 3 0 rfl rfl rfl ?_
 refine WL.perm (List.Perm.swap _ _ _) ?_
 refine cl hT 0 rfl (pairsDC bd l0 over W W.length hD hI (by omega) hG) ?_
 rintro v7 K7 hs7 ⟨le7, ao, c, g7, rfl, rfl, o7⟩
 refine WL.frz fun K2 le2 le3 => ?_
 refine WL.perm (List.Perm.swap _ _ _) ?_
 refine fin hT 1 rfl (th (rt ?_))
 exact ret1 rfl rfl ⟨le7.trans le2, ao, c, rfl, rfl, o7.slS.le le3 fun _ _ h => h⟩
end Go.Proofs.YtejkjbkodcamoaaGreatDoor
end
section
namespace Go.Proofs.YtejkjbkodcamoaaGreatDoor
open Go.En
attribute [local irreducible] Code.wp wpList Calls
def ChgF (w0 : World) (g : Nat) (s : List UInt8) (w : Int) (f : List PairP -> List PairP × Int × Int) : Prop :=
 ∀ {K h : PH} {hs : List PH} (b : Nat) (l0 over W : List PairP), DictH K b l0 over W.length h -> DInv l0 over W -> over.length <= 32 -> LeastK K ->
  Ct Tryz.prog w0 g [.pointer (some ⟨b, 0, none⟩), str s, .int .i64 w] K (h :: hs)
   (fun v K' hs' => ∃ h', hs' = h' :: hs /\ (Le K K' /\ v = .tuple #[.int .i64 (f W).2.1, .int .i64 (f W).2.2] /\ ∃ l1 ov, DictH K' b l1 ov (f W).1.length h' /\ DInv l1 ov (f W).1 /\ ov.length <= 32))
theorem chgSet {w0 : World} (s : List UInt8) (w : Int) (hl : s.length < 1099511627776) : ChgF w0 31 s w (fun W => setD W s w) := fun b l0 over W hD hI ho hG =>
 (setDC b l0 over W s w hD hI ho hG hl).mono fun v K' hs' ⟨le, hv, h', l1, ov, e, h1, h2, h3⟩ => ⟨h', e, le, hv, l1, ov, h1, h2, h3⟩
theorem chgRmv {w0 : World} (s : List UInt8) (w : Int) (hl : s.length < 1099511627776) : ChgF w0 33 s w (fun W => rmvD W s) := fun b l0 over W hD hI ho hG => by
 refine enter Tryz.func33 (by kernel_rfl) rfl rfl rfl ?_
 refine sq (rg ?_)
 refine fin hT 2 rfl (th (sq (rg ?_)))
 refine cl hT 2 rfl (removeDC b l0 over W s hD hI ho hG hl) ?_
 rintro v10 K10 hs10 ⟨le, rfl, h', l1, ov, rfl, h1, h2, h3⟩
 refine fin hT 4 rfl (th (rt ?_))
 exact ret2 rfl rfl rfl ⟨h', rfl, le, rfl, l1, ov, h1, h2, h3⟩
theorem doC {w0 : World} {K : PH} {hs m : List PH} (b : Nat) (W : List PairP) (rows : List RwP) (c : Cmd) (hm : StM K b W rows m) (hG : LeastK K) (hs1 : c.ses <= 18446744073709551615) (hs2 : c.seq <= 18446744073709551615) (hl : c.word.length < 1099511627776) :
  Ct Tryz.prog w0 10 [.pointer (some ⟨b, 0, none⟩), .agg c.v] K (m ++ hs)
   (fun v K' hs' => Le K K' /\ v = .agg (anV (doP W rows c).2.2).toArray /\ ∃ m', hs' = m' ++ hs /\ StM K' b (doP W rows c).1 (doP W rows c).2.1 m') := by
 obtain ⟨bD, bt, l0, over, hd, a, g, rfl, hD, hI, ho, hTb, hr1, hr2⟩ := hm
 obtain ⟨kind, ses, seq, word, wt⟩ := c
 dsimp only at hs1 hs2 hl
 have hSt : StM K b W rows [pt b #[.pointer (some ⟨bD, 0, none⟩), .pointer (some ⟨bt, 0, none⟩)] 60, hd, a, g] := ⟨bD, bt, l0, over, hd, a, g, rfl, hD, hI, ho, hTb, hr1, hr2⟩
 refine enter Tryz.func10 (by kernel_rfl) rfl rfl rfl ?_
 refine sq (rg ?_)
 refine bx hT 0 rfl fun b3 => ?_
 refine al hT 0 (.agg #[.int .i64 0, .int .u64 0, .int .i64 0]) rfl (by kernel_rfl) fun b4 => ?_
 refine WL.hs (pt b4 (anV an0).toArray 48 :: pt b3 #[.int .i64 kind, .int .u64 ((ses : Nat) : Int), .int .u64 ((seq : Nat) : Int), str word, .int .i64 wt] 31 :: pt b #[.pointer (some ⟨bD, 0, none⟩), .pointer (some ⟨bt, 0, none⟩)] 60 :: hd :: a :: g :: hs) rfl ?_
 refine fin hT 0 rfl (th (sq (rg ?_)))
 refine fin hT 1 rfl (th (jn (σ := Nat × (List PairP -> List PairP × Int × Int)) (fun s => [(0, .pointer (some ⟨b, 0, none⟩)), (3, .pointer (some ⟨b3, 0, none⟩)), (4, .pointer (some ⟨b4, 0, none⟩)), (5, .func (.func s.1) #[] #[])])
  (fun s => pt b4 (anV an0).toArray 48 :: pt b3 #[.int .i64 kind, .int .u64 ((ses : Nat) : Int), .int .u64 ((seq : Nat) : Int), str word, .int .i64 wt] 31 :: pt b #[.pointer (some ⟨bD, 0, none⟩), .pointer (some ⟨bt, 0, none⟩)] 60 :: hd :: a :: g :: hs)
  (fun s => kind ≠ 1 /\ (kind = 2 \/ kind = 3) /\ ChgF w0 s.1 word wt s.2 /\ s.2 W = if kind = 2 then setD W word wt else rmvD W word) ?_ ?_))
 ·refine sq (rg ?_)
  refine ldp hT 1 1 rfl rfl rfl ?_
  refine fin hT 0 rfl (th (bk (sq (rg ?_))))
  refine cmpS hT 0 rfl fun b15 h15 => ?_
  refine fin hT 1 rfl (th (ifP h15 rfl (fun e2 => ?_) (fun e2 => ?_)))
  ·refine sq (rg ?_)
   refine ldp hT 3 2 rfl rfl rfl ?_
   refine cl hT 0 rfl (Ct.atT (S := fun v K' a' g' => K' = K /\ TblM bt (if rows.length = 4096 then rows else rows ++ [rw0]) [a', g'] /\ v = .tuple #[.int .u64 ((if rows.length = 4096 then 0 else rows.length + 1 : Nat) : Int), .int .i64 (if rows.length = 4096 then 152 else 0)]) 4 4 rfl rfl ((openTC bt rows hTb hr1).mono fun v K' hs' ⟨e, m', e1, e3, e4⟩ => by
    obtain ⟨ao', c', g', rfl, o'⟩ := e3
    exact ⟨_, g', e1, e, ⟨ao', c', g', rfl, o'⟩, e4⟩)) ?_
   rintro v21 K21 hs21 ⟨a', g', rfl, rfl, hTb', rfl⟩
   refine fin hT 5 rfl (th (sq (rg ?_)))
   refine bd hT 2 (.agg (anV ⟨if rows.length = 4096 then 152 else 0, if rows.length = 4096 then 0 else rows.length + 1, 0⟩).toArray) rfl (fun w => by kernel_rfl) ?_
   refine stS hT 0 0 rfl rfl (by kernel_rfl) rfl rfl ?_
   refine fin hT 0 rfl (th (rt (rB (jr ?_))))
   refine retcA 0 2 rfl rfl rfl (by kernel_rfl) ?_
   have e : doP W rows ⟨kind, ses, seq, word, wt⟩ = (W, if rows.length = 4096 then rows else rows ++ [rw0], ⟨if rows.length = 4096 then 152 else 0, if rows.length = 4096 then 0 else rows.length + 1, 0⟩) := by
    unfold doP
    rw [if_pos e2]
    split <;> rfl
   rw [e]
   refine ⟨Le.refl _, rfl, _, rfl, bD, bt, l0, over, hd, a', g', rfl, hD, hI, ho, hTb', ?_, ?_⟩
   ·dsimp only
    split
    ·exact hr1
    ·simp; omega
   ·dsimp only
    split
    ·exact hr2
    ·intro r hr
     rcases List.mem_append.1 hr with h | h
     ·exact hr2 r h
     ·simp at h; subst h; decide
  ·refine sq (rg ?_)
   refine cmpS hT 0 rfl fun b28 h28 => ?_
   refine fin hT 1 rfl (th (ifP h28 rfl (fun e4 => ?_) (fun e4 => ?_)))
   ·refine sk (bl ?_)
    exact jx (31, fun W => setD W word wt) ⟨e2, .inl e4, chgSet word wt hl, by rw [if_pos e4]⟩ ⟨rfl, rfl, rfl, rfl, trivial⟩ rfl rfl
   ·refine sq (rg ?_)
    refine cmpS hT 0 rfl fun b30 h30 => ?_
    refine fin hT 1 rfl (th (ifP h30 rfl (fun e6 => ?_) (fun e6 => ?_)))
    ·refine rg ?_
     refine fin hT 1 rfl (bl ?_)
     exact jx (33, fun W => rmvD W word) ⟨e2, .inr e6, chgRmv word wt hl, by rw [if_neg e4]⟩ ⟨rfl, rfl, rfl, rfl, trivial⟩ rfl rfl
    ·refine sq (rg ?_)
     refine bd hT 0 (.agg (anV ⟨161, 0, 0⟩).toArray) rfl (fun w => by kernel_rfl) ?_
     refine stS hT 0 0 rfl rfl (by kernel_rfl) rfl rfl ?_
     refine fin hT 0 rfl (th (rt (rB (jr ?_))))
     refine retcA 0 2 rfl rfl rfl (by kernel_rfl) ?_
     have e : doP W rows ⟨kind, ses, seq, word, wt⟩ = (W, rows, ⟨161, 0, 0⟩) := by
      unfold doP
      rw [if_neg e2, if_pos (fun h => by rcases h with h | h; exact e4 h; exact e6 h)]
     rw [e]
     exact ⟨Le.refl _, rfl, _, rfl, hSt⟩
 ·rintro ⟨gf, f⟩ ⟨hk1, hk2, hF, hfW⟩
  dsimp only at *
  refine jn (σ := Nat) (fun s => [(0, .pointer (some ⟨b, 0, none⟩)), (3, .pointer (some ⟨b3, 0, none⟩)), (4, .pointer (some ⟨b4, 0, none⟩)), (5, .func (.func gf) #[] #[]), (8, .pointer (some ⟨s, 0, none⟩)), (9, .bool (chkT rows ses seq).2.1), (10, .int .i64 (chkT rows ses seq).2.2)]) (fun s => pt s (anV (chkT rows ses seq).1).toArray 48 :: pt b4 (anV an0).toArray 48 :: pt b3 #[.int .i64 kind, .int .u64 ((ses : Nat) : Int), .int .u64 ((seq : Nat) : Int), str word, .int .i64 wt] 31 :: pt b #[.pointer (some ⟨bD, 0, none⟩), .pointer (some ⟨bt, 0, none⟩)] 60 :: hd :: a :: g :: hs) (fun s => True) ?_ ?_
  ·refine rga [pt b3 #[.int .i64 kind, .int .u64 ((ses : Nat) : Int), .int .u64 ((seq : Nat) : Int), str word, .int .i64 wt] 31, pt b #[.pointer (some ⟨bD, 0, none⟩), .pointer (some ⟨bt, 0, none⟩)] 60] 17 [0, 2, 4, 6, 8, 10, 12, 14, 17, 18, 20, 22, 24, 27, 29, 30, 32] (by simp) (by kernel_rfl) (by kernel_rfl) ?_
   refine dldp hT (by kernel_rfl) 3 1 rfl rfl rfl ?_
   refine dldp hT (by kernel_rfl) 1 0 rfl rfl rfl ?_
   refine dldp hT (by kernel_rfl) 1 0 rfl rfl rfl ?_
   refine dfork 13 hT (by kernel_rfl) 0 [17, 18, 20, 22, 24, 29, 30, 32] rfl (by kernel_rfl) ?_ ?_
   ·refine cl hT 0 rfl (Ct.atT (S := fun v K' a' g' => K' = K /\ a' = a /\ g' = g /\ v = .tuple #[.agg (anV (chkT rows ses seq).1).toArray, .bool (chkT rows ses seq).2.1, .int .i64 (chkT rows ses seq).2.2]) 4 4 rfl rfl ((checkC bt rows hTb hr1 ses seq hs1 hs2 hr2).mono fun v K' hs' ⟨e, e1, e4⟩ => ⟨a, g, e1, e, rfl, rfl, e4⟩)) ?_
    rintro v40 K40 hs40 ⟨a', g', rfl, rfl, rfl, rfl, rfl⟩
    refine WL.hs (pt b4 (anV an0).toArray 48 :: pt b3 #[.int .i64 kind, .int .u64 ((ses : Nat) : Int), .int .u64 ((seq : Nat) : Int), str word, .int .i64 wt] 31 :: pt b #[.pointer (some ⟨bD, 0, none⟩), .pointer (some ⟨bt, 0, none⟩)] 60 :: hd :: a' :: g' :: hs) rfl ?_
    refine dnex [pt b3 #[.int .i64 kind, .int .u64 ((ses : Nat) : Int), .int .u64 ((seq : Nat) : Int), str word, .int .i64 wt] 31, pt b #[.pointer (some ⟨bD, 0, none⟩), .pointer (some ⟨bt, 0, none⟩)] 60] (by simp) (by simp) rfl ?_
    refine dact hT (by kernel_rfl) 4 rfl ?_
    refine al hT 0 (.agg #[.int .i64 0, .int .u64 0, .int .i64 0]) rfl (by kernel_rfl) fun b8 => ?_
    refine dnex [pt b3 #[.int .i64 kind, .int .u64 ((ses : Nat) : Int), .int .u64 ((seq : Nat) : Int), str word, .int .i64 wt] 31, pt b #[.pointer (some ⟨bD, 0, none⟩), .pointer (some ⟨bt, 0, none⟩)] 60] (by simp) (by simp) rfl ?_
    refine dact hT (by kernel_rfl) 0 rfl ?_
    refine stS hT 0 0 rfl rfl (by kernel_rfl) rfl rfl ?_
    refine dnex [pt b3 #[.int .i64 kind, .int .u64 ((ses : Nat) : Int), .int .u64 ((seq : Nat) : Int), str word, .int .i64 wt] 31, pt b #[.pointer (some ⟨bD, 0, none⟩), .pointer (some ⟨bt, 0, none⟩)] 60] (by simp) (by simp) rfl ?_
    refine dend hT (by kernel_rfl) 2 rfl ?_
    exact jx b8 trivial ⟨rfl, rfl, rfl, rfl, rfl, rfl, rfl, trivial⟩ rfl rfl
   ·refine al hT 0 (.agg #[.int .i64 0, .int .u64 0, .int .i64 0]) rfl (by kernel_rfl) fun b8 => ?_
    refine dnex [pt b3 #[.int .i64 kind, .int .u64 ((ses : Nat) : Int), .int .u64 ((seq : Nat) : Int), str word, .int .i64 wt] 31, pt b #[.pointer (some ⟨bD, 0, none⟩), .pointer (some ⟨bt, 0, none⟩)] 60] (by simp) (by simp) rfl ?_
    refine dact hT (by kernel_rfl) 0 rfl ?_
    refine cl hT 0 rfl (Ct.atT (S := fun v K' a' g' => K' = K /\ a' = a /\ g' = g /\ v = .tuple #[.agg (anV (chkT rows ses seq).1).toArray, .bool (chkT rows ses seq).2.1, .int .i64 (chkT rows ses seq).2.2]) 5 5 rfl rfl ((checkC bt rows hTb hr1 ses seq hs1 hs2 hr2).mono fun v K' hs' ⟨e, e1, e4⟩ => ⟨a, g, e1, e, rfl, rfl, e4⟩)) ?_
    rintro v40 K40 hs40 ⟨a', g', rfl, rfl, rfl, rfl, rfl⟩
    refine WL.hs (pt b8 #[.int .i64 0, .int .u64 0, .int .i64 0] 48 :: pt b4 (anV an0).toArray 48 :: pt b3 #[.int .i64 kind, .int .u64 ((ses : Nat) : Int), .int .u64 ((seq : Nat) : Int), str word, .int .i64 wt] 31 :: pt b #[.pointer (some ⟨bD, 0, none⟩), .pointer (some ⟨bt, 0, none⟩)] 60 :: hd :: a' :: g' :: hs) rfl ?_
    refine dnex [pt b3 #[.int .i64 kind, .int .u64 ((ses : Nat) : Int), .int .u64 ((seq : Nat) : Int), str word, .int .i64 wt] 31, pt b #[.pointer (some ⟨bD, 0, none⟩), .pointer (some ⟨bt, 0, none⟩)] 60] (by simp) (by simp) rfl ?_
    refine dact hT (by kernel_rfl) 4 rfl ?_
    refine stS hT 0 0 rfl rfl (by kernel_rfl) rfl rfl ?_
    refine dnex [pt b3 #[.int .i64 kind, .int .u64 ((ses : Nat) : Int), .int .u64 ((seq : Nat) : Int), str word, .int .i64 wt] 31, pt b #[.pointer (some ⟨bD, 0, none⟩), .pointer (some ⟨bt, 0, none⟩)] 60] (by simp) (by simp) rfl ?_
    refine dend hT (by kernel_rfl) 2 rfl ?_
    exact jx b8 trivial ⟨rfl, rfl, rfl, rfl, rfl, rfl, rfl, trivial⟩ rfl rfl
  ·rintro b8 _
   refine sq (sq (rg ?_))
   refine cmpS hT 1 rfl fun b45 h45 => ?_
   have d1 : ¬ ¬ (kind = 2 \/ kind = 3) := fun h => h hk2
   refine fin hT 0 rfl (th (ifP h45 rfl (fun e8 => ?_) (fun e8 => ?_)))
   ·refine sq (rg ?_)
    refine bd hT 1 (.agg (anV ⟨(chkT rows ses seq).2.2, 0, 0⟩).toArray) rfl (fun w => by kernel_rfl) ?_
    refine stS hT 0 1 rfl rfl (by kernel_rfl) rfl rfl ?_
    refine fin hT 0 rfl (th (rt (rT ?_)))
    refine retcA 1 3 rfl rfl rfl (by kernel_rfl) ?_
    have e : doP W rows ⟨kind, ses, seq, word, wt⟩ = (W, rows, ⟨(chkT rows ses seq).2.2, 0, 0⟩) := by
     unfold doP
     rw [if_neg hk1, if_neg d1, if_pos e8]
    rw [e]
    exact ⟨Le.refl _, rfl, _, rfl, hSt⟩
   ·have d2 : (chkT rows ses seq).2.2 = 0 := Classical.not_not.1 e8
    refine sk (th (sq (sq (rg ?_))))
    refine fin hT 2 rfl (th (ifB rfl (fun h9 => ?_) (fun h9 => ?_)))
    ·have d3 : (chkT rows ses seq).2.1 = false := by simpa using h9
     obtain ⟨d4, d5⟩ := chk_go d2 d3
     rw [d4]
     refine sq (rga [pt b3 #[.int .i64 kind, .int .u64 ((ses : Nat) : Int), .int .u64 ((seq : Nat) : Int), str word, .int .i64 wt] 31, pt b #[.pointer (some ⟨bD, 0, none⟩), .pointer (some ⟨bt, 0, none⟩)] 60] 17 [0, 2, 4, 6, 8, 10, 12, 14, 16, 19, 20, 22, 24, 26, 29, 30, 33] (by simp) (by kernel_rfl) (by kernel_rfl) ?_)
     refine dldp hT (by kernel_rfl) 4 1 rfl rfl rfl ?_
     refine dldp hT (by kernel_rfl) 1 0 rfl rfl rfl ?_
     refine dldp hT (by kernel_rfl) 1 0 rfl rfl rfl ?_
     refine dact hT (by kernel_rfl) 0 rfl ?_
     refine cl hT 0 rfl (Ct.at 4 rfl (hF bD l0 over W hD hI ho hG)) ?_
     rintro v60 K60 hs60 ⟨hd', rfl, le6, rfl, l1, ov, hD', hI', ho'⟩
     refine WL.hs (pt b8 (anV an0).toArray 48 :: pt b4 (anV an0).toArray 48 :: pt b3 #[.int .i64 kind, .int .u64 ((ses : Nat) : Int), .int .u64 ((seq : Nat) : Int), str word, .int .i64 wt] 31 :: pt b #[.pointer (some ⟨bD, 0, none⟩), .pointer (some ⟨bt, 0, none⟩)] 60 :: hd' :: a :: g :: hs) rfl ?_
     refine dnexL [pt b3 #[.int .i64 kind, .int .u64 ((ses : Nat) : Int), .int .u64 ((seq : Nat) : Int), str word, .int .i64 wt] 31, pt b #[.pointer (some ⟨bD, 0, none⟩), .pointer (some ⟨bt, 0, none⟩)] 60] (by simp) (by simp) le6 ?_
     refine dact hT (by kernel_rfl) 4 rfl ?_
     refine stp hT 0 0 rfl rfl rfl rfl ?_
     refine dnexL [pt b3 #[.int .i64 kind, .int .u64 ((ses : Nat) : Int), .int .u64 ((seq : Nat) : Int), str word, .int .i64 wt] 31, pt b #[.pointer (some ⟨bD, 0, none⟩), .pointer (some ⟨bt, 0, none⟩)] 60] (by simp) (by simp) (Le.refl _) ?_
     refine dact hT (by kernel_rfl) 1 rfl ?_
     refine stp hT 0 0 rfl rfl rfl rfl ?_
     refine WL.hs (pt b8 (anV ⟨(f W).2.2, 0, (f W).2.1⟩).toArray 48 :: pt b4 (anV an0).toArray 48 :: pt b3 #[.int .i64 kind, .int .u64 ((ses : Nat) : Int), .int .u64 ((seq : Nat) : Int), str word, .int .i64 wt] 31 :: pt b #[.pointer (some ⟨bD, 0, none⟩), .pointer (some ⟨bt, 0, none⟩)] 60 :: hd' :: a :: g :: hs) rfl ?_
     refine dnexL [pt b3 #[.int .i64 kind, .int .u64 ((ses : Nat) : Int), .int .u64 ((seq : Nat) : Int), str word, .int .i64 wt] 31, pt b #[.pointer (some ⟨bD, 0, none⟩), .pointer (some ⟨bt, 0, none⟩)] 60] (by simp) (by simp) (Le.refl _) ?_
     refine dend hT (by kernel_rfl) 0 rfl (th (rga [pt b3 #[.int .i64 kind, .int .u64 ((ses : Nat) : Int), .int .u64 ((seq : Nat) : Int), str word, .int .i64 wt] 31, pt b #[.pointer (some ⟨bD, 0, none⟩), .pointer (some ⟨bt, 0, none⟩)] 60, pt b8 (anV ⟨(f W).2.2, 0, (f W).2.1⟩).toArray 48] 10 [0, 2, 4, 6, 8, 10, 12, 14, 16, 19] (by simp) (by kernel_rfl) (by kernel_rfl) ?_))
     refine dldp hT (by kernel_rfl) 3 1 rfl rfl rfl ?_
     refine dldp hT (by kernel_rfl) 1 0 rfl rfl rfl ?_
     refine dldp hT (by kernel_rfl) 1 0 rfl rfl rfl ?_
     refine dldS hT (by kernel_rfl) 0 2 rfl (by kernel_rfl) rfl (by kernel_rfl) ?_
     refine dact hT (by kernel_rfl) 0 rfl ?_
     refine cl hT 0 rfl (Ct.atT (S := fun v K' a' g' => K' = K60 /\ TblM bt (rows.set (ses - 1) ⟨seq, ⟨(f W).2.2, 0, (f W).2.1⟩⟩) [a', g'] /\ v = .bool true) 5 5 rfl rfl ((keepC bt rows hTb hr1 ses seq hs1 hs2 ⟨(f W).2.2, 0, (f W).2.1⟩).mono fun v K' hs' ⟨e, m', e1, e3, e4⟩ => by
      rw [if_pos d5] at e3
      obtain ⟨ao', c', g', rfl, o'⟩ := e3
      exact ⟨_, g', e1, e, ⟨ao', c', g', rfl, o'⟩, by rw [e4, decide_eq_true d5]⟩)) ?_
     rintro v74 K74 hs74 ⟨a', g', rfl, rfl, hTb', rfl⟩
     refine WL.hs (pt b8 (anV ⟨(f W).2.2, 0, (f W).2.1⟩).toArray 48 :: pt b4 (anV an0).toArray 48 :: pt b3 #[.int .i64 kind, .int .u64 ((ses : Nat) : Int), .int .u64 ((seq : Nat) : Int), str word, .int .i64 wt] 31 :: pt b #[.pointer (some ⟨bD, 0, none⟩), .pointer (some ⟨bt, 0, none⟩)] 60 :: hd' :: a' :: g' :: hs) rfl ?_
     refine dnexL [pt b3 #[.int .i64 kind, .int .u64 ((ses : Nat) : Int), .int .u64 ((seq : Nat) : Int), str word, .int .i64 wt] 31, pt b #[.pointer (some ⟨bD, 0, none⟩), .pointer (some ⟨bt, 0, none⟩)] 60, pt b8 (anV ⟨(f W).2.2, 0, (f W).2.1⟩).toArray 48] (by simp) (by simp) (Le.refl _) ?_
     refine dend hT (by kernel_rfl) 0 rfl (th (sq (rg ?_)))
     refine ldS hT 0 0 rfl rfl (by kernel_rfl) ?_
     refine stS hT 0 1 rfl rfl (by kernel_rfl) rfl rfl ?_
     refine fin hT 0 rfl (th (rt ?_))
     refine retcA 1 3 rfl rfl rfl (by kernel_rfl) ?_
     have e : doP W rows ⟨kind, ses, seq, word, wt⟩ = ((f W).1, rows.set (ses - 1) ⟨seq, ⟨(f W).2.2, 0, (f W).2.1⟩⟩, ⟨(f W).2.2, 0, (f W).2.1⟩) := by
      unfold doP
      rw [if_neg hk1, if_neg d1, if_neg e8, if_neg (by rw [d3]; simp), hfW]
      split <;> rfl
     rw [e]
     refine ⟨le6, rfl, _, rfl, bD, bt, l1, ov, hd', a', g', rfl, hD', hI', ho', hTb', by simpa using hr1, ?_⟩
     intro r hr
     rcases List.mem_or_eq_of_mem_set hr with h | h
     ·exact hr2 r h
     ·rw [h]; exact hs2
    ·have d3 : (chkT rows ses seq).2.1 = true := by simpa using h9
     refine sk (th (sq (rg ?_)))
     refine ldS hT 0 0 rfl rfl (by kernel_rfl) ?_
     refine stS hT 0 1 rfl rfl (by kernel_rfl) rfl rfl ?_
     refine fin hT 0 rfl (th (rt ?_))
     refine retcA 1 3 rfl rfl rfl (by kernel_rfl) ?_
     have e : doP W rows ⟨kind, ses, seq, word, wt⟩ = (W, rows, (chkT rows ses seq).1) := by
      unfold doP
      rw [if_neg hk1, if_neg d1, if_neg e8, if_pos d3]
     rw [e]
     exact ⟨Le.refl _, rfl, _, rfl, hSt⟩
end Go.Proofs.YtejkjbkodcamoaaGreatDoor
end
