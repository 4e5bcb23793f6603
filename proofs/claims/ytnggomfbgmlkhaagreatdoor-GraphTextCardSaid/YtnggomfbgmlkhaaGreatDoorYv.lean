/- The walk through Check. -/
import Derived.Test.YtnggomfbgmlkhaaGreatDoorYu

namespace Go.Proofs.YtnggomfbgmlkhaaGreatDoor
open Go Go.K
set_option maxRecDepth 10000
attribute [local irreducible] W WL OpR bitAnd bitOr bitXor bitClr bitNot shlI shrI
set_option maxHeartbeats 4000000

/-- A problem, as a value. -/
def RProb (g : G) (v : Value) (p : Int × List Int) : Prop := ∃ a n c, v = .agg #[.int .i64 p.1, .slice a n c] ∧ Rs g (.slice a n c) p.2
theorem RProb.mono {g g' : G} {v : Value} {p : Int × List Int} (hle : g.le g') (h : RProb g v p) : RProb g' v p := by
 obtain ⟨a, n, c, e, h1⟩ := h
 exact ⟨a, n, c, e, h1.mono hle⟩

/-- A list that is nil where it is empty. -/
def NilRs (g : G) (v : Value) (l : List Int) : Prop := (l = [] ∧ v = .slice none 0 0) ∨ (l ≠ [] ∧ ∃ a c, v = .slice (some a) l.length c ∧ Rs g v l)
theorem NilRs.mono {g g' : G} {v : Value} {l : List Int} (h : NilRs g v l) (hle : g.le g') : NilRs g' v l := by
 rcases h with h | ⟨h1, a, c, h2, h3⟩
 ·exact .inl h
 ·exact .inr ⟨h1, a, c, h2, h3.mono hle⟩
theorem NilRs.of {g : G} {v : Value} {l : List Int} (h : Rs g v l) (h0 : l ≠ []) : NilRs g v l := by
 obtain ⟨a, n, c, rfl, rfl, _, h3⟩ := id h
 rcases h3 with h3 | ⟨b, o, cells, rfl, _⟩
 ·exact absurd (List.eq_nil_of_length_eq_zero h3) h0
 ·exact .inr ⟨h0, _, _, rfl, h⟩

theorem check_c (v : Value) (f : Flow) (g : G) (fl0 : RFlow g v f) :
  CallsIn Wd 0 Tryz.prog 9 #[v] g.w (Ret g fun g' r => RProb g' r (check f)) := by
 obtain ⟨a1, n1, c1, a2, n2, c2, rfl, rs0, rs1⟩ := id fl0
 obtain ⟨_, _, e⟩ := rs0.isSlice; obtain ⟨rfl, rfl, rfl⟩ := Value.slice.inj e; clear e
 have hs := St.start g
 have le0 := G.le.refl g
 refine enter Tryz.func9 rfl Tryz.ntmps9 rfl ?_
 refine W_seq ?_; refine W_region ?_
 refine WL_o rfl rfl (OpR_box rfl hs rfl rfl ?_); clear hs; rintro bf g1 hs hqe; replace le0 := G.le.trans le0 hqe; replace rs0 := rs0.mono hqe; replace rs1 := rs1.mono hqe; replace fl0 := fl0.mono hqe
 obtain ⟨g2, hw2, hs2, hqe, hep⟩ := hs.fzObj (i := 0) rfl; replace hs := hs2; clear hs2; rw [← hw2]; replace le0 := G.le.trans le0 hqe; replace rs0 := rs0.mono hqe; replace rs1 := rs1.mono hqe; replace fl0 := fl0.mono hqe
 have ep0 := hep; clear hep
 skip
 refine WL_o rfl rfl (OpR_alloc T.ok rfl hs rfl rfl ?_); clear hs; rintro br g1 hs hqe; replace le0 := G.le.trans le0 hqe; replace ep0 := ep0.mono hqe; replace rs0 := rs0.mono hqe; replace rs1 := rs1.mono hqe; replace fl0 := fl0.mono hqe
 refine WL_nil ?_; (with_reducible refine T_then ?_); refine W_scope ?_; refine W_seq ?_
 apply W_draw allF rfl (Fact.eq _ :: (Fact.rs (reach f 0)) :: Fact.eq _ :: (Fact.rs (ends f)) :: (Fact.rs (reach f 0)) :: (Fact.rs (ends f)) :: []) 6 [(4, 3), (5, 4)] rfl rfl
 ·refine D_s (js := []) (by kernel_rfl) (fun _ hf => QA_nil (DLe T.ok 0 rfl rfl (ep0.mono ((G.le_dr _).trans hf.le)) rfl rfl rfl)) ?_
  refine D_cons (D_step2 (js := [(0, 14)]) (by kernel_rfl) fun gd hf => ?_) ?_
  ·have hsd := hs.dr.call hf; have hfe := (G.le_dr _).trans hf.le
   refine QA_eq rfl ?_
   refine QA_nil ?_
   refine D_yes rfl ?_
   refine OpR_ret cl17 allF rfl rfl rfl rfl rfl (reach_c _ f 0 _ (fl0.mono hfe)) fun g' v h1 h2 => ?_
   obtain ⟨g2, e1, e2, e3, e4⟩ := (St.start gd).ownRs h1 h2
   exact ⟨g2, e1, e2.fr0, e4⟩
  refine D_s (js := []) (by kernel_rfl) (fun _ hf => QA_nil (DLe T.ok 0 rfl rfl (ep0.mono ((G.le_dr _).trans hf.le)) rfl rfl rfl)) ?_
  refine D_cons (D_step2 (js := [(2, 16)]) (by kernel_rfl) fun gd hf => ?_) ?_
  ·have hsd := hs.dr.call hf; have hfe := (G.le_dr _).trans hf.le
   refine QA_eq rfl ?_
   refine QA_nil ?_
   refine D_yes rfl ?_
   refine OpR_ret cl18 allF rfl rfl rfl rfl rfl (ends_c _ f _ (fl0.mono hfe)) fun g' v h1 h2 => ?_
   obtain ⟨g2, e1, e2, e3, e4⟩ := (St.start gd).ownRs h1 h2
   exact ⟨g2, e1, e2.fr0, e4⟩
  refine D_cons (D_step2 (js := [(1, 15), (1, 15)]) (by kernel_rfl) fun gd hf => ?_) ?_
  ·have hsd := hs.dr.call hf; have hfe := (G.le_dr _).trans hf.le
   refine QA_any fun v1 h1 => ?_; refine QA_any fun v1 h1 => ?_
   refine QA_nil ?_
   refine D_yes rfl ?_
   refine OpR_pure _ T.ok rfl ?_
   exact ⟨_, rfl, Fr0.refl _, h1⟩
  refine D_cons (D_step2 (js := [(3, 17), (3, 17)]) (by kernel_rfl) fun gd hf => ?_) ?_
  ·have hsd := hs.dr.call hf; have hfe := (G.le_dr _).trans hf.le
   refine QA_any fun v3 h3 => ?_; refine QA_any fun v3 h3 => ?_
   refine QA_nil ?_
   refine D_yes rfl ?_
   refine OpR_pure _ T.ok rfl ?_
   exact ⟨_, rfl, Fr0.refl _, h3⟩
  exact D_nil
 intro g1 hf1; refine QA_any fun v4 h4 => ?_; refine QA_any fun v5 h5 => ?_; refine QA_nil ?_
 replace hs := hs.dr.call hf1; have hqe := (G.le_dr _).trans hf1.le; replace le0 := G.le.trans le0 hqe; replace ep0 := ep0.mono hqe; replace rs0 := rs0.mono hqe; replace rs1 := rs1.mono hqe; replace fl0 := fl0.mono hqe
 have rs2 : Rs g1 v4 (reach f 0) := h4
 have rs3 : Rs g1 v5 (ends f) := h5
 obtain ⟨al, cl, rfl⟩ := rs2.isSlice
 obtain ⟨ae, ce, rfl⟩ := rs3.isSlice
 have hll := reach_len f 0
 have hel : (ends f).length ≤ 40 := by unfold ends; exact Nat.le_trans (List.length_filter_le _ _) hll
 have hrr : ∀ x ∈ reach f 0, valid f = true ∧ InR f x := fun x hx => by
  have h1 := reach_range hx
  unfold reach at hx
  split at hx
  ·rename_i hg; exact ⟨(given_one.1 hg).1, h1⟩
  ·simp at hx
 have her : ∀ x ∈ ends f, InR f x := fun x hx => by
  unfold ends at hx
  exact reach_range (List.mem_filter.1 hx).1
 clear h4 h5
 refine WL_nil ?_; (with_reducible refine T_then ?_); refine W_seq ?_; refine W_label ?_; (with_reducible refine T_then ?_); refine W_seq ?_; refine W_seq ?_; refine W_region ?_; (iterate 3 refine P1 T.ok rfl rfl rfl ?_); refine WL_nil ?_; (with_reducible refine T_then ?_); refine W_block ?_
 have fl0c := fl0; have ep0c := ep0; have rs2c := rs2; have rs3c := rs3; have le5 := G.le.refl g1
 refine W_loop (fun m a' w => ∃ (k : Nat) (g2 : G), w = g2.w ∧ St g g2 [.obj br (.cells [.int .i64 0, .slice none 0 0].toArray 37 (0, 0))] ∧ G.le g1 g2 ∧ k ≤ (reach f 0).length ∧ m = (reach f 0).length - k ∧ deadL f ((reach f 0).drop k) = deadL f (reach f 0) ∧
   Fr 74 [] [(1, .pointer (some ⟨bf, 0, none⟩)), (2, .pointer (some ⟨br, 0, none⟩)), (3, .slice al (reach f 0).length cl), (4, .slice ae (ends f).length ce), (18, .slice al (reach f 0).length cl), (19, .int .i64 (reach f 0).length), (20, .int .i64 k)] a') (reach f 0).length
  (fun a' ha => ⟨0, g1, rfl, hs, le5, Nat.zero_le _, rfl, by rw [List.drop_zero], ha.keep (by (repeat (first | exact trivial | refine ⟨rfl, ?_⟩)))⟩) ?_
 clear hs le5 ep0 rs0 rs1 rs2 rs3 fl0
 rintro m a' _ ⟨k, g2, rfl, hs, le5, hk, rfl, hno, ha'⟩
 have ep0 := ep0c.mono le5; have fl0 := fl0c.mono le5; have rs2 := rs2c.mono le5; have rs3 := rs3c.mono le5
 revert a'
 (with_reducible refine T_wp ?_); refine W_seq ?_; refine W_region ?_; refine P1 T.ok rfl rfl rfl ?_; refine WL_nil ?_; (with_reducible refine T_then ?_); refine W_seq ?_
 by_cases hlt : k < (reach f 0).length
 ·refine W_yes (b := decide ((k : Int) < ((reach f 0).length : Int))) (by simp; omega) rfl ?_
  rw [List.drop_eq_getElem_cons hlt] at hno
  unfold deadL at hno
  rw [List.find?_cons] at hno
  obtain ⟨hval, hnr⟩ := hrr _ (List.getElem_mem hlt)
  generalize hne : (reach f 0)[k] = n at *
  refine W_skip ?_; (with_reducible refine T_then ?_); refine W_seq ?_; refine W_block ?_; refine W_seq ?_; refine W_region ?_
  refine WL_o rfl rfl (OpR_idx T.ok rfl rs2 (y := n) (by rw [geti_of (j := k) rfl hlt, hne]) rfl rfl rfl rfl rfl rfl ?_)
  rintro b p ys hep rfl
  refine WL_o rfl rfl (OpR_loadE T.ok 0 rfl hep rfl rfl ?_)
  refine P1 T.ok rfl rfl rfl ?_; refine WL_nil ?_; (with_reducible refine T_then ?_); refine W_seq ?_; refine W_region ?_; refine WL_o rfl rfl (OpR_loadE T.ok 0 rfl ep0 rfl rfl ?_); refine P1 T.ok rfl rfl rfl ?_
  refine WL_o rfl rfl (OpR_ret cl30 allF rfl rfl rfl rfl rfl (reached_c _ f n _ fl0 hval hnr.1 hnr.2) ?_); rintro g3 v hf3 hown
  obtain ⟨g4, hw4, hs4, hqe4, hrl⟩ := hs.ownRs hf3 hown
  have hqe := hf3.le.trans hqe4; rw [← hw4]; replace hs := hs4; replace ep0 := ep0.mono hqe; replace rs2 := rs2.mono hqe; replace rs3 := rs3.mono hqe; replace fl0 := fl0.mono hqe
  replace le5 := le5.trans hqe
  obtain ⟨am, cm, rfl⟩ := hrl.isSlice
  rw [reached_len] at hrl
  rw [reached_len]
  refine P1 T.ok rfl rfl rfl ?_; refine WL_nil ?_; (with_reducible refine T_then ?_); refine W_seq ?_; refine W_seq ?_; refine W_region ?_; (iterate 3 refine P1 T.ok rfl rfl rfl ?_); refine WL_nil ?_; (with_reducible refine T_then ?_); refine W_block ?_
  have fl0d := fl0; have ep0d := ep0; have rs2d := rs2; have rs3d := rs3; have hrld := hrl; have le6 := G.le.refl g4
  refine W_loop (fun m a' w => ∃ (j : Nat) (g5 : G), w = g5.w ∧ St g g5 [.obj br (.cells [.int .i64 0, .slice none 0 0].toArray 37 (0, 0))] ∧ G.le g4 g5 ∧ j ≤ (ends f).length ∧ m = (ends f).length - j ∧ alive f n = ((ends f).drop j).any (fun e => (reached f n).getD e.toNat false) ∧
    Fr 74 [] [(1, .pointer (some ⟨bf, 0, none⟩)), (2, .pointer (some ⟨br, 0, none⟩)), (3, .slice al (reach f 0).length cl), (4, .slice ae (ends f).length ce), (18, .slice al (reach f 0).length cl), (19, .int .i64 (reach f 0).length), (20, .int .i64 k),
     (6, .int .i64 n), (7, .slice am f.steps.length cm), (27, .slice ae (ends f).length ce), (28, .int .i64 (ends f).length), (29, .int .i64 j)] a') (ends f).length
   (fun a' ha => ⟨0, g4, rfl, hs, le6, Nat.zero_le _, rfl, rfl, ha.keep (by (repeat (first | exact trivial | refine ⟨rfl, ?_⟩)))⟩) ?_
  clear hs le6 ep0 rs2 rs3 fl0 hrl
  rintro m a' _ ⟨j, g5, rfl, hs, le6, hj, rfl, hal, ha'⟩
  have ep0 := ep0d.mono le6; have fl0 := fl0d.mono le6; have rs2 := rs2d.mono le6; have rs3 := rs3d.mono le6; have rs1 := hrld.mono le6
  revert a'
  (with_reducible refine T_wp ?_); refine W_seq ?_; refine W_region ?_; refine P1 T.ok rfl rfl rfl ?_; refine WL_nil ?_; (with_reducible refine T_then ?_); refine W_seq ?_
  by_cases hlj : j < (ends f).length
  ·refine W_yes (b := decide ((j : Int) < ((ends f).length : Int))) (by simp; omega) rfl ?_
   rw [List.drop_eq_getElem_cons hlj, List.any_cons] at hal
   have hnr2 := her _ (List.getElem_mem hlj)
   generalize hee : (ends f)[j] = e at *
   have hel2 : e.toNat < (reached f n).length := by rw [reached_len]; have := hnr2.1; have := hnr2.2; omega
   have hgd : (reached f n).getD e.toNat false = (reached f n)[e.toNat] := by rw [List.getD_eq_getElem?_getD, List.getElem?_eq_getElem hel2]; rfl
   rw [hgd] at hal
   refine W_skip ?_; (with_reducible refine T_then ?_); refine W_seq ?_; refine W_block ?_; refine W_seq ?_; refine W_region ?_
   refine WL_o rfl rfl (OpR_idx T.ok rfl rs3 (y := e) (by rw [geti_of (j := j) rfl hlj, hee]) rfl rfl rfl rfl rfl rfl ?_)
   rintro b p ys hep rfl
   refine WL_o rfl rfl (OpR_loadE T.ok 0 rfl hep rfl rfl ?_)
   refine P1 T.ok rfl rfl rfl ?_; refine WL_nil ?_; (with_reducible refine T_then ?_); refine W_seq ?_; refine W_region ?_; refine P1 T.ok rfl rfl rfl ?_; refine P1 T.ok rfl rfl rfl ?_
   refine WL_o rfl rfl (OpR_idx T.ok rfl rs1 (y := (reached f n)[e.toNat]) (geti_of (by have := hnr2.1; omega) hel2) rfl rfl rfl rfl rfl rfl ?_)
   rintro b p ys hep rfl
   refine WL_o rfl rfl (OpR_loadE T.ok 0 rfl hep rfl rfl ?_)
   refine WL_nil ?_; (with_reducible refine T_then ?_)
   cases hb : (reached f n)[e.toNat] with
   | true =>
    rw [hb, Bool.true_or] at hal
    refine W_yes rfl rfl ?_
    refine W_exit ?_; ((with_reducible refine T_by ?_ ?_); exact rfl); (with_reducible refine T_tx ?_; with_reducible refine T_tx ?_); ((with_reducible refine T_by ?_ ?_); exact rfl); (with_reducible refine T_tx ?_); (with_reducible refine T_bx ?_); (with_reducible refine T_then ?_); refine W_region ?_; refine P1 T.ok rfl rfl rfl ?_; refine P1 T.ok rfl rfl rfl ?_; refine WL_nil ?_
    exact fun a ha => ⟨(reach f 0).length - (k + 1), by omega, k + 1, _, rfl, hs, le5.trans le6, by omega, rfl, by unfold deadL; rw [← hno, hal]; rfl, ha.keep ⟨rfl, rfl, rfl, rfl, rfl, rfl, kI rfl (by rw [wr (by omega) (by omega)]; omega), trivial⟩⟩
   | false =>
    rw [hb, Bool.false_or] at hal
    refine W_no rfl rfl ?_
    refine W_skip ?_; (with_reducible refine T_bn ?_); (with_reducible refine T_then ?_); refine W_region ?_; refine P1 T.ok rfl rfl rfl ?_; refine P1 T.ok rfl rfl rfl ?_; refine WL_nil ?_
    exact fun a ha => ⟨(ends f).length - (j + 1), by omega, j + 1, _, rfl, hs, le6, by omega, rfl, hal, ha.keep ⟨rfl, rfl, rfl, rfl, rfl, rfl, rfl, rfl, rfl, rfl, rfl, kI rfl (by rw [wr (by omega) (by omega)]; omega), trivial⟩⟩
  ·refine W_no (b := decide ((j : Int) < ((ends f).length : Int))) (by simp; omega) rfl ?_
   rw [List.drop_of_length_le (by omega)] at hal
   rw [show alive f n = false from hal] at hno
   refine W_exit ?_; (with_reducible refine T_tx ?_; with_reducible refine T_tx ?_); (with_reducible refine T_bx ?_); (with_reducible refine T_then ?_); refine W_seq ?_; refine W_region ?_; refine P1 T.ok rfl rfl rfl ?_
   refine WL_o rfl rfl (OpR_lit T.ok rfl hs (vs := [(0, .int .i64 n)]) (cells := [.int .i64 n]) rfl rfl rfl rfl rfl rfl (by decide) (by decide) (by kernel_rfl) rfl ?_); rintro b2 g2 hs hqe; replace ep0 := ep0.mono hqe; replace rs1 := rs1.mono hqe; replace rs2 := rs2.mono hqe; replace rs3 := rs3.mono hqe; replace fl0 := fl0.mono hqe
   obtain ⟨g3, hw3, hs3, hqe3, hrn⟩ := hs.fzRow (α := Int) (xs := [n]) (i := 0) rfl (RcL.ints _ [n])
   clear hqe; have hqe := hqe3; rw [← hw3]; replace hs := hs3; replace ep0 := ep0.mono hqe; replace rs1 := rs1.mono hqe; replace rs2 := rs2.mono hqe; replace rs3 := rs3.mono hqe; replace fl0 := fl0.mono hqe
   skip
   refine WL_o rfl rfl (OpR_build T.ok rfl (vs := [(0, .int .i64 1), (1, .slice (some ⟨b2, 0, none⟩) 1 1)]) (cells := [.int .i64 1, .slice (some ⟨b2, 0, none⟩) 1 1]) rfl rfl rfl rfl [(0, 1), (1, 1)] rfl (by kernel_rfl) ?_)
   skip
   refine WL_n rfl (OpR_storeO T.ok 0 rfl hs rfl rfl rfl rfl rfl rfl rfl rfl rfl ?_); replace hs := hs; rintro g9 hs hqe; replace ep0 := ep0.mono hqe; replace rs1 := rs1.mono hqe; replace rs2 := rs2.mono hqe; replace rs3 := rs3.mono hqe; replace fl0 := fl0.mono hqe
   replace hrn := hrn.mono hqe
   refine WL_nil ?_; (with_reducible refine T_then ?_)
   refine W_ret ?_
   (with_reducible refine T_br ?_); (with_reducible refine T_tr ?_; with_reducible refine T_tr ?_); (with_reducible refine T_br ?_); (with_reducible refine T_tr ?_); (with_reducible refine T_gr ?_)
   refine retC T.ok 0 rfl hs rfl rfl rfl (hs.ret ?_)
   have hck : check f = (1, [n]) := by unfold check deadL; rw [← hno]; rfl
   rw [hck]
   exact ⟨_, _, _, rfl, hrn⟩
 ·refine W_no (b := decide ((k : Int) < ((reach f 0).length : Int))) (by simp; omega) rfl ?_
  rw [List.drop_of_length_le (by omega)] at hno
  refine W_exit ?_; (with_reducible refine T_tx ?_; with_reducible refine T_tx ?_); (with_reducible refine T_bx ?_); (with_reducible refine T_then ?_); refine W_seq ?_; refine W_region ?_; refine P1 T.ok rfl rfl rfl ?_; refine WL_nil ?_; (with_reducible refine T_then ?_); refine W_seq ?_; refine W_seq ?_; refine W_region ?_; (iterate 3 refine P1 T.ok rfl rfl rfl ?_); refine WL_nil ?_; (with_reducible refine T_then ?_); refine W_block ?_
  have fl0d := fl0; have ep0d := ep0; have rs2d := rs2; have le6 := G.le.refl g2
  refine W_loop (fun m a' w => ∃ (j : Nat) (bv : Value) (g5 : G), w = g5.w ∧ St g g5 [.obj br (.cells [.int .i64 0, .slice none 0 0].toArray 37 (0, 0))] ∧ G.le g2 g5 ∧ j ≤ (reach f 0).length ∧ m = (reach f 0).length - j ∧ NilRs g5 bv (bestL f ((reach f 0).take j)) ∧
    Fr 74 [] [(1, .pointer (some ⟨bf, 0, none⟩)), (2, .pointer (some ⟨br, 0, none⟩)), (10, bv), (42, .slice al (reach f 0).length cl), (43, .int .i64 (reach f 0).length), (44, .int .i64 j)] a') (reach f 0).length
   (fun a' ha => ⟨0, _, g2, rfl, hs, le6, Nat.zero_le _, rfl, .inl ⟨rfl, rfl⟩, ha.keep (by (repeat (first | exact trivial | refine ⟨rfl, ?_⟩)))⟩) ?_
  clear hs le6 ep0 rs2 rs3 fl0
  rintro m a' _ ⟨j, bv, g5, rfl, hs, le6, hj, rfl, hbest, ha'⟩
  have ep0 := ep0d.mono le6; have fl0 := fl0d.mono le6; have rs2 := rs2d.mono le6
  revert a'
  (with_reducible refine T_wp ?_); refine W_seq ?_; refine W_region ?_; refine P1 T.ok rfl rfl rfl ?_; refine WL_nil ?_; (with_reducible refine T_then ?_); refine W_seq ?_
  by_cases hlj : j < (reach f 0).length
  ·refine W_yes (b := decide ((j : Int) < ((reach f 0).length : Int))) (by simp; omega) rfl ?_
   have hbs := bestL_snoc f ((reach f 0).take j) (reach f 0)[j]
   rw [← List.take_succ_eq_append_getElem hlj] at hbs
   obtain ⟨hval, hnr⟩ := hrr _ (List.getElem_mem hlj)
   have h0r : InR f 0 := ⟨by omega, by have := hnr.1; have := hnr.2; omega⟩
   generalize hne : (reach f 0)[j] = n at *
   refine W_skip ?_; (with_reducible refine T_then ?_); refine W_seq ?_; refine W_block ?_; refine W_seq ?_; refine W_region ?_
   refine WL_o rfl rfl (OpR_idx T.ok rfl rs2 (y := n) (by rw [geti_of (j := j) rfl hlj, hne]) rfl rfl rfl rfl rfl rfl ?_)
   rintro b p ys hep rfl
   refine WL_o rfl rfl (OpR_loadE T.ok 0 rfl hep rfl rfl ?_)
   refine P1 T.ok rfl rfl rfl ?_; refine WL_nil ?_; (with_reducible refine T_then ?_); refine W_seq ?_
   apply W_draw allF rfl (Fact.eq _ :: Fact.eq _ :: (Fact.rs (reached f 0)) :: Fact.eq _ :: (Fact.rs (cycle f (reached f 0) n)) :: (Fact.rs (cycle f (reached f 0) n)) :: []) 6 [(5, 13)] rfl rfl
   ·refine D_s (js := []) (by kernel_rfl) (fun _ hf => QA_nil (DLe T.ok 0 rfl rfl (ep0.mono ((G.le_dr _).trans hf.le)) rfl rfl rfl)) ?_
    refine D_s (js := []) (by kernel_rfl) (fun _ hf => QA_nil (DLe T.ok 0 rfl rfl (ep0.mono ((G.le_dr _).trans hf.le)) rfl rfl rfl)) ?_
    refine D_cons (D_step2 (js := [(1, 49)]) (by kernel_rfl) fun gd hf => ?_) ?_
    ·have hsd := hs.dr.call hf; have hfe := (G.le_dr _).trans hf.le
     refine QA_eq rfl ?_
     refine QA_nil ?_
     refine D_yes rfl ?_
     refine OpR_ret cl30 allF rfl rfl rfl rfl rfl (reached_c _ f 0 _ (fl0.mono hfe) hval h0r.1 h0r.2) fun g' v h1 h2 => ?_
     obtain ⟨g2, e1, e2, e3, e4⟩ := (St.start gd).ownRs h1 h2
     exact ⟨g2, e1, e2.fr0, e4⟩
    refine D_s (js := []) (by kernel_rfl) (fun _ _ => QA_nil (DPu T.ok rfl rfl rfl)) ?_
    refine D_cons (D_step2 (js := [(0, 48), (2, 50), (3, 51), (2, 50)]) (by kernel_rfl) fun gd hf => ?_) ?_
    ·have hsd := hs.dr.call hf; have hfe := (G.le_dr _).trans hf.le
     refine QA_eq rfl ?_; refine QA_any fun v2 h2 => ?_; refine QA_eq rfl ?_; refine QA_any fun v2 h2 => ?_
     refine QA_nil ?_
     refine D_yes rfl ?_
     refine OpR_ret cl31 allF rfl rfl rfl rfl rfl (cycle_c _ _ f (reached f 0) n _ (fl0.mono hfe) h2 hval (reached_len f 0) hnr.1 hnr.2) fun g' v h1 h2 => ?_
     exact ⟨g', rfl, h1, h2⟩
    refine D_cons (D_step2 (js := [(4, 52), (4, 52), (4, 52)]) (by kernel_rfl) fun gd hf => ?_) ?_
    ·have hsd := hs.dr.call hf; have hfe := (G.le_dr _).trans hf.le
     refine QA_any fun v4 h4 => ?_; refine QA_any fun v4 h4 => ?_; refine QA_any fun v4 h4 => ?_
     refine QA_nil ?_
     refine D_yes rfl ?_
     refine OpR_pure _ T.ok rfl ?_
     exact ⟨_, rfl, Fr0.refl _, h4⟩
    exact D_nil
   intro g1 hf1; refine QA_any fun v5 h5 => ?_; refine QA_nil ?_
   replace hs := hs.dr.call hf1; have hqe := (G.le_dr _).trans hf1.le; replace ep0 := ep0.mono hqe; replace rs2 := rs2.mono hqe; replace fl0 := fl0.mono hqe
   replace le6 := le6.trans hqe
   replace hbest := hbest.mono hqe
   have rs3 : Rs g1 v5 (cycle f (reached f 0) n) := h5
   clear h5
   unfold bestStep at hbs
   generalize hcy : cycle f (reached f 0) n = cy at *
   obtain ⟨ac, cc, rfl⟩ := rs3.isSlice
   refine WL_nil ?_; (with_reducible refine T_then ?_); refine W_seq ?_; refine W_region ?_; (iterate 4 refine P1 T.ok rfl rfl rfl ?_)
   by_cases hc0 : 0 < cy.length
   ·refine WL_know 56 (b' := true) (decide_eq_true (by omega)) rfl ?_
    have hcn : cy ≠ [] := List.length_pos_iff.1 hc0
    rcases hbest with ⟨hb0, rfl⟩ | ⟨hb0, ab, cb, rfl, hbr⟩
    ·rw [if_pos ⟨hc0, .inl hb0⟩] at hbs
     refine P1 T.ok rfl rfl rfl ?_
     refine WL_o rfl rfl (OpR_eqNilSlice T.ok (neg := false) rfl rfl rfl rfl rfl ?_)
     refine P1 T.ok rfl rfl rfl ?_; (iterate 5 refine S1 allF rfl rfl ?_); refine P1 T.ok rfl rfl rfl ?_; refine P1 T.ok rfl rfl rfl ?_; refine WL_nil ?_; (with_reducible refine T_then ?_)
     refine W_yes rfl rfl ?_
     refine W_region ?_; refine P1 T.ok rfl rfl rfl ?_; refine P1 T.ok rfl rfl rfl ?_; refine WL_nil ?_; (with_reducible refine T_bn ?_); (with_reducible refine T_then ?_); refine W_region ?_; refine P1 T.ok rfl rfl rfl ?_; refine P1 T.ok rfl rfl rfl ?_; refine WL_nil ?_
     exact fun a ha => ⟨(reach f 0).length - (j + 1), by omega, j + 1, _, _, rfl, hs, le6, by omega, rfl, by rw [hbs]; exact .of rs3 hcn, ha.keep ⟨rfl, rfl, rfl, rfl, rfl, kI rfl (by rw [wr (by omega) (by omega)]; omega), trivial⟩⟩
    ·refine P1 T.ok rfl rfl rfl ?_
     refine WL_o rfl rfl (OpR_eqNilSlice T.ok (neg := false) rfl rfl rfl rfl rfl ?_)
     (iterate 8 refine P1 T.ok rfl rfl rfl ?_); refine WL_nil ?_; (with_reducible refine T_then ?_)
     by_cases hcl : cy.length < (bestL f ((reach f 0).take j)).length
     ·rw [if_pos ⟨hc0, .inr hcl⟩] at hbs
      refine W_yes (b := decide ((cy.length : Int) < ((bestL f ((reach f 0).take j)).length : Int))) (by simp; omega) rfl ?_
      refine W_region ?_; refine P1 T.ok rfl rfl rfl ?_; refine P1 T.ok rfl rfl rfl ?_; refine WL_nil ?_; (with_reducible refine T_bn ?_); (with_reducible refine T_then ?_); refine W_region ?_; refine P1 T.ok rfl rfl rfl ?_; refine P1 T.ok rfl rfl rfl ?_; refine WL_nil ?_
      exact fun a ha => ⟨(reach f 0).length - (j + 1), by omega, j + 1, _, _, rfl, hs, le6, by omega, rfl, by rw [hbs]; exact .of rs3 hcn, ha.keep ⟨rfl, rfl, rfl, rfl, rfl, kI rfl (by rw [wr (by omega) (by omega)]; omega), trivial⟩⟩
     ·rw [if_neg (fun h => h.2.elim hb0 hcl)] at hbs
      refine W_no (b := decide ((cy.length : Int) < ((bestL f ((reach f 0).take j)).length : Int))) (by simp; omega) rfl ?_
      refine W_skip ?_; (with_reducible refine T_bn ?_); (with_reducible refine T_then ?_); refine W_region ?_; refine P1 T.ok rfl rfl rfl ?_; refine P1 T.ok rfl rfl rfl ?_; refine WL_nil ?_
      exact fun a ha => ⟨(reach f 0).length - (j + 1), by omega, j + 1, _, _, rfl, hs, le6, by omega, rfl, by rw [hbs]; exact .inr ⟨hb0, _, _, rfl, hbr⟩, ha.keep ⟨rfl, rfl, rfl, rfl, rfl, kI rfl (by rw [wr (by omega) (by omega)]; omega), trivial⟩⟩
   ·refine WL_know 56 (b' := false) (decide_eq_false (by omega)) rfl ?_
    rw [if_neg (fun h => hc0 h.1)] at hbs
    (iterate 9 refine S1 allF rfl rfl ?_); refine P1 T.ok rfl rfl rfl ?_; refine WL_nil ?_; (with_reducible refine T_then ?_)
    refine W_no rfl rfl ?_
    refine W_skip ?_; (with_reducible refine T_bn ?_); (with_reducible refine T_then ?_); refine W_region ?_; refine P1 T.ok rfl rfl rfl ?_; refine P1 T.ok rfl rfl rfl ?_; refine WL_nil ?_
    exact fun a ha => ⟨(reach f 0).length - (j + 1), by omega, j + 1, _, _, rfl, hs, le6, by omega, rfl, by rw [hbs]; exact hbest, ha.keep ⟨rfl, rfl, rfl, rfl, rfl, kI rfl (by rw [wr (by omega) (by omega)]; omega), trivial⟩⟩
  ·refine W_no (b := decide ((j : Int) < ((reach f 0).length : Int))) (by simp; omega) rfl ?_
   rw [List.take_of_length_le (by omega)] at hbest
   refine W_exit ?_; (with_reducible refine T_tx ?_; with_reducible refine T_tx ?_); (with_reducible refine T_bx ?_); (with_reducible refine T_then ?_); refine W_seq ?_; refine W_seq ?_; refine W_region ?_; refine P1 T.ok rfl rfl rfl ?_
   have hck : check f = if bestL f (reach f 0) = [] then (0, []) else (2, bestL f (reach f 0)) := by unfold check; rw [← hno]; rfl
   rcases hbest with ⟨hb0, rfl⟩ | ⟨hb0, ab, cb, rfl, hbr⟩
   ·rw [if_pos hb0] at hck
    refine WL_o rfl rfl (OpR_eqNilSlice T.ok (neg := false) rfl rfl rfl rfl rfl ?_)
    refine WL_nil ?_; (with_reducible refine T_then ?_)
    refine W_yes rfl rfl ?_
    refine W_seq ?_; refine W_region ?_
    refine WL_o rfl rfl (OpR_build T.ok rfl (vs := []) (cells := [.int .i64 0, .slice none 0 0]) rfl rfl rfl rfl [(0, 1), (1, 1)] rfl (by kernel_rfl) ?_)
    skip
    refine WL_n rfl (OpR_storeO T.ok 0 rfl hs rfl rfl rfl rfl rfl rfl rfl rfl rfl ?_); replace hs := hs; rintro g9 hs hqe; replace ep0 := ep0.mono hqe; replace rs2 := rs2.mono hqe; replace fl0 := fl0.mono hqe
    refine WL_nil ?_; (with_reducible refine T_then ?_)
    refine W_ret ?_
    (with_reducible refine T_tr ?_); (with_reducible refine T_gr ?_)
    refine retC T.ok 0 rfl hs rfl rfl rfl (hs.ret ?_)
    rw [hck]
    exact ⟨_, _, _, rfl, Rs.nil _⟩
   ·rw [if_neg hb0] at hck
    refine WL_o rfl rfl (OpR_eqNilSlice T.ok (neg := false) rfl rfl rfl rfl rfl ?_)
    refine WL_nil ?_; (with_reducible refine T_then ?_)
    refine W_no rfl rfl ?_
    refine W_skip ?_; (with_reducible refine T_then ?_); refine W_seq ?_; refine W_region ?_; refine P1 T.ok rfl rfl rfl ?_
    refine WL_o rfl rfl (OpR_build T.ok rfl (vs := [(0, .int .i64 2), (1, .slice (some ab) (bestL f (reach f 0)).length cb)]) (cells := [.int .i64 2, .slice (some ab) (bestL f (reach f 0)).length cb]) rfl rfl rfl rfl [(0, 1), (1, 1)] rfl (by kernel_rfl) ?_)
    skip
    refine WL_n rfl (OpR_storeO T.ok 0 rfl hs rfl rfl rfl rfl rfl rfl rfl rfl rfl ?_); replace hs := hs; rintro g9 hs hqe; replace ep0 := ep0.mono hqe; replace rs2 := rs2.mono hqe; replace fl0 := fl0.mono hqe
    replace hbr := hbr.mono hqe
    refine WL_nil ?_; (with_reducible refine T_then ?_)
    refine W_ret ?_
    (with_reducible refine T_gr ?_)
    refine retC T.ok 0 rfl hs rfl rfl rfl (hs.ret ?_)
    rw [hck]
    exact ⟨_, _, _, rfl, hbr⟩
end Go.Proofs.YtnggomfbgmlkhaaGreatDoor
