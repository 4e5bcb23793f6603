/- The walks through the search for cycles and the order. -/
import Derived.Test.YtnggomfbgmlkhaaGreatDoorYs
import Derived.Test.YtnggomfbgmlkhaaGreatDoorYr

/- The walks through package graph: cycle. -/
namespace Go.Proofs.YtnggomfbgmlkhaaGreatDoor
open Go Go.K
set_option maxRecDepth 10000
attribute [local irreducible] W WL OpR bitAnd bitOr bitXor bitClr bitNot shlI shrI
set_option maxHeartbeats 2000000

/-- An own list of lists. -/
def rowL (v : Value) (n : Nat) (cells : List Value) : Ent := .row 35 1 v n cells
/-- A pointer into a step of the flow, at a field. -/
def stepPtr (off : Nat) (s : Step) : Fact :=
 ⟨fun v g => ∃ b p ys, v = .pointer (some ⟨b, p + off, none⟩) ∧ EP g b p ys ∧ RStep g ys s, fun _ _ _ hf ⟨b, p, ys, e, h1, h2⟩ => ⟨b, p, ys, e, h1.mono hf.le, El.mono (α := Step) hf.le h2⟩⟩
def intPtr (n : Int) : Fact :=
 ⟨fun v g => ∃ b p, v = .pointer (some ⟨b, p, none⟩) ∧ EP g b p [.int .i64 n], fun _ _ _ hf ⟨b, p, e, h1⟩ => ⟨b, p, e, h1.mono hf.le⟩⟩

theorem cycle_c (v lv : Value) (f : Flow) (live : List Bool) (first : Int) (g : G) (fl0 : RFlow g v f) (rs2 : Rs g lv live) (hval : valid f = true) (hll : live.length = f.steps.length) (h0 : 0 ≤ first) (h1 : first < f.steps.length) :
  CallsIn Wd 0 Tryz.prog 31 #[v, lv, .int .i64 first] g.w (Ret g fun g' r => Rs g' r (cycle f live first)) := by
 obtain ⟨a1, n1, c1, a2, n2, c2, rfl, rs0, rs1⟩ := id fl0
 obtain ⟨_, _, e⟩ := rs0.isSlice; obtain ⟨rfl, rfl, rfl⟩ := Value.slice.inj e; clear e
 obtain ⟨a3, c3, rfl⟩ := rs2.isSlice
 have hl40 := valid_len hval
 have hs := St.start g
 have le0 := G.le.refl g
 refine enter Tryz.func31 rfl Tryz.ntmps31 rfl ?_
 refine W_seq ?_; refine W_region ?_
 refine WL_o rfl rfl (OpR_box rfl hs rfl rfl ?_); clear hs; rintro bf g1 hs hqe; replace le0 := G.le.trans le0 hqe; replace rs0 := rs0.mono hqe; replace rs1 := rs1.mono hqe; replace rs2 := rs2.mono hqe; replace fl0 := fl0.mono hqe
 obtain ⟨g2, hw2, hs2, hqe, hep⟩ := hs.fzObj (i := 0) rfl; replace hs := hs2; clear hs2; rw [← hw2]; replace le0 := G.le.trans le0 hqe; replace rs0 := rs0.mono hqe; replace rs1 := rs1.mono hqe; replace rs2 := rs2.mono hqe; replace fl0 := fl0.mono hqe
 have ep0 := hep; clear hep
 refine P1 T.ok rfl rfl rfl ?_; refine WL_nil ?_; (with_reducible refine T_then ?_); refine W_seq ?_; refine W_region ?_; refine P1 T.ok rfl rfl rfl ?_
 refine WL_o rfl rfl (OpR_lit T.ok rfl hs (vs := [(0, .int .i64 first)]) (cells := [.int .i64 first]) rfl rfl rfl rfl rfl rfl (by decide) (by decide) (by kernel_rfl) rfl ?_); rintro b2 g2 hs hqe; replace le0 := G.le.trans le0 hqe; replace ep0 := ep0.mono hqe; replace rs0 := rs0.mono hqe; replace rs1 := rs1.mono hqe; replace rs2 := rs2.mono hqe; replace fl0 := fl0.mono hqe
 obtain ⟨g3, hw3, hs3, hqe3, hrl⟩ := hs.fzRow (α := Int) (xs := [first]) (i := 0) rfl (RcL.ints _ [first])
 clear hqe; have hqe := hqe3; rw [← hw3]; replace hs := hs3; replace le0 := G.le.trans le0 hqe; replace ep0 := ep0.mono hqe; replace rs0 := rs0.mono hqe; replace rs1 := rs1.mono hqe; replace rs2 := rs2.mono hqe; replace fl0 := fl0.mono hqe
 skip
 refine WL_o rfl rfl (OpR_lit T.ok rfl hs (vs := [(0, .slice (some ⟨b2, 0, none⟩) 1 1)]) (cells := [.slice (some ⟨b2, 0, none⟩) 1 1]) rfl rfl rfl rfl rfl rfl (by decide) (by decide) (by kernel_rfl) rfl ?_); rintro b3 g4 hs hqe; replace le0 := G.le.trans le0 hqe; replace ep0 := ep0.mono hqe; replace rs0 := rs0.mono hqe; replace rs1 := rs1.mono hqe; replace rs2 := rs2.mono hqe; replace fl0 := fl0.mono hqe
 replace hrl := hrl.mono hqe
 refine P1 T.ok rfl rfl rfl ?_; refine WL_nil ?_; (with_reducible refine T_then ?_); refine W_seq ?_; refine W_region ?_; refine P1 T.ok rfl rfl rfl ?_; refine WL_o rfl rfl (OpR_loadE T.ok 2 rfl ep0 rfl rfl ?_); refine P1 T.ok rfl rfl rfl ?_
 refine WL_o rfl rfl (OpR_make T.ok rfl hs rfl rfl rfl rfl rfl rfl (by decide) rfl (by show 1 * f.steps.length ≤ _; omega) (by unfold maxLen; omega) ?_); rintro ob g1 hs hqe; replace le0 := G.le.trans le0 hqe; replace ep0 := ep0.mono hqe; replace rs0 := rs0.mono hqe; replace rs1 := rs1.mono hqe; replace rs2 := rs2.mono hqe; replace fl0 := fl0.mono hqe
 replace hrl := hrl.mono hqe
 refine P1 T.ok rfl rfl rfl ?_; refine WL_nil ?_; (with_reducible refine T_then ?_); refine W_seq ?_; refine W_block ?_
 have hfl : (List.replicate f.steps.length [Value.bool false]).flatten = (List.replicate f.steps.length false).map Value.bool := by simp
 have hst : St g g1 [rowB ob f.steps.length (List.replicate f.steps.length false), rowL (.slice (some ⟨b3, 0, none⟩) 1 1) 1 [.slice (some ⟨b2, 0, none⟩) 1 1]] := by
  unfold rowB rowL; rw [← hfl]; exact hs
 clear hs
 have ep0c := ep0; have rs0c := rs0; have rs2c := rs2; have le4 := G.le.refl g1
 refine W_loop (fun m a' w => ∃ (q : List (List Int)) (cells : List Value) (seen : List Bool) (qv : Value) (g' : G), w = g'.w ∧ St g g' [rowB ob f.steps.length seen, rowL qv q.length cells] ∧ G.le g1 g' ∧ RcL g' cells q ∧
   m = q.length + seen.count false ∧ seen.length = f.steps.length ∧ (∀ l ∈ q, l ≠ [] ∧ 0 ≤ lastD l ∧ lastD l < f.steps.length ∧ l.length + m ≤ f.steps.length + 2) ∧
   cycGo f live first m q seen = cycle f live first ∧
   Fr 75 [] [(1, .slice a3 live.length c3), (2, .int .i64 first), (3, .pointer (some ⟨bf, 0, none⟩)), (7, qv), (8, .slice (some ⟨ob, 0, none⟩) f.steps.length f.steps.length)] a') (1 + f.steps.length)
  (fun a' ha => ⟨[[first]], _, _, _, g1, rfl, hst, le4, ⟨[_], [], rfl, ⟨_, rfl, hrl⟩, rfl⟩, by simp, by simp, by intro l hl; simp at hl; subst hl; refine ⟨by simp, h0, h1, by simp; omega⟩, rfl, ha.keep (by (repeat (first | exact trivial | refine ⟨rfl, ?_⟩)))⟩) ?_
 clear hst le0 le4
 rintro m a' _ ⟨q, cells, seen, qv, g', rfl, hs, le4, hrc, rfl, hsl, hq, hno, ha'⟩
 have ep0 := ep0c.mono le4; have rs0 := rs0c.mono le4; have rs2 := rs2c.mono le4
 obtain ⟨qa, qc, rfl⟩ := (hs.own 1 _ rfl).1.form
 revert a'
 (with_reducible refine T_wp ?_); refine W_seq ?_; refine W_seq ?_; refine W_region ?_; (iterate 3 refine P1 T.ok rfl rfl rfl ?_); refine WL_nil ?_; (with_reducible refine T_then ?_)
 cases q with
 | nil =>
  refine W_no (b := decide ((0 : Int) < ([] : List (List Int)).length)) (by simp) rfl ?_
  refine W_exit ?_; (with_reducible refine T_tx ?_; with_reducible refine T_tx ?_); (with_reducible refine T_bx ?_); (with_reducible refine T_then ?_); refine W_seq ?_; refine W_region ?_; refine P1 T.ok rfl rfl rfl ?_; refine WL_nil ?_; (with_reducible refine T_then ?_)
  refine W_ret (ret1 rfl rfl (hs.ret ?_))
  rw [← hno, cycGo]
  exact Rs.nil _
 | cons l rest =>
  refine W_yes (b := decide ((0 : Int) < (l :: rest).length)) (by simp) rfl ?_
  obtain ⟨_, cells2, rfl, ⟨vl, rfl, hrl⟩, hrest⟩ := hrc
  obtain ⟨hl0, hl1, hl2, hl3⟩ := hq l List.mem_cons_self
  have hlpos : 0 < l.length := List.length_pos_iff.2 hl0
  have hm1 : (l :: rest).length + seen.count false = (rest.length + seen.count false) + 1 := by simp; omega
  rw [hm1] at hno hl3
  rw [cycGo] at hno
  have hqc := (hs.own 1 _ rfl).1
  have hcap : (l :: rest).length ≤ qc := by
   rcases hqc.2 with ⟨h, _⟩ | ⟨b, p, cap, cur, e1, _, _, h2, _⟩
   ·simp at h
   ·simp only [Value.slice.injEq] at e1; omega
  refine W_skip ?_; (with_reducible refine T_then ?_); refine W_block ?_; refine W_seq ?_; refine W_region ?_; refine P1 T.ok rfl rfl rfl ?_
  refine WL_o rfl rfl (OpR_idxR T.ok rfl (hs.own 1 _ rfl).1 (by decide) (by simp) rfl rfl rfl rfl rfl rfl ?_)
  rintro bq pq rfl
  refine WL_o rfl rfl (OpR_loadR T.ok (Int.toNat 0 * 1) rfl (hs.own 1 _ rfl).1 rfl (v := vl) rfl ?_)
  refine P1 T.ok rfl rfl rfl ?_; refine WL_nil ?_; (with_reducible refine T_then ?_); refine W_seq ?_; refine W_region ?_; refine P1 T.ok rfl rfl rfl ?_
  refine WL_o rfl rfl (OpR_cut T.ok rfl rfl rfl rfl rfl (a := 1) (b := (l :: rest).length) ⟨_, rfl⟩ rfl (by simp) hcap ?_)
  replace hs := hs.cutFrom (i := 1) (a := 1) rfl (by simp)
  refine P1 T.ok rfl rfl rfl ?_; refine WL_nil ?_; (with_reducible refine T_then ?_); refine W_seq ?_
  obtain ⟨al, cl, rfl⟩ := hrl.isSlice
  have hll2 := hrl.len_le
  unfold maxLen at hll2
  have hlast : geti l (IntKind.i64.wrap ((l.length : Int) - 1)) = some (lastD l) := by
   rw [geti_of (j := l.length - 1) (by rw [wr (by omega) (by omega)]; omega) (by omega)]
   unfold lastD
   rw [List.getLastD_eq_getLast?, List.getLast?_eq_getElem?, List.getElem?_eq_getElem (by omega)]; rfl
  apply W_draw allF rfl (Fact.eq _ :: Fact.eq _ :: Fact.eq _ :: Fact.eq _ :: Fact.eq _ :: Fact.eq _ :: (intPtr (lastD l)) :: Fact.eq _ :: (stepPtr 0 (stepD f (lastD l))) :: (stepPtr 4 (stepD f (lastD l))) :: (Fact.rs (stepD f (lastD l)).next) :: Fact.eq _ :: Fact.eq _ :: []) 13 [(10, 37), (11, 38), (12, 39), (2, 29)] rfl rfl
  ·refine D_s (js := []) (by kernel_rfl) (fun _ _ => QA_nil (DPu T.ok rfl rfl rfl)) ?_
   refine D_s (js := [(0, 27)]) (by kernel_rfl) (fun _ hf => QA_eq rfl (QA_nil (DLe T.ok 2 rfl rfl (ep0.mono ((G.le_dr _).trans hf.le)) rfl rfl rfl))) ?_
   refine D_s (js := []) (by kernel_rfl) (fun _ _ => QA_nil (DPu T.ok rfl rfl rfl)) ?_
   refine D_s (js := []) (by kernel_rfl) (fun _ _ => QA_nil (DPu T.ok rfl rfl rfl)) ?_
   refine D_s (js := [(3, 30)]) (by kernel_rfl) (fun _ _ => QA_eq rfl (QA_nil (DPu T.ok rfl rfl rfl))) ?_
   refine D_s (js := [(4, 31)]) (by kernel_rfl) (fun _ _ => QA_eq rfl (QA_nil (DPu T.ok rfl rfl rfl))) ?_
   refine D_cons (D_step2 (js := [(2, 29), (5, 32)]) (by kernel_rfl) fun gd hf => ?_) ?_
   ·have hsd := hs.dr.call hf; have hfe := (G.le_dr _).trans hf.le
    refine QA_eq rfl ?_; refine QA_eq rfl ?_
    refine QA_nil ?_
    refine D_yes rfl ?_
    refine OpR_idx T.ok rfl (hrl.mono hfe) (y := lastD l) hlast rfl rfl rfl rfl rfl rfl ?_
    intro b p ys hep hrc
    exact ⟨_, rfl, Fr0.refl _, b, p, rfl, by rw [← show ys = [Value.int .i64 (lastD l)] from hrc]; exact hep⟩
   refine D_cons (D_step2 (js := [(6, 33)]) (by kernel_rfl) fun gd hf => ?_) ?_
   ·have hsd := hs.dr.call hf; have hfe := (G.le_dr _).trans hf.le
    refine QA_any fun v6 h6 => ?_
    refine QA_nil ?_
    obtain ⟨b, p, rfl, hep⟩ := h6
    refine D_yes rfl ?_
    refine OpR_loadE T.ok 0 rfl hep rfl rfl ?_
    refine ⟨_, rfl, Fr0.refl _, ?_⟩
    exact rfl
   refine D_cons (D_step2 (js := [(1, 28), (7, 34)]) (by kernel_rfl) fun gd hf => ?_) ?_
   ·have hsd := hs.dr.call hf; have hfe := (G.le_dr _).trans hf.le
    refine QA_eq rfl ?_; refine QA_eq rfl ?_
    refine QA_nil ?_
    refine D_yes rfl ?_
    refine OpR_idx T.ok rfl (rs0.mono hfe) (y := stepD f (lastD l)) (by unfold stepD; rw [geti_of (j := (lastD l).toNat) (by omega) (by omega)]; simp [List.getD_eq_getElem?_getD, show (lastD l).toNat < f.steps.length from by omega]) rfl rfl rfl rfl rfl rfl ?_
    intro b p ys hep hrc
    exact ⟨_, rfl, Fr0.refl _, b, p, ys, rfl, hep, hrc⟩
   refine D_cons (D_step2 (js := [(8, 35)]) (by kernel_rfl) fun gd hf => ?_) ?_
   ·have hsd := hs.dr.call hf; have hfe := (G.le_dr _).trans hf.le
    refine QA_any fun v8 h8 => ?_
    refine QA_nil ?_
    obtain ⟨b, p, ys, rfl, hep, hrc⟩ := h8
    refine D_yes rfl ?_
    refine OpR_pure _ T.ok rfl ?_
    exact ⟨_, rfl, Fr0.refl _, b, p, ys, rfl, hep, hrc⟩
   refine D_cons (D_step2 (js := [(9, 36)]) (by kernel_rfl) fun gd hf => ?_) ?_
   ·have hsd := hs.dr.call hf; have hfe := (G.le_dr _).trans hf.le
    refine QA_any fun v9 h9 => ?_
    refine QA_nil ?_
    obtain ⟨b, p, ys, rfl, hep, hrc⟩ := h9
    obtain ⟨b1, b2, b3, b4, b5, b6, rfl, hx1, hx2⟩ := hrc
    refine D_yes rfl ?_
    refine OpR_loadE T.ok 4 rfl hep rfl rfl ?_
    exact ⟨_, rfl, Fr0.refl _, hx2⟩
   refine D_cons (D_step2 (js := [(10, 37)]) (by kernel_rfl) fun gd hf => ?_) ?_
   ·have hsd := hs.dr.call hf; have hfe := (G.le_dr _).trans hf.le
    refine QA_any fun v10 h10 => ?_
    refine QA_nil ?_
    obtain ⟨a5, c5, rfl⟩ := Rs.isSlice h10
    refine D_yes rfl ?_
    refine OpR_pure _ T.ok rfl ?_
    refine ⟨_, rfl, Fr0.refl _, ?_⟩
    exact rfl
   refine D_s (js := []) (by kernel_rfl) (fun _ _ => QA_nil (DPu T.ok rfl rfl rfl)) ?_
   exact D_nil
  intro g1 hf1; refine QA_any fun v10 h10 => ?_; refine QA_eq rfl ?_; refine QA_eq rfl ?_; refine QA_eq rfl ?_; refine QA_nil ?_
  replace hs := hs.dr.call hf1; have hqe := (G.le_dr _).trans hf1.le; replace le4 := G.le.trans le4 hqe; replace ep0 := ep0.mono hqe; replace rs0 := rs0.mono hqe; replace rs2 := rs2.mono hqe
  replace hrl := hrl.mono hqe
  replace hrest := hrest.mono hqe
  have rs3 : Rs g1 v10 (stepD f (lastD l)).next := h10
  obtain ⟨a5, c5, rfl⟩ := rs3.isSlice
  have hnx := right_next (valid_step hval hl1 hl2)
  have hnx4 := rightStep_next (valid_step hval hl1 hl2)
  generalize hnxe : (stepD f (lastD l)).next = nx at *
  have hrlc := hrl; have rs0d := rs0; have rs2d := rs2; have rs3c := rs3; have ep0d := ep0
  have le5 := G.le.refl g1
  refine WL_nil ?_; (with_reducible refine T_then ?_); refine W_block ?_
  refine W_loop (fun m a' w => ∃ (k : Nat) (q' : List (List Int)) (cells' : List Value) (seen' : List Bool) (qv' : Value) (g' : G), w = g'.w ∧ St g g' [rowB ob f.steps.length seen', rowL qv' q'.length cells'] ∧ G.le g1 g' ∧ RcL g' cells' q' ∧
    k ≤ nx.length ∧ m = nx.length - k ∧ seen'.length = f.steps.length ∧ q'.length + seen'.count false = rest.length + seen.count false ∧
    (∀ l' ∈ q', l' ≠ [] ∧ 0 ≤ lastD l' ∧ lastD l' < f.steps.length ∧ l'.length + (rest.length + seen.count false) ≤ f.steps.length + 2) ∧
    cycScan live first l (nx.drop k) q' seen' = cycScan live first l nx rest seen ∧
    Fr 75 [] [(1, .slice a3 live.length c3), (2, .int .i64 first), (3, .pointer (some ⟨bf, 0, none⟩)), (7, qv'), (8, .slice (some ⟨ob, 0, none⟩) f.steps.length f.steps.length), (9, .slice al l.length cl), (37, .slice a5 nx.length c5), (38, .int .i64 nx.length), (39, .int .i64 k)] a') nx.length
   (fun a' ha => ⟨0, rest, cells2, seen, _, g1, rfl, hs, le5, hrest, Nat.zero_le _, rfl, hsl, rfl, fun l' hl' => ?_, by rw [List.drop_zero], ha.keep (by (repeat (first | exact trivial | refine ⟨rfl, ?_⟩)))⟩) ?_
  ·obtain ⟨x1, x2, x3, x4⟩ := hq l' (List.mem_cons_of_mem _ hl')
   exact ⟨x1, x2, x3, by rw [hm1] at x4; omega⟩
  clear hs le5 hrest hrl rs0 rs2 rs3 ep0
  rintro m a' _ ⟨k, q', cells', seen', qv', g', rfl, hs, le5, hrc', hk, rfl, hsl', hcnt, hq', hsc, ha'⟩
  have ep0 := ep0d.mono le5; have rs0 := rs0d.mono le5; have rs2 := rs2d.mono le5; have rs3 := rs3c.mono le5; have rs1 := hrlc.mono le5
  obtain ⟨qa', qc', rfl⟩ := (hs.own 1 _ rfl).1.form
  revert a'
  (with_reducible refine T_wp ?_); refine W_seq ?_; refine W_region ?_; refine P1 T.ok rfl rfl rfl ?_; refine WL_nil ?_; (with_reducible refine T_then ?_); refine W_seq ?_
  by_cases hlt : k < nx.length
  ·refine W_yes (b := decide ((k : Int) < (nx.length : Int))) (by simp; omega) rfl ?_
   rw [List.drop_eq_getElem_cons hlt, cycScan] at hsc
   obtain ⟨hn0, hn1⟩ := hnx nx[k] (List.getElem_mem hlt)
   refine W_skip ?_; (with_reducible refine T_then ?_); refine W_seq ?_; refine W_block ?_; refine W_seq ?_; refine W_region ?_
   refine WL_o rfl rfl (OpR_idx T.ok rfl rs3 (y := nx[k]) (by simp [geti, hlt]) rfl rfl rfl rfl rfl rfl ?_)
   rintro b p ys hep rfl
   refine WL_o rfl rfl (OpR_loadE T.ok 0 rfl hep rfl rfl ?_)
   refine P1 T.ok rfl rfl rfl ?_; refine WL_nil ?_; (with_reducible refine T_then ?_); refine W_seq ?_; refine W_seq ?_; refine W_region ?_; (iterate 3 refine P1 T.ok rfl rfl rfl ?_); refine WL_nil ?_; (with_reducible refine T_then ?_)
   by_cases hnf : nx[k] = first
   ·refine W_yes (b := nx[k] == first) (by simp [hnf]) rfl ?_
    rw [if_pos hnf] at hsc
    refine W_seq ?_; refine W_region ?_; refine P1 T.ok rfl rfl rfl ?_; refine P1 T.ok rfl rfl rfl ?_; refine WL_nil ?_; (with_reducible refine T_then ?_)
    refine W_ret (ret1 rfl rfl (hs.ret ?_))
    rw [← hsc] at hno
    rw [← hno]
    exact rs1
   ·refine W_no (b := nx[k] == first) (by simp [hnf]) rfl ?_
    rw [if_neg hnf] at hsc
    have hnl : nx[k].toNat < live.length := by omega
    have hns : nx[k].toNat < seen'.length := by omega
    have hlg : live.getD nx[k].toNat false = live[nx[k].toNat] := by rw [List.getD_eq_getElem?_getD, List.getElem?_eq_getElem hnl]; rfl
    have hsg : seen'.getD nx[k].toNat true = seen'[nx[k].toNat] := by rw [List.getD_eq_getElem?_getD, List.getElem?_eq_getElem hns]; rfl
    rw [hlg, hsg] at hsc
    refine W_skip ?_; (with_reducible refine T_then ?_); refine W_seq ?_; refine W_region ?_; (iterate 4 refine P1 T.ok rfl rfl rfl ?_)
    refine WL_seg (want := true) (x := live[nx[k].toNat]) 4 allF rfl rfl rfl rfl (.inl ⟨rfl, rfl, rfl⟩) rfl rfl rfl rfl (fun hb Q' hQ' => ?_) (fun g' hf => ?_)
    ·refine P1 T.ok rfl rfl rfl ?_; refine P1 T.ok rfl rfl rfl ?_
     refine WL_o rfl rfl (OpR_idx T.ok rfl rs2 (y := live[nx[k].toNat]) (geti_of (by omega) hnl) rfl rfl rfl rfl rfl rfl ?_)
     rintro b p ys hep rfl
     refine WL_o rfl rfl (OpR_loadE T.ok 0 rfl hep rfl rfl ?_)
     refine WL_nil ?_
     exact fun a ha => hQ' _ a (Fr0.refl _) (ha.keep (by (repeat (first | exact trivial | refine ⟨rfl, ?_⟩))))
    replace hs := hs.call hf; have hqe := hf.le; replace ep0 := ep0.mono hqe; replace rs0 := rs0.mono hqe; replace rs1 := rs1.mono hqe; replace rs2 := rs2.mono hqe; replace rs3 := rs3.mono hqe
    replace hrc' := hrc'.mono hqe; replace le5 := le5.trans hqe
    refine P1 T.ok rfl rfl rfl ?_
    refine WL_seg (want := true) (x := !seen'[nx[k].toNat]) 5 allF rfl rfl rfl rfl (.inl ⟨rfl, rfl, rfl⟩) rfl rfl rfl rfl (fun hb Q' hQ' => ?_) (fun g' hf => ?_)
    ·refine P1 T.ok rfl rfl rfl ?_; refine P1 T.ok rfl rfl rfl ?_
     refine WL_o rfl rfl (OpR_idxR T.ok rfl (hs.own 0 _ rfl).1 hn0 (by omega) rfl rfl rfl rfl rfl rfl ?_)
     rintro b p hh; obtain ⟨rfl, rfl⟩ : ob = b ∧ 0 = p := by simpa using hh
     refine WL_o rfl rfl (OpR_loadR T.ok (nx[k].toNat * 1) rfl (hs.own 0 _ rfl).1 rfl (v := .bool (seen'[nx[k].toNat])) (by show (List.map Value.bool _)[nx[k].toNat * 1]? = _; rw [Nat.mul_one, List.getElem?_map, List.getElem?_eq_getElem hns]; rfl) ?_)
     refine P1 T.ok rfl rfl rfl ?_; refine WL_nil ?_
     exact fun a ha => hQ' _ a (Fr0.refl _) (ha.keep (by (repeat (first | exact trivial | refine ⟨rfl, ?_⟩))))
    replace hs := hs.call hf; have hqe := hf.le; replace ep0 := ep0.mono hqe; replace rs0 := rs0.mono hqe; replace rs1 := rs1.mono hqe; replace rs2 := rs2.mono hqe; replace rs3 := rs3.mono hqe
    replace hrc' := hrc'.mono hqe; replace le5 := le5.trans hqe
    refine WL_nil ?_; (with_reducible refine T_then ?_)
    by_cases hgo : first < nx[k] ∧ live[nx[k].toNat] = true ∧ seen'[nx[k].toNat] = false
    ·refine W_yes (b := (decide (first < nx[k]) && live[nx[k].toNat]) && !seen'[nx[k].toNat]) (by simp [hgo]) rfl ?_
     rw [if_pos hgo] at hsc
     have hll9 := hl3
     refine W_seq ?_; refine W_region ?_; refine P1 T.ok rfl rfl rfl ?_; refine P1 T.ok rfl rfl rfl ?_
     refine WL_o rfl rfl (OpR_idxR T.ok rfl (hs.own 0 _ rfl).1 hn0 (by omega) rfl rfl rfl rfl rfl rfl ?_)
     rintro b p hh; obtain ⟨rfl, rfl⟩ : ob = b ∧ 0 = p := by simpa using hh
     refine WL_n rfl (OpR_storeR T.ok 0 (nx[k].toNat * 1) (us := [.bool true]) rfl hs rfl rfl rfl rfl rfl rfl rfl (by decide) (by simp; omega) (xs' := (seen'.set nx[k].toNat true).map Value.bool) ?_ ?_)
     ·rw [Nat.mul_one, List.map_set]
      unfold spl
      rw [List.set_eq_take_append_cons_drop]
      simp [hns]
     rintro g5 hs hqe; replace ep0 := ep0.mono hqe; replace rs0 := rs0.mono hqe; replace rs1 := rs1.mono hqe; replace rs2 := rs2.mono hqe; replace rs3 := rs3.mono hqe
     replace hrc' := hrc'.mono hqe; replace le5 := le5.trans hqe
     refine WL_nil ?_; (with_reducible refine T_then ?_); refine W_region ?_; refine P1 T.ok rfl rfl rfl ?_; refine P1 T.ok rfl rfl rfl ?_
     refine WL_o rfl rfl (OpR_ret cl34 allF rfl rfl rfl rfl rfl (clone_c _ l _ rs1 (by omega)) ?_); rintro g6 v hf6 ⟨cellsC, ho1, ho2⟩
     replace hs := hs.getOwn hf6 ho1
     have hqe := hf6.le; replace ep0 := ep0.mono hqe; replace rs0 := rs0.mono hqe; replace rs1 := rs1.mono hqe; replace rs2 := rs2.mono hqe; replace rs3 := rs3.mono hqe
     replace hrc' := hrc'.mono hqe; replace le5 := le5.trans hqe
     obtain ⟨ca, cc, rfl⟩ := (hs.own 0 _ rfl).1.form
     refine P1 T.ok rfl rfl rfl ?_
     refine WL_o rfl rfl (OpR_lit T.ok rfl hs (vs := [(0, .int .i64 nx[k])]) (cells := [.int .i64 nx[k]]) rfl rfl rfl rfl rfl rfl (by decide) (by decide) (by kernel_rfl) rfl ?_); rintro b2 g7 hs hqe; replace ep0 := ep0.mono hqe; replace rs0 := rs0.mono hqe; replace rs1 := rs1.mono hqe; replace rs2 := rs2.mono hqe; replace rs3 := rs3.mono hqe
     replace hrc' := hrc'.mono hqe; replace le5 := le5.trans hqe; replace ho2 := ho2.mono hqe
     skip
     refine WL_o rfl rfl (OpR_append T.ok 1 rfl hs rfl rfl rfl rfl rfl rfl rfl (by decide) rfl (Src.of_row (hs.own 0 _ rfl).1).2 (by simp [Value.oneCell']) (by show (l.length + 1) * 8 ≤ _; omega) (by unfold maxLen; omega) ?_); rintro a' c' g8 hs hqe; replace ep0 := ep0.mono hqe; replace rs0 := rs0.mono hqe; replace rs1 := rs1.mono hqe; replace rs2 := rs2.mono hqe; replace rs3 := rs3.mono hqe
     replace hrc' := hrc'.mono hqe; replace le5 := le5.trans hqe; replace ho2 := ho2.mono hqe
     obtain ⟨g9, hw9, hs9, hqe9, hrn⟩ := hs.fzRow (α := Int) (xs := l ++ [nx[k]]) (i := 1) rfl (RcL.app (RcL.ints _ [nx[k]]) ho2)
     clear hqe; have hqe := hqe9; rw [← hw9]; replace hs := hs9; replace ep0 := ep0.mono hqe; replace rs0 := rs0.mono hqe; replace rs1 := rs1.mono hqe; replace rs2 := rs2.mono hqe; replace rs3 := rs3.mono hqe
     replace hrc' := hrc'.mono hqe; replace le5 := le5.trans hqe
     skip
     refine WL_o rfl rfl (OpR_lit T.ok rfl hs (vs := [(0, .slice a' (l.length + 1) c')]) (cells := [.slice a' (l.length + 1) c']) rfl rfl rfl rfl rfl rfl (by decide) (by decide) (by kernel_rfl) rfl ?_); rintro b3 g10 hs hqe; replace ep0 := ep0.mono hqe; replace rs0 := rs0.mono hqe; replace rs1 := rs1.mono hqe; replace rs2 := rs2.mono hqe; replace rs3 := rs3.mono hqe
     replace hrc' := hrc'.mono hqe; replace le5 := le5.trans hqe; replace hrn := hrn.mono hqe
     skip
     have hcs : seen'.count false ≤ seen'.length := List.count_le_length
     refine WL_o rfl rfl (OpR_append T.ok 3 rfl hs rfl rfl rfl rfl rfl rfl rfl (by decide) rfl (Src.of_row (hs.own 0 _ rfl).1).2 (by simp [Value.oneCell']) (by show (q'.length + 1) * 24 ≤ _; omega) (by unfold maxLen; omega) ?_); rintro a9 c9 g11 hs hqe; replace ep0 := ep0.mono hqe; replace rs0 := rs0.mono hqe; replace rs1 := rs1.mono hqe; replace rs2 := rs2.mono hqe; replace rs3 := rs3.mono hqe
     replace hrc' := hrc'.mono hqe; replace le5 := le5.trans hqe; replace hrn := hrn.mono hqe
     refine P1 T.ok rfl rfl rfl ?_; refine WL_nil ?_; (with_reducible refine T_bn ?_); (with_reducible refine T_then ?_); refine W_region ?_; refine P1 T.ok rfl rfl rfl ?_; refine P1 T.ok rfl rfl rfl ?_; refine WL_nil ?_
     have hap : RcL g11 (cells' ++ [Value.slice a' (l.length + 1) c']) (q' ++ [l ++ [nx[k]]]) := RcL.app (α := List Int) (ys := [l ++ [nx[k]]]) (ds := [Value.slice a' (l.length + 1) c']) ⟨[Value.slice a' (l.length + 1) c'], [], rfl, (show ∃ v, [Value.slice a' (l.length + 1) c'] = [v] ∧ Rs g11 v (l ++ [nx[k]]) from ⟨_, rfl, hrn⟩), rfl⟩ hrc'
     refine fun a ha => ⟨nx.length - (k + 1), by omega, k + 1, q' ++ [l ++ [nx[k]]], cells' ++ [.slice a' (l.length + 1) c'], seen'.set nx[k].toNat true, .slice a9 (q'.length + 1) c9, _, rfl, ?_, le5,
      hap, by omega, rfl, by simp [hsl'], ?_, ?_, hsc, ha.keep ⟨rfl, rfl, rfl, rfl, rfl, rfl, rfl, rfl, kI rfl (by rw [wr (by omega) (by omega)]; omega), trivial⟩⟩
     ·have hd := (hs.drop 0).drop 0
      have : (q' ++ [l ++ [nx[k]]]).length = q'.length + 1 := by simp
      rw [this]
      exact hd
     ·have := count_set_lt (o := seen') (i := nx[k].toNat) (by rw [List.getElem?_eq_getElem hns, hgo.2.2])
      simp; omega
     ·intro l' hl'
      rcases List.mem_append.1 hl' with h | h
      ·exact hq' l' h
      ·simp at h; subst h
       refine ⟨by simp, ?_, ?_, by simp; omega⟩
       ·simpa [lastD] using hn0
       ·simpa [lastD] using hn1
    ·refine W_no (b := (decide (first < nx[k]) && live[nx[k].toNat]) && !seen'[nx[k].toNat]) ?_ rfl ?_
     ·rw [Bool.eq_false_iff]; intro h; simp only [Bool.and_eq_true, decide_eq_true_eq, Bool.not_eq_true'] at h; exact hgo ⟨h.1.1, h.1.2, h.2⟩
     rw [if_neg hgo] at hsc
     refine W_skip ?_; (with_reducible refine T_bn ?_); (with_reducible refine T_then ?_); refine W_region ?_; refine P1 T.ok rfl rfl rfl ?_; refine P1 T.ok rfl rfl rfl ?_; refine WL_nil ?_
     exact fun a ha => ⟨nx.length - (k + 1), by omega, k + 1, q', cells', seen', _, _, rfl, hs, le5, hrc', by omega, rfl, hsl', hcnt, hq', hsc, ha.keep ⟨rfl, rfl, rfl, rfl, rfl, rfl, rfl, rfl, kI rfl (by rw [wr (by omega) (by omega)]; omega), trivial⟩⟩
  ·refine W_no (b := decide ((k : Int) < (nx.length : Int))) (by simp; omega) rfl ?_
   obtain rfl : k = nx.length := by omega
   rw [List.drop_length, cycScan] at hsc
   refine W_exit ?_; (with_reducible refine T_tx ?_; with_reducible refine T_tx ?_); (with_reducible refine T_bx ?_); (with_reducible refine T_bn ?_)
   rw [← hsc] at hno
   exact fun a ha => ⟨_, by rw [hm1]; exact Nat.lt_succ_self _, q', cells', seen', _, _, rfl, hs, le4.trans le5, hrc', hcnt.symm, hsl', hq', hno, ha.keep (by (repeat (first | exact trivial | refine ⟨rfl, ?_⟩)))⟩
end Go.Proofs.YtnggomfbgmlkhaaGreatDoor

/- The walks through package graph: the order of ways. -/
namespace Go.Proofs.YtnggomfbgmlkhaaGreatDoor
open Go Go.K
set_option maxRecDepth 10000
attribute [local irreducible] W WL OpR bitAnd bitOr bitXor bitClr bitNot shlI shrI
set_option maxHeartbeats 2000000

theorem isNaN_c (n : Int) (g : G) : CallsIn Wd 0 Tryz.prog 93 #[.int .i64 n] g.w (Ret g fun _ r => r = .bool false) := by
 have hs := St.start g
 refine enter Tryz.func93 rfl Tryz.ntmps93 rfl ?_
 refine W_seq ?_; refine W_region ?_; refine P1 T.ok rfl rfl rfl ?_; refine WL_nil ?_; (with_reducible refine T_then ?_); refine W_seq ?_; refine W_region ?_; (iterate 4 refine P1 T.ok rfl rfl rfl ?_); refine WL_nil ?_; (with_reducible refine T_then ?_)
 exact W_ret (ret1 rfl rfl (hs.ret (by simp)))

theorem compare_c (m n : Int) (g : G) : CallsIn Wd 0 Tryz.prog 80 #[.int .i64 m, .int .i64 n] g.w (Ret g fun _ r => r = .int .i64 (cmpI m n)) := by
 have hs := St.start g
 refine enter Tryz.func80 rfl Tryz.ntmps80 rfl ?_
 refine W_seq ?_; refine W_region ?_; refine P1 T.ok rfl rfl rfl ?_; refine WL_nil ?_; (with_reducible refine T_then ?_); refine W_seq ?_; refine W_region ?_; refine P1 T.ok rfl rfl rfl ?_
 refine WL_o rfl rfl (OpR_ret cl93 allF rfl rfl rfl rfl rfl (isNaN_c _ _) ?_); rintro g1 _ hf1 rfl; replace hs := hs.call hf1; have hqe := hf1.le; skip
 refine P1 T.ok rfl rfl rfl ?_; refine WL_nil ?_; (with_reducible refine T_then ?_); refine W_seq ?_; refine W_region ?_; refine P1 T.ok rfl rfl rfl ?_
 refine WL_o rfl rfl (OpR_ret cl93 allF rfl rfl rfl rfl rfl (isNaN_c _ _) ?_); rintro g1 _ hf1 rfl; replace hs := hs.call hf1; have hqe := hf1.le; skip
 refine P1 T.ok rfl rfl rfl ?_; refine WL_nil ?_; (with_reducible refine T_then ?_); refine W_seq ?_; refine W_seq ?_; refine W_region ?_; refine P1 T.ok rfl rfl rfl ?_; refine WL_nil ?_; (with_reducible refine T_then ?_)
 refine W_no rfl rfl ?_
 refine W_skip ?_; (with_reducible refine T_then ?_); refine W_seq ?_; refine W_seq ?_; refine W_region ?_; refine P1 T.ok rfl rfl rfl ?_; refine WL_nil ?_; (with_reducible refine T_then ?_)
 refine W_no rfl rfl ?_
 refine W_skip ?_; (with_reducible refine T_then ?_); refine W_seq ?_; refine W_seq ?_; refine W_region ?_; (iterate 3 refine P1 T.ok rfl rfl rfl ?_); refine WL_nil ?_; (with_reducible refine T_then ?_)
 by_cases h1 : m < n
 ·refine W_yes (b := decide (m < n)) (by simp [h1]) rfl ?_
  refine W_seq ?_; refine W_region ?_; refine P1 T.ok rfl rfl rfl ?_; refine WL_nil ?_; (with_reducible refine T_then ?_)
  exact W_ret (ret1 rfl rfl (hs.ret (by simp [cmpI, h1])))
 ·refine W_no (b := decide (m < n)) (by simp [h1]) rfl ?_
  refine W_skip ?_; (with_reducible refine T_then ?_); refine W_seq ?_; refine W_seq ?_; refine W_region ?_; (iterate 3 refine P1 T.ok rfl rfl rfl ?_); refine WL_nil ?_; (with_reducible refine T_then ?_)
  by_cases h2 : n < m
  ·refine W_yes (b := decide (n < m)) (by simp [h2]) rfl ?_
   refine W_seq ?_; refine W_region ?_; refine P1 T.ok rfl rfl rfl ?_; refine WL_nil ?_; (with_reducible refine T_then ?_)
   exact W_ret (ret1 rfl rfl (hs.ret (by simp [cmpI, h1, h2])))
  ·refine W_no (b := decide (n < m)) (by simp [h2]) rfl ?_
   refine W_skip ?_; (with_reducible refine T_then ?_); refine W_seq ?_; refine W_region ?_; refine P1 T.ok rfl rfl rfl ?_; refine WL_nil ?_; (with_reducible refine T_then ?_)
   exact W_ret (ret1 rfl rfl (hs.ret (by simp [cmpI, h1, h2])))

theorem or_c (v : Value) (l : List Int) (g : G) (rs0 : Rs g v l) : CallsIn Wd 0 Tryz.prog 79 #[v] g.w (Ret g fun _ r => r = .int .i64 (orI l)) := by
 obtain ⟨a, c, rfl⟩ := rs0.isSlice
 have hlen := rs0.len_le
 unfold maxLen at hlen
 have hs := St.start g
 refine enter Tryz.func79 rfl Tryz.ntmps79 rfl ?_
 refine W_seq ?_; refine W_region ?_; refine P1 T.ok rfl rfl rfl ?_; refine WL_nil ?_; (with_reducible refine T_then ?_); refine W_seq ?_; refine W_region ?_; refine P1 T.ok rfl rfl rfl ?_; refine WL_nil ?_; (with_reducible refine T_then ?_); refine W_seq ?_; refine W_seq ?_; refine W_region ?_; (iterate 3 refine P1 T.ok rfl rfl rfl ?_); refine WL_nil ?_; (with_reducible refine T_then ?_); refine W_block ?_
 refine W_loop (fun m a' w => ∃ (k : Nat), w = g.w ∧ k ≤ l.length ∧ m = l.length - k ∧ orI (l.drop k) = orI l ∧
  Fr 18 [] [(3, .int .i64 0), (6, .slice a l.length c), (7, .int .i64 l.length), (8, .int .i64 k)] a') l.length (fun a' ha => ⟨0, rfl, Nat.zero_le _, rfl, rfl, ha.keep (by (repeat (first | exact trivial | refine ⟨rfl, ?_⟩)))⟩) ?_
 rintro m a' _ ⟨k, rfl, hk, rfl, hno, ha'⟩
 revert a'
 (with_reducible refine T_wp ?_); refine W_seq ?_; refine W_region ?_; refine P1 T.ok rfl rfl rfl ?_; refine WL_nil ?_; (with_reducible refine T_then ?_); refine W_seq ?_
 by_cases hlt : k < l.length
 ·refine W_yes (b := decide ((k : Int) < (l.length : Int))) (by simp; omega) rfl ?_
  rw [List.drop_eq_getElem_cons hlt, orI] at hno
  refine W_skip ?_; (with_reducible refine T_then ?_); refine W_seq ?_; refine W_block ?_; refine W_seq ?_; refine W_region ?_
  refine WL_o rfl rfl (OpR_idx T.ok rfl rs0 (y := l[k]) (by simp [geti, hlt]) rfl rfl rfl rfl rfl rfl ?_)
  rintro b p ys hep rfl
  refine WL_o rfl rfl (OpR_loadE T.ok 0 rfl hep rfl rfl ?_)
  refine P1 T.ok rfl rfl rfl ?_; refine WL_nil ?_; (with_reducible refine T_then ?_); refine W_seq ?_; refine W_region ?_; (iterate 3 refine P1 T.ok rfl rfl rfl ?_); refine WL_nil ?_; (with_reducible refine T_then ?_)
  by_cases hz : l[k] = 0
  ·refine W_no (b := l[k] != 0) (by simp [hz]) rfl ?_
   rw [if_pos hz] at hno
   refine W_skip ?_; (with_reducible refine T_bn ?_); (with_reducible refine T_then ?_); refine W_region ?_; refine P1 T.ok rfl rfl rfl ?_; refine P1 T.ok rfl rfl rfl ?_; refine WL_nil ?_
   exact fun a ha => ⟨l.length - (k + 1), by omega, k + 1, rfl, by omega, rfl, hno, ha.keep ⟨rfl, rfl, rfl, kI rfl (by rw [wr (by omega) (by omega)]; omega), trivial⟩⟩
  ·refine W_yes (b := l[k] != 0) (by simp [hz]) rfl ?_
   rw [if_neg hz] at hno
   refine W_seq ?_; refine W_region ?_; refine P1 T.ok rfl rfl rfl ?_; refine P1 T.ok rfl rfl rfl ?_; refine WL_nil ?_; (with_reducible refine T_then ?_)
   exact W_ret (ret1 rfl rfl (hs.ret (by rw [hno])))
 ·refine W_no (b := decide ((k : Int) < (l.length : Int))) (by simp; omega) rfl ?_
  obtain rfl : k = l.length := by omega
  refine W_exit ?_; (with_reducible refine T_tx ?_; with_reducible refine T_tx ?_); (with_reducible refine T_bx ?_); (with_reducible refine T_then ?_); refine W_seq ?_; refine W_region ?_; refine P1 T.ok rfl rfl rfl ?_; refine P1 T.ok rfl rfl rfl ?_; refine WL_nil ?_; (with_reducible refine T_then ?_)
  rw [List.drop_length, orI] at hno
  exact W_ret (ret1 rfl rfl (hs.ret (by rw [← hno])))

theorem compareL_c (v u : Value) (l r : List Int) (g : G) (rs0 : Rs g v l) (rs1 : Rs g u r) : CallsIn Wd 0 Tryz.prog 81 #[v, u] g.w (Ret g fun _ x => x = .int .i64 (cmpL l r)) := by
 obtain ⟨a, c, rfl⟩ := rs0.isSlice
 obtain ⟨a2, c2, rfl⟩ := rs1.isSlice
 have hlen := rs0.len_le
 have hlen2 := rs1.len_le
 unfold maxLen at hlen hlen2
 have hs := St.start g
 have rs0c := rs0; have rs1c := rs1
 refine enter Tryz.func81 rfl Tryz.ntmps81 rfl ?_
 refine W_seq ?_; refine W_region ?_; refine P1 T.ok rfl rfl rfl ?_; refine WL_nil ?_; (with_reducible refine T_then ?_); refine W_seq ?_; refine W_seq ?_; refine W_region ?_; (iterate 3 refine P1 T.ok rfl rfl rfl ?_); refine WL_nil ?_; (with_reducible refine T_then ?_); refine W_block ?_
 refine W_loop (fun m a' w => ∃ (k : Nat) (g' : G), w = g'.w ∧ St g g' [] ∧ G.le g g' ∧ k ≤ l.length ∧ k ≤ r.length ∧ m = l.length - k ∧ cmpL (l.drop k) (r.drop k) = cmpL l r ∧
  Fr 36 [] [(0, .slice a l.length c), (1, .slice a2 r.length c2), (9, .slice a l.length c), (10, .int .i64 l.length), (11, .int .i64 k)] a') l.length (fun a' ha => ⟨0, g, rfl, hs, G.le.refl g, Nat.zero_le _, Nat.zero_le _, rfl, rfl, ha.keep (by (repeat (first | exact trivial | refine ⟨rfl, ?_⟩)))⟩) ?_
 clear hs
 rintro m a' _ ⟨k, g', rfl, hs, le0, hk, hk2, rfl, hno, ha'⟩
 have rs0 := rs0c.mono le0; have rs1 := rs1c.mono le0
 revert a'
 (with_reducible refine T_wp ?_); refine W_seq ?_; refine W_region ?_; refine P1 T.ok rfl rfl rfl ?_; refine WL_nil ?_; (with_reducible refine T_then ?_); refine W_seq ?_
 by_cases hlt : k < l.length
 ·refine W_yes (b := decide ((k : Int) < (l.length : Int))) (by simp; omega) rfl ?_
  refine W_skip ?_; (with_reducible refine T_then ?_); refine W_seq ?_; refine W_block ?_; refine W_seq ?_; refine W_region ?_; refine P1 T.ok rfl rfl rfl ?_
  refine WL_o rfl rfl (OpR_idx T.ok rfl rs0 (y := l[k]) (by simp [geti, hlt]) rfl rfl rfl rfl rfl rfl ?_)
  rintro b p ys hep rfl
  refine WL_o rfl rfl (OpR_loadE T.ok 0 rfl hep rfl rfl ?_)
  refine P1 T.ok rfl rfl rfl ?_; refine P1 T.ok rfl rfl rfl ?_; refine WL_nil ?_; (with_reducible refine T_then ?_); refine W_seq ?_; refine W_seq ?_; refine W_region ?_; (iterate 4 refine P1 T.ok rfl rfl rfl ?_); refine WL_nil ?_; (with_reducible refine T_then ?_)
  by_cases hge : r.length ≤ k
  ·refine W_yes (b := decide ((r.length : Int) ≤ (k : Int))) (by simp; omega) rfl ?_
   refine W_seq ?_; refine W_region ?_; refine P1 T.ok rfl rfl rfl ?_; refine WL_nil ?_; (with_reducible refine T_then ?_)
   refine W_ret (ret1 rfl rfl (hs.ret ?_))
   rw [← hno, List.drop_eq_getElem_cons hlt, List.drop_of_length_le hge, cmpL]
  ·have hlt2 : k < r.length := by omega
   refine W_no (b := decide ((r.length : Int) ≤ (k : Int))) (by simp; omega) rfl ?_
   rw [List.drop_eq_getElem_cons hlt, List.drop_eq_getElem_cons hlt2, cmpL] at hno
   refine W_skip ?_; (with_reducible refine T_then ?_); refine W_seq ?_; refine W_region ?_; refine P1 T.ok rfl rfl rfl ?_; refine P1 T.ok rfl rfl rfl ?_
   refine WL_o rfl rfl (OpR_idx T.ok rfl rs1 (y := r[k]) (by simp [geti, hlt2]) rfl rfl rfl rfl rfl rfl ?_)
   rintro b p ys hep rfl
   refine WL_o rfl rfl (OpR_loadE T.ok 0 rfl hep rfl rfl ?_)
   refine P1 T.ok rfl rfl rfl ?_; refine WL_nil ?_; (with_reducible refine T_then ?_); refine W_seq ?_; refine W_region ?_; refine P1 T.ok rfl rfl rfl ?_; refine P1 T.ok rfl rfl rfl ?_
   refine WL_o rfl rfl (OpR_ret cl80 allF rfl rfl rfl rfl rfl (compare_c _ _ _) ?_); rintro g1 _ hf1 rfl; replace hs := hs.call hf1; have hqe := hf1.le; replace le0 := G.le.trans le0 hqe; replace rs0 := rs0.mono hqe; replace rs1 := rs1.mono hqe
   refine P1 T.ok rfl rfl rfl ?_; refine WL_nil ?_; (with_reducible refine T_then ?_); refine W_seq ?_; refine W_region ?_; refine P1 T.ok rfl rfl rfl ?_; refine P1 T.ok rfl rfl rfl ?_; refine WL_nil ?_; (with_reducible refine T_then ?_)
   by_cases hz : cmpI l[k] r[k] = 0
   ·refine W_no (b := cmpI l[k] r[k] != 0) (by simp [hz]) rfl ?_
    rw [if_pos hz] at hno
    refine W_skip ?_; (with_reducible refine T_bn ?_); (with_reducible refine T_then ?_); refine W_region ?_; refine P1 T.ok rfl rfl rfl ?_; refine P1 T.ok rfl rfl rfl ?_; refine WL_nil ?_
    exact fun a ha => ⟨l.length - (k + 1), by omega, k + 1, _, rfl, hs, le0, by omega, by omega, rfl, hno, ha.keep ⟨rfl, rfl, rfl, rfl, kI rfl (by rw [wr (by omega) (by omega)]; omega), trivial⟩⟩
   ·refine W_yes (b := cmpI l[k] r[k] != 0) (by simp [hz]) rfl ?_
    rw [if_neg hz] at hno
    refine W_seq ?_; refine W_region ?_; refine P1 T.ok rfl rfl rfl ?_; refine P1 T.ok rfl rfl rfl ?_; refine WL_nil ?_; (with_reducible refine T_then ?_)
    exact W_ret (ret1 rfl rfl (hs.ret (by rw [hno])))
 ·refine W_no (b := decide ((k : Int) < (l.length : Int))) (by simp; omega) rfl ?_
  obtain rfl : k = l.length := by omega
  refine W_exit ?_; (with_reducible refine T_tx ?_; with_reducible refine T_tx ?_); (with_reducible refine T_bx ?_); (with_reducible refine T_then ?_); refine W_seq ?_; refine W_seq ?_; refine W_region ?_; (iterate 5 refine P1 T.ok rfl rfl rfl ?_); refine WL_nil ?_; (with_reducible refine T_then ?_)
  rw [List.drop_length] at hno
  by_cases hr : l.length < r.length
  ·refine W_yes (b := decide ((l.length : Int) < (r.length : Int))) (by simp; omega) rfl ?_
   refine W_seq ?_; refine W_region ?_; refine P1 T.ok rfl rfl rfl ?_; refine WL_nil ?_; (with_reducible refine T_then ?_)
   refine W_ret (ret1 rfl rfl (hs.ret ?_))
   rw [← hno, List.drop_eq_getElem_cons hr, cmpL]
  ·refine W_no (b := decide ((l.length : Int) < (r.length : Int))) (by simp; omega) rfl ?_
   refine W_skip ?_; (with_reducible refine T_then ?_); refine W_seq ?_; refine W_region ?_; refine P1 T.ok rfl rfl rfl ?_; refine WL_nil ?_; (with_reducible refine T_then ?_)
   refine W_ret (ret1 rfl rfl (hs.ret ?_))
   rw [← hno, List.drop_of_length_le (by omega), cmpL]

end Go.Proofs.YtnggomfbgmlkhaaGreatDoor

/- The walks through package graph: the order of ways, second part. -/
namespace Go.Proofs.YtnggomfbgmlkhaaGreatDoor
open Go Go.K
set_option maxRecDepth 10000
attribute [local irreducible] W WL OpR bitAnd bitOr bitXor bitClr bitNot shlI shrI
set_option maxHeartbeats 2000000

def RWay (g : G) (cs : List Value) (w : Wy) : Prop := ∃ a n c, cs = [.int .i64 w.time, .slice a n c] ∧ Rs g (.slice a n c) w.steps
instance : El Wy where
 k := 2
 pos := by omega
 rc := RWay
 len h := by obtain ⟨_, _, _, rfl, _⟩ := h; rfl
 mono hle h := by obtain ⟨a1, n1, c1, e, h1⟩ := h; exact ⟨a1, n1, c1, e, h1.mono hle⟩
 one h := by obtain ⟨_, _, _, rfl, _⟩ := h; simp [Value.oneCell']
def RWayV (g : G) (v : Value) (s : Wy) : Prop := ∃ cs, v = .agg cs.toArray ∧ RWay g cs s
theorem RWayV.mono {g g' : G} {v : Value} {s : Wy} (hle : g.le g') (h : RWayV g v s) : RWayV g' v s := by
 obtain ⟨cs, e, h⟩ := h
 exact ⟨cs, e, El.mono (α := Wy) hle h⟩

theorem order_c (v u : Value) (x y : Wy) (g : G) (hv : RWayV g v x) (hu : RWayV g u y) :
  CallsIn Wd 0 Tryz.prog 61 #[v, u] g.w (Ret g fun _ r => r = .int .i64 (order x y)) := by
 obtain ⟨_, rfl, a1, n1, c1, rfl, rs0⟩ := hv
 obtain ⟨_, rfl, a2, n2, c2, rfl, rs1⟩ := hu
 obtain ⟨_, _, e⟩ := rs0.isSlice; obtain ⟨rfl, rfl, rfl⟩ := Value.slice.inj e; clear e
 obtain ⟨_, _, e⟩ := rs1.isSlice; obtain ⟨rfl, rfl, rfl⟩ := Value.slice.inj e; clear e
 have hs := St.start g
 refine enter Tryz.func61 rfl Tryz.ntmps61 rfl ?_
 refine W_seq ?_; refine W_region ?_
 refine WL_o rfl rfl (OpR_box rfl hs rfl rfl ?_); clear hs; rintro bx g1 hs hqe; replace rs0 := rs0.mono hqe; replace rs1 := rs1.mono hqe
 skip
 refine WL_o rfl rfl (OpR_box rfl hs rfl rfl ?_); clear hs; rintro bz g1 hs hqe; replace rs0 := rs0.mono hqe; replace rs1 := rs1.mono hqe
 refine P1 T.ok rfl rfl rfl ?_; refine WL_nil ?_; (with_reducible refine T_then ?_); refine W_seq ?_
 apply W_draw allF rfl (Fact.eq _ :: Fact.eq _ :: Fact.eq _ :: Fact.eq _ :: Fact.eq _ :: Fact.eq _ :: Fact.eq _ :: Fact.eq _ :: Fact.eq _ :: Fact.eq _ :: Fact.eq _ :: Fact.eq _ :: Fact.eq _ :: Fact.eq _ :: Fact.eq _ :: Fact.eq _ :: Fact.eq _ :: (Fact.rs [cmpI x.time y.time, cmpI x.steps.length y.steps.length, cmpL x.steps y.steps]) :: Fact.eq _ :: []) 19 [(18, 23)] rfl rfl
 ·refine D_s (js := []) (by kernel_rfl) (fun _ _ => QA_nil (DPu T.ok rfl rfl rfl)) ?_
  refine D_s (js := [(0, 5)]) (by kernel_rfl) (fun _ hf => QA_eq rfl (QA_nil (DLo T.ok 1 rfl rfl (hs.dr.call hf) rfl rfl rfl rfl))) ?_
  refine D_s (js := []) (by kernel_rfl) (fun _ _ => QA_nil (DPu T.ok rfl rfl rfl)) ?_
  refine D_s (js := [(2, 7)]) (by kernel_rfl) (fun _ hf => QA_eq rfl (QA_nil (DLo T.ok 0 rfl rfl (hs.dr.call hf) rfl rfl rfl rfl))) ?_
  refine D_cons (D_step2 (js := [(1, 6), (3, 8)]) (by kernel_rfl) fun gd hf => ?_) ?_
  ·have hsd := hs.dr.call hf; have hfe := (G.le_dr _).trans hf.le
   refine QA_eq rfl ?_; refine QA_eq rfl ?_
   refine QA_nil ?_
   refine D_yes rfl ?_
   refine OpR_ret cl80 allF rfl rfl rfl rfl rfl (compare_c _ _ _) fun g' v h1 h2 => ⟨g', rfl, h1, ?_⟩
   exact h2
  refine D_s (js := []) (by kernel_rfl) (fun _ _ => QA_nil (DPu T.ok rfl rfl rfl)) ?_
  refine D_s (js := [(5, 10)]) (by kernel_rfl) (fun _ hf => QA_eq rfl (QA_nil (DLo T.ok 1 rfl rfl (hs.dr.call hf) rfl rfl rfl rfl))) ?_
  refine D_s (js := [(6, 11)]) (by kernel_rfl) (fun _ _ => QA_eq rfl (QA_nil (DPu T.ok rfl rfl rfl))) ?_
  refine D_s (js := []) (by kernel_rfl) (fun _ _ => QA_nil (DPu T.ok rfl rfl rfl)) ?_
  refine D_s (js := [(8, 13)]) (by kernel_rfl) (fun _ hf => QA_eq rfl (QA_nil (DLo T.ok 0 rfl rfl (hs.dr.call hf) rfl rfl rfl rfl))) ?_
  refine D_s (js := [(9, 14)]) (by kernel_rfl) (fun _ _ => QA_eq rfl (QA_nil (DPu T.ok rfl rfl rfl))) ?_
  refine D_cons (D_step2 (js := [(7, 12), (10, 15)]) (by kernel_rfl) fun gd hf => ?_) ?_
  ·have hsd := hs.dr.call hf; have hfe := (G.le_dr _).trans hf.le
   refine QA_eq rfl ?_; refine QA_eq rfl ?_
   refine QA_nil ?_
   refine D_yes rfl ?_
   refine OpR_ret cl80 allF rfl rfl rfl rfl rfl (compare_c _ _ _) fun g' v h1 h2 => ⟨g', rfl, h1, ?_⟩
   exact h2
  refine D_s (js := []) (by kernel_rfl) (fun _ _ => QA_nil (DPu T.ok rfl rfl rfl)) ?_
  refine D_s (js := [(12, 17)]) (by kernel_rfl) (fun _ hf => QA_eq rfl (QA_nil (DLo T.ok 1 rfl rfl (hs.dr.call hf) rfl rfl rfl rfl))) ?_
  refine D_s (js := []) (by kernel_rfl) (fun _ _ => QA_nil (DPu T.ok rfl rfl rfl)) ?_
  refine D_s (js := [(14, 19)]) (by kernel_rfl) (fun _ hf => QA_eq rfl (QA_nil (DLo T.ok 0 rfl rfl (hs.dr.call hf) rfl rfl rfl rfl))) ?_
  refine D_cons (D_step2 (js := [(13, 18), (15, 20)]) (by kernel_rfl) fun gd hf => ?_) ?_
  ·have hsd := hs.dr.call hf; have hfe := (G.le_dr _).trans hf.le
   refine QA_eq rfl ?_; refine QA_eq rfl ?_
   refine QA_nil ?_
   refine D_yes rfl ?_
   refine OpR_ret cl81 allF rfl rfl rfl rfl rfl (compareL_c _ _ x.steps y.steps _ (rs0.mono hfe) (rs1.mono hfe)) fun g' v h1 h2 => ⟨g', rfl, h1, ?_⟩
   exact h2
  refine D_cons (D_step2 (js := [(4, 9), (11, 16), (16, 21)]) (by kernel_rfl) fun gd hf => ?_) ?_
  ·have hsd := hs.dr.call hf; have hfe := (G.le_dr _).trans hf.le
   refine QA_eq rfl ?_; refine QA_eq rfl ?_; refine QA_eq rfl ?_
   refine QA_nil ?_
   refine D_yes rfl ?_
   refine OpR_lit T.ok rfl (St.start gd) (vs := [(0, .int .i64 (cmpI x.time y.time)), (1, .int .i64 (cmpI x.steps.length y.steps.length)), (2, .int .i64 (cmpL x.steps y.steps))]) (cells := intVs [cmpI x.time y.time, cmpI x.steps.length y.steps.length, cmpL x.steps y.steps]) rfl rfl rfl rfl rfl rfl (by decide) (by decide) (by kernel_rfl) rfl ?_
   intro b g2 hs2 hq2
   obtain ⟨g3, hw3, hs3, hqe3, hrl⟩ := hs2.fzRow (α := Int) (i := 0) rfl (RcL.ints _ [cmpI x.time y.time, cmpI x.steps.length y.steps.length, cmpL x.steps y.steps])
   exact ⟨g3, hw3, hs3.fr0, hrl⟩
  refine D_cons (D_step2 (js := [(17, 22)]) (by kernel_rfl) fun gd hf => ?_) ?_
  ·have hsd := hs.dr.call hf; have hfe := (G.le_dr _).trans hf.le
   refine QA_any fun v17 h17 => ?_
   refine QA_nil ?_
   refine D_yes rfl ?_
   refine OpR_ret cl79 allF rfl rfl rfl rfl rfl (or_c _ [cmpI x.time y.time, cmpI x.steps.length y.steps.length, cmpL x.steps y.steps] _ h17) fun g' v h1 h2 => ⟨g', rfl, h1, ?_⟩
   exact h2
  exact D_nil
 intro g1 hf1; refine QA_eq rfl ?_; refine QA_nil ?_
 replace hs := hs.dr.call hf1; have hqe := (G.le_dr _).trans hf1.le; replace rs0 := rs0.mono hqe; replace rs1 := rs1.mono hqe
 refine P1 T.ok rfl rfl rfl ?_; refine WL_nil ?_; (with_reducible refine T_then ?_)
 exact W_ret (ret1 rfl rfl (hs.ret rfl))
end Go.Proofs.YtnggomfbgmlkhaaGreatDoor

/- The walks through package graph: ways, the closure add. -/
namespace Go.Proofs.YtnggomfbgmlkhaaGreatDoor
open Go Go.K
set_option maxRecDepth 10000
attribute [local irreducible] W WL OpR bitAnd bitOr bitXor bitClr bitNot shlI shrI
set_option maxHeartbeats 2000000

instance : El (Option Wy) where
 k := 1
 pos := by omega
 rc g cs o := match o with
  | none => cs = [.pointer none]
  | some w => ∃ b ys, cs = [.pointer (some ⟨b, 0, none⟩)] ∧ EP g b 0 ys ∧ RWay g ys w
 len {g cs o} h := by
  cases o with
  | none => rw [show cs = [.pointer none] from h]; rfl
  | some w => obtain ⟨b, ys, rfl, _⟩ := h; rfl
 mono {g g' cs o} hle h := by
  cases o with
  | none => exact h
  | some w => obtain ⟨b, ys, e, h1, h2⟩ := h; exact ⟨b, ys, e, h1.mono hle, El.mono (α := Wy) hle h2⟩
 one {g cs o} h := by
  cases o with
  | none => rw [show cs = [.pointer none] from h]; simp [Value.oneCell']
  | some w => obtain ⟨b, ys, rfl, _⟩ := h; simp [Value.oneCell']

theorem RcL.opt {g : G} : ∀ {xs : List (Option Wy)} {cells : List Value}, RcL g cells xs → ∀ (n : Nat) (h : n < xs.length), ∃ c, cells[n]? = some c ∧ El.rc (α := Option Wy) g [c] xs[n]
 | [], _, _, n, h => by simp at h
 | x :: xs, _, ⟨c1, c2, e, h1, h2⟩, n, h => by
  have hl : c1.length = 1 := El.len (α := Option Wy) h1
  obtain ⟨c, rfl⟩ : ∃ c, c1 = [c] := List.length_eq_one_iff.1 hl
  subst e
  cases n with
  | zero => exact ⟨c, rfl, h1⟩
  | succ n =>
   obtain ⟨d, h3, h4⟩ := RcL.opt h2 n (by simpa using h)
   exact ⟨d, by simpa using h3, by simpa using h4⟩
theorem RcL.optSet {g : G} {c : Value} {y : Option Wy} (hy : El.rc (α := Option Wy) g [c] y) : ∀ {xs : List (Option Wy)} {cells : List Value}, RcL g cells xs → ∀ (n : Nat), RcL g (cells.set n c) (xs.set n y)
 | [], _, h, n => by rw [show _ = [] from h]; exact rfl
 | x :: xs, _, ⟨c1, c2, e, h1, h2⟩, n => by
  have hl : c1.length = 1 := El.len (α := Option Wy) h1
  obtain ⟨d, rfl⟩ : ∃ c, c1 = [c] := List.length_eq_one_iff.1 hl
  subst e
  cases n with
  | zero => exact ⟨[c], c2, rfl, hy, h2⟩
  | succ n => exact ⟨[d], c2.set n c, rfl, h1, RcL.optSet hy h2 n⟩

def rowW (ob N : Nat) (cells : List Value) : Ent := .row 78 1 (.slice (some ⟨ob, 0, none⟩) N N) N cells

/-- The variables that add looks at: the list of ways, and the order. -/
structure AddEnv (g : G) (ob N bo bb : Nat) : Prop where
 epo : EP g bo 0 [.slice (some ⟨ob, 0, none⟩) N N]
 epb : EP g bb 0 [.func (.func 61) #[] #[]]
theorem AddEnv.mono {g g' : G} {ob N bo bb : Nat} (h : AddEnv g ob N bo bb) (hle : g.le g') : AddEnv g' ob N bo bb := ⟨h.epo.mono hle, h.epb.mono hle⟩



theorem add_c (ob N bo bb : Nat) (g0 g : G) (L : List Ent) (i : Nat) (out : List (Option Wy)) (cells : List Value) (wv sv : Value) (wy : Wy) (s : Step)
  (hs : St g0 g L) (hi : L[i]? = some (rowW ob N cells)) (hrc : RcL g cells out) (hae : AddEnv g ob N bo bb) (hw : RWayV g wv wy) (st0 : RStepV g sv s)
  (hr : ∀ m ∈ afterL s, 0 ≤ m ∧ m < (N : Int)) (hout : out.length = N) :
  CallsIn Wd 0 Tryz.prog 62 #[wv, sv, .pointer (some ⟨bo, 0, none⟩), .pointer (some ⟨bb, 0, none⟩)] g.w
   fun e w' => ∃ g' cells', g'.w = w' ∧ e = .returned (.tuple #[]) ∧ St g0 g' (L.set i (rowW ob N cells')) ∧ RcL g' cells' (addAll wy out (afterL s)) ∧ g.le g' := by
 have hiL : i < L.length := (List.getElem?_eq_some_iff.1 hi).1
 have le0 := G.le.refl g
 have hsv := st0
 obtain ⟨_, rfl, a1, n1, c1, a2, n2, c2, rfl, rs0, rs1⟩ := id st0
 obtain ⟨_, rfl, a3, n3, c3, rfl, rs2⟩ := id hw
 refine enterM Tryz.func62 rfl Tryz.ntmps62 rfl ?_
 refine W_seq ?_; refine W_region ?_
 refine WL_o rfl rfl (OpR_box rfl hs rfl rfl ?_); clear hs; rintro bw g1 hs hqe; replace le0 := G.le.trans le0 hqe; replace rs0 := rs0.mono hqe; replace rs1 := rs1.mono hqe; replace rs2 := rs2.mono hqe; replace st0 := st0.mono hqe
 obtain ⟨g2, hw2, hs2, hqe, hep⟩ := hs.fzObj (i := 0) rfl; replace hs := hs2; clear hs2; rw [← hw2]; replace le0 := G.le.trans le0 hqe; replace rs0 := rs0.mono hqe; replace rs1 := rs1.mono hqe; replace rs2 := rs2.mono hqe; replace st0 := st0.mono hqe
 have ep2 := hep; clear hep
 skip
 refine WL_o rfl rfl (OpR_box rfl hs rfl rfl ?_); clear hs; rintro bs g1 hs hqe; replace le0 := G.le.trans le0 hqe; replace ep2 := ep2.mono hqe; replace rs0 := rs0.mono hqe; replace rs1 := rs1.mono hqe; replace rs2 := rs2.mono hqe; replace st0 := st0.mono hqe
 obtain ⟨g2, hw2, hs2, hqe, hep⟩ := hs.fzObj (i := 0) rfl; replace hs := hs2; clear hs2; rw [← hw2]; replace le0 := G.le.trans le0 hqe; replace ep2 := ep2.mono hqe; replace rs0 := rs0.mono hqe; replace rs1 := rs1.mono hqe; replace rs2 := rs2.mono hqe; replace st0 := st0.mono hqe
 have ep1 := hep; clear hep
 refine WL_nil ?_; (with_reducible refine T_then ?_); refine W_seq ?_; refine W_region ?_; refine WL_o rfl rfl (OpR_loadE T.ok 0 rfl ep1 rfl rfl ?_)
 refine WL_o rfl rfl (OpR_ret cl38 allF rfl rfl rfl rfl rfl (after_c _ _ _ st0) ?_); rintro g4 v hf4 ⟨itf, caps, rfl, hcl, hsq⟩; replace hs := hs.call hf4
 have hqe := hf4.le; replace le0 := G.le.trans le0 hqe; replace ep1 := ep1.mono hqe; replace ep2 := ep2.mono hqe; replace rs0 := rs0.mono hqe; replace rs1 := rs1.mono hqe; replace rs2 := rs2.mono hqe; replace st0 := st0.mono hqe
 refine WL_nil ?_; (with_reducible refine T_then ?_); refine W_block ?_
 have hae2 : AddEnv _ ob N bo bb := (hae.mono le0)
 refine W_range (N := 36) hs rfl hcl hsq rfl (fun _ => rfl)
  (fun pre L' g' => ∃ cells', L' = L.set i (rowW ob N cells') ∧ RcL g' cells' (addAll wy out pre)) (fun _ _ _ _ => False)
  (fun _ _ _ _ hle ⟨cells', h1, h2⟩ => ⟨cells', h1, h2.mono hle⟩) (fun _ _ _ _ _ _ h => h) ⟨cells, (set_same hi).symm, hrc.mono le0⟩
  (fun x => [(6, .int .i64 x), (4, .pointer (some ⟨bw, 0, none⟩)), (2, .pointer (some ⟨bo, 0, none⟩)), (3, .pointer (some ⟨bb, 0, none⟩))]) ?_ ?_ ?_ ?_
 ·intro x ro w
  refine W_region ?_; refine P1 T.ok rfl rfl rfl ?_; refine WL_nil ?_
  exact fun a ha => ⟨rfl, ha.keep (by (repeat (first | exact trivial | refine ⟨rfl, ?_⟩)))⟩
 ·rintro lp D ro pre x rest gr Lr hxs hle hs ⟨cells', rfl, hrc'⟩
  have le4 := G.le.refl gr
  have hae3 := hae2.mono hle
  replace ep2 := ep2.mono hle; replace rs2 := rs2.mono hle
  clear ep1 rs0 rs1
  have ep0 := hae3.epo
  have ep1 := hae3.epb
  obtain ⟨h3, h4⟩ := hr x (by rw [hxs]; simp)
  have hlo : (addAll wy out pre).length = N := by rw [addAll_len, hout]
  have hxl : x.toNat < (addAll wy out pre).length := by omega
  have hiw : (Ent.obj lp (ro LoopState.busy) :: Ent.obj D defO :: L.set i (rowW ob N cells'))[i + 2]? = some (rowW ob N cells') := by simp [hiL]
  obtain ⟨c, hc1, hc2⟩ := RcL.opt hrc' x.toNat hxl
  have hsn := addAll_snoc wy out pre x
  unfold addStep at hsn
  have hgd : (addAll wy out pre).getD x.toNat none = (addAll wy out pre)[x.toNat] := by rw [List.getD_eq_getElem?_getD, List.getElem?_eq_getElem hxl]; rfl
  rw [hgd] at hsn
  refine W_block ?_; refine W_seq ?_
  cases hb : (addAll wy out pre)[x.toNat] with
  | none =>
   rw [hb] at hc2 hsn
   obtain rfl : c = .pointer none := by simpa using (show [c] = [Value.pointer none] from hc2)
   rw [show better wy none = true from rfl, if_pos rfl] at hsn
   apply W_draw (F := { Wd with round := some lp }) allF rfl (Fact.eq _ :: Fact.eq _ :: Fact.eq _ :: Fact.eq _ :: Fact.eq _ :: Fact.eq _ :: Fact.eq _ :: Fact.eq _ :: Fact.eq _ :: Fact.eq _ :: Fact.eq _ :: Fact.eq _ :: Fact.eq _ :: Fact.eq _ :: Fact.eq _ :: Fact.eq _ :: Fact.eq _ :: []) 17 [(16, 26)] rfl rfl
   ·refine D_s (js := []) (by kernel_rfl) (fun _ hf => QA_nil (DLe T.ok 0 rfl rfl (ep0.mono ((G.le_dr _).trans hf.le)) rfl rfl rfl)) ?_
    refine D_s (js := []) (by kernel_rfl) (fun _ _ => QA_nil (DPu T.ok rfl rfl rfl)) ?_
    refine D_cons (D_step2 (js := [(0, 10), (1, 11)]) (by kernel_rfl) fun gd hf => ?_) ?_
    ·have hsd := hs.dr.call hf; have hfe := (G.le_dr _).trans hf.le
     refine QA_eq rfl ?_; refine QA_eq rfl ?_
     refine QA_nil ?_
     refine D_yes rfl ?_
     refine OpR_idxR T.ok rfl (hsd.own (i + 2) _ hiw).1 h3 (by omega) rfl rfl rfl rfl rfl rfl ?_
     intro b p hh
     obtain ⟨rfl, rfl⟩ : ob = b ∧ 0 = p := by simpa using hh
     refine ⟨_, rfl, Fr0.refl _, ?_⟩
     exact rfl
    refine D_cons (D_step2 (js := [(2, 12)]) (by kernel_rfl) fun gd hf => ?_) ?_
    ·have hsd := hs.dr.call hf; have hfe := (G.le_dr _).trans hf.le
     refine QA_eq rfl ?_
     refine QA_nil ?_
     refine D_yes rfl ?_
     refine OpR_loadR T.ok (x.toNat * 1) rfl (hsd.own (i + 2) _ hiw).1 rfl (v := .pointer none) (by show cells'[x.toNat * 1]? = _; rw [Nat.mul_one]; exact hc1) ?_
     refine ⟨_, rfl, Fr0.refl _, ?_⟩
     exact rfl
    refine D_cons (D_step2 (js := [(3, 13)]) (by kernel_rfl) fun gd hf => ?_) ?_
    ·have hsd := hs.dr.call hf; have hfe := (G.le_dr _).trans hf.le
     refine QA_eq rfl ?_
     refine QA_nil ?_
     refine D_yes rfl ?_
     refine OpR_eqNilPtr T.ok (neg := false) rfl rfl rfl rfl rfl ?_
     refine ⟨_, rfl, Fr0.refl _, ?_⟩
     exact rfl
    refine D_s (js := [(4, 14)]) (by kernel_rfl) (fun _ _ => QA_eq rfl (QA_nil (DPu T.ok rfl rfl rfl))) ?_
    refine D_s (js := [(5, 15)]) (by kernel_rfl) (fun _ _ => QA_eq rfl (QA_nil (DNo rfl rfl))) ?_
    refine D_s (js := [(5, 15)]) (by kernel_rfl) (fun _ _ => QA_eq rfl (QA_nil (DNo rfl rfl))) ?_
    refine D_s (js := [(5, 15)]) (by kernel_rfl) (fun _ _ => QA_eq rfl (QA_nil (DNo rfl rfl))) ?_
    refine D_s (js := [(5, 15)]) (by kernel_rfl) (fun _ _ => QA_eq rfl (QA_nil (DNo rfl rfl))) ?_
    refine D_s (js := [(8, 18), (9, 19), (5, 15)]) (by kernel_rfl) (fun _ _ => QA_eq rfl (QA_eq rfl (QA_eq rfl (QA_nil (DNo rfl rfl))))) ?_
    refine D_s (js := [(10, 20), (5, 15)]) (by kernel_rfl) (fun _ _ => QA_eq rfl (QA_eq rfl (QA_nil (DNo rfl rfl)))) ?_
    refine D_s (js := [(11, 21), (5, 15)]) (by kernel_rfl) (fun _ _ => QA_eq rfl (QA_eq rfl (QA_nil (DNo rfl rfl)))) ?_
    refine D_s (js := [(12, 22), (5, 15)]) (by kernel_rfl) (fun _ _ => QA_eq rfl (QA_eq rfl (QA_nil (DNo rfl rfl)))) ?_
    refine D_s (js := [(6, 16), (7, 17), (13, 23), (5, 15), (5, 15)]) (by kernel_rfl) (fun _ _ => QA_eq rfl (QA_eq rfl (QA_eq rfl (QA_eq rfl (QA_eq rfl (QA_nil (DNo rfl rfl))))))) ?_
    refine D_s (js := [(14, 24), (5, 15)]) (by kernel_rfl) (fun _ _ => QA_eq rfl (QA_eq rfl (QA_nil (DNo rfl rfl)))) ?_
    refine D_s (js := [(5, 15), (15, 25)]) (by kernel_rfl) (fun _ _ => QA_eq rfl (QA_eq rfl (QA_nil (DPu T.ok rfl rfl rfl)))) ?_
    exact D_nil
   intro g1 hf1; refine QA_eq rfl ?_; refine QA_nil ?_
   replace hs := hs.dr.call hf1; have hqe := (G.le_dr _).trans hf1.le; replace le4 := G.le.trans le4 hqe; replace ep0 := ep0.mono hqe; replace ep1 := ep1.mono hqe; replace ep2 := ep2.mono hqe; replace rs2 := rs2.mono hqe
   replace hrc' := hrc'.mono hqe
   refine WL_nil ?_; (with_reducible refine T_then ?_)
   refine W_yes rfl rfl ?_
   refine W_region ?_; refine WL_o rfl rfl (OpR_loadE T.ok 0 rfl ep0 rfl rfl ?_); refine P1 T.ok rfl rfl rfl ?_; refine P1 T.ok rfl rfl rfl ?_; refine WL_o rfl rfl (OpR_loadE T.ok 0 rfl ep2 rfl rfl ?_); refine P1 T.ok rfl rfl rfl ?_; refine WL_o rfl rfl (OpR_loadE T.ok 1 rfl ep2 rfl rfl ?_)
   refine WL_o rfl rfl (OpR_build T.ok rfl (vs := [(0, .int .i64 wy.time), (1, .slice a3 n3 c3)]) (cells := [.int .i64 wy.time, .slice a3 n3 c3]) rfl rfl rfl rfl [(0, 1), (1, 1)] rfl (by kernel_rfl) ?_)
   skip
   refine WL_o rfl rfl (OpR_box rfl hs rfl rfl ?_); clear hs; rintro bn g1 hs hqe; replace le4 := G.le.trans le4 hqe; replace ep0 := ep0.mono hqe; replace ep1 := ep1.mono hqe; replace ep2 := ep2.mono hqe; replace rs2 := rs2.mono hqe
   replace hrc' := hrc'.mono hqe
   obtain ⟨g2, hw2, hs2, hqe, hep⟩ := hs.fzObj (i := 0) rfl; replace hs := hs2; clear hs2; rw [← hw2]; replace le4 := G.le.trans le4 hqe; replace ep0 := ep0.mono hqe; replace ep1 := ep1.mono hqe; replace ep2 := ep2.mono hqe; replace rs2 := rs2.mono hqe
   replace hrc' := hrc'.mono hqe
   skip
   refine WL_o rfl rfl (OpR_idxR T.ok rfl (hs.own (i + 2) _ hiw).1 h3 (by omega) rfl rfl rfl rfl rfl rfl ?_)
   rintro b p hh; obtain ⟨rfl, rfl⟩ : ob = b ∧ 0 = p := by simpa using hh
   have hcl := hrc'.len
   have hek : El.k (Option Wy) = 1 := rfl
   rw [hlo, hek] at hcl
   refine WL_n rfl (OpR_storeR T.ok (i + 2) (x.toNat * 1) (us := [.pointer (some ⟨bn, 0, none⟩)]) rfl hs hiw rfl rfl rfl rfl rfl rfl (by simp) (by simp; omega) (xs' := cells'.set x.toNat (.pointer (some ⟨bn, 0, none⟩))) ?_ ?_)
   ·rw [Nat.mul_one]
    unfold spl
    rw [List.set_eq_take_append_cons_drop, if_pos (by omega)]
    simp
   rintro g5 hs hqe; replace le4 := G.le.trans le4 hqe; replace ep0 := ep0.mono hqe; replace ep1 := ep1.mono hqe; replace ep2 := ep2.mono hqe; replace rs2 := rs2.mono hqe
   replace hrc' := hrc'.mono hqe; replace hep := hep.mono hqe
   refine WL_nil ?_; (with_reducible refine T_bn ?_)
   refine fun a ha => ⟨_, _, rfl, hs, le4, ⟨cells'.set x.toNat (.pointer (some ⟨bn, 0, none⟩)), by show (L.set i _).set i _ = _; rw [List.set_set]; rfl, ?_⟩⟩
   rw [hsn]
   exact RcL.optSet (show El.rc (α := Option Wy) _ _ (some wy) from ⟨bn, _, rfl, hep, _, _, _, rfl, rs2⟩) hrc' _
  | some old =>
   rw [hb] at hc2 hsn
   obtain ⟨bo2, ys, hcc, hold, hry⟩ := (show ∃ b ys, [c] = [Value.pointer (some ⟨b, 0, none⟩)] ∧ EP gr b 0 ys ∧ RWay gr ys old from hc2)
   obtain rfl : c = .pointer (some ⟨bo2, 0, none⟩) := by simpa using hcc
   have hry2 := hry
   obtain ⟨a7, n7, c7, rfl, rs7⟩ := hry
   apply W_draw (F := { Wd with round := some lp }) allF rfl (Fact.eq _ :: Fact.eq _ :: Fact.eq _ :: Fact.eq _ :: Fact.eq _ :: Fact.eq _ :: Fact.eq _ :: Fact.eq _ :: Fact.eq _ :: Fact.eq _ :: Fact.eq _ :: Fact.eq _ :: Fact.eq _ :: Fact.eq _ :: Fact.eq _ :: Fact.eq _ :: Fact.eq _ :: []) 17 [(16, 26)] rfl rfl
   ·refine D_s (js := []) (by kernel_rfl) (fun _ hf => QA_nil (DLe T.ok 0 rfl rfl (ep0.mono ((G.le_dr _).trans hf.le)) rfl rfl rfl)) ?_
    refine D_s (js := []) (by kernel_rfl) (fun _ _ => QA_nil (DPu T.ok rfl rfl rfl)) ?_
    refine D_cons (D_step2 (js := [(0, 10), (1, 11)]) (by kernel_rfl) fun gd hf => ?_) ?_
    ·have hsd := hs.dr.call hf; have hfe := (G.le_dr _).trans hf.le
     refine QA_eq rfl ?_; refine QA_eq rfl ?_
     refine QA_nil ?_
     refine D_yes rfl ?_
     refine OpR_idxR T.ok rfl (hsd.own (i + 2) _ hiw).1 h3 (by omega) rfl rfl rfl rfl rfl rfl ?_
     intro b p hh
     obtain ⟨rfl, rfl⟩ : ob = b ∧ 0 = p := by simpa using hh
     refine ⟨_, rfl, Fr0.refl _, ?_⟩
     exact rfl
    refine D_cons (D_step2 (js := [(2, 12)]) (by kernel_rfl) fun gd hf => ?_) ?_
    ·have hsd := hs.dr.call hf; have hfe := (G.le_dr _).trans hf.le
     refine QA_eq rfl ?_
     refine QA_nil ?_
     refine D_yes rfl ?_
     refine OpR_loadR T.ok (x.toNat * 1) rfl (hsd.own (i + 2) _ hiw).1 rfl (v := .pointer (some ⟨bo2, 0, none⟩)) (by show cells'[x.toNat * 1]? = _; rw [Nat.mul_one]; exact hc1) ?_
     refine ⟨_, rfl, Fr0.refl _, ?_⟩
     exact rfl
    refine D_cons (D_step2 (js := [(3, 13)]) (by kernel_rfl) fun gd hf => ?_) ?_
    ·have hsd := hs.dr.call hf; have hfe := (G.le_dr _).trans hf.le
     refine QA_eq rfl ?_
     refine QA_nil ?_
     refine D_yes rfl ?_
     refine OpR_eqNilPtr T.ok (neg := false) rfl rfl rfl rfl rfl ?_
     refine ⟨_, rfl, Fr0.refl _, ?_⟩
     exact rfl
    refine D_s (js := [(4, 14)]) (by kernel_rfl) (fun _ _ => QA_eq rfl (QA_nil (DPu T.ok rfl rfl rfl))) ?_
    refine D_s (js := [(5, 15)]) (by kernel_rfl) (fun _ hf => QA_eq rfl (QA_nil (DLe T.ok 0 rfl rfl (ep1.mono ((G.le_dr _).trans hf.le)) rfl rfl rfl))) ?_
    refine D_s (js := [(5, 15)]) (by kernel_rfl) (fun _ hf => QA_eq rfl (QA_nil (DLe T.ok 0 rfl rfl (ep2.mono ((G.le_dr _).trans hf.le)) rfl rfl rfl))) ?_
    refine D_s (js := [(5, 15)]) (by kernel_rfl) (fun _ hf => QA_eq rfl (QA_nil (DLe T.ok 0 rfl rfl (ep0.mono ((G.le_dr _).trans hf.le)) rfl rfl rfl))) ?_
    refine D_s (js := [(5, 15)]) (by kernel_rfl) (fun _ _ => QA_eq rfl (QA_nil (DPu T.ok rfl rfl rfl))) ?_
    refine D_cons (D_step2 (js := [(8, 18), (9, 19), (5, 15)]) (by kernel_rfl) fun gd hf => ?_) ?_
    ·have hsd := hs.dr.call hf; have hfe := (G.le_dr _).trans hf.le
     refine QA_eq rfl ?_; refine QA_eq rfl ?_; refine QA_eq rfl ?_
     refine QA_nil ?_
     refine D_yes rfl ?_
     refine OpR_idxR T.ok rfl (hsd.own (i + 2) _ hiw).1 h3 (by omega) rfl rfl rfl rfl rfl rfl ?_
     intro b p hh
     obtain ⟨rfl, rfl⟩ : ob = b ∧ 0 = p := by simpa using hh
     refine ⟨_, rfl, Fr0.refl _, ?_⟩
     exact rfl
    refine D_cons (D_step2 (js := [(10, 20), (5, 15)]) (by kernel_rfl) fun gd hf => ?_) ?_
    ·have hsd := hs.dr.call hf; have hfe := (G.le_dr _).trans hf.le
     refine QA_eq rfl ?_; refine QA_eq rfl ?_
     refine QA_nil ?_
     refine D_yes rfl ?_
     refine OpR_loadR T.ok (x.toNat * 1) rfl (hsd.own (i + 2) _ hiw).1 rfl (v := .pointer (some ⟨bo2, 0, none⟩)) (by show cells'[x.toNat * 1]? = _; rw [Nat.mul_one]; exact hc1) ?_
     refine ⟨_, rfl, Fr0.refl _, ?_⟩
     exact rfl
    refine D_s (js := [(11, 21), (5, 15)]) (by kernel_rfl) (fun _ _ => QA_eq rfl (QA_eq rfl (QA_nil (DPu T.ok rfl rfl rfl)))) ?_
    refine D_cons (D_step2 (js := [(12, 22), (5, 15)]) (by kernel_rfl) fun gd hf => ?_) ?_
    ·have hsd := hs.dr.call hf; have hfe := (G.le_dr _).trans hf.le
     refine QA_eq rfl ?_; refine QA_eq rfl ?_
     refine QA_nil ?_
     refine D_yes rfl ?_
     refine OpR_loadE T.ok 0 rfl (hold.mono hfe) rfl rfl ?_
     refine ⟨_, rfl, Fr0.refl _, ?_⟩
     exact rfl
    refine D_cons (D_step2 (js := [(6, 16), (7, 17), (13, 23), (5, 15), (5, 15)]) (by kernel_rfl) fun gd hf => ?_) ?_
    ·have hsd := hs.dr.call hf; have hfe := (G.le_dr _).trans hf.le
     refine QA_eq rfl ?_; refine QA_eq rfl ?_; refine QA_eq rfl ?_; refine QA_eq rfl ?_; refine QA_eq rfl ?_
     refine QA_nil ?_
     refine D_yes rfl ?_
     refine OpR_ret cl61 allF rfl rfl rfl rfl rfl (order_c _ _ wy old _ ⟨_, rfl, _, _, _, rfl, rs2.mono hfe⟩ ⟨_, rfl, _, _, _, rfl, rs7.mono hfe⟩) fun g' v h1 h2 => ⟨g', rfl, h1, ?_⟩
     exact h2
    refine D_s (js := [(14, 24), (5, 15)]) (by kernel_rfl) (fun _ _ => QA_eq rfl (QA_eq rfl (QA_nil (DPu T.ok rfl rfl rfl)))) ?_
    refine D_s (js := [(5, 15), (15, 25)]) (by kernel_rfl) (fun _ _ => QA_eq rfl (QA_eq rfl (QA_nil (DPu T.ok rfl rfl rfl)))) ?_
    exact D_nil
   intro g1 hf1; refine QA_eq rfl ?_; refine QA_nil ?_
   replace hs := hs.dr.call hf1; have hqe := (G.le_dr _).trans hf1.le; replace le4 := G.le.trans le4 hqe; replace ep0 := ep0.mono hqe; replace ep1 := ep1.mono hqe; replace ep2 := ep2.mono hqe; replace rs2 := rs2.mono hqe; replace rs7 := rs7.mono hqe
   replace hrc' := hrc'.mono hqe
   refine WL_nil ?_; (with_reducible refine T_then ?_)
   by_cases hbt : order wy old < 0
   ·refine W_yes (b := decide (order wy old < 0)) (by simp [hbt]) rfl ?_
    rw [show better wy (some old) = true from by simp [better, hbt], if_pos rfl] at hsn
    refine W_region ?_; refine WL_o rfl rfl (OpR_loadE T.ok 0 rfl ep0 rfl rfl ?_); refine P1 T.ok rfl rfl rfl ?_; refine P1 T.ok rfl rfl rfl ?_; refine WL_o rfl rfl (OpR_loadE T.ok 0 rfl ep2 rfl rfl ?_); refine P1 T.ok rfl rfl rfl ?_; refine WL_o rfl rfl (OpR_loadE T.ok 1 rfl ep2 rfl rfl ?_)
    refine WL_o rfl rfl (OpR_build T.ok rfl (vs := [(0, .int .i64 wy.time), (1, .slice a3 n3 c3)]) (cells := [.int .i64 wy.time, .slice a3 n3 c3]) rfl rfl rfl rfl [(0, 1), (1, 1)] rfl (by kernel_rfl) ?_)
    skip
    refine WL_o rfl rfl (OpR_box rfl hs rfl rfl ?_); clear hs; rintro bn g1 hs hqe; replace le4 := G.le.trans le4 hqe; replace ep0 := ep0.mono hqe; replace ep1 := ep1.mono hqe; replace ep2 := ep2.mono hqe; replace rs2 := rs2.mono hqe; replace rs7 := rs7.mono hqe
    replace hrc' := hrc'.mono hqe
    obtain ⟨g2, hw2, hs2, hqe, hep⟩ := hs.fzObj (i := 0) rfl; replace hs := hs2; clear hs2; rw [← hw2]; replace le4 := G.le.trans le4 hqe; replace ep0 := ep0.mono hqe; replace ep1 := ep1.mono hqe; replace ep2 := ep2.mono hqe; replace rs2 := rs2.mono hqe; replace rs7 := rs7.mono hqe
    replace hrc' := hrc'.mono hqe
    skip
    refine WL_o rfl rfl (OpR_idxR T.ok rfl (hs.own (i + 2) _ hiw).1 h3 (by omega) rfl rfl rfl rfl rfl rfl ?_)
    rintro b p hh; obtain ⟨rfl, rfl⟩ : ob = b ∧ 0 = p := by simpa using hh
    have hcl := hrc'.len
    have hek : El.k (Option Wy) = 1 := rfl
    rw [hlo, hek] at hcl
    refine WL_n rfl (OpR_storeR T.ok (i + 2) (x.toNat * 1) (us := [.pointer (some ⟨bn, 0, none⟩)]) rfl hs hiw rfl rfl rfl rfl rfl rfl (by simp) (by simp; omega) (xs' := cells'.set x.toNat (.pointer (some ⟨bn, 0, none⟩))) ?_ ?_)
    ·rw [Nat.mul_one]
     unfold spl
     rw [List.set_eq_take_append_cons_drop, if_pos (by omega)]
     simp
    rintro g5 hs hqe; replace le4 := G.le.trans le4 hqe; replace ep0 := ep0.mono hqe; replace ep1 := ep1.mono hqe; replace ep2 := ep2.mono hqe; replace rs2 := rs2.mono hqe; replace rs7 := rs7.mono hqe
    replace hrc' := hrc'.mono hqe; replace hep := hep.mono hqe
    refine WL_nil ?_; (with_reducible refine T_bn ?_)
    refine fun a ha => ⟨_, _, rfl, hs, le4, ⟨cells'.set x.toNat (.pointer (some ⟨bn, 0, none⟩)), by show (L.set i _).set i _ = _; rw [List.set_set]; rfl, ?_⟩⟩
    rw [hsn]
    exact RcL.optSet (show El.rc (α := Option Wy) _ _ (some wy) from ⟨bn, _, rfl, hep, _, _, _, rfl, rs2⟩) hrc' _
   ·refine W_no (b := decide (order wy old < 0)) (by simp [hbt]) rfl ?_
    rw [show better wy (some old) = false from by simp [better, hbt], if_neg (by simp)] at hsn
    refine W_skip ?_; (with_reducible refine T_bn ?_)
    exact fun a ha => ⟨_, _, rfl, hs, le4, ⟨cells', rfl, by rw [hsn]; exact hrc'⟩⟩
 ·rintro lp D o Lr ge hle hs ⟨cells', rfl, hrc'⟩
  (with_reducible refine T_bn ?_)
  refine endM0 1 rfl hs rfl (fun g' hs' hle' => ?_)
  exact ⟨g', cells', rfl, rfl, hs'.drop 0, hrc'.mono hle', (le0.trans hle).trans hle'⟩
 ·rintro c lp D o pre Lr ge _ _ _ h
  exact h.elim
end Go.Proofs.YtnggomfbgmlkhaaGreatDoor
