/- The walks through the flows that integers determine and the fixed examples. -/
import Derived.Test.YtnggomfbgmlkhaaGreatDoorYv
import Derived.Test.YtnggomfbgmlkhaaGreatDoorYd
import Derived.Test.YtnggomfbgmlkhaaGreatDoorYra
import Derived.Test.YtnggomfbgmlkhaaGreatDoorYe

/- The walks through the small helpers: SameInts, Has, pick. -/
namespace Go.Proofs.YtnggomfbgmlkhaaGreatDoor
open Go Go.K
set_option maxRecDepth 10000
attribute [local irreducible] W WL OpR bitAnd bitOr bitXor bitClr bitNot shlI shrI
set_option maxHeartbeats 4000000


theorem pick_c (c n : Int) (g : G) (hc : I64 c) (hn : n ≠ 0) : CallsIn Wd 0 Tryz.prog 8 #[.int .i64 c, .int .i64 n] g.w (Ret g fun _ r => r = .int .i64 (pickM c n)) := by
 have hs := St.start g
 refine enter Tryz.func8 rfl Tryz.ntmps8 rfl ?_
 unfold I64 at hc
 refine W_seq ?_; refine W_region ?_; refine P1 T.ok rfl rfl rfl ?_; refine WL_nil ?_; (with_reducible refine T_then ?_); refine W_seq ?_; refine W_seq ?_; refine W_region ?_; refine P1 T.ok rfl rfl rfl ?_; refine P1 T.ok rfl rfl rfl ?_; refine WL_nil ?_; (with_reducible refine T_then ?_)
 by_cases hneg : c < 0
 ·refine W_yes (b := decide (c < 0)) (by simp [hneg]) rfl ?_
  refine W_region ?_; (iterate 4 refine P1 T.ok rfl rfl rfl ?_); refine WL_nil ?_; (with_reducible refine T_then ?_); refine W_seq ?_; refine W_region ?_; refine P1 T.ok rfl rfl rfl ?_; refine P1 T.ok rfl rfl rfl ?_
  refine WL_o rfl rfl (OpR_rem rfl rfl rfl hn ?_)
  refine P1 T.ok rfl rfl rfl ?_; refine WL_nil ?_; (with_reducible refine T_then ?_)
  refine W_ret (ret1 rfl rfl (hs.ret ?_))
  unfold pickM
  rw [if_pos hneg, wr (n := c + 1) (by omega) (by omega), wr (by omega) (by omega), Int.zero_sub]
 ·refine W_no (b := decide (c < 0)) (by simp; omega) rfl ?_
  refine W_skip ?_; (with_reducible refine T_then ?_); refine W_seq ?_; refine W_region ?_; refine P1 T.ok rfl rfl rfl ?_; refine P1 T.ok rfl rfl rfl ?_
  refine WL_o rfl rfl (OpR_rem rfl rfl rfl hn ?_)
  refine P1 T.ok rfl rfl rfl ?_; refine WL_nil ?_; (with_reducible refine T_then ?_)
  refine W_ret (ret1 rfl rfl (hs.ret ?_))
  unfold pickM
  rw [if_neg hneg]
theorem pick2_c (c n : Int) (g : G) (hc : I64 c) (hn : n ≠ 0) : CallsIn Wd 0 Tryz.prog 19 #[.int .i64 c, .int .i64 n] g.w (Ret g fun _ r => r = .int .i64 (pickM c n)) := by
 have hs := St.start g
 refine enter Tryz.func19 rfl Tryz.ntmps19 rfl ?_
 unfold I64 at hc
 refine W_seq ?_; refine W_region ?_; refine P1 T.ok rfl rfl rfl ?_; refine WL_nil ?_; (with_reducible refine T_then ?_); refine W_seq ?_; refine W_seq ?_; refine W_region ?_; refine P1 T.ok rfl rfl rfl ?_; refine P1 T.ok rfl rfl rfl ?_; refine WL_nil ?_; (with_reducible refine T_then ?_)
 by_cases hneg : c < 0
 ·refine W_yes (b := decide (c < 0)) (by simp [hneg]) rfl ?_
  refine W_region ?_; (iterate 4 refine P1 T.ok rfl rfl rfl ?_); refine WL_nil ?_; (with_reducible refine T_then ?_); refine W_seq ?_; refine W_region ?_; refine P1 T.ok rfl rfl rfl ?_; refine P1 T.ok rfl rfl rfl ?_
  refine WL_o rfl rfl (OpR_rem rfl rfl rfl hn ?_)
  refine P1 T.ok rfl rfl rfl ?_; refine WL_nil ?_; (with_reducible refine T_then ?_)
  refine W_ret (ret1 rfl rfl (hs.ret ?_))
  unfold pickM
  rw [if_pos hneg, wr (n := c + 1) (by omega) (by omega), wr (by omega) (by omega), Int.zero_sub]
 ·refine W_no (b := decide (c < 0)) (by simp; omega) rfl ?_
  refine W_skip ?_; (with_reducible refine T_then ?_); refine W_seq ?_; refine W_region ?_; refine P1 T.ok rfl rfl rfl ?_; refine P1 T.ok rfl rfl rfl ?_
  refine WL_o rfl rfl (OpR_rem rfl rfl rfl hn ?_)
  refine P1 T.ok rfl rfl rfl ?_; refine WL_nil ?_; (with_reducible refine T_then ?_)
  refine W_ret (ret1 rfl rfl (hs.ret ?_))
  unfold pickM
  rw [if_neg hneg]

theorem samei_c (v u : Value) (l r : List Int) (g : G) (rs0 : Rs g v l) (rs1 : Rs g u r) : CallsIn Wd 0 Tryz.prog 13 #[v, u] g.w (Ret g fun _ x => x = .bool (decide (l = r))) := by
 obtain ⟨a, c, rfl⟩ := rs0.isSlice
 obtain ⟨a2, c2, rfl⟩ := rs1.isSlice
 have hlen := rs0.len_le
 unfold maxLen at hlen
 have hs := St.start g
 refine enter Tryz.func13 rfl Tryz.ntmps13 rfl ?_
 refine W_seq ?_; refine W_region ?_; refine P1 T.ok rfl rfl rfl ?_; refine WL_nil ?_; (with_reducible refine T_then ?_); refine W_seq ?_; refine W_seq ?_; refine W_region ?_; (iterate 5 refine P1 T.ok rfl rfl rfl ?_); refine WL_nil ?_; (with_reducible refine T_then ?_)
 by_cases hll : l.length = r.length
 ·refine W_no (b := (l.length : Int) != (r.length : Int)) (by simp; omega) rfl ?_
  refine W_skip ?_; (with_reducible refine T_then ?_); refine W_seq ?_; refine W_seq ?_; refine W_region ?_; refine P1 T.ok rfl rfl rfl ?_; refine WL_nil ?_; (with_reducible refine T_then ?_); refine W_block ?_
  have rs0c := rs0; have rs1c := rs1; have le5 := G.le.refl g
  refine W_loop (fun m a' w => ∃ (k : Nat) (g2 : G), w = g2.w ∧ St g g2 [] ∧ G.le g g2 ∧ k ≤ l.length ∧ m = l.length - k ∧ l.take k = r.take k ∧
    Fr 26 [] [(0, .slice a l.length c), (1, .slice a2 r.length c2), (5, .int .i64 k)] a') l.length
   (fun a' ha => ⟨0, g, rfl, hs, le5, Nat.zero_le _, rfl, by simp, ha.keep (by (repeat (first | exact trivial | refine ⟨rfl, ?_⟩)))⟩) ?_
  clear hs le5 rs0 rs1
  rintro m a' _ ⟨k, g2, rfl, hs, le5, hk, rfl, hno, ha'⟩
  have rs0 := rs0c.mono le5; have rs1 := rs1c.mono le5
  revert a'
  (with_reducible refine T_wp ?_); refine W_seq ?_; refine W_seq ?_; refine W_region ?_; (iterate 4 refine P1 T.ok rfl rfl rfl ?_); refine WL_nil ?_; (with_reducible refine T_then ?_)
  by_cases hlt : k < l.length
  ·refine W_yes (b := decide ((k : Int) < (l.length : Int))) (by simp; omega) rfl ?_
   have hlr : k < r.length := by omega
   refine W_skip ?_; (with_reducible refine T_then ?_); refine W_seq ?_; refine W_block ?_; refine W_seq ?_
   apply W_draw allF rfl (Fact.eq _ :: Fact.eq _ :: (intPtr l[k]) :: Fact.eq _ :: Fact.eq _ :: Fact.eq _ :: (intPtr r[k]) :: Fact.eq _ :: Fact.eq _ :: []) 9 [(8, 25)] rfl rfl
   ·refine D_s (js := []) (by kernel_rfl) (fun _ _ => QA_nil (DPu T.ok rfl rfl rfl)) ?_
    refine D_s (js := []) (by kernel_rfl) (fun _ _ => QA_nil (DPu T.ok rfl rfl rfl)) ?_
    refine D_cons (D_step2 (js := [(0, 17), (1, 18)]) (by kernel_rfl) fun gd hf => ?_) ?_
    ·have hsd := hs.dr.call hf; have hfe := (G.le_dr _).trans hf.le
     refine QA_eq rfl ?_; refine QA_eq rfl ?_
     refine QA_nil ?_
     refine D_yes rfl ?_
     refine OpR_idx T.ok rfl (rs0.mono hfe) (y := l[k]) (geti_of rfl hlt) rfl rfl rfl rfl rfl rfl ?_
     intro b p ys hep hrc
     exact ⟨_, rfl, Fr0.refl _, b, p, rfl, by rw [← show ys = [Value.int .i64 l[k]] from hrc]; exact hep⟩
    refine D_cons (D_step2 (js := [(2, 19)]) (by kernel_rfl) fun gd hf => ?_) ?_
    ·have hsd := hs.dr.call hf; have hfe := (G.le_dr _).trans hf.le
     refine QA_any fun v2 h2 => ?_
     refine QA_nil ?_
     obtain ⟨b, p, rfl, hep⟩ := h2
     refine D_yes rfl ?_
     refine OpR_loadE T.ok 0 rfl hep rfl rfl ?_
     refine ⟨_, rfl, Fr0.refl _, ?_⟩
     exact rfl
    refine D_s (js := []) (by kernel_rfl) (fun _ _ => QA_nil (DPu T.ok rfl rfl rfl)) ?_
    refine D_s (js := []) (by kernel_rfl) (fun _ _ => QA_nil (DPu T.ok rfl rfl rfl)) ?_
    refine D_cons (D_step2 (js := [(4, 21), (5, 22)]) (by kernel_rfl) fun gd hf => ?_) ?_
    ·have hsd := hs.dr.call hf; have hfe := (G.le_dr _).trans hf.le
     refine QA_eq rfl ?_; refine QA_eq rfl ?_
     refine QA_nil ?_
     refine D_yes rfl ?_
     refine OpR_idx T.ok rfl (rs1.mono hfe) (y := r[k]) (geti_of rfl hlr) rfl rfl rfl rfl rfl rfl ?_
     intro b p ys hep hrc
     exact ⟨_, rfl, Fr0.refl _, b, p, rfl, by rw [← show ys = [Value.int .i64 r[k]] from hrc]; exact hep⟩
    refine D_cons (D_step2 (js := [(6, 23)]) (by kernel_rfl) fun gd hf => ?_) ?_
    ·have hsd := hs.dr.call hf; have hfe := (G.le_dr _).trans hf.le
     refine QA_any fun v6 h6 => ?_
     refine QA_nil ?_
     obtain ⟨b, p, rfl, hep⟩ := h6
     refine D_yes rfl ?_
     refine OpR_loadE T.ok 0 rfl hep rfl rfl ?_
     refine ⟨_, rfl, Fr0.refl _, ?_⟩
     exact rfl
    refine D_s (js := [(3, 20), (7, 24)]) (by kernel_rfl) (fun _ _ => QA_eq rfl (QA_eq rfl (QA_nil (DPu T.ok rfl rfl rfl)))) ?_
    exact D_nil
   intro g1 hf1; refine QA_eq rfl ?_; refine QA_nil ?_
   replace hs := hs.dr.call hf1; have hqe := (G.le_dr _).trans hf1.le; replace rs0 := rs0.mono hqe; replace rs1 := rs1.mono hqe
   replace le5 := le5.trans hqe
   refine WL_nil ?_; (with_reducible refine T_then ?_)
   by_cases he : l[k] = r[k]
   ·refine W_no (b := l[k] != r[k]) (by simp [he]) rfl ?_
    refine W_skip ?_; (with_reducible refine T_bn ?_); (with_reducible refine T_then ?_); refine W_region ?_; (iterate 3 refine P1 T.ok rfl rfl rfl ?_); refine WL_nil ?_
    refine fun a ha => ⟨l.length - (k + 1), by omega, k + 1, _, rfl, hs, le5, by omega, rfl, ?_, ha.keep ⟨rfl, rfl, kI rfl (by rw [wr (by omega) (by omega)]; omega), trivial⟩⟩
    rw [List.take_succ_eq_append_getElem hlt, List.take_succ_eq_append_getElem hlr, hno, he]
   ·refine W_yes (b := l[k] != r[k]) (by simp [he]) rfl ?_
    refine W_seq ?_; refine W_region ?_; refine P1 T.ok rfl rfl rfl ?_; refine WL_nil ?_; (with_reducible refine T_then ?_)
    refine W_ret (ret1 rfl rfl (hs.ret ?_))
    rw [decide_eq_false (fun e => he (by subst e; rfl))]
  ·refine W_no (b := decide ((k : Int) < (l.length : Int))) (by simp; omega) rfl ?_
   rw [List.take_of_length_le (by omega), List.take_of_length_le (by omega)] at hno
   refine W_exit ?_; (with_reducible refine T_tx ?_; with_reducible refine T_tx ?_); (with_reducible refine T_bx ?_); (with_reducible refine T_then ?_); refine W_seq ?_; refine W_region ?_; refine P1 T.ok rfl rfl rfl ?_; refine WL_nil ?_; (with_reducible refine T_then ?_)
   refine W_ret (ret1 rfl rfl (hs.ret ?_))
   rw [decide_eq_true hno]
 ·refine W_yes (b := (l.length : Int) != (r.length : Int)) (by simp; omega) rfl ?_
  refine W_seq ?_; refine W_region ?_; refine P1 T.ok rfl rfl rfl ?_; refine WL_nil ?_; (with_reducible refine T_then ?_)
  refine W_ret (ret1 rfl rfl (hs.ret ?_))
  rw [decide_eq_false (fun e => hll (by rw [e]))]
end Go.Proofs.YtnggomfbgmlkhaaGreatDoor

/- The walk through the reference's Made. -/
namespace Go.Proofs.YtnggomfbgmlkhaaGreatDoor
open Go Go.K
set_option maxRecDepth 10000
attribute [local irreducible] W WL OpR bitAnd bitOr bitXor bitClr bitNot shlI shrI
set_option maxHeartbeats 4000000

theorem shr_fdiv {n : Int} {j : Nat} (h : j < 64) : shrI .i64 n j = n.fdiv (2 ^ j) := by
 unfold shrI
 rw [show min j IntKind.i64.bits = j by simp [IntKind.bits]; omega]
instance : El Y6 where
 k := 6
 pos := by omega
 rc _ cs y := cs = [.int .i64 y.y0, .int .i64 y.y1, .int .i64 y.y2, .int .i64 y.y3, .int .i64 y.y4, .int .i64 y.y5]
 len h := by rw [h]; rfl
 mono _ h := h
 one h := by rw [h]; simp [Value.oneCell']

def stepC (s : Step) (tv nv : Value) : List Value := [.int .i64 s.recipe, tv, .int .i64 s.min, .int .i64 s.max, nv, .int .i64 s.back, .int .i64 s.limit]

/-- A pointer to an array of six integers. -/
def y6P (y : Y6) : Fact :=
 ⟨fun v g => ∃ b p, v = .pointer (some ⟨b, p, none⟩) ∧ EP g b p [.int .i64 y.y0, .int .i64 y.y1, .int .i64 y.y2, .int .i64 y.y3, .int .i64 y.y4, .int .i64 y.y5], fun _ _ _ hf ⟨b, p, e, h1⟩ => ⟨b, p, e, h1.mono hf.le⟩⟩

theorem soft_y6 (y : Y6) : Soft (y6P y) := fun _ _ _ hle ⟨b, p, e, h1⟩ => ⟨b, p, e, h1.mono hle⟩
theorem soft_intPtr (n : Int) : Soft (intPtr n) := fun _ _ _ hle ⟨b, p, e, h1⟩ => ⟨b, p, e, h1.mono hle⟩
theorem RcL.length {α : Type} [El α] {g : G} {xs : List α} {cells : List Value} (h : RcL g cells xs) : cells.length = xs.length * El.k α := h.len

/-- What Made returns: the list of steps is the caller's own. -/
def MadeR (g : G) (f : Flow) (g' : G) (r : Value) : Prop :=
 ∃ a n c a2 n2 c2 cells, r = .agg #[.int .i64 f.moveMin, .int .i64 f.moveMax, .slice a n c, .slice a2 n2 c2] ∧ Ent.holds g.w.heap.size g' (.row 51 7 (.slice a n c) f.steps.length cells) ∧ RcL g' cells f.steps ∧ Rs g' (.slice a2 n2 c2) f.windows

theorem made_c (v : Value) (x : List Y6) (g : G) (rs0 : Rs g v x) (hx : ∀ y ∈ x, y.fit) : CallsIn Wd 0 Tryz.prog 5 #[v] g.w (Ret g (MadeR g (made x))) := by
 obtain ⟨a, c, rfl⟩ := rs0.isSlice
 have hlen := rs0.len_le
 unfold maxLen at hlen
 have hs := St.start g
 have le0 := G.le.refl g
 have hn := madeN_range x
 refine enter Tryz.func5 rfl Tryz.ntmps5 rfl ?_
 refine W_seq ?_; refine W_region ?_
 refine WL_o rfl rfl (OpR_alloc T.ok rfl hs rfl rfl ?_); clear hs; rintro br g1 hs hqe; replace le0 := G.le.trans le0 hqe; replace rs0 := rs0.mono hqe
 refine WL_nil ?_; (with_reducible refine T_then ?_); refine W_seq ?_; refine W_region ?_; (iterate 5 refine P1 T.ok rfl rfl rfl ?_); refine WL_nil ?_; (with_reducible refine T_then ?_); refine W_seq ?_; refine W_region ?_
 have hN : (if (1 : Int) < (if (10 : Int) < (x.length : Int) then 10 else (x.length : Int)) then (if (10 : Int) < (x.length : Int) then 10 else (x.length : Int)) else 1) = (madeN x : Int) := by
  unfold madeN
  split <;> split <;> omega
 refine WL_re (.int .i64 (madeN x)) (t := 3) rfl (congrArg (Value.int .i64) hN) ?_
 refine WL_o rfl rfl (OpR_build T.ok rfl (vs := [(0, .int .i64 2), (1, .int .i64 9)]) (cells := [.int .i64 2, .int .i64 9, .slice none 0 0, .slice none 0 0]) rfl rfl rfl rfl [(0, 1), (1, 1), (2, 1), (3, 1)] rfl (by kernel_rfl) ?_)
 skip
 refine WL_o rfl rfl (OpR_alloc T.ok rfl hs rfl rfl ?_); clear hs; rintro bf g1 hs hqe; replace le0 := G.le.trans le0 hqe; replace rs0 := rs0.mono hqe
 skip
 refine WL_n rfl (OpR_storeO T.ok 0 rfl hs rfl rfl rfl rfl rfl rfl rfl rfl rfl ?_); replace hs := hs; rintro g1 hs hqe; replace le0 := G.le.trans le0 hqe; replace rs0 := rs0.mono hqe
 refine WL_nil ?_; (with_reducible refine T_then ?_); refine W_seq ?_; refine W_seq ?_; refine W_region ?_; (iterate 3 refine P1 T.ok rfl rfl rfl ?_); refine WL_nil ?_; (with_reducible refine T_then ?_)
 -- the moves
 refine W_mid (fun a' w => ∃ g2, w = g2.w ∧ St g g2 [.obj bf (.cells [.int .i64 (made x).moveMin, .int .i64 (made x).moveMax, .slice none 0 0, .slice none 0 0].toArray 27 (0, 0)), .obj br (.cells [.int .i64 0, .int .i64 0, .slice none 0 0, .slice none 0 0].toArray 27 (0, 0))] ∧ G.le g1 g2 ∧
  Fr 205 [] [(0, .slice a x.length c), (2, .pointer (some ⟨br, 0, none⟩)), (3, .int .i64 (madeN x)), (4, .pointer (some ⟨bf, 0, none⟩))] a') ?_ ?_
 ·have le1 := G.le.refl g1
  by_cases h0 : 0 < x.length
  ·refine W_yes (b := decide ((0 : Int) < (x.length : Int))) (by simp; omega) rfl ?_
   have hfit := hx x[0] (List.getElem_mem h0)
   have hmm : (made x).moveMin = pickM x[0].y5 7 := by unfold made; rw [List.getElem?_eq_getElem h0]
   have hmx : (made x).moveMax = pickM x[0].y5 7 + pickM (x[0].y5.tdiv 7) 20 := by unfold made; rw [List.getElem?_eq_getElem h0]
   have p1 := pickM_range (c := x[0].y5) (n := 7) (by omega)
   have p2 := pickM_range (c := x[0].y5.tdiv 7) (n := 20) (by omega)
   have hq := tdiv_I64 (n := 7) hfit.h5 (by omega)
   rw [hmm, hmx]
   refine W_seq ?_; refine W_region ?_; refine P1 T.ok rfl rfl rfl ?_
   refine WL_o rfl rfl (OpR_idx T.ok rfl rs0 (y := x[0]) (geti_of (j := 0) rfl h0) rfl rfl rfl rfl rfl rfl ?_)
   rintro b p ys hep rfl
   refine WL_o rfl rfl (OpR_idxA T.ok (q := 5) rfl rfl rfl rfl rfl rfl (by decide) ?_)
   refine WL_o rfl rfl (OpR_loadE T.ok (5 * 1) rfl hep rfl rfl ?_)
   refine WL_o rfl rfl (OpR_ret cl19 allF rfl rfl rfl rfl rfl (pick2_c _ _ _ hfit.h5 (by decide)) ?_); rintro g1 _ hf1 rfl; replace hs := hs.call hf1; have hqe := hf1.le; replace le0 := G.le.trans le0 hqe; replace le1 := G.le.trans le1 hqe; replace rs0 := rs0.mono hqe
   refine P1 T.ok rfl rfl rfl ?_
   refine WL_n rfl (OpR_storeO T.ok 0 rfl hs rfl rfl rfl rfl rfl rfl rfl rfl rfl ?_); replace hs := hs; rintro g1 hs hqe; replace le0 := G.le.trans le0 hqe; replace le1 := G.le.trans le1 hqe; replace rs0 := rs0.mono hqe
   refine WL_nil ?_; (with_reducible refine T_then ?_)
   apply W_draw allF rfl (Fact.eq _ :: Fact.eq _ :: Fact.eq _ :: (y6P x[0]) :: (intPtr x[0].y5) :: Fact.eq _ :: Fact.eq _ :: Fact.eq _ :: Fact.eq _ :: Fact.eq _ :: []) 10 [(8, 34), (9, 35)] rfl rfl
   ·refine D_s (js := []) (by kernel_rfl) (fun _ _ => QA_nil (DPu T.ok rfl rfl rfl)) ?_
    refine D_s (js := [(0, 26)]) (by kernel_rfl) (fun _ hf => QA_eq rfl (QA_nil (DLo T.ok 0 rfl rfl (hs.dr.call hf) rfl rfl rfl rfl))) ?_
    refine D_s (js := []) (by kernel_rfl) (fun _ _ => QA_nil (DPu T.ok rfl rfl rfl)) ?_
    refine D_cons (D_step2 (js := [(2, 28)]) (by kernel_rfl) fun gd hf => ?_) ?_
    ·have hsd := hs.dr.call hf; have hfe := (G.le_dr _).trans hf.le
     refine QA_eq rfl ?_
     refine QA_nil ?_
     refine D_yes rfl ?_
     refine OpR_idx T.ok rfl (rs0.mono hfe) (y := x[0]) (geti_of (j := 0) rfl h0) rfl rfl rfl rfl rfl rfl ?_
     intro b p ys hep hrc
     exact ⟨_, rfl, Fr0.refl _, b, p, rfl, hrc ▸ hep⟩
    refine D_cons (D_step2 (js := [(3, 29)]) (by kernel_rfl) fun gd hf => ?_) ?_
    ·have hsd := hs.dr.call hf; have hfe := (G.le_dr _).trans hf.le
     refine QA_any fun v3 h3 => ?_
     refine QA_nil ?_
     obtain ⟨b, p, rfl, hep⟩ := h3
     refine D_yes rfl ?_
     refine OpR_idxA T.ok (q := 5) rfl rfl rfl rfl rfl rfl (by decide) ?_
     exact ⟨_, rfl, Fr0.refl _, b, _, rfl, hep.sub 5 rfl⟩
    refine D_cons (D_step2 (js := [(4, 30)]) (by kernel_rfl) fun gd hf => ?_) ?_
    ·have hsd := hs.dr.call hf; have hfe := (G.le_dr _).trans hf.le
     refine QA_any fun v4 h4 => ?_
     refine QA_nil ?_
     obtain ⟨b, p, rfl, hep⟩ := h4
     refine D_yes rfl ?_
     refine OpR_loadE T.ok 0 rfl hep rfl rfl ?_
     refine ⟨_, rfl, Fr0.refl _, ?_⟩
     exact rfl
    refine D_cons (D_step2 (js := [(5, 31)]) (by kernel_rfl) fun gd hf => ?_) ?_
    ·have hsd := hs.dr.call hf; have hfe := (G.le_dr _).trans hf.le
     refine QA_eq rfl ?_
     refine QA_nil ?_
     refine D_yes rfl ?_
     refine OpR_pure _ T.ok rfl ?_
     refine ⟨_, rfl, Fr0.refl _, ?_⟩
     exact congrArg (Value.int .i64) (show _ = x[0].y5.tdiv 7 from wr hq.1 hq.2)
    refine D_cons (D_step2 (js := [(6, 32)]) (by kernel_rfl) fun gd hf => ?_) ?_
    ·have hsd := hs.dr.call hf; have hfe := (G.le_dr _).trans hf.le
     refine QA_eq rfl ?_
     refine QA_nil ?_
     refine D_yes rfl ?_
     refine OpR_ret cl19 allF rfl rfl rfl rfl rfl (pick2_c (x[0].y5.tdiv 7) 20 _ hq (by decide)) fun g' v h1 h2 => ⟨g', rfl, h1, ?_⟩
     exact h2
    refine D_cons (D_step2 (js := [(1, 27), (7, 33)]) (by kernel_rfl) fun gd hf => ?_) ?_
    ·have hsd := hs.dr.call hf; have hfe := (G.le_dr _).trans hf.le
     refine QA_eq rfl ?_; refine QA_eq rfl ?_
     refine QA_nil ?_
     refine D_yes rfl ?_
     refine OpR_pure _ T.ok rfl ?_
     refine ⟨_, rfl, Fr0.refl _, ?_⟩
     exact congrArg (Value.int .i64) (show _ = pickM x[0].y5 7 + pickM (x[0].y5.tdiv 7) 20 from wr (by omega) (by omega))
    refine D_s (js := []) (by kernel_rfl) (fun _ _ => QA_nil (DPu T.ok rfl rfl rfl)) ?_
    exact D_nil
   intro g1 hf1; refine QA_eq rfl ?_; refine QA_eq rfl ?_; refine QA_nil ?_
   replace hs := hs.dr.call hf1; have hqe := (G.le_dr _).trans hf1.le; replace le0 := G.le.trans le0 hqe; replace le1 := G.le.trans le1 hqe; replace rs0 := rs0.mono hqe
   skip
   refine WL_n rfl (OpR_storeO T.ok 0 rfl hs rfl rfl rfl rfl rfl rfl rfl rfl rfl ?_); replace hs := hs; rintro g1 hs hqe; replace le0 := G.le.trans le0 hqe; replace le1 := G.le.trans le1 hqe; replace rs0 := rs0.mono hqe
   refine WL_nil ?_
   refine fun a ha => T_mid ⟨_, rfl, hs, le1, ha.keep (by (repeat (first | exact trivial | refine ⟨rfl, ?_⟩)))⟩
  ·refine W_no (b := decide ((0 : Int) < (x.length : Int))) (decide_eq_false (by omega)) rfl ?_
   obtain rfl : x = [] := List.eq_nil_of_length_eq_zero (by omega)
   refine W_skip ?_
   refine fun a ha => T_mid ⟨_, rfl, hs, le1, ha.keep (by (repeat (first | exact trivial | refine ⟨rfl, ?_⟩)))⟩
 rintro a' _ ⟨g2, rfl, hs', hqe, ha'⟩
 replace hs := hs'; clear hs'
 replace le0 := G.le.trans le0 hqe; replace rs0 := rs0.mono hqe
 revert a'
 (with_reducible refine T_wp ?_); refine W_seq ?_; refine W_seq ?_; refine W_region ?_; refine P1 T.ok rfl rfl rfl ?_; refine WL_nil ?_; (with_reducible refine T_then ?_); refine W_block ?_
 have rs0c := rs0; have le5 := G.le.refl g2
 replace hs := hs.nilrow 51 7 none
 refine W_loop (fun m a' w => ∃ (k : Nat) (sv : Value) (cells : List Value) (g3 : G), w = g3.w ∧ St g g3 [.row 51 7 sv k cells, .obj bf (.cells [.int .i64 (made x).moveMin, .int .i64 (made x).moveMax, sv, .slice none 0 0].toArray 27 (0, 0)), .obj br (.cells [.int .i64 0, .int .i64 0, .slice none 0 0, .slice none 0 0].toArray 27 (0, 0))] ∧ G.le g2 g3 ∧ k ≤ madeN x ∧ m = madeN x - k ∧ RcL g3 cells (stepsTo x (madeN x) k) ∧
   Fr 205 [] [(0, .slice a x.length c), (2, .pointer (some ⟨br, 0, none⟩)), (3, .int .i64 (madeN x)), (4, .pointer (some ⟨bf, 0, none⟩)), (5, .int .i64 k)] a') (madeN x)
  (fun a' ha => ⟨0, _, [], g2, rfl, hs, le5, Nat.zero_le _, rfl, rfl, ha.keep (by (repeat (first | exact trivial | refine ⟨rfl, ?_⟩)))⟩) ?_
 clear hs le5 rs0
 rintro m a' _ ⟨k, sv, cells, g3, rfl, hs, le5, hk, rfl, hrc, ha'⟩
 have rs0 := rs0c.mono le5
 obtain ⟨sa, sc, rfl⟩ := (hs.own 0 _ rfl).1.form
 revert a'
 (with_reducible refine T_wp ?_); refine W_seq ?_; refine W_seq ?_; refine W_region ?_; (iterate 3 refine P1 T.ok rfl rfl rfl ?_); refine WL_nil ?_; (with_reducible refine T_then ?_)
 by_cases hlt : k < madeN x
 ·refine W_yes (b := decide ((k : Int) < (madeN x : Int))) (by simp; omega) rfl ?_
  have hst := stepsTo_succ x (madeN x) k
  have hrcd := hrc; have le4 := G.le.refl g3; have le6 := le5
  refine W_skip ?_; (with_reducible refine T_then ?_); refine W_seq ?_; refine W_block ?_; refine W_seq ?_; refine W_region ?_; (iterate 3 refine P1 T.ok rfl rfl rfl ?_)
  refine WL_o rfl rfl (OpR_lit T.ok rfl hs (vs := [(0, .int .i64 (k : Int))]) (cells := [.int .i64 (k : Int)]) rfl rfl rfl rfl rfl rfl (by decide) (by decide) (by kernel_rfl) rfl ?_); rintro b2 g4 hs hqe; replace le4 := G.le.trans le4 hqe; replace rs0 := rs0.mono hqe
  replace hrc := hrc.mono hqe; replace le5 := le5.trans hqe
  obtain ⟨g5, hw5, hs5, hqe5, hrl⟩ := hs.fzRow (α := Int) (xs := [(k : Int)]) (i := 0) rfl (RcL.ints _ [(k : Int)])
  clear hqe; have hqe := hqe5; rw [← hw5]; replace hs := hs5; replace le4 := G.le.trans le4 hqe; replace rs0 := rs0.mono hqe
  replace hrc := hrc.mono hqe; replace le5 := le5.trans hqe
  refine WL_o rfl rfl (OpR_build T.ok rfl (vs := [(0, .int .i64 (IntKind.i64.wrap (1 + (k : Int)))), (1, .slice (some ⟨b2, 0, none⟩) 1 1), (2, .int .i64 10), (3, .int .i64 10), (5, .int .i64 (-1))])
   (cells := [.int .i64 (IntKind.i64.wrap (1 + (k : Int))), .slice (some ⟨b2, 0, none⟩) 1 1, .int .i64 10, .int .i64 10, .slice none 0 0, .int .i64 (-1), .int .i64 0]) rfl rfl rfl rfl [(0, 1), (1, 1), (2, 1), (3, 1), (4, 1), (5, 1), (6, 1)] rfl (by kernel_rfl) ?_)
  skip
  refine WL_o rfl rfl (OpR_alloc T.ok rfl hs rfl rfl ?_); clear hs; rintro bs g1 hs hqe; replace le4 := G.le.trans le4 hqe; replace rs0 := rs0.mono hqe
  replace hrc := hrc.mono hqe; replace le5 := le5.trans hqe; replace hrl := hrl.mono hqe
  skip
  refine WL_n rfl (OpR_storeO T.ok 0 rfl hs rfl rfl rfl rfl rfl rfl rfl rfl rfl ?_); replace hs := hs; rintro g1 hs hqe; replace le4 := G.le.trans le4 hqe; replace rs0 := rs0.mono hqe
  replace hrc := hrc.mono hqe; replace le5 := le5.trans hqe; replace hrl := hrl.mono hqe
  refine WL_nil ?_; (with_reducible refine T_then ?_); refine W_seq ?_; refine W_seq ?_; refine W_region ?_; (iterate 4 refine P1 T.ok rfl rfl rfl ?_); refine WL_nil ?_; (with_reducible refine T_then ?_)
  refine W_mid (fun a' w => ∃ (tv nv : Value) (g4 : G), w = g4.w ∧ St g g4 [.obj bs (.cells (stepC (stepOf x (madeN x) k) tv nv).toArray 51 (0, 0)), .row 51 7 (.slice sa k sc) k cells, .obj bf (.cells [.int .i64 (made x).moveMin, .int .i64 (made x).moveMax, .slice sa k sc, .slice none 0 0].toArray 27 (0, 0)), .obj br (.cells [.int .i64 0, .int .i64 0, .slice none 0 0, .slice none 0 0].toArray 27 (0, 0))] ∧ G.le g3 g4 ∧
    Rs g4 tv (stepOf x (madeN x) k).tools ∧ Rs g4 nv (stepOf x (madeN x) k).next ∧
    Fr 205 [] [(0, .slice a x.length c), (2, .pointer (some ⟨br, 0, none⟩)), (3, .int .i64 (madeN x)), (4, .pointer (some ⟨bf, 0, none⟩)), (5, .int .i64 k), (6, .pointer (some ⟨bs, 0, none⟩))] a') ?_ ?_
  ·by_cases hkx : k < x.length
   ·refine W_yes (b := decide ((k : Int) < (x.length : Int))) (by simp; omega) rfl ?_
    obtain ⟨y, hy⟩ : ∃ y, x[k]? = some y := ⟨_, List.getElem?_eq_getElem hkx⟩
    have hfit := hx y (List.mem_of_getElem? hy)
    have hgi : geti x (k : Int) = some y := by simp [geti, hy]
    have hso : stepOf x (madeN x) k = ⟨1 + pickM y.y0 6, [pickM (y.y0.tdiv 6) 5, 5 + pickM (y.y0.tdiv 30) 5], 1 + pickM y.y1 20, 1 + pickM y.y1 20 + pickM (y.y1.tdiv 20) 15, nextTo y k (madeN x),
     if pickM y.y3 3 = 0 then pickM (y.y3.tdiv 3) (madeN x) else -1, if pickM y.y3 3 = 0 then 1 + pickM y.y4 3 else 0⟩ := by unfold stepOf; rw [hy]
    have p1 := pickM_range (c := y.y0) (n := 6) (by omega)
    have p2 := pickM_range (c := y.y0.tdiv 6) (n := 5) (by omega)
    have p3 := pickM_range (c := y.y0.tdiv 30) (n := 5) (by omega)
    have p4 := pickM_range (c := y.y1) (n := 20) (by omega)
    have p5 := pickM_range (c := y.y1.tdiv 20) (n := 15) (by omega)
    have p6 := pickM_range (c := y.y3.tdiv 3) (n := madeN x) (by omega)
    have p7 := pickM_range (c := y.y4) (n := 3) (by omega)
    have q1 := tdiv_I64 (n := 6) hfit.h0 (by omega)
    have q2 := tdiv_I64 (n := 30) hfit.h0 (by omega)
    have q3 := tdiv_I64 (n := 20) hfit.h1 (by omega)
    have q4 := tdiv_I64 (n := 3) hfit.h3 (by omega)
    refine W_seq ?_; refine W_region ?_; refine P1 T.ok rfl rfl rfl ?_; refine P1 T.ok rfl rfl rfl ?_
    refine WL_o rfl rfl (OpR_idx T.ok rfl rs0 (y := y) hgi rfl rfl rfl rfl rfl rfl ?_)
    rintro b p ys hep rfl
    refine WL_o rfl rfl (OpR_loadE T.ok 0 rfl hep rfl rfl ?_)
    skip
    refine WL_o rfl rfl (OpR_alloc T.ok rfl hs rfl rfl ?_); clear hs; rintro bY g1 hs hqe; replace le4 := G.le.trans le4 hqe; replace rs0 := rs0.mono hqe
    replace hrl := hrl.mono hqe
    skip
    refine WL_n rfl (OpR_storeO T.ok 0 rfl hs rfl rfl rfl rfl rfl rfl rfl rfl rfl ?_); replace hs := hs; rintro g1 hs hqe; replace le4 := G.le.trans le4 hqe; replace rs0 := rs0.mono hqe
    replace hrl := hrl.mono hqe
    obtain ⟨g2, hw2, hs2, hqe, hep⟩ := hs.fzObj (i := 0) rfl; replace hs := hs2; clear hs2; rw [← hw2]; replace le4 := G.le.trans le4 hqe; replace rs0 := rs0.mono hqe
    replace hrl := hrl.mono hqe
    have ep0 := hep; clear hep
    refine WL_nil ?_; (with_reducible refine T_then ?_); refine W_seq ?_; refine W_region ?_
    refine WL_o rfl rfl (OpR_idxA T.ok (q := 0) rfl rfl rfl rfl rfl rfl (by decide) ?_)
    refine WL_o rfl rfl (OpR_loadE T.ok 0 rfl ep0 rfl rfl ?_)
    refine WL_o rfl rfl (OpR_ret cl19 allF rfl rfl rfl rfl rfl (pick2_c _ _ _ hfit.h0 (by decide)) ?_); rintro g1 _ hf1 rfl; replace hs := hs.call hf1; have hqe := hf1.le; replace le4 := G.le.trans le4 hqe; replace ep0 := ep0.mono hqe; replace rs0 := rs0.mono hqe
    replace hrl := hrl.mono hqe
    refine P1 T.ok rfl rfl rfl ?_; refine P1 T.ok rfl rfl rfl ?_
    rw [wr (n := 1 + pickM y.y0 6) (by omega) (by omega)]
    refine WL_n rfl (OpR_storeO T.ok 0 rfl hs rfl rfl rfl rfl rfl rfl rfl rfl rfl ?_); replace hs := hs; rintro g1 hs hqe; replace le4 := G.le.trans le4 hqe; replace ep0 := ep0.mono hqe; replace rs0 := rs0.mono hqe
    replace hrl := hrl.mono hqe
    refine WL_nil ?_; (with_reducible refine T_then ?_); refine W_seq ?_
    apply W_draw allF rfl (Fact.eq _ :: Fact.eq _ :: Fact.eq _ :: Fact.eq _ :: Fact.eq _ :: Fact.eq _ :: Fact.eq _ :: Fact.eq _ :: Fact.eq _ :: (Fact.rs [pickM (y.y0.tdiv 6) 5, 5 + pickM (y.y0.tdiv 30) 5]) :: Fact.eq _ :: []) 11 [(9, 68), (10, 69)] rfl rfl
    ·refine D_cons (D_step2 (js := []) (by kernel_rfl) fun gd hf => ?_) ?_
     ·have hsd := hs.dr.call hf; have hfe := (G.le_dr _).trans hf.le
      refine QA_nil ?_
      (refine D_yes rfl ?_; refine OpR_idxA T.ok (q := 0) rfl rfl rfl rfl rfl rfl (by decide) ?_; refine ⟨_, rfl, Fr0.refl _, ?_⟩; exact rfl)
     refine D_s (js := [(0, 59)]) (by kernel_rfl) (fun _ hf => QA_eq rfl (QA_nil (DLe T.ok 0 rfl rfl (ep0.mono ((G.le_dr _).trans hf.le)) rfl rfl rfl))) ?_
     refine D_cons (D_step2 (js := [(1, 60)]) (by kernel_rfl) fun gd hf => ?_) ?_
     ·have hsd := hs.dr.call hf; have hfe := (G.le_dr _).trans hf.le
      refine QA_eq rfl ?_
      refine QA_nil ?_
      refine D_yes rfl ?_
      refine OpR_pure _ T.ok rfl ?_
      refine ⟨_, rfl, Fr0.refl _, ?_⟩
      exact congrArg (Value.int .i64) (show _ = y.y0.tdiv 6 from wr q1.1 q1.2)
     refine D_cons (D_step2 (js := [(2, 61)]) (by kernel_rfl) fun gd hf => ?_) ?_
     ·have hsd := hs.dr.call hf; have hfe := (G.le_dr _).trans hf.le
      refine QA_eq rfl ?_
      refine QA_nil ?_
      refine D_yes rfl ?_
      refine OpR_ret cl19 allF rfl rfl rfl rfl rfl (pick2_c (y.y0.tdiv 6) 5 _ q1 (by decide)) fun g' v h1 h2 => ⟨g', rfl, h1, ?_⟩
      exact h2
     refine D_cons (D_step2 (js := []) (by kernel_rfl) fun gd hf => ?_) ?_
     ·have hsd := hs.dr.call hf; have hfe := (G.le_dr _).trans hf.le
      refine QA_nil ?_
      (refine D_yes rfl ?_; refine OpR_idxA T.ok (q := 0) rfl rfl rfl rfl rfl rfl (by decide) ?_; refine ⟨_, rfl, Fr0.refl _, ?_⟩; exact rfl)
     refine D_s (js := [(4, 63)]) (by kernel_rfl) (fun _ hf => QA_eq rfl (QA_nil (DLe T.ok 0 rfl rfl (ep0.mono ((G.le_dr _).trans hf.le)) rfl rfl rfl))) ?_
     refine D_cons (D_step2 (js := [(5, 64)]) (by kernel_rfl) fun gd hf => ?_) ?_
     ·have hsd := hs.dr.call hf; have hfe := (G.le_dr _).trans hf.le
      refine QA_eq rfl ?_
      refine QA_nil ?_
      refine D_yes rfl ?_
      refine OpR_pure _ T.ok rfl ?_
      refine ⟨_, rfl, Fr0.refl _, ?_⟩
      exact congrArg (Value.int .i64) (show _ = y.y0.tdiv 30 from wr q2.1 q2.2)
     refine D_cons (D_step2 (js := [(6, 65)]) (by kernel_rfl) fun gd hf => ?_) ?_
     ·have hsd := hs.dr.call hf; have hfe := (G.le_dr _).trans hf.le
      refine QA_eq rfl ?_
      refine QA_nil ?_
      refine D_yes rfl ?_
      refine OpR_ret cl19 allF rfl rfl rfl rfl rfl (pick2_c (y.y0.tdiv 30) 5 _ q2 (by decide)) fun g' v h1 h2 => ⟨g', rfl, h1, ?_⟩
      exact h2
     refine D_cons (D_step2 (js := [(7, 66)]) (by kernel_rfl) fun gd hf => ?_) ?_
     ·have hsd := hs.dr.call hf; have hfe := (G.le_dr _).trans hf.le
      refine QA_eq rfl ?_
      refine QA_nil ?_
      refine D_yes rfl ?_
      refine OpR_pure _ T.ok rfl ?_
      refine ⟨_, rfl, Fr0.refl _, ?_⟩
      exact congrArg (Value.int .i64) (show _ = 5 + pickM (y.y0.tdiv 30) 5 from wr (by omega) (by omega))
     refine D_cons (D_step2 (js := [(3, 62), (8, 67)]) (by kernel_rfl) fun gd hf => ?_) ?_
     ·have hsd := hs.dr.call hf; have hfe := (G.le_dr _).trans hf.le
      refine QA_eq rfl ?_; refine QA_eq rfl ?_
      refine QA_nil ?_
      refine D_yes rfl ?_
      refine OpR_lit T.ok rfl (St.start gd) (vs := [(0, .int .i64 (pickM (y.y0.tdiv 6) 5)), (1, .int .i64 (5 + pickM (y.y0.tdiv 30) 5))]) (cells := [.int .i64 (pickM (y.y0.tdiv 6) 5), .int .i64 (5 + pickM (y.y0.tdiv 30) 5)]) rfl rfl rfl rfl rfl rfl (by decide) (by decide) (by kernel_rfl) rfl ?_
      intro b2 g2 hs1 hqe1
      obtain ⟨g3, hw3, hs3, hqe3, hrl⟩ := hs1.fzRow (α := Int) (xs := [pickM (y.y0.tdiv 6) 5, 5 + pickM (y.y0.tdiv 30) 5]) (i := 0) rfl (RcL.ints _ [pickM (y.y0.tdiv 6) 5, 5 + pickM (y.y0.tdiv 30) 5])
      exact ⟨g3, hw3, hs3.fr0, hrl⟩
     refine D_s (js := []) (by kernel_rfl) (fun _ _ => QA_nil (DPu T.ok rfl rfl rfl)) ?_
     exact D_nil
    intro g1 hf1; refine QA_any fun v9 h9 => ?_; refine QA_eq rfl ?_; refine QA_nil ?_
    replace hs := hs.dr.call hf1; have hqe := (G.le_dr _).trans hf1.le; replace le4 := G.le.trans le4 hqe; replace ep0 := ep0.mono hqe; replace rs0 := rs0.mono hqe
    have htl : Rs g1 v9 [pickM (y.y0.tdiv 6) 5, 5 + pickM (y.y0.tdiv 30) 5] := h9
    clear h9
    obtain ⟨ta, tc, rfl⟩ := htl.isSlice
    skip
    refine WL_n rfl (OpR_storeO T.ok 0 rfl hs rfl rfl rfl rfl rfl rfl rfl rfl rfl ?_); replace hs := hs; rintro g1 hs hqe; replace le4 := G.le.trans le4 hqe; replace ep0 := ep0.mono hqe; replace rs0 := rs0.mono hqe
    replace htl := htl.mono hqe
    refine WL_nil ?_; (with_reducible refine T_then ?_); refine W_seq ?_; refine W_region ?_
    refine WL_o rfl rfl (OpR_idxA T.ok (q := 1) rfl rfl rfl rfl rfl rfl (by decide) ?_)
    refine WL_o rfl rfl (OpR_loadE T.ok 1 rfl ep0 rfl rfl ?_)
    refine WL_o rfl rfl (OpR_ret cl19 allF rfl rfl rfl rfl rfl (pick2_c _ _ _ hfit.h1 (by decide)) ?_); rintro g1 _ hf1 rfl; replace hs := hs.call hf1; have hqe := hf1.le; replace le4 := G.le.trans le4 hqe; replace ep0 := ep0.mono hqe; replace rs0 := rs0.mono hqe
    replace htl := htl.mono hqe
    refine P1 T.ok rfl rfl rfl ?_; refine P1 T.ok rfl rfl rfl ?_
    rw [wr (n := 1 + pickM y.y1 20) (by omega) (by omega)]
    refine WL_n rfl (OpR_storeO T.ok 0 rfl hs rfl rfl rfl rfl rfl rfl rfl rfl rfl ?_); replace hs := hs; rintro g1 hs hqe; replace le4 := G.le.trans le4 hqe; replace ep0 := ep0.mono hqe; replace rs0 := rs0.mono hqe
    replace htl := htl.mono hqe
    refine WL_nil ?_; (with_reducible refine T_then ?_); refine W_seq ?_
    apply W_draw allF rfl (Fact.eq _ :: Fact.eq _ :: Fact.eq _ :: Fact.eq _ :: Fact.eq _ :: Fact.eq _ :: Fact.eq _ :: Fact.eq _ :: []) 8 [(6, 81), (7, 82)] rfl rfl
    ·refine D_s (js := []) (by kernel_rfl) (fun _ _ => QA_nil (DPu T.ok rfl rfl rfl)) ?_
     refine D_s (js := [(0, 75)]) (by kernel_rfl) (fun _ hf => QA_eq rfl (QA_nil (DLo T.ok 0 rfl rfl (hs.dr.call hf) rfl rfl rfl rfl))) ?_
     refine D_cons (D_step2 (js := []) (by kernel_rfl) fun gd hf => ?_) ?_
     ·have hsd := hs.dr.call hf; have hfe := (G.le_dr _).trans hf.le
      refine QA_nil ?_
      (refine D_yes rfl ?_; refine OpR_idxA T.ok (q := 1) rfl rfl rfl rfl rfl rfl (by decide) ?_; refine ⟨_, rfl, Fr0.refl _, ?_⟩; exact rfl)
     refine D_s (js := [(2, 77)]) (by kernel_rfl) (fun _ hf => QA_eq rfl (QA_nil (DLe T.ok 1 rfl rfl (ep0.mono ((G.le_dr _).trans hf.le)) rfl rfl rfl))) ?_
     refine D_cons (D_step2 (js := [(3, 78)]) (by kernel_rfl) fun gd hf => ?_) ?_
     ·have hsd := hs.dr.call hf; have hfe := (G.le_dr _).trans hf.le
      refine QA_eq rfl ?_
      refine QA_nil ?_
      refine D_yes rfl ?_
      refine OpR_pure _ T.ok rfl ?_
      refine ⟨_, rfl, Fr0.refl _, ?_⟩
      exact congrArg (Value.int .i64) (show _ = y.y1.tdiv 20 from wr q3.1 q3.2)
     refine D_cons (D_step2 (js := [(4, 79)]) (by kernel_rfl) fun gd hf => ?_) ?_
     ·have hsd := hs.dr.call hf; have hfe := (G.le_dr _).trans hf.le
      refine QA_eq rfl ?_
      refine QA_nil ?_
      refine D_yes rfl ?_
      refine OpR_ret cl19 allF rfl rfl rfl rfl rfl (pick2_c (y.y1.tdiv 20) 15 _ q3 (by decide)) fun g' v h1 h2 => ⟨g', rfl, h1, ?_⟩
      exact h2
     refine D_cons (D_step2 (js := [(1, 76), (5, 80)]) (by kernel_rfl) fun gd hf => ?_) ?_
     ·have hsd := hs.dr.call hf; have hfe := (G.le_dr _).trans hf.le
      refine QA_eq rfl ?_; refine QA_eq rfl ?_
      refine QA_nil ?_
      refine D_yes rfl ?_
      refine OpR_pure _ T.ok rfl ?_
      refine ⟨_, rfl, Fr0.refl _, ?_⟩
      exact congrArg (Value.int .i64) (show _ = 1 + pickM y.y1 20 + pickM (y.y1.tdiv 20) 15 from wr (by omega) (by omega))
     refine D_s (js := []) (by kernel_rfl) (fun _ _ => QA_nil (DPu T.ok rfl rfl rfl)) ?_
     exact D_nil
    intro g1 hf1; refine QA_eq rfl ?_; refine QA_eq rfl ?_; refine QA_nil ?_
    replace hs := hs.dr.call hf1; have hqe := (G.le_dr _).trans hf1.le; replace le4 := G.le.trans le4 hqe; replace ep0 := ep0.mono hqe; replace rs0 := rs0.mono hqe
    replace htl := htl.mono hqe
    skip
    refine WL_n rfl (OpR_storeO T.ok 0 rfl hs rfl rfl rfl rfl rfl rfl rfl rfl rfl ?_); replace hs := hs; rintro g1 hs hqe; replace le4 := G.le.trans le4 hqe; replace ep0 := ep0.mono hqe; replace rs0 := rs0.mono hqe
    replace htl := htl.mono hqe
    refine WL_nil ?_; (with_reducible refine T_then ?_); refine W_seq ?_; refine W_seq ?_; refine W_region ?_; refine P1 T.ok rfl rfl rfl ?_; refine WL_nil ?_; (with_reducible refine T_then ?_); refine W_block ?_
    replace hs := hs.nilrow 3 1 none
    have ep0e := ep0; have htle := htl; have rs0e := rs0; have le4e := le4; have le7 := G.le.refl g1
    refine W_loop (fun m a' w => ∃ (j : Nat) (nv : Value) (g5 : G), w = g5.w ∧ St g g5 [.row 3 1 nv (nextTo y k j).length (intVs (nextTo y k j)), .obj bs (.cells [.int .i64 (1 + pickM y.y0 6), .slice ta 2 tc, .int .i64 (1 + pickM y.y1 20), .int .i64 (1 + pickM y.y1 20 + pickM (y.y1.tdiv 20) 15), nv, .int .i64 (-1), .int .i64 0].toArray 51 (0, 0)), .row 51 7 (.slice sa k sc) k cells, .obj bf (.cells [.int .i64 (made x).moveMin, .int .i64 (made x).moveMax, .slice sa k sc, .slice none 0 0].toArray 27 (0, 0)), .obj br (.cells [.int .i64 0, .int .i64 0, .slice none 0 0, .slice none 0 0].toArray 27 (0, 0))] ∧ G.le g1 g5 ∧ j ≤ madeN x ∧ m = madeN x - j ∧
      Fr 205 [] [(0, .slice a x.length c), (2, .pointer (some ⟨br, 0, none⟩)), (3, .int .i64 (madeN x)), (4, .pointer (some ⟨bf, 0, none⟩)), (5, .int .i64 k), (6, .pointer (some ⟨bs, 0, none⟩)), (7, .pointer (some ⟨bY, 0, none⟩)), (8, .int .i64 j)] a') (madeN x)
     (fun a' ha => ⟨0, _, _, rfl, hs, le7, Nat.zero_le _, rfl, ha.keep (by (repeat (first | exact trivial | refine ⟨rfl, ?_⟩)))⟩) ?_
    clear hs le7 ep0 rs0 htl le4 hrl hrc le5
    rintro m a' _ ⟨j, nv, g5, rfl, hs, le7, hj, rfl, ha'⟩
    have ep0 := ep0e.mono le7; have rs0 := rs0e.mono le7; have htl := htle.mono le7; have le4 := le4e.trans le7
    obtain ⟨na, nc, rfl⟩ := (hs.own 0 _ rfl).1.form
    revert a'
    (with_reducible refine T_wp ?_); refine W_seq ?_; refine W_seq ?_; refine W_region ?_; (iterate 3 refine P1 T.ok rfl rfl rfl ?_); refine WL_nil ?_; (with_reducible refine T_then ?_)
    by_cases hlj : j < madeN x
    ·refine W_yes (b := decide ((j : Int) < (madeN x : Int))) (by simp; omega) rfl ?_
     have hns := nextTo_succ y k j
     unfold nextStep at hns
     have q5 := fdiv_I64 hfit.h2 j
     have le1 := G.le.refl g5
     have ep0f := ep0; have htlf := htl; have rs0f := rs0; have le4f := le4
     refine W_skip ?_; (with_reducible refine T_then ?_); refine W_seq ?_; refine W_block ?_; refine W_seq ?_; refine W_region ?_; (iterate 5 refine P1 T.ok rfl rfl rfl ?_)
     refine WL_cut (fun a' w => ∃ g6, w = g6.w ∧ St g g6 [.row 3 1 (.slice na (nextTo y k j).length nc) (nextTo y k j).length (intVs (nextTo y k j)), .obj bs (.cells [.int .i64 (1 + pickM y.y0 6), .slice ta 2 tc, .int .i64 (1 + pickM y.y1 20), .int .i64 (1 + pickM y.y1 20 + pickM (y.y1.tdiv 20) 15), .slice na (nextTo y k j).length nc, .int .i64 (-1), .int .i64 0].toArray 51 (0, 0)), .row 51 7 (.slice sa k sc) k cells, .obj bf (.cells [.int .i64 (made x).moveMin, .int .i64 (made x).moveMax, .slice sa k sc, .slice none 0 0].toArray 27 (0, 0)), .obj br (.cells [.int .i64 0, .int .i64 0, .slice none 0 0, .slice none 0 0].toArray 27 (0, 0))] ∧ G.le g5 g6 ∧
      Fr 205 [] [(0, .slice a x.length c), (2, .pointer (some ⟨br, 0, none⟩)), (3, .int .i64 (madeN x)), (4, .pointer (some ⟨bf, 0, none⟩)), (5, .int .i64 k), (6, .pointer (some ⟨bs, 0, none⟩)), (7, .pointer (some ⟨bY, 0, none⟩)), (8, .int .i64 j), (9, .bool (later y k j))] a') (List.append_nil _).symm ?_ ?_
     ·skip
      by_cases c1 : j = k + 1
      ·refine WL_know 92 (b' := true) (by rw [wr (by omega) (by omega)]; exact beq_iff_eq.2 (by omega)) rfl ?_
       refine WL_o rfl rfl (OpR_idxA T.ok (q := 2) rfl rfl rfl rfl rfl rfl (by decide) ?_)
       refine WL_o rfl rfl (OpR_loadE T.ok 2 rfl ep0 rfl rfl ?_)
       refine WL_o rfl rfl (OpR_ret cl19 allF rfl rfl rfl rfl rfl (pick2_c _ _ _ hfit.h2 (by decide)) ?_); rintro g1 _ hf1 rfl; replace hs := hs.call hf1; have hqe := hf1.le; replace le1 := G.le.trans le1 hqe; replace le4 := G.le.trans le4 hqe; replace ep0 := ep0.mono hqe; replace rs0 := rs0.mono hqe
       (iterate 3 refine P1 T.ok rfl rfl rfl ?_)
       by_cases c2 : 0 < pickM y.y2 8
       ·refine WL_know 98 (b' := true) (decide_eq_true c2) rfl ?_
        (iterate 12 refine S1 allF rfl rfl ?_); refine P1 T.ok rfl rfl rfl ?_; refine P1 T.ok rfl rfl rfl ?_; (iterate 11 refine S1 allF rfl rfl ?_); refine P1 T.ok rfl rfl rfl ?_; refine P1 T.ok rfl rfl rfl ?_; refine WL_nil ?_
        exact fun a ha => T_mid ⟨_, rfl, hs, le1, ha.keep ⟨rfl, rfl, rfl, rfl, rfl, rfl, rfl, rfl, kB rfl (by unfold later; simp [c1, c2]), trivial⟩⟩
       ·refine WL_know 98 (b' := false) (decide_eq_false c2) rfl ?_
        (iterate 5 refine P1 T.ok rfl rfl rfl ?_)
        refine WL_know 103 (b' := false) (by rw [wr (by omega) (by omega)]; exact decide_eq_false (by omega)) rfl ?_
        (iterate 6 refine S1 allF rfl rfl ?_); (iterate 7 refine P1 T.ok rfl rfl rfl ?_)
        refine WL_know 116 (b' := false) (decide_eq_false (by omega)) rfl ?_
        (iterate 6 refine S1 allF rfl rfl ?_); (iterate 3 refine P1 T.ok rfl rfl rfl ?_); refine WL_nil ?_
        exact fun a ha => T_mid ⟨_, rfl, hs, le1, ha.keep ⟨rfl, rfl, rfl, rfl, rfl, rfl, rfl, rfl, kB rfl (by unfold later; simp [c1, c2]; intro h; omega), trivial⟩⟩
      ·refine WL_know 92 (b' := false) (by rw [wr (by omega) (by omega)]; exact beq_eq_false_iff_ne.2 (by omega)) rfl ?_
       (iterate 4 refine S1 allF rfl rfl ?_); (iterate 7 refine P1 T.ok rfl rfl rfl ?_)
       by_cases c3 : k + 1 < j
       ·refine WL_know 103 (b' := true) (by rw [wr (by omega) (by omega)]; exact decide_eq_true (by omega)) rfl ?_
        refine WL_o rfl rfl (OpR_idxA T.ok (q := 2) rfl rfl rfl rfl rfl rfl (by decide) ?_)
        refine WL_o rfl rfl (OpR_loadE T.ok 2 rfl ep0 rfl rfl ?_); refine P1 T.ok rfl rfl rfl ?_; refine P2 T.ok rfl rfl rfl ?_
        rw [shr_fdiv (by omega : j < 64)]
        refine WL_o rfl rfl (OpR_ret cl19 allF rfl rfl rfl rfl rfl (pick2_c _ _ _ q5 (by decide)) ?_); rintro g1 _ hf1 rfl; replace hs := hs.call hf1; have hqe := hf1.le; replace le1 := G.le.trans le1 hqe; replace le4 := G.le.trans le4 hqe; replace ep0 := ep0.mono hqe; replace rs0 := rs0.mono hqe
        (iterate 4 refine P1 T.ok rfl rfl rfl ?_)
        by_cases c4 : pickM (y.y2.fdiv (2 ^ j)) 4 = 0
        ·refine WL_know 112 (b' := true) (beq_iff_eq.2 c4) rfl ?_
         (iterate 11 refine S1 allF rfl rfl ?_); refine P1 T.ok rfl rfl rfl ?_; refine P1 T.ok rfl rfl rfl ?_; refine WL_nil ?_
         exact fun a ha => T_mid ⟨_, rfl, hs, le1, ha.keep ⟨rfl, rfl, rfl, rfl, rfl, rfl, rfl, rfl, kB rfl (by unfold later; simp [c3, c4]), trivial⟩⟩
        ·refine WL_know 112 (b' := false) (beq_eq_false_iff_ne.2 c4) rfl ?_
         (iterate 4 refine P1 T.ok rfl rfl rfl ?_)
         refine WL_know 116 (b' := false) (decide_eq_false (by omega)) rfl ?_
         (iterate 6 refine S1 allF rfl rfl ?_); (iterate 3 refine P1 T.ok rfl rfl rfl ?_); refine WL_nil ?_
         exact fun a ha => T_mid ⟨_, rfl, hs, le1, ha.keep ⟨rfl, rfl, rfl, rfl, rfl, rfl, rfl, rfl, kB rfl (by unfold later; simp [c1, c3, c4]; omega), trivial⟩⟩
       ·refine WL_know 103 (b' := false) (by rw [wr (by omega) (by omega)]; exact decide_eq_false (by omega)) rfl ?_
        (iterate 6 refine S1 allF rfl rfl ?_); (iterate 7 refine P1 T.ok rfl rfl rfl ?_)
        refine WL_know 116 (b' := true) (decide_eq_true (by omega)) rfl ?_
        refine WL_o rfl rfl (OpR_idxA T.ok (q := 2) rfl rfl rfl rfl rfl rfl (by decide) ?_)
        refine WL_o rfl rfl (OpR_loadE T.ok 2 rfl ep0 rfl rfl ?_); refine P1 T.ok rfl rfl rfl ?_; refine P2 T.ok rfl rfl rfl ?_
        rw [shr_fdiv (by omega : j < 64)]
        refine WL_o rfl rfl (OpR_ret cl19 allF rfl rfl rfl rfl rfl (pick2_c _ _ _ q5 (by decide)) ?_); rintro g1 _ hf1 rfl; replace hs := hs.call hf1; have hqe := hf1.le; replace le1 := G.le.trans le1 hqe; replace le4 := G.le.trans le4 hqe; replace ep0 := ep0.mono hqe; replace rs0 := rs0.mono hqe
        (iterate 4 refine P1 T.ok rfl rfl rfl ?_); refine WL_nil ?_
        exact fun a ha => T_mid ⟨_, rfl, hs, le1, ha.keep ⟨rfl, rfl, rfl, rfl, rfl, rfl, rfl, rfl, kB rfl (by unfold later; simp [c1, c3, show j ≤ k from by omega]; rfl), trivial⟩⟩
     ·rintro a' _ ⟨g6, rfl, hs', hqe, ha'⟩
      replace hs := hs'; clear hs' ep0 htl rs0 le4
      have ep0 := ep0f.mono hqe; have htl := htlf.mono hqe; have rs0 := rs0f.mono hqe; have le4 := le4f.trans hqe; replace le7 := le7.trans hqe
      revert a'
      (with_reducible refine T_wl0 ?_); (with_reducible refine T_then ?_); refine W_seq ?_; refine W_region ?_; refine P1 T.ok rfl rfl rfl ?_; refine P1 T.ok rfl rfl rfl ?_
      refine WL_seg (want := true) (x := decide ((nextTo y k j).length < 4)) 4 allF rfl rfl rfl rfl (.inl ⟨rfl, rfl, rfl⟩) rfl rfl rfl rfl (fun hb Q' hQ' => ?_) (fun g' hf => ?_)
      ·refine P1 T.ok rfl rfl rfl ?_; refine WL_o rfl rfl (OpR_loadO T.ok 1 rfl hs rfl rfl rfl ?_); refine P1 T.ok rfl rfl rfl ?_; refine P1 T.ok rfl rfl rfl ?_; refine WL_nil ?_
       exact fun a ha => hQ' _ a (Fr0.refl _) (ha.keep ⟨kB rfl (by simp; omega), (by (repeat (first | exact trivial | refine ⟨rfl, ?_⟩)))⟩)
      replace hs := hs.call hf; have hqe := hf.le; replace le4 := G.le.trans le4 hqe; replace ep0 := ep0.mono hqe; replace rs0 := rs0.mono hqe
      replace le7 := le7.trans hqe; replace htl := htl.mono hqe
      refine WL_nil ?_; (with_reducible refine T_then ?_)
      by_cases hgo : later y k j = true ∧ (nextTo y k j).length < 4
      ·rw [if_pos hgo] at hns
       refine W_yes (b := later y k j && decide ((nextTo y k j).length < 4)) (by simp [hgo]) rfl ?_
       refine W_region ?_; refine P1 T.ok rfl rfl rfl ?_; refine WL_o rfl rfl (OpR_loadO T.ok 1 rfl hs rfl rfl rfl ?_); refine P1 T.ok rfl rfl rfl ?_
       refine WL_o rfl rfl (OpR_lit T.ok rfl hs (vs := [(0, .int .i64 (j : Int))]) (cells := [.int .i64 (j : Int)]) rfl rfl rfl rfl rfl rfl (by decide) (by decide) (by kernel_rfl) rfl ?_); rintro b2 g4 hs hqe; replace le4 := G.le.trans le4 hqe; replace ep0 := ep0.mono hqe; replace rs0 := rs0.mono hqe
       replace le7 := le7.trans hqe; replace htl := htl.mono hqe
       skip
       refine WL_o rfl rfl (OpR_append T.ok 1 rfl hs rfl rfl rfl rfl rfl rfl rfl (by decide) rfl (Src.of_row (hs.own 0 _ rfl).1).2 (by simp [Value.oneCell']) (by have := hgo.2; show ((nextTo y k j).length + 1) * 8 ≤ _; omega) (by have := hgo.2; unfold maxLen; omega) ?_); rintro a9 c9 g8 hs hqe; replace le4 := G.le.trans le4 hqe; replace ep0 := ep0.mono hqe; replace rs0 := rs0.mono hqe
       replace le7 := le7.trans hqe; replace htl := htl.mono hqe
       refine P1 T.ok rfl rfl rfl ?_
       refine WL_n rfl (OpR_storeO T.ok 2 rfl hs rfl rfl rfl rfl rfl rfl rfl rfl rfl ?_); replace hs := hs; rintro g1 hs hqe; replace le4 := G.le.trans le4 hqe; replace ep0 := ep0.mono hqe; replace rs0 := rs0.mono hqe
       replace le7 := le7.trans hqe; replace htl := htl.mono hqe
       have hs2 : St g _ [.row 3 1 (.slice a9 ((nextTo y k j).length + 1) c9) ((nextTo y k j).length + 1) (intVs (nextTo y k j) ++ [Value.int .i64 (j : Int)]), .obj bs (.cells [.int .i64 (1 + pickM y.y0 6), .slice ta 2 tc, .int .i64 (1 + pickM y.y1 20), .int .i64 (1 + pickM y.y1 20 + pickM (y.y1.tdiv 20) 15), .slice a9 ((nextTo y k j).length + 1) c9, .int .i64 (-1), .int .i64 0].toArray 51 (0, 0)), .row 51 7 (.slice sa k sc) k cells, .obj bf (.cells [.int .i64 (made x).moveMin, .int .i64 (made x).moveMax, .slice sa k sc, .slice none 0 0].toArray 27 (0, 0)), .obj br (.cells [.int .i64 0, .int .i64 0, .slice none 0 0, .slice none 0 0].toArray 27 (0, 0))] := hs.re [1, 2, 3, 4, 5] (by decide) rfl
       have hln : (nextTo y k (j + 1)).length = (nextTo y k j).length + 1 := by rw [hns]; simp
       have hin : intVs (nextTo y k (j + 1)) = intVs (nextTo y k j) ++ [Value.int .i64 (j : Int)] := by rw [hns]; simp [intVs]
       refine WL_nil ?_; (with_reducible refine T_bn ?_); (with_reducible refine T_then ?_); refine W_region ?_; (iterate 3 refine P1 T.ok rfl rfl rfl ?_); refine WL_nil ?_
       exact fun a ha => ⟨madeN x - (j + 1), by omega, j + 1, .slice a9 ((nextTo y k j).length + 1) c9, _, rfl, by rw [hln, hin]; exact hs2, le7, by omega, rfl, ha.keep ⟨rfl, rfl, rfl, rfl, rfl, rfl, rfl, kI rfl (by rw [wr (by omega) (by omega)]; omega), trivial⟩⟩
      ·rw [if_neg hgo] at hns
       refine W_no (b := later y k j && decide ((nextTo y k j).length < 4)) (by
        cases hl : later y k j with
        | false => rfl
        | true => rw [Bool.true_and]; exact decide_eq_false (fun h => hgo ⟨hl, h⟩)) rfl ?_
       refine W_skip ?_; (with_reducible refine T_bn ?_); (with_reducible refine T_then ?_); refine W_region ?_; (iterate 3 refine P1 T.ok rfl rfl rfl ?_); refine WL_nil ?_
       exact fun a ha => ⟨madeN x - (j + 1), by omega, j + 1, .slice na (nextTo y k j).length nc, _, rfl, by rw [hns]; exact hs, le7, by omega, rfl, ha.keep ⟨rfl, rfl, rfl, rfl, rfl, rfl, rfl, kI rfl (by rw [wr (by omega) (by omega)]; omega), trivial⟩⟩
    ·refine W_no (b := decide ((j : Int) < (madeN x : Int))) (by simp; omega) rfl ?_
     obtain rfl : j = madeN x := by omega
     refine W_exit ?_; (with_reducible refine T_tx ?_; with_reducible refine T_tx ?_); (with_reducible refine T_bx ?_); (with_reducible refine T_then ?_); refine W_seq ?_; refine W_region ?_
     refine WL_o rfl rfl (OpR_idxA T.ok (q := 3) rfl rfl rfl rfl rfl rfl (by decide) ?_)
     refine WL_o rfl rfl (OpR_loadE T.ok 3 rfl ep0 rfl rfl ?_)
     refine WL_o rfl rfl (OpR_ret cl19 allF rfl rfl rfl rfl rfl (pick2_c _ _ _ hfit.h3 (by decide)) ?_); rintro g1 _ hf1 rfl; replace hs := hs.call hf1; have hqe := hf1.le; replace le4 := G.le.trans le4 hqe; replace ep0 := ep0.mono hqe; replace rs0 := rs0.mono hqe
     replace htl := htl.mono hqe
     refine P1 T.ok rfl rfl rfl ?_; refine WL_nil ?_; (with_reducible refine T_then ?_)
     obtain ⟨g9, hw9, hs9, hqe9, hnx⟩ := hs.fzRow (α := Int) (xs := nextTo y k (madeN x)) (i := 0) rfl (RcL.ints _ _)
     clear hqe; have hqe := hqe9; rw [← hw9]; replace hs := hs9; replace le4 := G.le.trans le4 hqe; replace ep0 := ep0.mono hqe; replace rs0 := rs0.mono hqe
     replace htl := htl.mono hqe
     by_cases hb0 : pickM y.y3 3 = 0
     ·rw [if_pos hb0, if_pos hb0] at hso
      refine W_yes (b := pickM y.y3 3 == 0) (beq_iff_eq.2 hb0) rfl ?_
      refine W_seq ?_; refine W_region ?_
      refine WL_o rfl rfl (OpR_idxA T.ok (q := 3) rfl rfl rfl rfl rfl rfl (by decide) ?_)
      refine WL_o rfl rfl (OpR_loadE T.ok 3 rfl ep0 rfl rfl ?_); refine P1 T.ok rfl rfl rfl ?_; refine P1 T.ok rfl rfl rfl ?_
      refine WL_re (.int .i64 (y.y3.tdiv 3)) (t := 144) rfl (congrArg (Value.int .i64) (wr q4.1 q4.2)) ?_
      refine WL_o rfl rfl (OpR_ret cl19 allF rfl rfl rfl rfl rfl (pick2_c _ _ _ q4 (by omega)) ?_); rintro g1 _ hf1 rfl; replace hs := hs.call hf1; have hqe := hf1.le; replace le4 := G.le.trans le4 hqe; replace ep0 := ep0.mono hqe; replace rs0 := rs0.mono hqe
      replace htl := htl.mono hqe; replace hnx := hnx.mono hqe
      refine P1 T.ok rfl rfl rfl ?_
      refine WL_n rfl (OpR_storeO T.ok 0 rfl hs rfl rfl rfl rfl rfl rfl rfl rfl rfl ?_); replace hs := hs; rintro g1 hs hqe; replace le4 := G.le.trans le4 hqe; replace ep0 := ep0.mono hqe; replace rs0 := rs0.mono hqe
      replace htl := htl.mono hqe; replace hnx := hnx.mono hqe
      refine WL_nil ?_; (with_reducible refine T_then ?_); refine W_region ?_
      refine WL_o rfl rfl (OpR_idxA T.ok (q := 4) rfl rfl rfl rfl rfl rfl (by decide) ?_)
      refine WL_o rfl rfl (OpR_loadE T.ok 4 rfl ep0 rfl rfl ?_)
      refine WL_o rfl rfl (OpR_ret cl19 allF rfl rfl rfl rfl rfl (pick2_c _ _ _ hfit.h4 (by decide)) ?_); rintro g1 _ hf1 rfl; replace hs := hs.call hf1; have hqe := hf1.le; replace le4 := G.le.trans le4 hqe; replace ep0 := ep0.mono hqe; replace rs0 := rs0.mono hqe
      replace htl := htl.mono hqe; replace hnx := hnx.mono hqe
      refine P1 T.ok rfl rfl rfl ?_; refine P1 T.ok rfl rfl rfl ?_
      rw [wr (n := 1 + pickM y.y4 3) (by omega) (by omega)]
      refine WL_n rfl (OpR_storeO T.ok 0 rfl hs rfl rfl rfl rfl rfl rfl rfl rfl rfl ?_); replace hs := hs; rintro g1 hs hqe; replace le4 := G.le.trans le4 hqe; replace ep0 := ep0.mono hqe; replace rs0 := rs0.mono hqe
      replace htl := htl.mono hqe; replace hnx := hnx.mono hqe
      refine WL_nil ?_
      rw [hso]
      exact fun a ha => T_mid ⟨_, _, _, rfl, hs, le4, htl, hnx, ha.keep (by (repeat (first | exact trivial | refine ⟨rfl, ?_⟩)))⟩
     ·rw [if_neg hb0, if_neg hb0] at hso
      refine W_no (b := pickM y.y3 3 == 0) (beq_eq_false_iff_ne.2 hb0) rfl ?_
      refine W_skip ?_
      rw [hso]
      exact fun a ha => T_mid ⟨_, _, _, rfl, hs, le4, htl, hnx, ha.keep (by (repeat (first | exact trivial | refine ⟨rfl, ?_⟩)))⟩
   ·refine W_no (b := decide ((k : Int) < (x.length : Int))) (decide_eq_false (by omega)) rfl ?_
    have hso : stepOf x (madeN x) k = ⟨1 + k, [(k : Int)], 10, 10, [], -1, 0⟩ := by unfold stepOf; rw [List.getElem?_eq_none (by omega)]
    rw [hso]
    rw [wr (by omega) (by omega)] at hs
    refine W_skip ?_
    exact fun a ha => T_mid ⟨_, _, _, rfl, hs, le4, hrl, Rs.nil _, ha.keep (by (repeat (first | exact trivial | refine ⟨rfl, ?_⟩)))⟩
  ·rintro a' _ ⟨tv, nv, g4, rfl, hs', hqe, htv, hnv, ha'⟩
   revert a'
   replace hrc := hrcd.mono hqe
   replace hs := hs'; clear hs'
   obtain ⟨ta, tc, rfl⟩ := htv.isSlice
   obtain ⟨na, nc, rfl⟩ := hnv.isSlice
   replace le5 := le6.trans hqe
   clear rs0 le4 hrl le0
   (with_reducible refine T_wp ?_); refine W_region ?_; refine P1 T.ok rfl rfl rfl ?_; refine WL_o rfl rfl (OpR_loadO T.ok 2 rfl hs rfl rfl rfl ?_); refine WL_o rfl rfl (OpR_loadO T.ok 0 rfl hs rfl rfl rfl ?_)
   refine WL_o rfl rfl (OpR_lit T.ok rfl hs (vs := [(0, .agg (stepC (stepOf x (madeN x) k) (.slice ta (stepOf x (madeN x) k).tools.length tc) (.slice na (stepOf x (madeN x) k).next.length nc)).toArray)])
    (cells := stepC (stepOf x (madeN x) k) (.slice ta (stepOf x (madeN x) k).tools.length tc) (.slice na (stepOf x (madeN x) k).next.length nc)) rfl rfl rfl rfl rfl rfl (by decide) (by decide) (by kernel_rfl) rfl ?_); rintro b2 g4 hs hqe; skip
   replace hrc := hrc.mono hqe; replace le5 := le5.trans hqe; replace htv := htv.mono hqe; replace hnv := hnv.mono hqe
   skip
   refine WL_o rfl rfl (OpR_append T.ok 2 rfl hs rfl rfl rfl rfl rfl rfl rfl (by decide) rfl (Src.of_row (hs.own 0 _ rfl).1).2 (by simp [stepC, Value.oneCell']) (by show (k + 1) * 88 ≤ _; omega) (by unfold maxLen; omega) ?_); rintro a9 c9 g8 hs hqe; skip
   replace hrc := hrc.mono hqe; replace le5 := le5.trans hqe; replace htv := htv.mono hqe; replace hnv := hnv.mono hqe
   refine P1 T.ok rfl rfl rfl ?_
   refine WL_n rfl (OpR_storeO T.ok 3 rfl hs rfl rfl rfl rfl rfl rfl rfl rfl rfl ?_); replace hs := hs; rintro g1 hs hqe; skip
   replace hrc := hrc.mono hqe; replace le5 := le5.trans hqe; replace htv := htv.mono hqe; replace hnv := hnv.mono hqe
   have hs2 : St g _ [.row 51 7 (.slice a9 (k + 1) c9) (k + 1) (cells ++ stepC (stepOf x (madeN x) k) (.slice ta (stepOf x (madeN x) k).tools.length tc) (.slice na (stepOf x (madeN x) k).next.length nc)), .obj bf (.cells [.int .i64 (made x).moveMin, .int .i64 (made x).moveMax, .slice a9 (k + 1) c9, .slice none 0 0].toArray 27 (0, 0)), .obj br (.cells [.int .i64 0, .int .i64 0, .slice none 0 0, .slice none 0 0].toArray 27 (0, 0))] := hs.re [2, 3, 4] (by decide) rfl
   refine WL_nil ?_; (with_reducible refine T_bn ?_); (with_reducible refine T_then ?_); refine W_region ?_; (iterate 3 refine P1 T.ok rfl rfl rfl ?_); refine WL_nil ?_
   refine fun a ha => ⟨madeN x - (k + 1), by omega, k + 1, _, _, _, rfl, hs2, le5, by omega, rfl, ?_, ha.keep ⟨rfl, rfl, rfl, rfl, kI rfl (by rw [wr (by omega) (by omega)]; omega), trivial⟩⟩
   rw [hst]
   exact RcL.app (α := Step) (ys := [stepOf x (madeN x) k]) ⟨_, [], by rw [List.append_nil], (show RStep _ (stepC _ _ _) _ from ⟨_, _, _, _, _, _, rfl, htv, hnv⟩), rfl⟩ hrc
 ·refine W_no (b := decide ((k : Int) < (madeN x : Int))) (by simp; omega) rfl ?_
  obtain rfl : k = madeN x := by omega
  refine W_exit ?_; (with_reducible refine T_tx ?_; with_reducible refine T_tx ?_); (with_reducible refine T_bx ?_); (with_reducible refine T_then ?_); refine W_seq ?_; refine W_seq ?_; refine W_region ?_; refine P1 T.ok rfl rfl rfl ?_; refine WL_nil ?_; (with_reducible refine T_then ?_); refine W_block ?_
  replace hs := hs.nilrow 54 3 none
  have hrcd := hrc; have rs0e := rs0; have le7 := G.le.refl g3
  have hml : min (madeN x) x.length ≤ madeN x := Nat.min_le_left _ _
  have hml2 : min (madeN x) x.length ≤ x.length := Nat.min_le_right _ _
  refine W_loop (fun m a' w => ∃ (j : Nat) (wv : Value) (wcs : List Value) (g5 : G), w = g5.w ∧ St g g5 [.row 54 3 wv (winsTo x (madeN x) j).length wcs, .row 51 7 (.slice sa (madeN x) sc) (madeN x) cells, .obj bf (.cells [.int .i64 (made x).moveMin, .int .i64 (made x).moveMax, .slice sa (madeN x) sc, wv].toArray 27 (0, 0)), .obj br (.cells [.int .i64 0, .int .i64 0, .slice none 0 0, .slice none 0 0].toArray 27 (0, 0))] ∧ RcL g5 wcs (winsTo x (madeN x) j) ∧ G.le g3 g5 ∧ j ≤ min (madeN x) x.length ∧ m = madeN x - j ∧
    Fr 205 [] [(0, .slice a x.length c), (2, .pointer (some ⟨br, 0, none⟩)), (3, .int .i64 (madeN x)), (4, .pointer (some ⟨bf, 0, none⟩)), (10, .int .i64 j)] a') (madeN x)
   (fun a' ha => ⟨0, _, [], _, rfl, hs, rfl, le7, Nat.zero_le _, rfl, ha.keep (by (repeat (first | exact trivial | refine ⟨rfl, ?_⟩)))⟩) ?_
  clear hs le7 rs0 hrc le5
  rintro m a' _ ⟨j, wv, wcs, g5, rfl, hs, hrw, le7, hj, rfl, ha'⟩
  have rs0 := rs0e.mono le7; have hrc := hrcd.mono le7
  obtain ⟨wa, wc, rfl⟩ := (hs.own 0 _ rfl).1.form
  have hwl := winsTo_ok x (madeN x) hn.1 j
  revert a'
  (with_reducible refine T_wp ?_); refine W_seq ?_; refine W_seq ?_; refine W_region ?_; (iterate 4 refine P1 T.ok rfl rfl rfl ?_)
  refine WL_seg (want := true) (x := decide ((j : Int) < (x.length : Int))) 4 allF rfl rfl rfl rfl (.inl ⟨rfl, rfl, rfl⟩) rfl rfl rfl rfl (fun hb Q' hQ' => ?_) (fun g' hf => ?_)
  ·(iterate 4 refine P1 T.ok rfl rfl rfl ?_); refine WL_nil ?_
   exact fun a ha => hQ' _ a (Fr0.refl _) (ha.keep (by (repeat (first | exact trivial | refine ⟨rfl, ?_⟩))))
  replace hs := hs.call hf; have hqe := hf.le; replace rs0 := rs0.mono hqe
  replace le7 := le7.trans hqe; replace hrw := hrw.mono hqe; replace hrc := hrc.mono hqe
  refine WL_nil ?_; (with_reducible refine T_then ?_)
  by_cases hlj : j < min (madeN x) x.length
  ·refine W_yes (b := decide ((j : Int) < (madeN x : Int)) && decide ((j : Int) < (x.length : Int))) (by simp; omega) rfl ?_
   obtain ⟨y, hy⟩ : ∃ y, x[j]? = some y := ⟨_, List.getElem?_eq_getElem (by omega)⟩
   have hfit := hx y (List.mem_of_getElem? hy)
   have hgi : geti x (j : Int) = some y := by simp [geti, hy]
   have hns := winsTo_succ x (madeN x) j
   have hwo : winOf x (madeN x) j = if pickM (y.y4.tdiv 3) (madeN x) ≠ j ∧ pickM y.y4 2 = 0 then [⟨j, pickM (y.y4.tdiv 3) (madeN x), pickM y.y5 120⟩] else [] := by unfold winOf; rw [hy]
   rw [hwo] at hns
   have q4 := tdiv_I64 (n := 3) hfit.h4 (by omega)
   refine W_skip ?_; (with_reducible refine T_then ?_); refine W_seq ?_; refine W_block ?_; refine W_seq ?_; refine W_region ?_; refine P1 T.ok rfl rfl rfl ?_; refine P1 T.ok rfl rfl rfl ?_
   refine WL_o rfl rfl (OpR_idx T.ok rfl rs0 (y := y) hgi rfl rfl rfl rfl rfl rfl ?_)
   rintro b p ys hep rfl
   refine WL_o rfl rfl (OpR_idxA T.ok (q := 4) rfl rfl rfl rfl rfl rfl (by decide) ?_)
   refine WL_o rfl rfl (OpR_loadE T.ok (4 * 1) rfl hep rfl rfl ?_)
   refine P1 T.ok rfl rfl rfl ?_; refine P1 T.ok rfl rfl rfl ?_
   refine WL_rep (.int .i64 (y.y4.tdiv 3)) (t := 175) rfl (congrArg (Value.int .i64) (wr q4.1 q4.2)) ?_
   refine WL_o rfl rfl (OpR_ret cl19 allF rfl rfl rfl rfl rfl (pick2_c _ _ _ q4 (by omega)) ?_); rintro g1 _ hf1 rfl; replace hs := hs.call hf1; have hqe := hf1.le; replace rs0 := rs0.mono hqe
   replace le7 := le7.trans hqe; replace hrw := hrw.mono hqe; replace hrc := hrc.mono hqe
   refine P1 T.ok rfl rfl rfl ?_; refine WL_nil ?_; (with_reducible refine T_then ?_); refine W_seq ?_; refine W_region ?_; (iterate 4 refine P1 T.ok rfl rfl rfl ?_)
   refine WL_seg (want := true) (x := pickM y.y4 2 == 0) 7 allF rfl rfl rfl rfl (.inl ⟨rfl, rfl, rfl⟩) rfl rfl rfl rfl (fun hb Q' hQ' => ?_) (fun g' hf => ?_)
   ·refine P1 T.ok rfl rfl rfl ?_; refine P1 T.ok rfl rfl rfl ?_
    refine WL_o rfl rfl (OpR_idx T.ok rfl rs0 (y := y) hgi rfl rfl rfl rfl rfl rfl ?_)
    rintro b p ys hep rfl
    refine WL_o rfl rfl (OpR_idxA T.ok (q := 4) rfl rfl rfl rfl rfl rfl (by decide) ?_)
    refine WL_o rfl rfl (OpR_loadE T.ok (4 * 1) rfl hep rfl rfl ?_)
    refine WL_o rfl rfl (OpR_ret cl19 allF rfl rfl rfl rfl rfl (pick2_c _ _ _ hfit.h4 (by decide)) ?_); rintro g8 _ hf8 rfl
    refine P1 T.ok rfl rfl rfl ?_; refine WL_nil ?_
    exact fun a ha => hQ' _ a hf8 (ha.keep (by (repeat (first | exact trivial | refine ⟨rfl, ?_⟩))))
   replace hs := hs.call hf; have hqe := hf.le; replace rs0 := rs0.mono hqe
   replace le7 := le7.trans hqe; replace hrw := hrw.mono hqe; replace hrc := hrc.mono hqe
   refine WL_nil ?_; (with_reducible refine T_then ?_)
   by_cases hgo : pickM (y.y4.tdiv 3) (madeN x) ≠ j ∧ pickM y.y4 2 = 0
   ·rw [if_pos hgo] at hns
    refine W_yes (b := (pickM (y.y4.tdiv 3) (madeN x) != (j : Int)) && (pickM y.y4 2 == 0)) (by simp [hgo]) rfl ?_
    skip
    apply W_drawM allF rfl (Fact.eq _ :: Fact.eq _ :: Fact.eq _ :: Fact.eq _ :: Fact.eq _ :: Fact.eq _ :: (y6P y) :: (intPtr y.y5) :: Fact.eq _ :: Fact.eq _ :: Fact.eq _ :: (Fact.rs [(⟨j, pickM (y.y4.tdiv 3) (madeN x), pickM y.y5 120⟩ : Window)]) :: (appF g (fun v wcs => [.row 54 3 v ((winsTo x (madeN x) j).length + 1) wcs, .row 51 7 (.slice sa (madeN x) sc) (madeN x) cells, .obj bf (.cells [.int .i64 (made x).moveMin, .int .i64 (made x).moveMax, .slice sa (madeN x) sc, .slice wa (winsTo x (madeN x) j).length wc].toArray 27 (0, 0)), .obj br (.cells [.int .i64 0, .int .i64 0, .slice none 0 0, .slice none 0 0].toArray 27 (0, 0))]) ((winsTo x (madeN x) j).length + 1) (winsTo x (madeN x) j ++ [(⟨j, pickM (y.y4.tdiv 3) (madeN x), pickM y.y5 120⟩ : Window)])) :: Fact.eq _ :: []) 14 [(12, 202), (13, 203)] [] [0, 1, 2, 3, 4, 5, 6, 7, 8, 9, 10, 11] 12 rfl (by kernel_rfl) (by kernel_rfl)
    case houts => exact rfl
    case hsoft => (repeat (first | exact softN | apply softE | refine softC (soft_eq _) ?_ | refine softC (soft_rs _) ?_ | refine softC (soft_step _ _) ?_ | refine softC (soft_stepV _) ?_ | refine softC (soft_wayV _) ?_ | refine softC (soft_intPtr _) ?_ | refine softC (soft_y6 _) ?_ | refine softC (soft_lst _) ?_ | refine softO (by exact rfl) ?_))
    ·refine M_cons (M_anc (js := []) (by kernel_rfl) (by exact rfl) (by exact rfl) fun gd hf => ?_) ?_
     ·have hsd := hs.dr.call hf; have hfe := (G.le_dr _).trans hf.le
      refine QA_nil ?_
      (refine D_yes rfl ?_; refine OpR_pure _ T.ok rfl ?_; refine ⟨_, rfl, Fr0.refl _, ?_⟩; exact rfl)
     refine M_cons (M_anc (js := [(0, 190)]) (by kernel_rfl) (by exact rfl) (by exact rfl) fun gd hf => ?_) ?_
     ·have hsd := hs.dr.call hf; have hfe := (G.le_dr _).trans hf.le
      refine QA_eq rfl ?_
      refine QA_nil ?_
      (refine D_yes rfl ?_; refine OpR_loadO T.ok 2 rfl hsd rfl rfl rfl ?_; refine ⟨_, rfl, Fr0.refl _, ?_⟩; exact rfl)
     refine M_cons (M_anc (js := []) (by kernel_rfl) (by exact rfl) (by exact rfl) fun gd hf => ?_) ?_
     ·have hsd := hs.dr.call hf; have hfe := (G.le_dr _).trans hf.le
      refine QA_nil ?_
      (refine D_yes rfl ?_; refine OpR_pure _ T.ok rfl ?_; refine ⟨_, rfl, Fr0.refl _, ?_⟩; exact rfl)
     refine M_cons (M_anc (js := []) (by kernel_rfl) (by exact rfl) (by exact rfl) fun gd hf => ?_) ?_
     ·have hsd := hs.dr.call hf; have hfe := (G.le_dr _).trans hf.le
      refine QA_nil ?_
      (refine D_yes rfl ?_; refine OpR_pure _ T.ok rfl ?_; refine ⟨_, rfl, Fr0.refl _, ?_⟩; exact rfl)
     refine M_cons (M_anc (js := []) (by kernel_rfl) (by exact rfl) (by exact rfl) fun gd hf => ?_) ?_
     ·have hsd := hs.dr.call hf; have hfe := (G.le_dr _).trans hf.le
      refine QA_nil ?_
      (refine D_yes rfl ?_; refine OpR_pure _ T.ok rfl ?_; refine ⟨_, rfl, Fr0.refl _, ?_⟩; exact rfl)
     refine M_cons (M_anc (js := []) (by kernel_rfl) (by exact rfl) (by exact rfl) fun gd hf => ?_) ?_
     ·have hsd := hs.dr.call hf; have hfe := (G.le_dr _).trans hf.le
      refine QA_nil ?_
      (refine D_yes rfl ?_; refine OpR_pure _ T.ok rfl ?_; refine ⟨_, rfl, Fr0.refl _, ?_⟩; exact rfl)
     refine M_cons (M_anc (js := [(4, 194), (5, 195)]) (by kernel_rfl) (by exact rfl) (by exact rfl) fun gd hf => ?_) ?_
     ·have hsd := hs.dr.call hf; have hfe := (G.le_dr _).trans hf.le
      refine QA_eq rfl ?_; refine QA_eq rfl ?_
      refine QA_nil ?_
      refine D_yes rfl ?_
      refine OpR_idx T.ok rfl (rs0.mono hfe) (y := y) hgi rfl rfl rfl rfl rfl rfl ?_
      intro b p ys hep hrc
      exact ⟨_, rfl, Fr0.refl _, b, p, rfl, hrc ▸ hep⟩
     refine M_cons (M_anc (js := [(6, 196)]) (by kernel_rfl) (by exact rfl) (by exact rfl) fun gd hf => ?_) ?_
     ·have hsd := hs.dr.call hf; have hfe := (G.le_dr _).trans hf.le
      refine QA_any fun v6 h6 => ?_
      refine QA_nil ?_
      obtain ⟨b, p, rfl, hep⟩ := h6
      refine D_yes rfl ?_
      refine OpR_idxA T.ok (q := 5) rfl rfl rfl rfl rfl rfl (by decide) ?_
      exact ⟨_, rfl, Fr0.refl _, b, _, rfl, EP.sub hep 5 rfl⟩
     refine M_cons (M_anc (js := [(7, 197)]) (by kernel_rfl) (by exact rfl) (by exact rfl) fun gd hf => ?_) ?_
     ·have hsd := hs.dr.call hf; have hfe := (G.le_dr _).trans hf.le
      refine QA_any fun v7 h7 => ?_
      refine QA_nil ?_
      obtain ⟨b, p, rfl, hep⟩ := h7
      refine D_yes rfl ?_
      refine OpR_loadE T.ok 0 rfl hep rfl rfl ?_
      refine ⟨_, rfl, Fr0.refl _, ?_⟩
      exact rfl
     refine M_cons (M_anc (js := [(8, 198)]) (by kernel_rfl) (by exact rfl) (by exact rfl) fun gd hf => ?_) ?_
     ·have hsd := hs.dr.call hf; have hfe := (G.le_dr _).trans hf.le
      refine QA_eq rfl ?_
      refine QA_nil ?_
      refine D_yes rfl ?_
      refine OpR_ret cl19 allF rfl rfl rfl rfl rfl (pick2_c y.y5 120 _ hfit.h5 (by decide)) fun g' v h1 h2 => ⟨g', rfl, h1, ?_⟩
      exact h2
     refine M_cons (M_anc (js := [(2, 192), (3, 193), (9, 199)]) (by kernel_rfl) (by exact rfl) (by exact rfl) fun gd hf => ?_) ?_
     ·have hsd := hs.dr.call hf; have hfe := (G.le_dr _).trans hf.le
      refine QA_eq rfl ?_; refine QA_eq rfl ?_; refine QA_eq rfl ?_
      refine QA_nil ?_
      refine D_yes rfl ?_
      refine OpR_build T.ok rfl (vs := [(0, .int .i64 (j : Int)), (1, .int .i64 (pickM (y.y4.tdiv 3) (madeN x))), (2, .int .i64 (pickM y.y5 120))]) (cells := [.int .i64 (j : Int), .int .i64 (pickM (y.y4.tdiv 3) (madeN x)), .int .i64 (pickM y.y5 120)]) rfl rfl rfl rfl [(0, 1), (1, 1), (2, 1)] rfl (by kernel_rfl) ?_
      refine ⟨_, rfl, Fr0.refl _, ?_⟩
      exact rfl
     refine M_cons (M_anc (js := [(10, 200)]) (by kernel_rfl) (by exact rfl) (by exact rfl) fun gd hf => ?_) ?_
     ·have hsd := hs.dr.call hf; have hfe := (G.le_dr _).trans hf.le
      refine QA_eq rfl ?_
      refine QA_nil ?_
      refine D_yes rfl ?_
      refine OpR_lit T.ok rfl (St.start gd) (vs := [(0, .agg #[.int .i64 (j : Int), .int .i64 (pickM (y.y4.tdiv 3) (madeN x)), .int .i64 (pickM y.y5 120)])]) (cells := [.int .i64 (j : Int), .int .i64 (pickM (y.y4.tdiv 3) (madeN x)), .int .i64 (pickM y.y5 120)]) rfl rfl rfl rfl rfl rfl (by decide) (by decide) (by kernel_rfl) rfl ?_
      intro b2 g2 hs1 hqe1
      obtain ⟨g3, hw3, hs3, hqe3, hrl⟩ := hs1.fzRow (α := Window) (xs := [⟨j, pickM (y.y4.tdiv 3) (madeN x), pickM y.y5 120⟩]) (i := 0) rfl ⟨_, [], by rw [List.append_nil], rfl, rfl⟩
      exact ⟨g3, hw3, hs3.fr0, hrl⟩
     refine M_cons (M_eat (js := [(1, 191), (11, 201)]) (by kernel_rfl) fun gd hf => ?_) ?_
     ·have hsd := hs.dr.call hf; have hfe := (G.le_dr _).trans hf.le
      refine QA_eq rfl ?_; refine QA_any fun v11 h11 => ?_
      refine QA_nil ?_
      obtain ⟨ax, cx, rfl⟩ := Rs.isSlice h11
      obtain ⟨_, news, hnw, hsrc⟩ := Src.of_rs h11
      refine ⟨rfl, ?_⟩
      refine OpR_append T.ok 0 rfl hsd rfl rfl rfl rfl rfl rfl rfl (by decide) rfl hsrc hnw.one (by show ((winsTo x (madeN x) j).length + 1) * 24 ≤ _; omega) (by unfold maxLen; show (winsTo x (madeN x) j).length + 1 ≤ _; omega) ?_
      intro a' c' g8 hs8 hqe8
      exact ⟨g8, rfl, hqe8, a', c', _, rfl, hs8, RcL.app (hnw.mono hqe8) ((hrw.mono hfe).mono hqe8)⟩
     refine M_cons (M_free (js := []) (by kernel_rfl) (by exact rfl) fun gd hf => ?_) ?_
     ·have hfe := (G.le_dr _).trans hf
      refine QA_nil ?_
      (refine D_yes rfl ?_; refine OpR_pure _ T.ok rfl ?_; refine ⟨_, rfl, Fr0.refl _, ?_⟩; exact rfl)
     exact M_nil
    intro g1 hf1; refine QA_any fun v12 h12 => ?_; refine QA_eq rfl ?_; refine QA_nil ?_
    have hqe := (G.le_dr _).trans hf1; replace rs0 := rs0.mono hqe
    obtain ⟨a9, c9, wcs9, rfl, hs, hrw9⟩ := h12
    replace le7 := le7.trans hqe; replace hrc := hrc.mono hqe
    skip
    refine WL_n rfl (OpR_storeO T.ok 2 rfl hs rfl rfl rfl rfl rfl rfl rfl rfl rfl ?_); replace hs := hs; rintro g1 hs hqe; replace rs0 := rs0.mono hqe
    replace le7 := le7.trans hqe; replace hrw9 := hrw9.mono hqe; replace hrc := hrc.mono hqe
    have hln : (winsTo x (madeN x) (j + 1)).length = (winsTo x (madeN x) j).length + 1 := by rw [hns]; simp
    refine WL_nil ?_; (with_reducible refine T_bn ?_); (with_reducible refine T_then ?_); refine W_region ?_; (iterate 3 refine P1 T.ok rfl rfl rfl ?_); refine WL_nil ?_
    exact fun a ha => ⟨madeN x - (j + 1), by omega, j + 1, .slice a9 ((winsTo x (madeN x) j).length + 1) c9, wcs9, _, rfl, by rw [hln]; exact hs, by rw [hns]; exact hrw9, le7, by omega, rfl, ha.keep ⟨rfl, rfl, rfl, rfl, kI rfl (by rw [wr (by omega) (by omega)]; omega), trivial⟩⟩
   ·rw [if_neg hgo, List.append_nil] at hns
    refine W_no (b := (pickM (y.y4.tdiv 3) (madeN x) != (j : Int)) && (pickM y.y4 2 == 0)) (by
     cases hl : (pickM (y.y4.tdiv 3) (madeN x) != (j : Int)) with
     | false => rfl
     | true => rw [Bool.true_and]; exact beq_eq_false_iff_ne.2 (fun h => hgo ⟨bne_iff_ne.1 hl, h⟩)) rfl ?_
    refine W_skip ?_; (with_reducible refine T_bn ?_); (with_reducible refine T_then ?_); refine W_region ?_; (iterate 3 refine P1 T.ok rfl rfl rfl ?_); refine WL_nil ?_
    exact fun a ha => ⟨madeN x - (j + 1), by omega, j + 1, .slice wa (winsTo x (madeN x) j).length wc, wcs, _, rfl, by rw [hns]; exact hs, by rw [hns]; exact hrw, le7, by omega, rfl, ha.keep ⟨rfl, rfl, rfl, rfl, kI rfl (by rw [wr (by omega) (by omega)]; omega), trivial⟩⟩
  ·refine W_no (b := decide ((j : Int) < (madeN x : Int)) && decide ((j : Int) < (x.length : Int))) (by
    rw [Bool.and_eq_false_iff]
    by_cases h : j < madeN x
    ·right; exact decide_eq_false (by omega)
    ·left; exact decide_eq_false (by omega)) rfl ?_
   obtain rfl : j = min (madeN x) x.length := by omega
   refine W_exit ?_; (with_reducible refine T_tx ?_; with_reducible refine T_tx ?_); (with_reducible refine T_bx ?_); (with_reducible refine T_then ?_); refine W_seq ?_; refine W_region ?_; refine WL_o rfl rfl (OpR_loadO T.ok 2 rfl hs rfl rfl rfl ?_)
   refine WL_n rfl (OpR_storeO T.ok 3 rfl hs rfl rfl rfl rfl rfl rfl rfl rfl rfl ?_); replace hs := hs; rintro g1 hs hqe; replace rs0 := rs0.mono hqe
   replace le7 := le7.trans hqe; replace hrw := hrw.mono hqe; replace hrc := hrc.mono hqe
   refine WL_nil ?_; (with_reducible refine T_then ?_)
   obtain ⟨g9, hw9, hs9, hqe9, hrw9⟩ := hs.fzRow (α := Window) (xs := winsTo x (madeN x) (min (madeN x) x.length)) (i := 0) rfl hrw
   replace hrc := hrc.mono hqe9
   rw [← hw9]
   refine W_ret ?_
   skip
   refine retC T.ok 2 rfl hs9 rfl rfl rfl (hs9.ret ?_)
   refine ⟨sa, madeN x, sc, wa, (winsTo x (madeN x) (min (madeN x) x.length)).length, wc, cells, rfl, ?_, hrc, hrw9⟩
   rw [made_len]
   exact hs9.own 0 _ rfl
end Go.Proofs.YtnggomfbgmlkhaaGreatDoor

/- The walks through the example and what is checked of it. -/
namespace Go.Proofs.YtnggomfbgmlkhaaGreatDoor
open Go Go.K
set_option maxRecDepth 10000
attribute [local irreducible] W WL OpR bitAnd bitOr bitXor bitClr bitNot shlI shrI
set_option maxHeartbeats 4000000

def exN : List (List Int) := [[1, 2], [3], [3], [4], []]
def exS (n : List Int) : Step := ⟨1, [0], 10, 10, n, -1, 0⟩
/-- A pointer to a list. -/
def lstPtr (l : List Int) : Fact :=
 ⟨fun v g => ∃ b p u, v = .pointer (some ⟨b, p, none⟩) ∧ EP g b p [u] ∧ Rs g u l, fun _ _ _ hf ⟨b, p, u, e, h1, h2⟩ => ⟨b, p, u, e, h1.mono hf.le, h2.mono hf.le⟩⟩
theorem soft_lst (l : List Int) : Soft (lstPtr l) := fun _ _ _ hle ⟨b, p, u, e, h1, h2⟩ => ⟨b, p, u, e, h1.mono hle, h2.mono hle⟩
theorem RcL.one1 {α : Type} [El α] {g : G} {cs : List Value} {x : α} (h : El.rc g cs x) : RcL g cs [x] := ⟨cs, [], by rw [List.append_nil], h, rfl⟩

theorem example_c (g : G) : CallsIn Wd 0 Tryz.prog 14 #[] g.w (Ret g (MadeR g exF)) := by
 have hs := St.start g
 have le0 := G.le.refl g
 refine enter Tryz.func14 rfl Tryz.ntmps14 rfl ?_
 refine W_seq ?_; refine W_region ?_
 refine WL_o rfl rfl (OpR_alloc T.ok rfl hs rfl rfl ?_); clear hs; rintro br g1 hs hqe; replace le0 := G.le.trans le0 hqe
 refine WL_nil ?_; (with_reducible refine T_then ?_); refine W_seq ?_; refine W_region ?_
 refine WL_o rfl rfl (OpR_build T.ok rfl (vs := [(0, .int .i64 5), (1, .int .i64 5)]) (cells := [.int .i64 5, .int .i64 5, .slice none 0 0, .slice none 0 0]) rfl rfl rfl rfl [(0, 1), (1, 1), (2, 1), (3, 1)] rfl (by kernel_rfl) ?_)
 skip
 refine WL_o rfl rfl (OpR_alloc T.ok rfl hs rfl rfl ?_); clear hs; rintro bf g1 hs hqe; replace le0 := G.le.trans le0 hqe
 skip
 refine WL_n rfl (OpR_storeO T.ok 0 rfl hs rfl rfl rfl rfl rfl rfl rfl rfl rfl ?_); replace hs := hs; rintro g1 hs hqe; replace le0 := G.le.trans le0 hqe
 refine WL_nil ?_; (with_reducible refine T_then ?_); refine W_seq ?_; refine W_region ?_
 refine WL_o rfl rfl (OpR_lit T.ok rfl hs (vs := [(0, .int .i64 1), (1, .int .i64 2)]) (cells := [.int .i64 1, .int .i64 2]) rfl rfl rfl rfl rfl rfl (by decide) (by decide) (by kernel_rfl) rfl ?_); rintro b1 g4 hs hqe; replace le0 := G.le.trans le0 hqe
 obtain ⟨g5, hw5, hs5, hqe5, hr1⟩ := hs.fzRow (α := Int) (xs := [1, 2]) (i := 0) rfl (RcL.ints _ [1, 2])
 clear hqe; have hqe := hqe5; rw [← hw5]; replace hs := hs5; replace le0 := G.le.trans le0 hqe
 refine WL_o rfl rfl (OpR_lit T.ok rfl hs (vs := [(0, .int .i64 3)]) (cells := [.int .i64 3]) rfl rfl rfl rfl rfl rfl (by decide) (by decide) (by kernel_rfl) rfl ?_); rintro b2 g4 hs hqe; replace le0 := G.le.trans le0 hqe
 replace hr1 := hr1.mono hqe
 obtain ⟨g6, hw6, hs6, hqe6, hr2⟩ := hs.fzRow (α := Int) (xs := [3]) (i := 0) rfl (RcL.ints _ [3])
 clear hqe; have hqe := hqe6; rw [← hw6]; replace hs := hs6; replace le0 := G.le.trans le0 hqe
 replace hr1 := hr1.mono hqe
 refine WL_o rfl rfl (OpR_lit T.ok rfl hs (vs := [(0, .int .i64 3)]) (cells := [.int .i64 3]) rfl rfl rfl rfl rfl rfl (by decide) (by decide) (by kernel_rfl) rfl ?_); rintro b3 g4 hs hqe; replace le0 := G.le.trans le0 hqe
 replace hr1 := hr1.mono hqe; replace hr2 := hr2.mono hqe
 obtain ⟨g7, hw7, hs7, hqe7, hr3⟩ := hs.fzRow (α := Int) (xs := [3]) (i := 0) rfl (RcL.ints _ [3])
 clear hqe; have hqe := hqe7; rw [← hw7]; replace hs := hs7; replace le0 := G.le.trans le0 hqe
 replace hr1 := hr1.mono hqe; replace hr2 := hr2.mono hqe
 refine WL_o rfl rfl (OpR_lit T.ok rfl hs (vs := [(0, .int .i64 4)]) (cells := [.int .i64 4]) rfl rfl rfl rfl rfl rfl (by decide) (by decide) (by kernel_rfl) rfl ?_); rintro b4 g4 hs hqe; replace le0 := G.le.trans le0 hqe
 replace hr1 := hr1.mono hqe; replace hr2 := hr2.mono hqe; replace hr3 := hr3.mono hqe
 obtain ⟨g8, hw8, hs8, hqe8, hr4⟩ := hs.fzRow (α := Int) (xs := [4]) (i := 0) rfl (RcL.ints _ [4])
 clear hqe; have hqe := hqe8; rw [← hw8]; replace hs := hs8; replace le0 := G.le.trans le0 hqe
 replace hr1 := hr1.mono hqe; replace hr2 := hr2.mono hqe; replace hr3 := hr3.mono hqe
 refine WL_o rfl rfl (OpR_lit T.ok rfl hs (vs := [(0, .slice (some ⟨b1, 0, none⟩) 2 2), (1, .slice (some ⟨b2, 0, none⟩) 1 1), (2, .slice (some ⟨b3, 0, none⟩) 1 1), (3, .slice (some ⟨b4, 0, none⟩) 1 1), (4, .slice none 0 0)])
  (cells := [.slice (some ⟨b1, 0, none⟩) 2 2, .slice (some ⟨b2, 0, none⟩) 1 1, .slice (some ⟨b3, 0, none⟩) 1 1, .slice (some ⟨b4, 0, none⟩) 1 1, .slice none 0 0]) rfl rfl rfl rfl rfl rfl (by decide) (by decide) (by kernel_rfl) rfl ?_); rintro b5 g4 hs hqe; replace le0 := G.le.trans le0 hqe
 replace hr1 := hr1.mono hqe; replace hr2 := hr2.mono hqe; replace hr3 := hr3.mono hqe; replace hr4 := hr4.mono hqe
 obtain ⟨g9, hw9, hs9, hqe9, rs0⟩ := hs.fzRow (α := List Int) (xs := exN) (i := 0) rfl (show RcL g4 ([.slice (some ⟨b1, 0, none⟩) 2 2] ++ ([.slice (some ⟨b2, 0, none⟩) 1 1] ++ ([.slice (some ⟨b3, 0, none⟩) 1 1] ++ ([.slice (some ⟨b4, 0, none⟩) 1 1] ++ [.slice none 0 0])))) exN from
  ⟨_, _, rfl, ⟨_, rfl, hr1⟩, _, _, rfl, ⟨_, rfl, hr2⟩, _, _, rfl, ⟨_, rfl, hr3⟩, _, _, rfl, ⟨_, rfl, hr4⟩, _, [], rfl, ⟨_, rfl, Rs.nil _⟩, rfl⟩)
 clear hqe; have hqe := hqe9; rw [← hw9]; replace hs := hs9; replace le0 := G.le.trans le0 hqe
 clear hr1 hr2 hr3 hr4
 refine P1 T.ok rfl rfl rfl ?_; refine WL_nil ?_; (with_reducible refine T_then ?_); refine W_seq ?_; refine W_seq ?_; refine W_region ?_; refine P1 T.ok rfl rfl rfl ?_; refine WL_nil ?_; (with_reducible refine T_then ?_); refine W_block ?_
 replace hs := hs.nilrow 51 7 none
 have rs0c := rs0; have le5 := G.le.refl g9
 refine W_loop (fun m a' w => ∃ (k : Nat) (sv : Value) (cells : List Value) (g3 : G), w = g3.w ∧ St g g3 [.row 51 7 sv k cells, .obj bf (.cells [.int .i64 5, .int .i64 5, sv, .slice none 0 0].toArray 27 (0, 0)), .obj br (.cells [.int .i64 0, .int .i64 0, .slice none 0 0, .slice none 0 0].toArray 27 (0, 0))] ∧ G.le g9 g3 ∧ k ≤ 5 ∧ m = 5 - k ∧ RcL g3 cells ((exN.take k).map exS) ∧
   Fr 34 [] [(0, .pointer (some ⟨br, 0, none⟩)), (1, .pointer (some ⟨bf, 0, none⟩)), (2, .slice (some ⟨b5, 0, none⟩) 5 5), (3, .int .i64 k)] a') 5
  (fun a' ha => ⟨0, _, [], g9, rfl, hs, le5, Nat.zero_le _, rfl, rfl, ha.keep (by (repeat (first | exact trivial | refine ⟨rfl, ?_⟩)))⟩) ?_
 clear hs le5 rs0
 rintro m a' _ ⟨k, sv, cells, g3, rfl, hs, le5, hk, rfl, hrc, ha'⟩
 have rs0 := rs0c.mono le5
 obtain ⟨sa, sc, rfl⟩ := (hs.own 0 _ rfl).1.form
 revert a'
 (with_reducible refine T_wp ?_); refine W_seq ?_; refine W_seq ?_; refine W_region ?_; refine P1 T.ok rfl rfl rfl ?_; refine P1 T.ok rfl rfl rfl ?_; refine WL_nil ?_; (with_reducible refine T_then ?_)
 by_cases hlt : k < 5
 ·refine W_yes (b := decide ((k : Int) < 5)) (decide_eq_true (by omega)) rfl ?_
  have hnl : k < exN.length := hlt
  have hst : (exN.take (k + 1)).map exS = (exN.take k).map exS ++ [exS exN[k]] := by rw [List.take_succ_eq_append_getElem hnl, List.map_append]; rfl
  generalize hnx : exN[k] = nx at *
  refine W_skip ?_; (with_reducible refine T_then ?_); refine W_seq ?_; refine W_block ?_
  apply W_drawM allF rfl (Fact.eq _ :: Fact.eq _ :: (Fact.rs [(0 : Int)]) :: Fact.eq _ :: Fact.eq _ :: (lstPtr nx) :: (Fact.rs nx) :: (stepV (exS nx)) :: (Fact.rs [exS nx]) :: (appF g (fun v cells => [.row 51 7 v (k + 1) cells, .obj bf (.cells [.int .i64 5, .int .i64 5, .slice sa k sc, .slice none 0 0].toArray 27 (0, 0)), .obj br (.cells [.int .i64 0, .int .i64 0, .slice none 0 0, .slice none 0 0].toArray 27 (0, 0))]) (k + 1) ((exN.take k).map exS ++ [exS nx])) :: Fact.eq _ :: []) 11 [(9, 23), (10, 24)] [] [0, 1, 2, 3, 4, 5, 6, 7, 8] 9 rfl (by kernel_rfl) (by kernel_rfl)
  case houts => exact rfl
  case hsoft => (repeat (first | exact softN | apply softE | refine softC (soft_eq _) ?_ | refine softC (soft_rs _) ?_ | refine softC (soft_step _ _) ?_ | refine softC (soft_stepV _) ?_ | refine softC (soft_wayV _) ?_ | refine softC (soft_intPtr _) ?_ | refine softC (soft_y6 _) ?_ | refine softC (soft_lst _) ?_ | refine softO (by exact rfl) ?_))
  ·refine M_cons (M_anc (js := []) (by kernel_rfl) (by exact rfl) (by exact rfl) fun gd hf => ?_) ?_
   ·have hsd := hs.dr.call hf; have hfe := (G.le_dr _).trans hf.le
    refine QA_nil ?_
    (refine D_yes rfl ?_; refine OpR_pure _ T.ok rfl ?_; refine ⟨_, rfl, Fr0.refl _, ?_⟩; exact rfl)
   refine M_cons (M_anc (js := [(0, 14)]) (by kernel_rfl) (by exact rfl) (by exact rfl) fun gd hf => ?_) ?_
   ·have hsd := hs.dr.call hf; have hfe := (G.le_dr _).trans hf.le
    refine QA_eq rfl ?_
    refine QA_nil ?_
    (refine D_yes rfl ?_; refine OpR_loadO T.ok 1 rfl hsd rfl rfl rfl ?_; refine ⟨_, rfl, Fr0.refl _, ?_⟩; exact rfl)
   refine M_cons (M_anc (js := []) (by kernel_rfl) (by exact rfl) (by exact rfl) fun gd hf => ?_) ?_
   ·have hsd := hs.dr.call hf; have hfe := (G.le_dr _).trans hf.le
    refine QA_nil ?_
    refine D_yes rfl ?_
    refine OpR_lit T.ok rfl (St.start gd) (vs := [(0, .int .i64 0)]) (cells := [.int .i64 0]) rfl rfl rfl rfl rfl rfl (by decide) (by decide) (by kernel_rfl) rfl ?_
    intro b2 g2 hs1 hqe1
    obtain ⟨g3, hw3, hs3, hqe3, hrl⟩ := hs1.fzRow (α := Int) (xs := [0]) (i := 0) rfl (RcL.ints _ [0])
    exact ⟨g3, hw3, hs3.fr0, hrl⟩
   refine M_cons (M_anc (js := []) (by kernel_rfl) (by exact rfl) (by exact rfl) fun gd hf => ?_) ?_
   ·have hsd := hs.dr.call hf; have hfe := (G.le_dr _).trans hf.le
    refine QA_nil ?_
    (refine D_yes rfl ?_; refine OpR_pure _ T.ok rfl ?_; refine ⟨_, rfl, Fr0.refl _, ?_⟩; exact rfl)
   refine M_cons (M_anc (js := []) (by kernel_rfl) (by exact rfl) (by exact rfl) fun gd hf => ?_) ?_
   ·have hsd := hs.dr.call hf; have hfe := (G.le_dr _).trans hf.le
    refine QA_nil ?_
    (refine D_yes rfl ?_; refine OpR_pure _ T.ok rfl ?_; refine ⟨_, rfl, Fr0.refl _, ?_⟩; exact rfl)
   refine M_cons (M_anc (js := [(3, 17), (4, 18)]) (by kernel_rfl) (by exact rfl) (by exact rfl) fun gd hf => ?_) ?_
   ·have hsd := hs.dr.call hf; have hfe := (G.le_dr _).trans hf.le
    refine QA_eq rfl ?_; refine QA_eq rfl ?_
    refine QA_nil ?_
    refine D_yes rfl ?_
    refine OpR_idx T.ok rfl (rs0.mono hfe) (y := nx) (by rw [geti_of (j := k) rfl hnl, hnx]) rfl rfl rfl rfl rfl rfl ?_
    rintro b p ys hep ⟨v, rfl, hrv⟩
    exact ⟨_, rfl, Fr0.refl _, b, p, v, rfl, hep, hrv⟩
   refine M_cons (M_anc (js := [(5, 19)]) (by kernel_rfl) (by exact rfl) (by exact rfl) fun gd hf => ?_) ?_
   ·have hsd := hs.dr.call hf; have hfe := (G.le_dr _).trans hf.le
    refine QA_any fun v5 h5 => ?_
    refine QA_nil ?_
    obtain ⟨b, p, v, rfl, hep, hrv⟩ := h5
    refine D_yes rfl ?_
    refine OpR_loadE T.ok 0 rfl hep rfl rfl ?_
    exact ⟨_, rfl, Fr0.refl _, hrv⟩
   refine M_cons (M_anc (js := [(2, 16), (6, 20)]) (by kernel_rfl) (by exact rfl) (by exact rfl) fun gd hf => ?_) ?_
   ·have hsd := hs.dr.call hf; have hfe := (G.le_dr _).trans hf.le
    refine QA_any fun v2 h2 => ?_; refine QA_any fun v6 h6 => ?_
    refine QA_nil ?_
    obtain ⟨at_, ct, rfl⟩ := Rs.isSlice h2
    obtain ⟨an, cn, rfl⟩ := Rs.isSlice h6
    refine D_yes rfl ?_
    refine OpR_build T.ok rfl (vs := [(0, .int .i64 1), (1, .slice at_ 1 ct), (2, .int .i64 10), (3, .int .i64 10), (4, .slice an nx.length cn), (5, .int .i64 (-1))]) (cells := [.int .i64 1, .slice at_ 1 ct, .int .i64 10, .int .i64 10, .slice an nx.length cn, .int .i64 (-1), .int .i64 0]) rfl rfl rfl rfl [(0, 1), (1, 1), (2, 1), (3, 1), (4, 1), (5, 1), (6, 1)] rfl (by kernel_rfl) ?_
    exact ⟨_, rfl, Fr0.refl _, _, rfl, _, _, _, _, _, _, rfl, h2, h6⟩
   refine M_cons (M_anc (js := [(7, 21)]) (by kernel_rfl) (by exact rfl) (by exact rfl) fun gd hf => ?_) ?_
   ·have hsd := hs.dr.call hf; have hfe := (G.le_dr _).trans hf.le
    refine QA_any fun v7 h7 => ?_
    refine QA_nil ?_
    obtain ⟨cs, rfl, hrs⟩ := h7
    have hrs2 := hrs
    obtain ⟨b1, b2, b3, b4, b5, b6, rfl, hx1, hx2⟩ := hrs
    refine D_yes rfl ?_
    refine OpR_lit T.ok rfl (St.start gd) (vs := [(0, .agg [.int .i64 1, .slice b1 b2 b3, .int .i64 10, .int .i64 10, .slice b4 b5 b6, .int .i64 (-1), .int .i64 0].toArray)]) (cells := [.int .i64 1, .slice b1 b2 b3, .int .i64 10, .int .i64 10, .slice b4 b5 b6, .int .i64 (-1), .int .i64 0]) rfl rfl rfl rfl rfl rfl (by decide) (by decide) (by kernel_rfl) rfl ?_
    intro b2 g2 hs1 hqe1
    obtain ⟨g3, hw3, hs3, hqe3, hrl⟩ := hs1.fzRow (α := Step) (xs := [exS nx]) (i := 0) rfl (RcL.one1 (El.mono (α := Step) hqe1 hrs2))
    exact ⟨g3, hw3, hs3.fr0, hrl⟩
   refine M_cons (M_eat (js := [(1, 15), (8, 22)]) (by kernel_rfl) fun gd hf => ?_) ?_
   ·have hsd := hs.dr.call hf; have hfe := (G.le_dr _).trans hf.le
    refine QA_eq rfl ?_; refine QA_any fun v8 h8 => ?_
    refine QA_nil ?_
    obtain ⟨ax, cx, rfl⟩ := Rs.isSlice h8
    obtain ⟨_, news, hnw, hsrc⟩ := Src.of_rs h8
    refine ⟨rfl, ?_⟩
    refine OpR_append T.ok 0 rfl hsd rfl rfl rfl rfl rfl rfl rfl (by decide) rfl hsrc hnw.one (by show (k + 1) * 88 ≤ _; omega) (by unfold maxLen; show k + 1 ≤ _; omega) ?_
    intro a' c' g8 hs8 hqe8
    exact ⟨g8, rfl, hqe8, a', c', _, rfl, hs8, RcL.app (hnw.mono hqe8) ((hrc.mono hfe).mono hqe8)⟩
   refine M_cons (M_free (js := []) (by kernel_rfl) (by exact rfl) fun gd hf => ?_) ?_
   ·have hfe := (G.le_dr _).trans hf
    refine QA_nil ?_
    (refine D_yes rfl ?_; refine OpR_pure _ T.ok rfl ?_; refine ⟨_, rfl, Fr0.refl _, ?_⟩; exact rfl)
   exact M_nil
  intro g1 hf1; refine QA_any fun v9 h9 => ?_; refine QA_eq rfl ?_; refine QA_nil ?_
  have hqe := (G.le_dr _).trans hf1; replace rs0 := rs0.mono hqe
  obtain ⟨a9, c9, cs9, rfl, hs, hrc9⟩ := h9
  replace le5 := le5.trans hqe
  skip
  refine WL_n rfl (OpR_storeO T.ok 1 rfl hs rfl rfl rfl rfl rfl rfl rfl rfl rfl ?_); replace hs := hs; rintro g1 hs hqe; replace rs0 := rs0.mono hqe
  replace le5 := le5.trans hqe; replace hrc9 := hrc9.mono hqe
  refine WL_nil ?_; (with_reducible refine T_bn ?_); (with_reducible refine T_then ?_); refine W_region ?_; (iterate 3 refine P1 T.ok rfl rfl rfl ?_); refine WL_nil ?_
  exact fun a ha => ⟨5 - (k + 1), by omega, k + 1, .slice a9 (k + 1) c9, cs9, _, rfl, hs, le5, by omega, rfl, by rw [hst]; exact hrc9, ha.keep ⟨rfl, rfl, rfl, kI rfl (by rw [wr (by omega) (by omega)]; omega), trivial⟩⟩
 ·refine W_no (b := decide ((k : Int) < 5)) (decide_eq_false (by omega)) rfl ?_
  obtain rfl : k = 5 := by omega
  refine W_exit ?_; (with_reducible refine T_tx ?_; with_reducible refine T_tx ?_); (with_reducible refine T_bx ?_); (with_reducible refine T_then ?_); refine W_seq ?_; refine W_region ?_; refine P1 T.ok rfl rfl rfl ?_; refine WL_o rfl rfl (OpR_loadO T.ok 1 rfl hs rfl rfl rfl ?_)
  refine WL_o rfl rfl (OpR_idxR T.ok rfl (hs.own 0 _ rfl).1 (by decide) (by decide) rfl rfl rfl rfl rfl rfl ?_)
  rintro b p rfl
  refine P1 T.ok rfl rfl rfl ?_
  have hlc : cells.length = 35 := by rw [hrc.len]; rfl
  refine WL_n rfl (OpR_storeR T.ok 0 (3 * 7 + 5) (us := [.int .i64 1]) rfl hs rfl rfl rfl rfl rfl rfl rfl (by decide) (by rw [hlc]; decide) rfl ?_)
  rintro g5 hs hqe; replace rs0 := rs0.mono hqe
  replace le5 := le5.trans hqe; replace hrc := hrc.mono hqe
  have hr5 : RcL g5 (spl cells (3 * 7 + 5) [.int .i64 1]) (((exN.take 5).map exS).set 3 ⟨1, [0], 10, 10, [4], 1, 0⟩) := RcL.upd (α := Step) (by decide) hrc 3 (exS [4]) rfl (by
   rintro ys ⟨b1, b2, b3, b4, b5, b6, rfl, hx1, hx2⟩
   exact ⟨b1, b2, b3, b4, b5, b6, rfl, hx1, hx2⟩)
  clear hrc
  refine WL_nil ?_; (with_reducible refine T_then ?_); refine W_seq ?_; refine W_region ?_; refine P1 T.ok rfl rfl rfl ?_; refine WL_o rfl rfl (OpR_loadO T.ok 1 rfl hs rfl rfl rfl ?_)
  refine WL_o rfl rfl (OpR_idxR T.ok rfl (hs.own 0 _ rfl).1 (by decide) (by decide) rfl rfl rfl rfl rfl rfl ?_)
  intro b' p' hh
  obtain ⟨rfl, rfl⟩ : b = b' ∧ p = p' := by simpa using hh
  refine P1 T.ok rfl rfl rfl ?_
  have hlc2 : (spl cells (3 * 7 + 5) [.int .i64 1]).length = 35 := by rw [hr5.len]; rfl
  refine WL_n rfl (OpR_storeR T.ok 0 (3 * 7 + 6) (us := [.int .i64 1]) rfl hs rfl rfl rfl rfl rfl rfl rfl (by decide) (by rw [hlc2]; decide) rfl ?_)
  rintro g6 hs hqe; replace rs0 := rs0.mono hqe
  replace le5 := le5.trans hqe; replace hr5 := hr5.mono hqe
  have hr6 : RcL g6 (spl (spl cells (3 * 7 + 5) [.int .i64 1]) (3 * 7 + 6) [.int .i64 1]) exF.steps := RcL.upd (α := Step) (x' := ⟨1, [0], 10, 10, [4], 1, 1⟩) (by decide) hr5 3 ⟨1, [0], 10, 10, [4], 1, 0⟩ rfl (by
   rintro ys ⟨b1, b2, b3, b4, b5, b6, rfl, hx1, hx2⟩
   exact ⟨b1, b2, b3, b4, b5, b6, rfl, hx1, hx2⟩)
  clear hr5
  refine WL_nil ?_; (with_reducible refine T_then ?_); refine W_seq ?_; refine W_region ?_; refine WL_o rfl rfl (OpR_loadO T.ok 1 rfl hs rfl rfl rfl ?_)
  refine WL_n rfl (OpR_storeO T.ok 2 rfl hs rfl rfl rfl rfl rfl rfl rfl rfl rfl ?_); replace hs := hs; rintro g1 hs hqe; replace rs0 := rs0.mono hqe
  replace hr6 := hr6.mono hqe
  refine WL_nil ?_; (with_reducible refine T_then ?_)
  refine W_ret ?_
  skip
  refine retC T.ok 2 rfl hs rfl rfl rfl (hs.ret ?_)
  exact ⟨_, _, _, _, _, _, _, rfl, hs.own 0 _ rfl, hr6, Rs.nil _⟩
end Go.Proofs.YtnggomfbgmlkhaaGreatDoor

/- The walk through the checks of the example. -/
namespace Go.Proofs.YtnggomfbgmlkhaaGreatDoor
open Go Go.K
set_option maxRecDepth 10000
attribute [local irreducible] W WL OpR bitAnd bitOr bitXor bitClr bitNot shlI shrI
set_option maxHeartbeats 4000000

theorem RcL.int_any {g g' : G} {cells : List Value} {xs : List Int} (h : RcL g cells xs) : RcL g' cells xs := by
 rw [RcL.ints_inv h]; exact RcL.ints g' xs



theorem sane_c (g : G) : CallsIn Wd 0 Tryz.prog 4 #[] g.w (Ret g fun _ r => r = .bool true) := by
 have hs := St.start g
 have le0 := G.le.refl g
 refine enter Tryz.func4 rfl Tryz.ntmps4 rfl ?_
 refine W_seq ?_; refine W_region ?_; refine P1 T.ok rfl rfl rfl ?_; refine WL_nil ?_; (with_reducible refine T_then ?_); refine W_seq ?_; refine W_region ?_
 refine WL_o rfl rfl (OpR_ret cl14 allF rfl rfl rfl rfl rfl (example_c _) ?_); rintro g1 _ hf1 ⟨sa, sn, sc, wa, wn, wc, cells, rfl, hh, rc0, rs9⟩
 replace hs := hs.getOwn hf1 hh; have hqe := hf1.le
 replace le0 := le0.trans hqe; clear hh
 skip
 refine WL_o rfl rfl (OpR_alloc T.ok rfl hs rfl rfl ?_); clear hs; rintro bf g1 hs hqe; replace le0 := G.le.trans le0 hqe; replace rs9 := rs9.mono hqe; replace rc0 := rc0.mono hqe
 skip
 refine WL_n rfl (OpR_storeO T.ok 0 rfl hs rfl rfl rfl rfl rfl rfl rfl rfl rfl ?_); replace hs := hs; rintro g1 hs hqe; replace le0 := G.le.trans le0 hqe; replace rs9 := rs9.mono hqe; replace rc0 := rc0.mono hqe
 refine WL_nil ?_; (with_reducible refine T_then ?_); refine W_seq ?_; refine W_region ?_; refine WL_o rfl rfl (OpR_loadO T.ok 0 rfl hs rfl rfl rfl ?_)
 have hs0 := hs
 refine WL_o rfl rfl (OpR_lend (fun gf g' r => ∃ u, r = .tuple #[u, .bool (wayM exF 0 3).2] ∧ OwnR 3 gf (wayM exF 0 3).1 g' u) (fun g0 g' r => ∃ u, r = .tuple #[u, .bool true] ∧ OwnR 3 g0 [(1 : Int)] g' u) cl10 allF rfl rfl rfl rfl rfl hs 1 rfl rc0 (fun gf hle hgw hrs => ?_) (fun gf g2 g3 v hgw hff hw3 hf3 him hr => ?_) ?_)
 ·exact way_c _ exF 0 3 gf ⟨_, _, _, _, _, _, rfl, hrs, rs9.mono hle⟩
 ·exact (by rw [ex1] at hr; obtain ⟨u, h1, h2⟩ := hr; exact ⟨u, h1, OwnR.thaw (fun _ => RcL.int_any) hgw hw3 him h2⟩)
 rintro g1 v hf1 hres
 replace hs := hs.call hf1; have hqe := hf1.le; replace le0 := G.le.trans le0 hqe; replace rs9 := rs9.mono hqe; replace rc0 := rc0.mono hqe
 obtain ⟨u, rfl, hres⟩ := hres
 obtain ⟨gz, hwz, hsz, hqz, rs4⟩ := hs0.ownRs hf1 hres; have hqe := hqz; rw [← hwz]; replace hs := hsz; clear hsz hs0; replace le0 := G.le.trans le0 hqe; replace rs9 := rs9.mono hqe; replace rc0 := rc0.mono hqe
 (iterate 5 refine P1 T.ok rfl rfl rfl ?_); refine WL_nil ?_; (with_reducible refine T_then ?_); refine W_seq ?_; refine W_region ?_; refine WL_o rfl rfl (OpR_loadO T.ok 0 rfl hs rfl rfl rfl ?_)
 refine WL_o rfl rfl (OpR_lend (fun gf g' r => r = .tuple #[.int .i64 (quickest exF 3 3).1, .bool (quickest exF 3 3).2]) (fun g0 g' r => r = .tuple #[.int .i64 20, .bool true]) cl15 allF rfl rfl rfl rfl rfl hs 1 rfl rc0 (fun gf hle hgw hrs => ?_) (fun gf g2 g3 v hgw hff hw3 hf3 him hr => ?_) ?_)
 ·exact quickest_c _ exF 3 3 gf ⟨_, _, _, _, _, _, rfl, hrs, rs9.mono hle⟩
 ·exact (by rw [ex2] at hr; exact hr)
 rintro g1 v hf1 hres
 replace hs := hs.call hf1; have hqe := hf1.le; replace le0 := G.le.trans le0 hqe; replace rs4 := rs4.mono hqe; replace rs9 := rs9.mono hqe; replace rc0 := rc0.mono hqe
 subst hres
 (iterate 5 refine P1 T.ok rfl rfl rfl ?_); refine WL_nil ?_; (with_reducible refine T_then ?_); refine W_seq ?_; refine W_region ?_; refine WL_o rfl rfl (OpR_loadO T.ok 0 rfl hs rfl rfl rfl ?_)
 refine WL_o rfl rfl (OpR_lend (fun gf g' r => r = .tuple #[.int .i64 (finish exF 0).1, .bool (finish exF 0).2]) (fun g0 g' r => r = .tuple #[.int .i64 45, .bool true]) cl11 allF rfl rfl rfl rfl rfl hs 1 rfl rc0 (fun gf hle hgw hrs => ?_) (fun gf g2 g3 v hgw hff hw3 hf3 him hr => ?_) ?_)
 ·exact finish_c _ exF 0 gf ⟨_, _, _, _, _, _, rfl, hrs, rs9.mono hle⟩
 ·exact (by rw [ex3] at hr; exact hr)
 rintro g1 v hf1 hres
 replace hs := hs.call hf1; have hqe := hf1.le; replace le0 := G.le.trans le0 hqe; replace rs4 := rs4.mono hqe; replace rs9 := rs9.mono hqe; replace rc0 := rc0.mono hqe
 subst hres
 (iterate 5 refine P1 T.ok rfl rfl rfl ?_); refine WL_nil ?_; (with_reducible refine T_then ?_); refine W_seq ?_; refine W_region ?_; refine WL_o rfl rfl (OpR_loadO T.ok 0 rfl hs rfl rfl rfl ?_)
 refine WL_o rfl rfl (OpR_lend (fun gf g' r => ∃ u, r = .tuple #[u, .bool (wayM exF 4 0).2] ∧ OwnR 3 gf (wayM exF 4 0).1 g' u) (fun g0 g' r => ∃ u, r = .tuple #[u, .bool false]) cl10 allF rfl rfl rfl rfl rfl hs 1 rfl rc0 (fun gf hle hgw hrs => ?_) (fun gf g2 g3 v hgw hff hw3 hf3 him hr => ?_) ?_)
 ·exact way_c _ exF 4 0 gf ⟨_, _, _, _, _, _, rfl, hrs, rs9.mono hle⟩
 ·exact (by rw [ex4] at hr; obtain ⟨u, h1, h2⟩ := hr; exact ⟨u, h1⟩)
 rintro g1 v hf1 hres
 replace hs := hs.call hf1; have hqe := hf1.le; replace le0 := G.le.trans le0 hqe; replace rs4 := rs4.mono hqe; replace rs9 := rs9.mono hqe; replace rc0 := rc0.mono hqe
 obtain ⟨u2, rfl⟩ := hres
 (iterate 5 refine P1 T.ok rfl rfl rfl ?_); refine WL_nil ?_; (with_reducible refine T_then ?_); refine W_seq ?_; refine W_region ?_; refine WL_o rfl rfl (OpR_loadO T.ok 0 rfl hs rfl rfl rfl ?_)
 refine WL_o rfl rfl (OpR_lend (fun gf g' r => RProb g' r (check exF)) (fun g0 g' r => ∃ a n c, r = .agg #[.int .i64 0, .slice a n c]) cl9 allF rfl rfl rfl rfl rfl hs 1 rfl rc0 (fun gf hle hgw hrs => ?_) (fun gf g2 g3 v hgw hff hw3 hf3 him hr => ?_) ?_)
 ·exact check_c _ exF gf ⟨_, _, _, _, _, _, rfl, hrs, rs9.mono hle⟩
 ·exact (by rw [ex5] at hr; obtain ⟨a, n, c, h1, h2⟩ := hr; exact ⟨a, n, c, h1⟩)
 rintro g1 v hf1 hres
 replace hs := hs.call hf1; have hqe := hf1.le; replace le0 := G.le.trans le0 hqe; replace rs4 := rs4.mono hqe; replace rs9 := rs9.mono hqe; replace rc0 := rc0.mono hqe
 obtain ⟨pa, pn, pc, rfl⟩ := hres
 skip
 refine WL_o rfl rfl (OpR_alloc T.ok rfl hs rfl rfl ?_); clear hs; rintro bp g1 hs hqe; replace le0 := G.le.trans le0 hqe; replace rs4 := rs4.mono hqe; replace rs9 := rs9.mono hqe; replace rc0 := rc0.mono hqe
 skip
 refine WL_n rfl (OpR_storeO T.ok 0 rfl hs rfl rfl rfl rfl rfl rfl rfl rfl rfl ?_); replace hs := hs; rintro g1 hs hqe; replace le0 := G.le.trans le0 hqe; replace rs4 := rs4.mono hqe; replace rs9 := rs9.mono hqe; replace rc0 := rc0.mono hqe
 refine WL_nil ?_; (with_reducible refine T_then ?_); refine W_seq ?_; refine W_region ?_; refine WL_o rfl rfl (OpR_loadO T.ok 1 rfl hs rfl rfl rfl ?_)
 have hs0 := hs
 refine WL_o rfl rfl (OpR_lend (fun gf g' r => OwnR 3 gf (follow exF 3) g' r) (fun g0 g' r => OwnR 3 g0 [(1 : Int), 4] g' r) cl16 allF rfl rfl rfl rfl rfl hs 2 rfl rc0 (fun gf hle hgw hrs => ?_) (fun gf g2 g3 v hgw hff hw3 hf3 him hr => ?_) ?_)
 ·exact follow_c _ exF 3 gf ⟨_, _, _, _, _, _, rfl, hrs, rs9.mono hle⟩
 ·exact (by rw [ex6] at hr; exact OwnR.thaw (fun _ => RcL.int_any) hgw hw3 him hr)
 rintro g1 v hf1 hres
 replace hs := hs.call hf1; have hqe := hf1.le; replace le0 := G.le.trans le0 hqe; replace rs4 := rs4.mono hqe; replace rs9 := rs9.mono hqe; replace rc0 := rc0.mono hqe
 obtain ⟨gz, hwz, hsz, hqz, rs5⟩ := hs0.ownRs hf1 hres; have hqe := hqz; rw [← hwz]; replace hs := hsz; clear hsz hs0; replace le0 := G.le.trans le0 hqe; replace rs4 := rs4.mono hqe; replace rs9 := rs9.mono hqe; replace rc0 := rc0.mono hqe
 refine WL_o rfl rfl (OpR_lit T.ok rfl hs (vs := [(0, .int .i64 (1)), (1, .int .i64 (4))]) (cells := [.int .i64 (1), .int .i64 (4)]) rfl rfl rfl rfl rfl rfl (by decide) (by decide) (by kernel_rfl) rfl ?_); rintro bl gl hs hqe; replace le0 := G.le.trans le0 hqe; replace rs4 := rs4.mono hqe; replace rs5 := rs5.mono hqe; replace rs9 := rs9.mono hqe; replace rc0 := rc0.mono hqe; obtain ⟨gz, hwz, hsz, hqz, rs6⟩ := hs.fzRow (α := Int) (xs := [1, 4]) (i := 0) rfl (RcL.ints _ [1, 4]); clear hqe; have hqe := hqz; rw [← hwz]; replace hs := hsz; clear hsz; replace le0 := G.le.trans le0 hqe; replace rs4 := rs4.mono hqe; replace rs5 := rs5.mono hqe; replace rs9 := rs9.mono hqe; replace rc0 := rc0.mono hqe
 refine WL_o rfl rfl (OpR_ret cl13 allF rfl rfl rfl rfl rfl (samei_c _ _ _ _ _ rs5 rs6) ?_); rintro g1 _ hf1 rfl; replace hs := hs.call hf1; have hqe := hf1.le; replace le0 := G.le.trans le0 hqe; replace rs4 := rs4.mono hqe; replace rs5 := rs5.mono hqe; replace rs6 := rs6.mono hqe; replace rs9 := rs9.mono hqe; replace rc0 := rc0.mono hqe
 refine WL_rep (.bool true) (t := 39) rfl (congrArg Value.bool (by decide)) ?_
 clear rs5 rs6
 refine P1 T.ok rfl rfl rfl ?_; refine WL_o rfl rfl (OpR_loadO T.ok 1 rfl hs rfl rfl rfl ?_)
 have hs0 := hs
 refine WL_o rfl rfl (OpR_lend (fun gf g' r => OwnR 3 gf (reach exF 3) g' r) (fun g0 g' r => OwnR 3 g0 [(1 : Int), 3, 4] g' r) cl17 allF rfl rfl rfl rfl rfl hs 2 rfl rc0 (fun gf hle hgw hrs => ?_) (fun gf g2 g3 v hgw hff hw3 hf3 him hr => ?_) ?_)
 ·exact reach_c _ exF 3 gf ⟨_, _, _, _, _, _, rfl, hrs, rs9.mono hle⟩
 ·exact (by rw [ex7] at hr; exact OwnR.thaw (fun _ => RcL.int_any) hgw hw3 him hr)
 rintro g1 v hf1 hres
 replace hs := hs.call hf1; have hqe := hf1.le; replace le0 := G.le.trans le0 hqe; replace rs4 := rs4.mono hqe; replace rs9 := rs9.mono hqe; replace rc0 := rc0.mono hqe
 obtain ⟨gz, hwz, hsz, hqz, rs5⟩ := hs0.ownRs hf1 hres; have hqe := hqz; rw [← hwz]; replace hs := hsz; clear hsz hs0; replace le0 := G.le.trans le0 hqe; replace rs4 := rs4.mono hqe; replace rs9 := rs9.mono hqe; replace rc0 := rc0.mono hqe
 refine WL_o rfl rfl (OpR_lit T.ok rfl hs (vs := [(0, .int .i64 (1)), (1, .int .i64 (3)), (2, .int .i64 (4))]) (cells := [.int .i64 (1), .int .i64 (3), .int .i64 (4)]) rfl rfl rfl rfl rfl rfl (by decide) (by decide) (by kernel_rfl) rfl ?_); rintro bl gl hs hqe; replace le0 := G.le.trans le0 hqe; replace rs4 := rs4.mono hqe; replace rs5 := rs5.mono hqe; replace rs9 := rs9.mono hqe; replace rc0 := rc0.mono hqe; obtain ⟨gz, hwz, hsz, hqz, rs6⟩ := hs.fzRow (α := Int) (xs := [1, 3, 4]) (i := 0) rfl (RcL.ints _ [1, 3, 4]); clear hqe; have hqe := hqz; rw [← hwz]; replace hs := hsz; clear hsz; replace le0 := G.le.trans le0 hqe; replace rs4 := rs4.mono hqe; replace rs5 := rs5.mono hqe; replace rs9 := rs9.mono hqe; replace rc0 := rc0.mono hqe
 refine WL_o rfl rfl (OpR_ret cl13 allF rfl rfl rfl rfl rfl (samei_c _ _ _ _ _ rs5 rs6) ?_); rintro g1 _ hf1 rfl; replace hs := hs.call hf1; have hqe := hf1.le; replace le0 := G.le.trans le0 hqe; replace rs4 := rs4.mono hqe; replace rs5 := rs5.mono hqe; replace rs6 := rs6.mono hqe; replace rs9 := rs9.mono hqe; replace rc0 := rc0.mono hqe
 refine WL_rep (.bool true) (t := 44) rfl (congrArg Value.bool (by decide)) ?_
 clear rs5 rs6
 refine P1 T.ok rfl rfl rfl ?_; refine P1 T.ok rfl rfl rfl ?_; refine WL_o rfl rfl (OpR_loadO T.ok 1 rfl hs rfl rfl rfl ?_)
 have hs0 := hs
 refine WL_o rfl rfl (OpR_lend (fun gf g' r => OwnR 3 gf (ends exF) g' r) (fun g0 g' r => OwnR 3 g0 [(4 : Int)] g' r) cl18 allF rfl rfl rfl rfl rfl hs 2 rfl rc0 (fun gf hle hgw hrs => ?_) (fun gf g2 g3 v hgw hff hw3 hf3 him hr => ?_) ?_)
 ·exact ends_c _ exF gf ⟨_, _, _, _, _, _, rfl, hrs, rs9.mono hle⟩
 ·exact (by rw [ex8] at hr; exact OwnR.thaw (fun _ => RcL.int_any) hgw hw3 him hr)
 rintro g1 v hf1 hres
 replace hs := hs.call hf1; have hqe := hf1.le; replace le0 := G.le.trans le0 hqe; replace rs4 := rs4.mono hqe; replace rs9 := rs9.mono hqe; replace rc0 := rc0.mono hqe
 obtain ⟨gz, hwz, hsz, hqz, rs5⟩ := hs0.ownRs hf1 hres; have hqe := hqz; rw [← hwz]; replace hs := hsz; clear hsz hs0; replace le0 := G.le.trans le0 hqe; replace rs4 := rs4.mono hqe; replace rs9 := rs9.mono hqe; replace rc0 := rc0.mono hqe
 refine WL_o rfl rfl (OpR_lit T.ok rfl hs (vs := [(0, .int .i64 (4))]) (cells := [.int .i64 (4)]) rfl rfl rfl rfl rfl rfl (by decide) (by decide) (by kernel_rfl) rfl ?_); rintro bl gl hs hqe; replace le0 := G.le.trans le0 hqe; replace rs4 := rs4.mono hqe; replace rs5 := rs5.mono hqe; replace rs9 := rs9.mono hqe; replace rc0 := rc0.mono hqe; obtain ⟨gz, hwz, hsz, hqz, rs6⟩ := hs.fzRow (α := Int) (xs := [4]) (i := 0) rfl (RcL.ints _ [4]); clear hqe; have hqe := hqz; rw [← hwz]; replace hs := hsz; clear hsz; replace le0 := G.le.trans le0 hqe; replace rs4 := rs4.mono hqe; replace rs5 := rs5.mono hqe; replace rs9 := rs9.mono hqe; replace rc0 := rc0.mono hqe
 refine WL_o rfl rfl (OpR_ret cl13 allF rfl rfl rfl rfl rfl (samei_c _ _ _ _ _ rs5 rs6) ?_); rintro g1 _ hf1 rfl; replace hs := hs.call hf1; have hqe := hf1.le; replace le0 := G.le.trans le0 hqe; replace rs4 := rs4.mono hqe; replace rs5 := rs5.mono hqe; replace rs6 := rs6.mono hqe; replace rs9 := rs9.mono hqe; replace rc0 := rc0.mono hqe
 refine WL_rep (.bool true) (t := 50) rfl (congrArg Value.bool (by decide)) ?_
 clear rs5 rs6
 refine P1 T.ok rfl rfl rfl ?_; refine P1 T.ok rfl rfl rfl ?_; refine WL_nil ?_; (with_reducible refine T_then ?_); refine W_seq ?_; refine W_region ?_; refine P1 T.ok rfl rfl rfl ?_; refine WL_o rfl rfl (OpR_loadO T.ok 1 rfl hs rfl rfl rfl ?_)
 -- the last step gets a step behind it
 refine WL_o rfl rfl (OpR_lit T.ok rfl hs (vs := [(0, .int .i64 (3))]) (cells := [.int .i64 (3)]) rfl rfl rfl rfl rfl rfl (by decide) (by decide) (by kernel_rfl) rfl ?_); rintro bl gl hs hqe; replace le0 := G.le.trans le0 hqe; replace rs4 := rs4.mono hqe; replace rs9 := rs9.mono hqe; replace rc0 := rc0.mono hqe; obtain ⟨gz, hwz, hsz, hqz, rs5⟩ := hs.fzRow (α := Int) (xs := [3]) (i := 0) rfl (RcL.ints _ [3]); clear hqe; have hqe := hqz; rw [← hwz]; replace hs := hsz; clear hsz; replace le0 := G.le.trans le0 hqe; replace rs4 := rs4.mono hqe; replace rs9 := rs9.mono hqe; replace rc0 := rc0.mono hqe
 have hrow := (hs.own 2 _ rfl).1
 have hsn : sn = 5 := (Src.of_row hrow).1
 subst hsn
 refine WL_o rfl rfl (OpR_idxR T.ok rfl hrow (by decide) (by decide) rfl rfl rfl rfl rfl rfl ?_)
 rintro b p rfl
 refine P1 T.ok rfl rfl rfl ?_
 have hlc : cells.length = 35 := by rw [rc0.len]; rfl
 refine WL_n rfl (OpR_storeR T.ok 2 (4 * 7 + 4) rfl hs rfl rfl rfl rfl rfl rfl rfl (by simp) (by rw [hlc]; simp) rfl ?_)
 rintro g5 hs hqe; replace le0 := G.le.trans le0 hqe; replace rs4 := rs4.mono hqe; replace rs5 := rs5.mono hqe; replace rs9 := rs9.mono hqe; replace rc0 := rc0.mono hqe
 have hr5 : RcL g5 (spl cells (4 * 7 + 4) [_]) exG.steps := RcL.upd (α := Step) (x' := ⟨1, [0], 10, 10, [3], -1, 0⟩) (by show 4 + 1 ≤ 7; decide) rc0 4 ⟨1, [0], 10, 10, [], -1, 0⟩ rfl (by
  rintro ys ⟨b1, b2, b3, b4, b5, b6, rfl, hx1, hx2⟩
  exact ⟨b1, b2, b3, _, _, _, rfl, hx1, rs5⟩)
 obtain ⟨gz, hwz, hsz, hqz, rs6⟩ := hs.fzRow (α := Step) (i := 2) rfl hr5
 clear hqe; have hqe := hqz; rw [← hwz]; replace hs := hsz; clear hsz rc0 hr5 hrow; replace le0 := G.le.trans le0 hqe; replace rs4 := rs4.mono hqe; replace rs5 := rs5.mono hqe; replace rs9 := rs9.mono hqe
 refine WL_nil ?_; (with_reducible refine T_then ?_); refine W_seq ?_; refine W_region ?_; refine WL_o rfl rfl (OpR_loadO T.ok 1 rfl hs rfl rfl rfl ?_)
 refine WL_o rfl rfl (OpR_ret cl9 allF rfl rfl rfl rfl rfl (check_c _ exG _ ⟨_, _, _, _, _, _, rfl, rs6, rs9⟩) ?_); rintro g1 _ hf1 hres; replace hs := hs.call hf1; have hqe := hf1.le; replace le0 := G.le.trans le0 hqe; replace rs4 := rs4.mono hqe; replace rs5 := rs5.mono hqe; replace rs6 := rs6.mono hqe; replace rs9 := rs9.mono hqe
 rw [ex9] at hres
 obtain ⟨qa, qn, qc, rfl, rs7⟩ := hres
 skip
 refine WL_o rfl rfl (OpR_alloc T.ok rfl hs rfl rfl ?_); clear hs; rintro bq g1 hs hqe; replace le0 := G.le.trans le0 hqe; replace rs4 := rs4.mono hqe; replace rs5 := rs5.mono hqe; replace rs6 := rs6.mono hqe; replace rs7 := rs7.mono hqe; replace rs9 := rs9.mono hqe
 skip
 refine WL_n rfl (OpR_storeO T.ok 0 rfl hs rfl rfl rfl rfl rfl rfl rfl rfl rfl ?_); replace hs := hs; rintro g1 hs hqe; replace le0 := G.le.trans le0 hqe; replace rs4 := rs4.mono hqe; replace rs5 := rs5.mono hqe; replace rs6 := rs6.mono hqe; replace rs7 := rs7.mono hqe; replace rs9 := rs9.mono hqe
 refine WL_nil ?_; (with_reducible refine T_then ?_); refine W_seq ?_; refine W_region ?_; (iterate 6 refine P1 T.ok rfl rfl rfl ?_)
 refine WL_o rfl rfl (OpR_lit T.ok rfl hs (vs := [(0, .int .i64 (1))]) (cells := [.int .i64 (1)]) rfl rfl rfl rfl rfl rfl (by decide) (by decide) (by kernel_rfl) rfl ?_); rintro bl gl hs hqe; replace le0 := G.le.trans le0 hqe; replace rs4 := rs4.mono hqe; replace rs5 := rs5.mono hqe; replace rs6 := rs6.mono hqe; replace rs7 := rs7.mono hqe; replace rs9 := rs9.mono hqe; obtain ⟨gz, hwz, hsz, hqz, rs8⟩ := hs.fzRow (α := Int) (xs := [1]) (i := 0) rfl (RcL.ints _ [1]); clear hqe; have hqe := hqz; rw [← hwz]; replace hs := hsz; clear hsz; replace le0 := G.le.trans le0 hqe; replace rs4 := rs4.mono hqe; replace rs5 := rs5.mono hqe; replace rs6 := rs6.mono hqe; replace rs7 := rs7.mono hqe; replace rs9 := rs9.mono hqe
 refine WL_o rfl rfl (OpR_ret cl13 allF rfl rfl rfl rfl rfl (samei_c _ _ _ _ _ rs4 rs8) ?_); rintro g1 _ hf1 rfl; replace hs := hs.call hf1; have hqe := hf1.le; replace le0 := G.le.trans le0 hqe; replace rs4 := rs4.mono hqe; replace rs5 := rs5.mono hqe; replace rs6 := rs6.mono hqe; replace rs7 := rs7.mono hqe; replace rs8 := rs8.mono hqe; replace rs9 := rs9.mono hqe
 refine WL_rep (.bool true) (t := 66) rfl (congrArg Value.bool (by decide)) ?_
 (iterate 21 refine P1 T.ok rfl rfl rfl ?_); refine WL_o rfl rfl (OpR_loadO T.ok 1 rfl hs rfl rfl rfl ?_); (iterate 4 refine P1 T.ok rfl rfl rfl ?_); refine WL_o rfl rfl (OpR_loadO T.ok 0 rfl hs rfl rfl rfl ?_); (iterate 4 refine P1 T.ok rfl rfl rfl ?_); refine WL_o rfl rfl (OpR_loadO T.ok 0 rfl hs rfl rfl rfl ?_)
 refine WL_o rfl rfl (OpR_lit T.ok rfl hs (vs := [(0, .int .i64 (0))]) (cells := [.int .i64 (0)]) rfl rfl rfl rfl rfl rfl (by decide) (by decide) (by kernel_rfl) rfl ?_); rintro bl gl hs hqe; replace le0 := G.le.trans le0 hqe; replace rs4 := rs4.mono hqe; replace rs5 := rs5.mono hqe; replace rs6 := rs6.mono hqe; replace rs7 := rs7.mono hqe; replace rs8 := rs8.mono hqe; replace rs9 := rs9.mono hqe; obtain ⟨gz, hwz, hsz, hqz, rs5⟩ := hs.fzRow (α := Int) (xs := [0]) (i := 0) rfl (RcL.ints _ [0]); clear hqe; have hqe := hqz; rw [← hwz]; replace hs := hsz; clear hsz; replace le0 := G.le.trans le0 hqe; replace rs4 := rs4.mono hqe; replace rs6 := rs6.mono hqe; replace rs7 := rs7.mono hqe; replace rs8 := rs8.mono hqe; replace rs9 := rs9.mono hqe
 refine WL_o rfl rfl (OpR_ret cl13 allF rfl rfl rfl rfl rfl (samei_c _ _ _ _ _ rs7 rs5) ?_); rintro g1 _ hf1 rfl; replace hs := hs.call hf1; have hqe := hf1.le; replace le0 := G.le.trans le0 hqe; replace rs4 := rs4.mono hqe; replace rs5 := rs5.mono hqe; replace rs6 := rs6.mono hqe; replace rs7 := rs7.mono hqe; replace rs8 := rs8.mono hqe; replace rs9 := rs9.mono hqe
 refine WL_rep (.bool true) (t := 100) rfl (congrArg Value.bool (by decide)) ?_
 refine P1 T.ok rfl rfl rfl ?_; refine P1 T.ok rfl rfl rfl ?_; refine WL_nil ?_; (with_reducible refine T_then ?_)
 exact W_ret (ret1 rfl rfl (hs.ret rfl))
end Go.Proofs.YtnggomfbgmlkhaaGreatDoor
