/- The walks through Make, Lines, few and the fixed examples. -/
import Derived.Test.YtnaeopehmdcplaaGreatDoorYq
import Derived.Test.YtnaeopehmdcplaaGreatDoorYi
import Derived.Test.YtnaeopehmdcplaaGreatDoorYp

/- pick, after, and what Make is made of. -/
namespace Go.Proofs.YtnaeopehmdcplaaGreatDoor
open Go Go.K
set_option maxRecDepth 10000
attribute [local irreducible] W WL OpR bitAnd bitOr bitXor bitClr bitNot shlI shrI
set_option maxHeartbeats 4000000


theorem pick_c (c n : Int) (g : G) (hc : I64 c) (hn : n ≠ 0) : CallsIn Wd 0 Tryz.prog 22 #[.int .i64 c, .int .i64 n] g.w (Ret g fun _ r => r = .int .i64 (pickM c n)) := by
 have hs := St.start g
 refine enter Tryz.func22 rfl Tryz.ntmps22 rfl ?_
 unfold I64 at hc
 refine W_seq ?_; refine W_region ?_; refine P1 T.ok rfl rfl rfl ?_; refine WL_nil ?_; (with_reducible refine T_then ?_); refine W_seq ?_; refine W_seq ?_; refine W_region ?_; refine P1 T.ok rfl rfl rfl ?_; refine P1 T.ok rfl rfl rfl ?_; refine WL_nil ?_; (with_reducible refine T_then ?_)
 by_cases hneg : c < 0
 ·refine W_yes (b := decide (c < 0)) (by simp [hneg]) rfl ?_
  refine W_region ?_; (iterate 4 refine P1 T.ok rfl rfl rfl ?_); refine WL_nil ?_; (with_reducible refine T_then ?_); refine W_seq ?_; refine W_region ?_; refine P1 T.ok rfl rfl rfl ?_; refine P1 T.ok rfl rfl rfl ?_
  refine WL_o rfl rfl (OpR_rem rfl rfl rfl hn ?_)
  refine P1 T.ok rfl rfl rfl ?_; refine WL_nil ?_; (with_reducible refine T_then ?_)
  refine W_ret (ret1 rfl rfl (hs.ret ?_))
  unfold pickM
  rw [if_pos hneg, wr (n := c + 1) (by omega) (by omega), wr (by omega) (by omega), Int.zero_sub]
 ·refine W_no (b := decide (c < 0)) (by simp; omega) rfl ?_
  refine W_skip ?_; (with_reducible refine T_then ?_); refine W_seq ?_; refine W_region ?_; refine P1 T.ok rfl rfl rfl ?_; refine P1 T.ok rfl rfl rfl ?_
  refine WL_o rfl rfl (OpR_rem rfl rfl rfl hn ?_)
  refine P1 T.ok rfl rfl rfl ?_; refine WL_nil ?_; (with_reducible refine T_then ?_)
  refine W_ret (ret1 rfl rfl (hs.ret ?_))
  unfold pickM
  rw [if_neg hneg]
theorem lpick_c (c n : Int) (g : G) (hc : I64 c) (hn : n ≠ 0) : CallsIn Wd 0 Tryz.prog 18 #[.int .i64 c, .int .i64 n] g.w (Ret g fun _ r => r = .int .i64 (pickM c n)) := by
 have hs := St.start g
 refine enter Tryz.func18 rfl Tryz.ntmps18 rfl ?_
 unfold I64 at hc
 refine W_seq ?_; refine W_region ?_; refine P1 T.ok rfl rfl rfl ?_; refine WL_nil ?_; (with_reducible refine T_then ?_); refine W_seq ?_; refine W_seq ?_; refine W_region ?_; refine P1 T.ok rfl rfl rfl ?_; refine P1 T.ok rfl rfl rfl ?_; refine WL_nil ?_; (with_reducible refine T_then ?_)
 by_cases hneg : c < 0
 ·refine W_yes (b := decide (c < 0)) (by simp [hneg]) rfl ?_
  refine W_region ?_; (iterate 4 refine P1 T.ok rfl rfl rfl ?_); refine WL_nil ?_; (with_reducible refine T_then ?_); refine W_seq ?_; refine W_region ?_; refine P1 T.ok rfl rfl rfl ?_; refine P1 T.ok rfl rfl rfl ?_
  refine WL_o rfl rfl (OpR_rem rfl rfl rfl hn ?_)
  refine P1 T.ok rfl rfl rfl ?_; refine WL_nil ?_; (with_reducible refine T_then ?_)
  refine W_ret (ret1 rfl rfl (hs.ret ?_))
  unfold pickM
  rw [if_pos hneg, wr (n := c + 1) (by omega) (by omega), wr (by omega) (by omega), Int.zero_sub]
 ·refine W_no (b := decide (c < 0)) (by simp; omega) rfl ?_
  refine W_skip ?_; (with_reducible refine T_then ?_); refine W_seq ?_; refine W_region ?_; refine P1 T.ok rfl rfl rfl ?_; refine P1 T.ok rfl rfl rfl ?_
  refine WL_o rfl rfl (OpR_rem rfl rfl rfl hn ?_)
  refine P1 T.ok rfl rfl rfl ?_; refine WL_nil ?_; (with_reducible refine T_then ?_)
  refine W_ret (ret1 rfl rfl (hs.ret ?_))
  unfold pickM
  rw [if_neg hneg]

theorem after_c (v w : Window) (g : G) : CallsIn Wd 0 Tryz.prog 23 #[.agg (winV v).toArray, .agg (winV w).toArray] g.w (Ret g fun _ r => r = .bool (winLess v w)) := by
 have hs := St.start g
 have le0 := G.le.refl g
 unfold winV
 refine enter Tryz.func23 rfl Tryz.ntmps23 rfl ?_
 refine W_seq ?_; refine W_region ?_
 refine WL_o rfl rfl (OpR_box rfl hs rfl rfl ?_); clear hs; rintro bx g1 hs hqe; replace le0 := G.le.trans le0 hqe
 obtain ⟨g2, hw2, hs2, hqe, hep⟩ := hs.fzObj (i := 0) rfl; replace hs := hs2; clear hs2; rw [← hw2]; replace le0 := G.le.trans le0 hqe
 have ep0 := hep
 clear hep hw2 hqe
 skip
 refine WL_o rfl rfl (OpR_box rfl hs rfl rfl ?_); clear hs; rintro by1 g1 hs hqe; replace le0 := G.le.trans le0 hqe; replace ep0 := ep0.mono hqe
 obtain ⟨g2, hw2, hs2, hqe, hep⟩ := hs.fzObj (i := 0) rfl; replace hs := hs2; clear hs2; rw [← hw2]; replace le0 := G.le.trans le0 hqe; replace ep0 := ep0.mono hqe
 have ep1 := hep
 clear hep hw2 hqe
 refine P1 T.ok rfl rfl rfl ?_; refine WL_nil ?_; (with_reducible refine T_then ?_); refine W_seq ?_; refine W_region ?_; refine P1 T.ok rfl rfl rfl ?_; refine WL_o rfl rfl (OpR_loadE T.ok 0 rfl ep0 rfl rfl ?_); refine P1 T.ok rfl rfl rfl ?_; refine WL_o rfl rfl (OpR_loadE T.ok 0 rfl ep1 rfl rfl ?_); refine P1 T.ok rfl rfl rfl ?_; refine P1 T.ok rfl rfl rfl ?_
 unfold winLess
 cases h1 : decide (v.src < w.src) with
 | true =>
  (iterate 12 refine S1 allF rfl rfl ?_); refine P1 T.ok rfl rfl rfl ?_; refine P1 T.ok rfl rfl rfl ?_; refine WL_nil ?_; (with_reducible refine T_then ?_)
  refine W_ret ?_
  skip
  refine ret1 rfl rfl (hs.ret ?_)
  rfl
 | false =>
  refine P1 T.ok rfl rfl rfl ?_; refine WL_o rfl rfl (OpR_loadE T.ok 0 rfl ep0 rfl rfl ?_); refine P1 T.ok rfl rfl rfl ?_; refine WL_o rfl rfl (OpR_loadE T.ok 0 rfl ep1 rfl rfl ?_); refine P1 T.ok rfl rfl rfl ?_; refine P1 T.ok rfl rfl rfl ?_
  cases h2 : v.src == w.src with
  | false =>
   (iterate 5 refine S1 allF rfl rfl ?_); (iterate 3 refine P1 T.ok rfl rfl rfl ?_); refine WL_nil ?_; (with_reducible refine T_then ?_)
   refine W_ret ?_
   skip
   refine ret1 rfl rfl (hs.ret ?_)
   rfl
  | true =>
   refine P1 T.ok rfl rfl rfl ?_; refine WL_o rfl rfl (OpR_loadE T.ok 1 rfl ep0 rfl rfl ?_); refine P1 T.ok rfl rfl rfl ?_; refine WL_o rfl rfl (OpR_loadE T.ok 1 rfl ep1 rfl rfl ?_); (iterate 4 refine P1 T.ok rfl rfl rfl ?_); refine WL_nil ?_; (with_reducible refine T_then ?_)
   refine W_ret ?_
   skip
   refine ret1 rfl rfl (hs.ret ?_)
   rfl
/-- A pointer to an array of three integers. -/
def z3P (z : Y3) : Fact :=
 ⟨fun v g => ∃ b p, v = .pointer (some ⟨b, p, none⟩) ∧ EP g b p [.int .i64 z.z0, .int .i64 z.z1, .int .i64 z.z2], fun _ _ _ hf ⟨b, p, e, h1⟩ => ⟨b, p, e, h1.mono hf.le⟩⟩
def intPtr (n : Int) : Fact := ⟨fun v g => ∃ b p, v = .pointer (some ⟨b, p, none⟩) ∧ EP g b p [.int .i64 n], fun _ _ _ hf ⟨b, p, e, h1⟩ => ⟨b, p, e, h1.mono hf.le⟩⟩
instance : El Y6 where
 k := 6
 pos := by omega
 rc _ cs y := cs = [.int .i64 y.y0, .int .i64 y.y1, .int .i64 y.y2, .int .i64 y.y3, .int .i64 y.y4, .int .i64 y.y5]
 len h := by rw [h]; rfl
 mono _ h := h
 one h := by rw [h]; simp [Value.oneCell']
instance : El Y3 where
 k := 3
 pos := by omega
 rc _ cs y := cs = [.int .i64 y.z0, .int .i64 y.z1, .int .i64 y.z2]
 len h := by rw [h]; rfl
 mono _ h := h
 one h := by rw [h]; simp [Value.oneCell']
theorem winL_app : ∀ (l : List Window) (w : Window), winL (l ++ [w]) = winL l ++ winV w
 | [], w => by simp [winL]
 | v :: l, w => by rw [List.cons_append]; simp only [winL]; rw [winL_app l w, List.append_assoc]
theorem winL_last {l : List Window} {v : Window} (h : l.getLast? = some v) : ldl T 53 (winL l) ((l.length - 1) * 3) = some (.agg (winV v).toArray) := by
 obtain ⟨r, rfl⟩ : ∃ r, l = r ++ [v] := by
  rcases List.eq_nil_or_concat l with rfl | ⟨r, x, rfl⟩
  ·cases h
  ·rw [List.concat_eq_append] at h ⊢
   rw [List.getLast?_append] at h
   simp at h
   exact ⟨r, by rw [h]⟩
 rw [winL_app, List.length_append]
 have hl := winL_len r
 show (bif Nat.ble ((r.length + 1 - 1) * 3 + 3) (winL r ++ winV v).length then some (Value.agg (((winL r ++ winV v).drop ((r.length + 1 - 1) * 3)).take 3).toArray) else none) = _
 rw [Nat.add_sub_cancel, Nat.ble_eq_true_of_le (by rw [List.length_append, hl]; exact Nat.le_refl _), ← hl, List.drop_left]
 rfl
end Go.Proofs.YtnaeopehmdcplaaGreatDoor

/- Make: a step. -/
namespace Go.Proofs.YtnaeopehmdcplaaGreatDoor
open Go Go.K
set_option maxRecDepth 10000
attribute [local irreducible] W WL OpR bitAnd bitOr bitXor bitClr bitNot shlI shrI
set_option maxHeartbeats 8000000

theorem row_some {B e k q m c : Nat} {ad : Option Addr} {xs : List Value} {w : World} (h : Row B e k (.slice ad m c) q xs w) (hm : m ≠ 0) : ∃ b p, ad = some ⟨b, p, none⟩ := by
 rcases h.2 with ⟨_, a', hv⟩ | ⟨b, p, cap, cur, hv, _⟩
 ·simp only [Value.slice.injEq] at hv; omega
 ·simp only [Value.slice.injEq] at hv
  exact ⟨b, p, hv.1⟩
theorem make_c (v u : Value) (x : List Y6) (zs : List Y3) (g : G) (rs0 : Rs g v x) (rs1 : Rs g u zs) (hx : ∀ y ∈ x, y.fit) (hz : ∀ z ∈ zs, z.fit) :
  CallsIn Wd 0 Tryz.prog 7 #[v, u] g.w (Ret g fun g' r => RFlow g' r (mk x zs)) := by
 obtain ⟨a, c, rfl⟩ := rs0.isSlice
 obtain ⟨a2, c2, rfl⟩ := rs1.isSlice
 have hlen := rs0.len_le
 have hlen2 := rs1.len_le
 unfold maxLen at hlen hlen2
 have hs := St.start g
 have le0 := G.le.refl g
 have hn := mkN_range x
 refine enter Tryz.func7 rfl Tryz.ntmps7 rfl ?_
 refine W_seq ?_; refine W_region ?_
 refine WL_o rfl rfl (OpR_alloc T.ok rfl hs rfl rfl ?_); clear hs; rintro br g1 hs hqe; replace le0 := G.le.trans le0 hqe; replace rs0 := rs0.mono hqe; replace rs1 := rs1.mono hqe
 refine WL_nil ?_; (with_reducible refine T_then ?_); refine W_seq ?_; refine W_region ?_; (iterate 5 refine P1 T.ok rfl rfl rfl ?_); refine WL_nil ?_; (with_reducible refine T_then ?_); refine W_seq ?_; refine W_region ?_
 have hN : (if (1 : Int) < (if (8 : Int) < (x.length : Int) then 8 else (x.length : Int)) then (if (8 : Int) < (x.length : Int) then 8 else (x.length : Int)) else 1) = (mkN x : Int) := by
  unfold mkN
  split <;> split <;> omega
 refine WL_re (.int .i64 (mkN x)) (t := 5) rfl (congrArg (Value.int .i64) hN) ?_
 refine WL_o rfl rfl (OpR_build T.ok rfl (vs := [(0, .int .i64 2), (1, .int .i64 5)]) (cells := [.int .i64 2, .int .i64 5, .slice none 0 0, .slice none 0 0]) rfl rfl rfl rfl [(0, 1), (1, 1), (2, 1), (3, 1)] rfl (by kernel_rfl) ?_)
 skip
 refine WL_o rfl rfl (OpR_alloc T.ok rfl hs rfl rfl ?_); clear hs; rintro bf g1 hs hqe; replace le0 := G.le.trans le0 hqe; replace rs0 := rs0.mono hqe; replace rs1 := rs1.mono hqe
 skip
 refine WL_n rfl (OpR_storeO T.ok 0 rfl hs rfl rfl rfl rfl rfl rfl rfl rfl rfl ?_); replace hs := hs; rintro g1 hs hqe; replace le0 := G.le.trans le0 hqe; replace rs0 := rs0.mono hqe; replace rs1 := rs1.mono hqe
 refine WL_nil ?_; (with_reducible refine T_then ?_); refine W_seq ?_; refine W_seq ?_; refine W_region ?_; refine P1 T.ok rfl rfl rfl ?_; refine WL_nil ?_; (with_reducible refine T_then ?_); refine W_block ?_
 have rs0c := rs0; have rs1c := rs1; have le5 := G.le.refl g1
 replace hs := hs.nilrow 50 7 none
 refine W_loop (fun m a' w => ∃ (k : Nat) (sv : Value) (cells : List Value) (g3 : G), w = g3.w ∧ St g g3 [.row 50 7 sv k cells, .obj bf (.cells [.int .i64 2, .int .i64 5, sv, .slice none 0 0].toArray 25 (0, 0)), .obj br (.cells [.int .i64 0, .int .i64 0, .slice none 0 0, .slice none 0 0].toArray 25 (0, 0))] ∧ G.le g1 g3 ∧ k ≤ mkN x ∧ m = mkN x - k ∧ RcL g3 cells (mkSteps x k) ∧
   Fr 193 [] [(0, .slice a x.length c), (1, .slice a2 zs.length c2), (4, .pointer (some ⟨br, 0, none⟩)), (5, .int .i64 (mkN x)), (6, .pointer (some ⟨bf, 0, none⟩)), (7, .int .i64 k)] a') (mkN x)
  (fun a' ha => ⟨0, _, [], g1, rfl, hs, le5, Nat.zero_le _, rfl, rfl, ha.keep (by (repeat (first | exact trivial | refine ⟨rfl, ?_⟩)))⟩) ?_
 clear hs le5 rs0 rs1
 rintro m a' _ ⟨k, sv, cells, g3, rfl, hs, le5, hk, rfl, hrc, ha'⟩
 have rs0 := rs0c.mono le5
 obtain ⟨sa, sc, rfl⟩ := (hs.own 0 _ rfl).1.form
 revert a'
 (with_reducible refine T_wp ?_); refine W_seq ?_; refine W_seq ?_; refine W_region ?_; (iterate 3 refine P1 T.ok rfl rfl rfl ?_); refine WL_nil ?_; (with_reducible refine T_then ?_)
 by_cases hlt : k < mkN x
 ·refine W_yes (b := decide ((k : Int) < (mkN x : Int))) (by simp; omega) rfl ?_
  have hst := mkSteps_succ x k
  have hrcd := hrc; have le6 := le5
  have le4 := G.le.refl g3
  refine W_skip ?_; (with_reducible refine T_then ?_); refine W_seq ?_; refine W_block ?_; refine W_seq ?_; refine W_region ?_
  refine WL_o rfl rfl (OpR_alloc T.ok rfl hs rfl rfl ?_); clear hs; rintro bY g1 hs hqe; replace le4 := G.le.trans le4 hqe; replace rs0 := rs0.mono hqe
  refine WL_nil ?_; (with_reducible refine T_then ?_); refine W_seq ?_; refine W_seq ?_; refine W_region ?_; (iterate 4 refine P1 T.ok rfl rfl rfl ?_); refine WL_nil ?_; (with_reducible refine T_then ?_)
  refine W_mid (fun a' w => ∃ (g4 : G), w = g4.w ∧ G.le g3 g4 ∧ (x.getD k y60).fit ∧ EP g4 bY 0 [.int .i64 (x.getD k y60).y0, .int .i64 (x.getD k y60).y1, .int .i64 (x.getD k y60).y2, .int .i64 (x.getD k y60).y3, .int .i64 (x.getD k y60).y4, .int .i64 (x.getD k y60).y5] ∧
   St g g4 [.row 50 7 (.slice sa k sc) k cells, .obj bf (.cells [.int .i64 2, .int .i64 5, .slice sa k sc, .slice none 0 0].toArray 25 (0, 0)), .obj br (.cells [.int .i64 0, .int .i64 0, .slice none 0 0, .slice none 0 0].toArray 25 (0, 0))] ∧
   Fr 193 [] [(0, .slice a x.length c), (1, .slice a2 zs.length c2), (4, .pointer (some ⟨br, 0, none⟩)), (5, .int .i64 (mkN x)), (6, .pointer (some ⟨bf, 0, none⟩)), (7, .int .i64 k), (8, .pointer (some ⟨bY, 0, none⟩))] a') ?_ ?_
  ·by_cases hkx : k < x.length
   ·refine W_yes (b := decide ((k : Int) < (x.length : Int))) (by simp; omega) rfl ?_
    have hfit := hx _ (List.getElem_mem hkx)
    have hgd : x.getD k y60 = x[k] := by rw [List.getD_eq_getElem?_getD, List.getElem?_eq_getElem hkx]; rfl
    have hgi : geti x (k : Int) = some x[k] := by simp [geti, hkx]
    rw [hgd]
    generalize x[k] = y at *
    refine W_region ?_; refine P1 T.ok rfl rfl rfl ?_; refine P1 T.ok rfl rfl rfl ?_
    refine WL_o rfl rfl (OpR_idx T.ok rfl rs0 (y := y) hgi rfl rfl rfl rfl rfl rfl ?_)
    rintro b p ys hep rfl
    refine WL_o rfl rfl (OpR_loadE T.ok 0 rfl hep rfl rfl ?_)
    skip
    refine WL_n rfl (OpR_storeO T.ok 0 rfl hs rfl rfl rfl rfl rfl rfl rfl rfl rfl ?_); replace hs := hs; rintro g1 hs hqe; replace le4 := G.le.trans le4 hqe; replace rs0 := rs0.mono hqe
    obtain ⟨g2, hw2, hs2, hqe, hep⟩ := hs.fzObj (i := 0) rfl; replace hs := hs2; clear hs2; rw [← hw2]; replace le4 := G.le.trans le4 hqe; replace rs0 := rs0.mono hqe
    refine WL_nil ?_
    exact fun a ha => ⟨_, rfl, le4, hfit, hep, hs, ha.keep (by (repeat (first | exact trivial | refine ⟨rfl, ?_⟩)))⟩
   ·refine W_no (b := decide ((k : Int) < (x.length : Int))) (by simp; omega) rfl ?_
    have hgd : x.getD k y60 = y60 := by rw [List.getD_eq_getElem?_getD, List.getElem?_eq_none (by omega)]; rfl
    rw [hgd]
    obtain ⟨g2, hw2, hs2, hqe, hep⟩ := hs.fzObj (i := 0) rfl; replace hs := hs2; clear hs2; rw [← hw2]; replace le4 := G.le.trans le4 hqe; replace rs0 := rs0.mono hqe
    refine W_skip ?_
    exact fun a ha => ⟨_, rfl, le4, y60_fit, hep, hs, ha.keep (by (repeat (first | exact trivial | refine ⟨rfl, ?_⟩)))⟩
  clear hs le4 rs0 hrc le5
  rintro a' _ ⟨g4, rfl, le4, hfit, ep0, hs, ha'⟩
  have hms : mkStep (x.getD k y60) (mkN x) k = mkStep (x.getD k y60) (mkN x) k := rfl
  generalize hy : x.getD k y60 = y at *
  clear hms
  revert a'
  have p0 := pickM_range (c := y.y0) (n := 5) (by omega)
  have p1 := pickM_range (c := y.y1) (n := 30) (by omega)
  have p2 := pickM_range (c := y.y1.tdiv 30) (n := 20) (by omega)
  have p3 := pickM_range (c := y.y2) (n := 6) (by omega)
  have p4 := pickM_range (c := y.y2.tdiv 12) (n := 3) (by omega)
  have p5 := pickM_range (c := y.y3.tdiv 12) (n := 3) (by omega)
  have p6 := pickM_range (c := y.y4.tdiv 4) (n := (k : Int) + 1) (by omega)
  have p7 := pickM_range (c := y.y5) (n := 3) (by omega)
  have q1 := tdiv_I64 (n := 30) hfit.h1 (by omega)
  have q2 := tdiv_I64 (n := 6) hfit.h2 (by omega)
  have q3 := tdiv_I64 (n := 12) hfit.h2 (by omega)
  have q4 := tdiv_I64 (n := 12) hfit.h3 (by omega)
  have q5 := tdiv_I64 (n := 36) hfit.h3 (by omega)
  have q6 := tdiv_I64 (n := 4) hfit.h4 (by omega)
  (with_reducible refine T_wp ?_); refine W_seq ?_
  have hs0 := hs
  apply W_draw allF rfl (Fact.eq _ :: Fact.eq _ :: Fact.eq _ :: Fact.eq _ :: Fact.eq _ :: Fact.eq _ :: Fact.eq _ :: Fact.eq _ :: Fact.eq _ :: (objF g4.dr.w.heap.size [.int .i64 0, .slice none 0 0, .int .i64 0, .int .i64 0, .slice none 0 0, .int .i64 0, .int .i64 0] 50) :: []) 10 [(8, 41), (9, 9)] rfl rfl
  ·refine D_cons (D_step2 (js := []) (by kernel_rfl) fun gd hf => ?_) ?_
   ·have hsd := hs.dr.call hf; have hfe := (G.le_dr _).trans hf.le
    refine QA_nil ?_
    (refine D_yes rfl ?_; refine OpR_idxA T.ok (q := 0) rfl rfl rfl rfl rfl rfl (by decide) ?_; refine ⟨_, rfl, Fr0.refl _, ?_⟩; exact rfl)
   refine D_s (js := [(0, 33)]) (by kernel_rfl) (fun _ hf => QA_eq rfl (QA_nil (DLe T.ok 0 rfl rfl (ep0.mono ((G.le_dr _).trans hf.le)) rfl rfl rfl))) ?_
   refine D_cons (D_step2 (js := [(1, 34)]) (by kernel_rfl) fun gd hf => ?_) ?_
   ·have hsd := hs.dr.call hf; have hfe := (G.le_dr _).trans hf.le
    refine QA_eq rfl ?_
    refine QA_nil ?_
    refine D_yes rfl ?_
    refine OpR_ret cl22 allF rfl rfl rfl rfl rfl (pick_c (y.y0) (5) _ (hfit.h0) (by decide)) fun g' v h1 h2 => ⟨g', rfl, h1, ?_⟩
    exact h2
   refine D_cons (D_step2 (js := [(2, 35)]) (by kernel_rfl) fun gd hf => ?_) ?_
   ·have hsd := hs.dr.call hf; have hfe := (G.le_dr _).trans hf.le
    refine QA_eq rfl ?_
    refine QA_nil ?_
    refine D_yes rfl ?_
    refine OpR_pure _ T.ok rfl ?_
    refine ⟨_, rfl, Fr0.refl _, ?_⟩
    exact congrArg (Value.int .i64) (show _ = 1 + pickM y.y0 5 from wr (by omega) (by omega))
   refine D_cons (D_step2 (js := []) (by kernel_rfl) fun gd hf => ?_) ?_
   ·have hsd := hs.dr.call hf; have hfe := (G.le_dr _).trans hf.le
    refine QA_nil ?_
    (refine D_yes rfl ?_; refine OpR_idxA T.ok (q := 1) rfl rfl rfl rfl rfl rfl (by decide) ?_; refine ⟨_, rfl, Fr0.refl _, ?_⟩; exact rfl)
   refine D_s (js := [(4, 37)]) (by kernel_rfl) (fun _ hf => QA_eq rfl (QA_nil (DLe T.ok 1 rfl rfl (ep0.mono ((G.le_dr _).trans hf.le)) rfl rfl rfl))) ?_
   refine D_cons (D_step2 (js := [(5, 38)]) (by kernel_rfl) fun gd hf => ?_) ?_
   ·have hsd := hs.dr.call hf; have hfe := (G.le_dr _).trans hf.le
    refine QA_eq rfl ?_
    refine QA_nil ?_
    refine D_yes rfl ?_
    refine OpR_ret cl22 allF rfl rfl rfl rfl rfl (pick_c (y.y1) (30) _ (hfit.h1) (by decide)) fun g' v h1 h2 => ⟨g', rfl, h1, ?_⟩
    exact h2
   refine D_cons (D_step2 (js := [(6, 39)]) (by kernel_rfl) fun gd hf => ?_) ?_
   ·have hsd := hs.dr.call hf; have hfe := (G.le_dr _).trans hf.le
    refine QA_eq rfl ?_
    refine QA_nil ?_
    refine D_yes rfl ?_
    refine OpR_pure _ T.ok rfl ?_
    refine ⟨_, rfl, Fr0.refl _, ?_⟩
    exact congrArg (Value.int .i64) (show _ = 1 + pickM y.y1 30 from wr (by omega) (by omega))
   refine D_cons (D_step2 (js := [(3, 36), (7, 40)]) (by kernel_rfl) fun gd hf => ?_) ?_
   ·have hsd := hs.dr.call hf; have hfe := (G.le_dr _).trans hf.le
    refine QA_eq rfl ?_; refine QA_eq rfl ?_
    refine QA_nil ?_
    refine D_yes rfl ?_
    refine OpR_build T.ok rfl (vs := [(0, .int .i64 (1 + pickM y.y0 5)), (2, .int .i64 (1 + pickM y.y1 30)), (5, .int .i64 (-1))]) (cells := [.int .i64 (1 + pickM y.y0 5), .slice none 0 0, .int .i64 (1 + pickM y.y1 30), .int .i64 0, .slice none 0 0, .int .i64 (-1), .int .i64 0]) rfl rfl rfl rfl [(0, 1), (1, 1), (2, 1), (3, 1), (4, 1), (5, 1), (6, 1)] rfl (by kernel_rfl) ?_
    exact ⟨_, rfl, Fr0.refl _, rfl⟩
   refine D_cons (D_step2 (js := []) (by kernel_rfl) fun gd hf => ?_) ?_
   ·have hsd := hs.dr.call hf; have hfe := (G.le_dr _).trans hf.le
    refine QA_nil ?_
    refine D_yes rfl ?_
    refine OpR_alloc T.ok rfl (St.start gd) rfl rfl ?_
    intro b g' hs' hle
    have ho := hs'.own 0 _ rfl
    exact ⟨g', rfl, hs'.fr0, b, rfl, Nat.le_trans hf.below.size ho.1, ho.2⟩
   exact D_nil
  intro g1 hf1; refine QA_eq rfl ?_; refine QA_any fun v9 h9 => ?_; refine QA_nil ?_
  replace hs := hs.dr.call hf1; have hqe := (G.le_dr _).trans hf1.le; replace le4 := G.le.trans le4 hqe; replace ep0 := ep0.mono hqe
  obtain ⟨bs, rfl, hob⟩ := h9
  replace hs := hs0.dr.getOwn hf1 hob; clear hs0
  skip
  refine WL_n rfl (OpR_storeO T.ok 0 rfl hs rfl rfl rfl rfl rfl rfl rfl rfl rfl ?_); replace hs := hs; rintro g1 hs hqe; replace le4 := G.le.trans le4 hqe; replace ep0 := ep0.mono hqe
  refine WL_nil ?_; (with_reducible refine T_then ?_); refine W_seq ?_
  apply W_draw allF rfl (Fact.eq _ :: Fact.eq _ :: Fact.eq _ :: Fact.eq _ :: Fact.eq _ :: Fact.eq _ :: Fact.eq _ :: []) 7 [(6, 48)] rfl rfl
  ·refine D_s (js := []) (by kernel_rfl) (fun _ _ => QA_nil (DPu T.ok rfl rfl rfl)) ?_
   refine D_s (js := [(0, 42)]) (by kernel_rfl) (fun _ hf => QA_eq rfl (QA_nil (DLo T.ok 0 rfl rfl (hs.dr.call hf) rfl rfl rfl rfl))) ?_
   refine D_cons (D_step2 (js := []) (by kernel_rfl) fun gd hf => ?_) ?_
   ·have hsd := hs.dr.call hf; have hfe := (G.le_dr _).trans hf.le
    refine QA_nil ?_
    (refine D_yes rfl ?_; refine OpR_idxA T.ok (q := 1) rfl rfl rfl rfl rfl rfl (by decide) ?_; refine ⟨_, rfl, Fr0.refl _, ?_⟩; exact rfl)
   refine D_s (js := [(2, 44)]) (by kernel_rfl) (fun _ hf => QA_eq rfl (QA_nil (DLe T.ok 1 rfl rfl (ep0.mono ((G.le_dr _).trans hf.le)) rfl rfl rfl))) ?_
   refine D_cons (D_step2 (js := [(3, 45)]) (by kernel_rfl) fun gd hf => ?_) ?_
   ·have hsd := hs.dr.call hf; have hfe := (G.le_dr _).trans hf.le
    refine QA_eq rfl ?_
    refine QA_nil ?_
    refine D_yes rfl ?_
    refine OpR_pure _ T.ok rfl ?_
    refine ⟨_, rfl, Fr0.refl _, ?_⟩
    exact congrArg (Value.int .i64) (show _ = y.y1.tdiv 30 from wr q1.1 q1.2)
   refine D_cons (D_step2 (js := [(4, 46)]) (by kernel_rfl) fun gd hf => ?_) ?_
   ·have hsd := hs.dr.call hf; have hfe := (G.le_dr _).trans hf.le
    refine QA_eq rfl ?_
    refine QA_nil ?_
    refine D_yes rfl ?_
    refine OpR_ret cl22 allF rfl rfl rfl rfl rfl (pick_c (y.y1.tdiv 30) (20) _ (q1) (by decide)) fun g' v h1 h2 => ⟨g', rfl, h1, ?_⟩
    exact h2
   refine D_cons (D_step2 (js := [(1, 43), (5, 47)]) (by kernel_rfl) fun gd hf => ?_) ?_
   ·have hsd := hs.dr.call hf; have hfe := (G.le_dr _).trans hf.le
    refine QA_eq rfl ?_; refine QA_eq rfl ?_
    refine QA_nil ?_
    refine D_yes rfl ?_
    refine OpR_pure _ T.ok rfl ?_
    refine ⟨_, rfl, Fr0.refl _, ?_⟩
    exact congrArg (Value.int .i64) (show _ = 1 + pickM y.y1 30 + pickM (y.y1.tdiv 30) 20 from wr (by omega) (by omega))
   exact D_nil
  intro g1 hf1; refine QA_eq rfl ?_; refine QA_nil ?_
  replace hs := hs.dr.call hf1; have hqe := (G.le_dr _).trans hf1.le; replace le4 := G.le.trans le4 hqe; replace ep0 := ep0.mono hqe
  refine P1 T.ok rfl rfl rfl ?_
  refine WL_n rfl (OpR_storeO T.ok 0 rfl hs rfl rfl rfl rfl rfl rfl rfl rfl rfl ?_); replace hs := hs; rintro g1 hs hqe; replace le4 := G.le.trans le4 hqe; replace ep0 := ep0.mono hqe
  refine WL_nil ?_; (with_reducible refine T_then ?_); refine W_seq ?_; refine W_region ?_
  refine WL_o rfl rfl (OpR_idxA T.ok (q := 2) rfl rfl rfl rfl rfl rfl (by decide) ?_)
  refine WL_o rfl rfl (OpR_loadE T.ok 2 rfl ep0 rfl rfl ?_)
  refine WL_o rfl rfl (OpR_ret cl22 allF rfl rfl rfl rfl rfl (pick_c y.y2 6 _ hfit.h2 (by decide)) ?_); rintro g1 _ hf1 rfl; replace hs := hs.call hf1; have hqe := hf1.le; replace le4 := G.le.trans le4 hqe; replace ep0 := ep0.mono hqe
  refine P1 T.ok rfl rfl rfl ?_; refine WL_nil ?_; (with_reducible refine T_then ?_); refine W_seq ?_; refine W_region ?_; refine P1 T.ok rfl rfl rfl ?_
  refine WL_o rfl rfl (OpR_lit T.ok rfl hs (vs := [(0, .int .i64 (pickM y.y2 6))]) (cells := [.int .i64 (pickM y.y2 6)]) rfl rfl rfl rfl rfl rfl (by decide) (by decide) (by kernel_rfl) rfl ?_)
  clear hs
  rintro bt gl hs hqe; replace le4 := G.le.trans le4 hqe; replace ep0 := ep0.mono hqe
  obtain ⟨gz, hwz, hsz, hqz, rs2⟩ := hs.fzRow (α := Int) (xs := [pickM y.y2 6]) (i := 0) rfl (RcL.ints _ [pickM y.y2 6])
  have hqe := hqz; rw [← hwz]; replace hs := hsz; clear hsz; replace le4 := G.le.trans le4 hqe; replace ep0 := ep0.mono hqe
  refine P1 T.ok rfl rfl rfl ?_
  refine WL_n rfl (OpR_storeO T.ok 0 rfl hs rfl rfl rfl rfl rfl rfl rfl rfl rfl ?_); replace hs := hs; rintro g1 hs hqe; replace le4 := G.le.trans le4 hqe; replace ep0 := ep0.mono hqe; replace rs2 := rs2.mono hqe
  refine WL_nil ?_; (with_reducible refine T_then ?_); refine W_seq ?_; refine W_seq ?_; refine W_region ?_
  refine WL_o rfl rfl (OpR_idxA T.ok (q := 2) rfl rfl rfl rfl rfl rfl (by decide) ?_)
  refine WL_o rfl rfl (OpR_loadE T.ok 2 rfl ep0 rfl rfl ?_); refine P1 T.ok rfl rfl rfl ?_
  refine WL_re (.int .i64 (y.y2.tdiv 6)) (t := 58) rfl (congrArg (Value.int .i64) (wr q2.1 q2.2)) ?_
  refine WL_o rfl rfl (OpR_ret cl22 allF rfl rfl rfl rfl rfl (pick_c (y.y2.tdiv 6) 2 _ q2 (by decide)) ?_); rintro g1 _ hf1 rfl; replace hs := hs.call hf1; have hqe := hf1.le; replace le4 := G.le.trans le4 hqe; replace ep0 := ep0.mono hqe; replace rs2 := rs2.mono hqe
  refine P1 T.ok rfl rfl rfl ?_; refine WL_nil ?_; (with_reducible refine T_then ?_)
  have le1 := G.le.refl g1
  refine W_mid (fun a' w => ∃ (ta : Option Addr) (tc : Nat) (g5 : G), w = g5.w ∧ g1.le g5 ∧ Rs g5 (.slice ta (mkTools y).length tc) (mkTools y) ∧ St g g5 [.obj bs (.cells [.int .i64 (1 + pickM y.y0 5), .slice ta (mkTools y).length tc, .int .i64 (1 + pickM y.y1 30), .int .i64 (1 + pickM y.y1 30 + pickM (y.y1.tdiv 30) 20), .slice none 0 0, .int .i64 (-1), .int .i64 (0)].toArray 50 (0, 0)), .row 50 7 (.slice sa k sc) k cells, .obj bf (.cells [.int .i64 2, .int .i64 5, .slice sa k sc, .slice none 0 0].toArray 25 (0, 0)), .obj br (.cells [.int .i64 0, .int .i64 0, .slice none 0 0, .slice none 0 0].toArray 25 (0, 0))] ∧
   Fr 193 [] [(0, .slice a x.length c), (1, .slice a2 zs.length c2), (4, .pointer (some ⟨br, 0, none⟩)), (5, .int .i64 (mkN x)), (6, .pointer (some ⟨bf, 0, none⟩)), (7, .int .i64 k), (8, .pointer (some ⟨bY, 0, none⟩)), (9, .pointer (some ⟨bs, 0, none⟩))] a') ?_ ?_
  ·by_cases ht : pickM (y.y2.tdiv 6) 2 = 0
   ·have hmt : mkTools y = [pickM y.y2 6] ++ [pickM y.y2 6 + 1 + pickM (y.y2.tdiv 12) 3] := by unfold mkTools; rw [if_pos ht]; rfl
    refine W_yes (b := _) ?_ rfl ?_
    ·simp [ht]
    skip
    apply W_draw allF rfl (Fact.eq _ :: Fact.eq _ :: Fact.eq _ :: Fact.eq _ :: Fact.eq _ :: Fact.eq _ :: Fact.eq _ :: Fact.eq _ :: Fact.eq _ :: (Fact.rs [pickM y.y2 6 + 1 + pickM (y.y2.tdiv 12) 3]) :: (Fact.rs ([pickM y.y2 6] ++ [pickM y.y2 6 + 1 + pickM (y.y2.tdiv 12) 3])) :: []) 11 [(10, 71)] rfl rfl
    ·refine D_s (js := []) (by kernel_rfl) (fun _ _ => QA_nil (DPu T.ok rfl rfl rfl)) ?_
     refine D_s (js := [(0, 61)]) (by kernel_rfl) (fun _ hf => QA_eq rfl (QA_nil (DLo T.ok 0 rfl rfl (hs.dr.call hf) rfl rfl rfl rfl))) ?_
     refine D_s (js := []) (by kernel_rfl) (fun _ _ => QA_nil (DPu T.ok rfl rfl rfl)) ?_
     refine D_cons (D_step2 (js := [(2, 63)]) (by kernel_rfl) fun gd hf => ?_) ?_
     ·have hsd := hs.dr.call hf; have hfe := (G.le_dr _).trans hf.le
      refine QA_eq rfl ?_
      refine QA_nil ?_
      refine D_yes rfl ?_
      refine OpR_pure _ T.ok rfl ?_
      refine ⟨_, rfl, Fr0.refl _, ?_⟩
      exact congrArg (Value.int .i64) (show _ = pickM y.y2 6 + 1 from wr (by omega) (by omega))
     refine D_cons (D_step2 (js := []) (by kernel_rfl) fun gd hf => ?_) ?_
     ·have hsd := hs.dr.call hf; have hfe := (G.le_dr _).trans hf.le
      refine QA_nil ?_
      (refine D_yes rfl ?_; refine OpR_idxA T.ok (q := 2) rfl rfl rfl rfl rfl rfl (by decide) ?_; refine ⟨_, rfl, Fr0.refl _, ?_⟩; exact rfl)
     refine D_s (js := [(4, 65)]) (by kernel_rfl) (fun _ hf => QA_eq rfl (QA_nil (DLe T.ok 2 rfl rfl (ep0.mono ((G.le_dr _).trans hf.le)) rfl rfl rfl))) ?_
     refine D_cons (D_step2 (js := [(5, 66)]) (by kernel_rfl) fun gd hf => ?_) ?_
     ·have hsd := hs.dr.call hf; have hfe := (G.le_dr _).trans hf.le
      refine QA_eq rfl ?_
      refine QA_nil ?_
      refine D_yes rfl ?_
      refine OpR_pure _ T.ok rfl ?_
      refine ⟨_, rfl, Fr0.refl _, ?_⟩
      exact congrArg (Value.int .i64) (show _ = y.y2.tdiv 12 from wr q3.1 q3.2)
     refine D_cons (D_step2 (js := [(6, 67)]) (by kernel_rfl) fun gd hf => ?_) ?_
     ·have hsd := hs.dr.call hf; have hfe := (G.le_dr _).trans hf.le
      refine QA_eq rfl ?_
      refine QA_nil ?_
      refine D_yes rfl ?_
      refine OpR_ret cl22 allF rfl rfl rfl rfl rfl (pick_c (y.y2.tdiv 12) (3) _ (q3) (by decide)) fun g' v h1 h2 => ⟨g', rfl, h1, ?_⟩
      exact h2
     refine D_cons (D_step2 (js := [(3, 64), (7, 68)]) (by kernel_rfl) fun gd hf => ?_) ?_
     ·have hsd := hs.dr.call hf; have hfe := (G.le_dr _).trans hf.le
      refine QA_eq rfl ?_; refine QA_eq rfl ?_
      refine QA_nil ?_
      refine D_yes rfl ?_
      refine OpR_pure _ T.ok rfl ?_
      refine ⟨_, rfl, Fr0.refl _, ?_⟩
      exact congrArg (Value.int .i64) (show _ = pickM y.y2 6 + 1 + pickM (y.y2.tdiv 12) 3 from wr (by omega) (by omega))
     refine D_cons (D_step2 (js := [(8, 69)]) (by kernel_rfl) fun gd hf => ?_) ?_
     ·have hsd := hs.dr.call hf; have hfe := (G.le_dr _).trans hf.le
      refine QA_eq rfl ?_
      refine QA_nil ?_
      refine D_yes rfl ?_
      refine OpR_lit T.ok rfl (St.start gd) (vs := [(0, .int .i64 (pickM y.y2 6 + 1 + pickM (y.y2.tdiv 12) 3))]) (cells := [.int .i64 (pickM y.y2 6 + 1 + pickM (y.y2.tdiv 12) 3)]) rfl rfl rfl rfl rfl rfl (by decide) (by decide) (by kernel_rfl) rfl ?_
      intro b2 g2 hs1 hqe1
      obtain ⟨g3, hw3, hs3, hqe3, hrl⟩ := hs1.fzRow (α := Int) (xs := [pickM y.y2 6 + 1 + pickM (y.y2.tdiv 12) 3]) (i := 0) rfl (RcL.ints _ [pickM y.y2 6 + 1 + pickM (y.y2.tdiv 12) 3])
      exact ⟨g3, hw3, hs3.fr0, hrl⟩
     refine D_cons (D_step2 (js := [(1, 62), (9, 70)]) (by kernel_rfl) fun gd hf => ?_) ?_
     ·have hsd := hs.dr.call hf; have hfe := (G.le_dr _).trans hf.le
      refine QA_eq rfl ?_; refine QA_any fun v9 h9 => ?_
      refine QA_nil ?_
      obtain ⟨ua, uc, rfl⟩ := Rs.isSlice h9
      refine D_yes rfl ?_
      exact OpR_appendG T.ok rfl rfl rfl (rs2.mono hfe) h9 (by decide) (by simp) rfl rfl rfl rfl rfl (by show (1 + 1) * 8 ≤ _; decide) (by show 1 + 1 ≤ _; decide) fun v g' hf' hr => ⟨g', rfl, hf', hr⟩
     exact D_nil
    intro g1 hf1; refine QA_any fun v10 h10 => ?_; refine QA_nil ?_
    replace hs := hs.dr.call hf1; have hqe := (G.le_dr _).trans hf1.le; replace le1 := G.le.trans le1 hqe; replace le4 := G.le.trans le4 hqe; replace ep0 := ep0.mono hqe; replace rs2 := rs2.mono hqe
    have rs3 : Rs g1 v10 (mkTools y) := by rw [hmt]; exact h10
    clear h10
    obtain ⟨ta, tc, rfl⟩ := rs3.isSlice
    refine P1 T.ok rfl rfl rfl ?_
    refine WL_n rfl (OpR_storeO T.ok 0 rfl hs rfl rfl rfl rfl rfl rfl rfl rfl rfl ?_); replace hs := hs; rintro g6 hs hqe; replace le1 := G.le.trans le1 hqe; replace le4 := G.le.trans le4 hqe; replace ep0 := ep0.mono hqe; replace rs2 := rs2.mono hqe; replace rs3 := rs3.mono hqe
    refine WL_nil ?_
    exact fun a ha => ⟨ta, tc, g6, rfl, le1, rs3, hs, ha.keep (by (repeat (first | exact trivial | refine ⟨rfl, ?_⟩)))⟩
   ·have hmt : mkTools y = [pickM y.y2 6] := by unfold mkTools; rw [if_neg ht]
    refine W_no (b := _) ?_ rfl ?_
    ·simp [ht]
    refine W_skip ?_
    exact fun a ha => ⟨some ⟨bt, 0, none⟩, 1, g1, rfl, le1, by rw [hmt]; exact rs2, by rw [hmt]; exact hs, ha.keep (by (repeat (first | exact trivial | refine ⟨rfl, ?_⟩)))⟩
  clear hs rs2
  rintro a' _ ⟨ta, tc, g5, rfl, hqe, rs2, hs, ha'⟩
  replace le1 := G.le.trans le1 hqe; replace le4 := G.le.trans le4 hqe; replace ep0 := ep0.mono hqe
  clear le1
  revert a'
  have le1 := G.le.refl g5
  refine T_wp ?_
  refine W_seq ?_
  have hmx : mkNext y (mkN x) k = if (k : Int) < mkN x - 1 ∧ 0 < pickM y.y3 12 then ((k : Int) + 1) :: (if (k : Int) + 2 + pickM (y.y3.tdiv 12) 3 < mkN x ∧ pickM (y.y3.tdiv 36) 3 = 0 then [(k : Int) + 2 + pickM (y.y3.tdiv 12) 3] else []) else [] := rfl
  refine W_mid (fun a' w => ∃ (na : Option Addr) (nc : Nat) (g6 : G), w = g6.w ∧ g5.le g6 ∧ Rs g6 (.slice na (mkNext y (mkN x) k).length nc) (mkNext y (mkN x) k) ∧ St g g6 [.obj bs (.cells [.int .i64 (1 + pickM y.y0 5), .slice ta (mkTools y).length tc, .int .i64 (1 + pickM y.y1 30), .int .i64 (1 + pickM y.y1 30 + pickM (y.y1.tdiv 30) 20), .slice na (mkNext y (mkN x) k).length nc, .int .i64 (-1), .int .i64 (0)].toArray 50 (0, 0)), .row 50 7 (.slice sa k sc) k cells, .obj bf (.cells [.int .i64 2, .int .i64 5, .slice sa k sc, .slice none 0 0].toArray 25 (0, 0)), .obj br (.cells [.int .i64 0, .int .i64 0, .slice none 0 0, .slice none 0 0].toArray 25 (0, 0))] ∧
   Fr 193 [] [(0, .slice a x.length c), (1, .slice a2 zs.length c2), (4, .pointer (some ⟨br, 0, none⟩)), (5, .int .i64 (mkN x)), (6, .pointer (some ⟨bf, 0, none⟩)), (7, .int .i64 k), (8, .pointer (some ⟨bY, 0, none⟩)), (9, .pointer (some ⟨bs, 0, none⟩))] a') ?_ ?_
  ·by_cases d1 : (k : Int) < mkN x - 1
   ·refine W_seq ?_; refine W_region ?_; (iterate 5 refine P1 T.ok rfl rfl rfl ?_)
    refine WL_know 77 (b' := true) (by rw [wr (by omega) (by omega)]; exact decide_eq_true d1) rfl ?_
    refine WL_o rfl rfl (OpR_idxA T.ok (q := 3) rfl rfl rfl rfl rfl rfl (by decide) ?_)
    refine WL_o rfl rfl (OpR_loadE T.ok 3 rfl ep0 rfl rfl ?_)
    refine WL_o rfl rfl (OpR_ret cl22 allF rfl rfl rfl rfl rfl (pick_c y.y3 12 _ hfit.h3 (by decide)) ?_); rintro g1 _ hf1 rfl; replace hs := hs.call hf1; have hqe := hf1.le; replace le1 := G.le.trans le1 hqe; replace le4 := G.le.trans le4 hqe; replace ep0 := ep0.mono hqe; replace rs2 := rs2.mono hqe
    refine P1 T.ok rfl rfl rfl ?_; refine P1 T.ok rfl rfl rfl ?_; refine WL_nil ?_; (with_reducible refine T_then ?_)
    by_cases d2 : 0 < pickM y.y3 12
    ·rw [if_pos ⟨d1, d2⟩] at hmx
     refine W_yes (b := _) ?_ rfl ?_
     ·simp [d2]
     refine W_seq ?_; refine W_region ?_; refine P1 T.ok rfl rfl rfl ?_; refine P1 T.ok rfl rfl rfl ?_
     refine WL_re (.int .i64 ((k : Int) + 1)) (t := 84) rfl (congrArg (Value.int .i64) (wr (by omega) (by omega))) ?_
     refine WL_o rfl rfl (OpR_lit T.ok rfl hs (vs := [(0, .int .i64 ((k : Int) + 1))]) (cells := [.int .i64 ((k : Int) + 1)]) rfl rfl rfl rfl rfl rfl (by decide) (by decide) (by kernel_rfl) rfl ?_)
     clear hs
     rintro bn gl hs hqe; replace le1 := G.le.trans le1 hqe; replace le4 := G.le.trans le4 hqe; replace ep0 := ep0.mono hqe; replace rs2 := rs2.mono hqe
     obtain ⟨gz, hwz, hsz, hqz, rs3⟩ := hs.fzRow (α := Int) (xs := [(k : Int) + 1]) (i := 0) rfl (RcL.ints _ [(k : Int) + 1])
     have hqe := hqz; rw [← hwz]; replace hs := hsz; clear hsz; replace le1 := G.le.trans le1 hqe; replace le4 := G.le.trans le4 hqe; replace ep0 := ep0.mono hqe; replace rs2 := rs2.mono hqe
     refine P1 T.ok rfl rfl rfl ?_
     refine WL_n rfl (OpR_storeO T.ok 0 rfl hs rfl rfl rfl rfl rfl rfl rfl rfl rfl ?_); replace hs := hs; rintro g1 hs hqe; replace le1 := G.le.trans le1 hqe; replace le4 := G.le.trans le4 hqe; replace ep0 := ep0.mono hqe; replace rs2 := rs2.mono hqe; replace rs3 := rs3.mono hqe
     refine WL_nil ?_; (with_reducible refine T_then ?_); refine W_seq ?_; refine W_region ?_; refine P1 T.ok rfl rfl rfl ?_; refine P1 T.ok rfl rfl rfl ?_
     refine WL_re (.int .i64 ((k : Int) + 2)) (t := 88) rfl (congrArg (Value.int .i64) (wr (by omega) (by omega))) ?_
     refine WL_o rfl rfl (OpR_idxA T.ok (q := 3) rfl rfl rfl rfl rfl rfl (by decide) ?_)
     refine WL_o rfl rfl (OpR_loadE T.ok 3 rfl ep0 rfl rfl ?_); refine P1 T.ok rfl rfl rfl ?_
     refine WL_re (.int .i64 (y.y3.tdiv 12)) (t := 91) rfl (congrArg (Value.int .i64) (wr q4.1 q4.2)) ?_
     refine WL_o rfl rfl (OpR_ret cl22 allF rfl rfl rfl rfl rfl (pick_c (y.y3.tdiv 12) 3 _ q4 (by decide)) ?_); rintro g1 _ hf1 rfl; replace hs := hs.call hf1; have hqe := hf1.le; replace le1 := G.le.trans le1 hqe; replace le4 := G.le.trans le4 hqe; replace ep0 := ep0.mono hqe; replace rs2 := rs2.mono hqe; replace rs3 := rs3.mono hqe
     refine P1 T.ok rfl rfl rfl ?_; refine P1 T.ok rfl rfl rfl ?_; refine WL_nil ?_; (with_reducible refine T_then ?_); refine W_seq ?_; refine W_region ?_; (iterate 4 refine P1 T.ok rfl rfl rfl ?_)
     by_cases d3 : (k : Int) + 2 + pickM (y.y3.tdiv 12) 3 < mkN x
     ·refine WL_know 97 (b' := true) (by rw [wr (by omega) (by omega)]; exact decide_eq_true d3) rfl ?_
      refine WL_o rfl rfl (OpR_idxA T.ok (q := 3) rfl rfl rfl rfl rfl rfl (by decide) ?_)
      refine WL_o rfl rfl (OpR_loadE T.ok 3 rfl ep0 rfl rfl ?_); refine P1 T.ok rfl rfl rfl ?_
      refine WL_re (.int .i64 (y.y3.tdiv 36)) (t := 100) rfl (congrArg (Value.int .i64) (wr q5.1 q5.2)) ?_
      refine WL_o rfl rfl (OpR_ret cl22 allF rfl rfl rfl rfl rfl (pick_c (y.y3.tdiv 36) 3 _ q5 (by decide)) ?_); rintro g1 _ hf1 rfl; replace hs := hs.call hf1; have hqe := hf1.le; replace le1 := G.le.trans le1 hqe; replace le4 := G.le.trans le4 hqe; replace ep0 := ep0.mono hqe; replace rs2 := rs2.mono hqe; replace rs3 := rs3.mono hqe
      refine P1 T.ok rfl rfl rfl ?_; refine P1 T.ok rfl rfl rfl ?_; refine WL_nil ?_; (with_reducible refine T_then ?_)
      by_cases d4 : pickM (y.y3.tdiv 36) 3 = 0
      ·have htwo : mkNext y (mkN x) k = [(k : Int) + 1] ++ [(k : Int) + 2 + pickM (y.y3.tdiv 12) 3] := by rw [hmx, if_pos ⟨d3, d4⟩]; rfl
       refine W_yes (b := _) ?_ rfl ?_
       ·simp [d4]
       refine W_region ?_; refine P1 T.ok rfl rfl rfl ?_; refine WL_o rfl rfl (OpR_loadO T.ok 0 rfl hs rfl rfl rfl ?_); refine P1 T.ok rfl rfl rfl ?_
       refine WL_re (.int .i64 ((k : Int) + 2 + pickM (y.y3.tdiv 12) 3)) (t := 106) rfl (congrArg (Value.int .i64) (wr (by omega) (by omega))) ?_
       refine WL_o rfl rfl (OpR_lit T.ok rfl hs (vs := [(0, .int .i64 ((k : Int) + 2 + pickM (y.y3.tdiv 12) 3))]) (cells := [.int .i64 ((k : Int) + 2 + pickM (y.y3.tdiv 12) 3)]) rfl rfl rfl rfl rfl rfl (by decide) (by decide) (by kernel_rfl) rfl ?_)
       clear hs
       rintro bn2 gl hs hqe; replace le1 := G.le.trans le1 hqe; replace le4 := G.le.trans le4 hqe; replace ep0 := ep0.mono hqe; replace rs2 := rs2.mono hqe; replace rs3 := rs3.mono hqe
       obtain ⟨gz, hwz, hsz, hqz, rs4⟩ := hs.fzRow (α := Int) (xs := [(k : Int) + 2 + pickM (y.y3.tdiv 12) 3]) (i := 0) rfl (RcL.ints _ [(k : Int) + 2 + pickM (y.y3.tdiv 12) 3])
       have hqe := hqz; rw [← hwz]; replace hs := hsz; clear hsz; replace le1 := G.le.trans le1 hqe; replace le4 := G.le.trans le4 hqe; replace ep0 := ep0.mono hqe; replace rs2 := rs2.mono hqe; replace rs3 := rs3.mono hqe
       refine WL_o rfl rfl (OpR_appendG T.ok rfl rfl rfl rs3 rs4 (by decide) (by simp) rfl rfl rfl rfl rfl (by show (1 + 1) * 8 ≤ _; decide) (by show 1 + 1 ≤ _; decide) ?_)
       rintro v g9 hf9 rs5
       rw [← htwo] at rs5
       obtain ⟨na, nc, rfl⟩ := rs5.isSlice
       replace hs := hs.call hf9
       have hqe := hf9.le; replace le1 := G.le.trans le1 hqe; replace le4 := G.le.trans le4 hqe; replace ep0 := ep0.mono hqe; replace rs2 := rs2.mono hqe; replace rs3 := rs3.mono hqe; replace rs4 := rs4.mono hqe
       refine P1 T.ok rfl rfl rfl ?_
       refine WL_n rfl (OpR_storeO T.ok 0 rfl hs rfl rfl rfl rfl rfl rfl rfl rfl rfl ?_); replace hs := hs; rintro g6 hs hqe; replace le1 := G.le.trans le1 hqe; replace le4 := G.le.trans le4 hqe; replace ep0 := ep0.mono hqe; replace rs2 := rs2.mono hqe; replace rs3 := rs3.mono hqe; replace rs4 := rs4.mono hqe; replace rs5 := rs5.mono hqe
       refine WL_nil ?_
       exact fun a ha => ⟨na, nc, g6, rfl, le1, rs5, hs, ha.keep (by (repeat (first | exact trivial | refine ⟨rfl, ?_⟩)))⟩
      ·have hone : mkNext y (mkN x) k = [(k : Int) + 1] := by rw [hmx, if_neg fun h => d4 h.2]
       refine W_no (b := _) ?_ rfl ?_
       ·simp [d4]
       refine W_skip ?_
       exact fun a ha => ⟨some ⟨bn, 0, none⟩, 1, _, rfl, le1, by rw [hone]; exact rs3, by rw [hone]; exact hs, ha.keep (by (repeat (first | exact trivial | refine ⟨rfl, ?_⟩)))⟩
     ·have hone : mkNext y (mkN x) k = [(k : Int) + 1] := by rw [hmx, if_neg fun h => d3 h.1]
      refine WL_know 97 (b' := false) (by rw [wr (by omega) (by omega)]; exact decide_eq_false d3) rfl ?_
      (iterate 5 refine S1 allF rfl rfl ?_); refine P1 T.ok rfl rfl rfl ?_; refine WL_nil ?_; (with_reducible refine T_then ?_)
      refine W_no rfl rfl ?_
      refine W_skip ?_
      exact fun a ha => ⟨some ⟨bn, 0, none⟩, 1, _, rfl, le1, by rw [hone]; exact rs3, by rw [hone]; exact hs, ha.keep (by (repeat (first | exact trivial | refine ⟨rfl, ?_⟩)))⟩
    ·have hnil : mkNext y (mkN x) k = [] := by rw [hmx, if_neg fun h => d2 h.2]
     refine W_no (b := _) ?_ rfl ?_
     ·simp; omega
     refine W_skip ?_
     exact fun a ha => ⟨none, 0, _, rfl, le1, by rw [hnil]; exact Rs.nil _, by rw [hnil]; exact hs, ha.keep (by (repeat (first | exact trivial | refine ⟨rfl, ?_⟩)))⟩
   ·have hnil : mkNext y (mkN x) k = [] := by rw [hmx, if_neg fun h => d1 h.1]
    refine W_seq ?_; refine W_region ?_; (iterate 5 refine P1 T.ok rfl rfl rfl ?_)
    refine WL_know 77 (b' := false) (by rw [wr (by omega) (by omega)]; exact decide_eq_false d1) rfl ?_
    (iterate 4 refine S1 allF rfl rfl ?_); refine P1 T.ok rfl rfl rfl ?_; refine WL_nil ?_; (with_reducible refine T_then ?_)
    refine W_no rfl rfl ?_
    refine W_skip ?_
    exact fun a ha => ⟨none, 0, _, rfl, le1, by rw [hnil]; exact Rs.nil _, by rw [hnil]; exact hs, ha.keep (by (repeat (first | exact trivial | refine ⟨rfl, ?_⟩)))⟩
  clear hs
  rintro a' _ ⟨na, nc, g6, rfl, hqe, rs3, hs, ha'⟩
  replace le1 := G.le.trans le1 hqe; replace le4 := G.le.trans le4 hqe; replace ep0 := ep0.mono hqe; replace rs2 := rs2.mono hqe
  clear le1
  revert a'
  have le1 := G.le.refl g6
  refine T_wp ?_
  refine W_seq ?_
  refine W_mid (fun a' w => ∃ (g7 : G), w = g7.w ∧ g6.le g7 ∧ St g g7 [.obj bs (.cells [.int .i64 (1 + pickM y.y0 5), .slice ta (mkTools y).length tc, .int .i64 (1 + pickM y.y1 30), .int .i64 (1 + pickM y.y1 30 + pickM (y.y1.tdiv 30) 20), .slice na (mkNext y (mkN x) k).length nc, .int .i64 (if pickM y.y4 4 = 0 then pickM (y.y4.tdiv 4) (k + 1) else -1), .int .i64 (if pickM y.y4 4 = 0 then 1 + pickM y.y5 3 else 0)].toArray 50 (0, 0)), .row 50 7 (.slice sa k sc) k cells, .obj bf (.cells [.int .i64 2, .int .i64 5, .slice sa k sc, .slice none 0 0].toArray 25 (0, 0)), .obj br (.cells [.int .i64 0, .int .i64 0, .slice none 0 0, .slice none 0 0].toArray 25 (0, 0))] ∧
   Fr 193 [] [(0, .slice a x.length c), (1, .slice a2 zs.length c2), (4, .pointer (some ⟨br, 0, none⟩)), (5, .int .i64 (mkN x)), (6, .pointer (some ⟨bf, 0, none⟩)), (7, .int .i64 k), (8, .pointer (some ⟨bY, 0, none⟩)), (9, .pointer (some ⟨bs, 0, none⟩))] a') ?_ ?_
  ·refine W_seq ?_; refine W_region ?_
   refine WL_o rfl rfl (OpR_idxA T.ok (q := 4) rfl rfl rfl rfl rfl rfl (by decide) ?_)
   refine WL_o rfl rfl (OpR_loadE T.ok 4 rfl ep0 rfl rfl ?_)
   refine WL_o rfl rfl (OpR_ret cl22 allF rfl rfl rfl rfl rfl (pick_c y.y4 4 _ hfit.h4 (by decide)) ?_); rintro g1 _ hf1 rfl; replace hs := hs.call hf1; have hqe := hf1.le; replace le1 := G.le.trans le1 hqe; replace le4 := G.le.trans le4 hqe; replace ep0 := ep0.mono hqe; replace rs2 := rs2.mono hqe; replace rs3 := rs3.mono hqe
   refine P1 T.ok rfl rfl rfl ?_; refine WL_nil ?_; (with_reducible refine T_then ?_)
   by_cases d5 : pickM y.y4 4 = 0
   ·rw [if_pos d5, if_pos d5]
    refine W_yes (b := _) ?_ rfl ?_
    ·simp [d5]
    refine W_seq ?_; refine W_region ?_
    refine WL_o rfl rfl (OpR_idxA T.ok (q := 4) rfl rfl rfl rfl rfl rfl (by decide) ?_)
    refine WL_o rfl rfl (OpR_loadE T.ok 4 rfl ep0 rfl rfl ?_); (iterate 3 refine P1 T.ok rfl rfl rfl ?_)
    refine WL_re (.int .i64 (y.y4.tdiv 4)) (t := 116) rfl (congrArg (Value.int .i64) (wr q6.1 q6.2)) ?_
    refine WL_re (.int .i64 ((k : Int) + 1)) (t := 118) rfl (congrArg (Value.int .i64) (wr (by omega) (by omega))) ?_
    refine WL_o rfl rfl (OpR_ret cl22 allF rfl rfl rfl rfl rfl (pick_c (y.y4.tdiv 4) ((k : Int) + 1) _ q6 (by omega)) ?_); rintro g1 _ hf1 rfl; replace hs := hs.call hf1; have hqe := hf1.le; replace le1 := G.le.trans le1 hqe; replace le4 := G.le.trans le4 hqe; replace ep0 := ep0.mono hqe; replace rs2 := rs2.mono hqe; replace rs3 := rs3.mono hqe
    refine P1 T.ok rfl rfl rfl ?_
    refine WL_n rfl (OpR_storeO T.ok 0 rfl hs rfl rfl rfl rfl rfl rfl rfl rfl rfl ?_); replace hs := hs; rintro g1 hs hqe; replace le1 := G.le.trans le1 hqe; replace le4 := G.le.trans le4 hqe; replace ep0 := ep0.mono hqe; replace rs2 := rs2.mono hqe; replace rs3 := rs3.mono hqe
    refine WL_nil ?_; (with_reducible refine T_then ?_); refine W_region ?_
    refine WL_o rfl rfl (OpR_idxA T.ok (q := 5) rfl rfl rfl rfl rfl rfl (by decide) ?_)
    refine WL_o rfl rfl (OpR_loadE T.ok 5 rfl ep0 rfl rfl ?_)
    refine WL_o rfl rfl (OpR_ret cl22 allF rfl rfl rfl rfl rfl (pick_c y.y5 3 _ hfit.h5 (by decide)) ?_); rintro g1 _ hf1 rfl; replace hs := hs.call hf1; have hqe := hf1.le; replace le1 := G.le.trans le1 hqe; replace le4 := G.le.trans le4 hqe; replace ep0 := ep0.mono hqe; replace rs2 := rs2.mono hqe; replace rs3 := rs3.mono hqe
    refine P1 T.ok rfl rfl rfl ?_; refine P1 T.ok rfl rfl rfl ?_
    rw [wr (n := 1 + pickM y.y5 3) (by omega) (by omega)]
    refine WL_n rfl (OpR_storeO T.ok 0 rfl hs rfl rfl rfl rfl rfl rfl rfl rfl rfl ?_); replace hs := hs; rintro g1 hs hqe; replace le1 := G.le.trans le1 hqe; replace le4 := G.le.trans le4 hqe; replace ep0 := ep0.mono hqe; replace rs2 := rs2.mono hqe; replace rs3 := rs3.mono hqe
    refine WL_nil ?_
    exact fun a ha => ⟨_, rfl, le1, hs, ha.keep (by (repeat (first | exact trivial | refine ⟨rfl, ?_⟩)))⟩
   ·rw [if_neg d5, if_neg d5]
    refine W_no (b := _) ?_ rfl ?_
    ·simp [d5]
    refine W_skip ?_
    exact fun a ha => ⟨_, rfl, le1, hs, ha.keep (by (repeat (first | exact trivial | refine ⟨rfl, ?_⟩)))⟩
  clear hs
  rintro a' _ ⟨g7, rfl, hqe, hs, ha'⟩
  replace le1 := G.le.trans le1 hqe; replace le4 := G.le.trans le4 hqe; replace ep0 := ep0.mono hqe; replace rs2 := rs2.mono hqe; replace rs3 := rs3.mono hqe
  clear le1
  revert a'
  have hrc := hrcd.mono le4
  replace le5 := le6.trans le4
  clear le0 le4
  (with_reducible refine T_wp ?_); refine W_region ?_; refine P1 T.ok rfl rfl rfl ?_; refine WL_o rfl rfl (OpR_loadO T.ok 2 rfl hs rfl rfl rfl ?_); refine WL_o rfl rfl (OpR_loadO T.ok 0 rfl hs rfl rfl rfl ?_)
  refine WL_o rfl rfl (OpR_lit T.ok rfl hs (vs := [(0, .agg #[.int .i64 (1 + pickM y.y0 5), .slice ta (mkTools y).length tc, .int .i64 (1 + pickM y.y1 30), .int .i64 (1 + pickM y.y1 30 + pickM (y.y1.tdiv 30) 20), .slice na (mkNext y (mkN x) k).length nc, .int .i64 (if pickM y.y4 4 = 0 then pickM (y.y4.tdiv 4) (k + 1) else -1), .int .i64 (if pickM y.y4 4 = 0 then 1 + pickM y.y5 3 else 0)])]) (cells := [.int .i64 (1 + pickM y.y0 5), .slice ta (mkTools y).length tc, .int .i64 (1 + pickM y.y1 30), .int .i64 (1 + pickM y.y1 30 + pickM (y.y1.tdiv 30) 20), .slice na (mkNext y (mkN x) k).length nc, .int .i64 (if pickM y.y4 4 = 0 then pickM (y.y4.tdiv 4) (k + 1) else -1), .int .i64 (if pickM y.y4 4 = 0 then 1 + pickM y.y5 3 else 0)]) rfl rfl rfl rfl rfl rfl (by decide) (by decide) (by kernel_rfl) rfl ?_)
  clear hs
  rintro b2 g4 hs hqe; replace ep0 := ep0.mono hqe; replace rs2 := rs2.mono hqe; replace rs3 := rs3.mono hqe
  replace hrc := hrc.mono hqe; replace le5 := le5.trans hqe
  skip
  refine WL_o rfl rfl (OpR_append T.ok 2 rfl hs rfl rfl rfl rfl rfl rfl rfl (by decide) rfl (Src.of_row (hs.own 0 _ rfl).1).2 (by simp [Value.oneCell']) (by show (k + 1) * 88 ≤ _; omega) (by unfold maxLen; show k + 1 ≤ _; omega) ?_)
  clear hs
  rintro a9 c9 g8 hs hqe; replace ep0 := ep0.mono hqe; replace rs2 := rs2.mono hqe; replace rs3 := rs3.mono hqe
  replace hrc := hrc.mono hqe; replace le5 := le5.trans hqe
  refine P1 T.ok rfl rfl rfl ?_
  refine WL_n rfl (OpR_storeO T.ok 3 rfl hs rfl rfl rfl rfl rfl rfl rfl rfl rfl ?_); replace hs := hs; rintro g1 hs hqe; replace ep0 := ep0.mono hqe; replace rs2 := rs2.mono hqe; replace rs3 := rs3.mono hqe
  replace hrc := hrc.mono hqe; replace le5 := le5.trans hqe
  have hs2 : St g _ [.row 50 7 (.slice a9 (k + 1) c9) (k + 1) (cells ++ [.int .i64 (1 + pickM y.y0 5), .slice ta (mkTools y).length tc, .int .i64 (1 + pickM y.y1 30), .int .i64 (1 + pickM y.y1 30 + pickM (y.y1.tdiv 30) 20), .slice na (mkNext y (mkN x) k).length nc, .int .i64 (if pickM y.y4 4 = 0 then pickM (y.y4.tdiv 4) (k + 1) else -1), .int .i64 (if pickM y.y4 4 = 0 then 1 + pickM y.y5 3 else 0)]), .obj bf (.cells [.int .i64 2, .int .i64 5, .slice a9 (k + 1) c9, .slice none 0 0].toArray 25 (0, 0)), .obj br (.cells [.int .i64 0, .int .i64 0, .slice none 0 0, .slice none 0 0].toArray 25 (0, 0))] := hs.re [2, 3, 4] (by decide) rfl
  refine WL_nil ?_; (with_reducible refine T_bn ?_); (with_reducible refine T_then ?_); refine W_region ?_; (iterate 3 refine P1 T.ok rfl rfl rfl ?_); refine WL_nil ?_
  refine fun a ha => ⟨mkN x - (k + 1), by omega, k + 1, _, _, _, rfl, hs2, le5, by omega, rfl, ?_, ha.keep ⟨rfl, rfl, rfl, rfl, rfl, kI rfl (by rw [wr (by omega) (by omega)]; omega), trivial⟩⟩
  rw [hst]
  exact RcL.app (α := Step) (ys := [mkStep y (mkN x) k]) ⟨_, [], (List.append_nil _).symm, (show RStep _ _ _ from ⟨_, _, _, _, _, _, rfl, rs2, rs3⟩), rfl⟩ hrc
 ·refine W_no (b := decide ((k : Int) < (mkN x : Int))) (by simp; omega) rfl ?_
  obtain rfl : k = mkN x := by omega
  refine W_exit ?_; (with_reducible refine T_tx ?_; with_reducible refine T_tx ?_); (with_reducible refine T_bx ?_); (with_reducible refine T_then ?_); refine W_seq ?_; refine W_seq ?_; refine W_region ?_; refine P1 T.ok rfl rfl rfl ?_; refine WL_nil ?_; (with_reducible refine T_then ?_); refine W_block ?_
  have rs1 := rs1c.mono le5
  have hrcf := hrc; have rs1f := rs1; have le5f := le5
  have hs2 : St g g3 [.row 53 3 (.slice none (mkWins (mkN x) zs 0).length 0) (mkWins (mkN x) zs 0).length (winL (mkWins (mkN x) zs 0)), .row 50 7 (.slice sa (mkN x) sc) (mkN x) cells, .obj bf (.cells [.int .i64 2, .int .i64 5, .slice sa (mkN x) sc, .slice none (mkWins (mkN x) zs 0).length 0].toArray 25 (0, 0)), .obj br (.cells [.int .i64 0, .int .i64 0, .slice none 0 0, .slice none 0 0].toArray 25 (0, 0))] := hs.nilrow 53 3 none
  replace hs := hs2
  clear hs2
  refine W_loop (fun m a' w => ∃ (k : Nat) (wa : Option Addr) (wc : Nat) (g4 : G), w = g4.w ∧ St g g4 [.row 53 3 (.slice wa (mkWins (mkN x) zs k).length wc) (mkWins (mkN x) zs k).length (winL (mkWins (mkN x) zs k)), .row 50 7 (.slice sa (mkN x) sc) (mkN x) cells, .obj bf (.cells [.int .i64 2, .int .i64 5, .slice sa (mkN x) sc, .slice wa (mkWins (mkN x) zs k).length wc].toArray 25 (0, 0)), .obj br (.cells [.int .i64 0, .int .i64 0, .slice none 0 0, .slice none 0 0].toArray 25 (0, 0))] ∧ G.le g3 g4 ∧ k ≤ min zs.length 4 ∧ m = min zs.length 4 - k ∧
    Fr 193 [] [(1, .slice a2 zs.length c2), (4, .pointer (some ⟨br, 0, none⟩)), (5, .int .i64 (mkN x)), (6, .pointer (some ⟨bf, 0, none⟩)), (12, .int .i64 k)] a') (min zs.length 4)
   (fun a' ha => ⟨0, none, 0, g3, rfl, hs, G.le.refl _, Nat.zero_le _, rfl, ha.keep (by (repeat (first | exact trivial | refine ⟨rfl, ?_⟩)))⟩) ?_
  clear hs hrc rs0 rs1 le0
  rintro m a' _ ⟨k, wa, wc, g4, rfl, hs, le1, hk, rfl, ha'⟩
  have rs1 := rs1f.mono le1
  have hwl := mkWins_len (mkN x) zs k (by omega)
  revert a'
  by_cases hlt : k < min zs.length 4
  ·(with_reducible refine T_wp ?_); refine W_seq ?_; refine W_seq ?_; refine W_region ?_; (iterate 5 refine P1 T.ok rfl rfl rfl ?_)
   refine WL_know 136 (b' := true) (by simp; omega) rfl ?_
   (iterate 3 refine P1 T.ok rfl rfl rfl ?_); refine WL_nil ?_; (with_reducible refine T_then ?_)
   refine W_yes (b := _) ?_ rfl ?_
   ·simp; omega
   have hkz : k < zs.length := by omega
   have hst := mkWins_succ (mkN x) zs k hkz
   have hfit := hz _ (List.getElem_mem hkz)
   have hgi : geti zs (k : Int) = some zs[k] := by simp [geti, hkz]
   generalize zs[k] = z at *
   generalize mkWins (mkN x) zs k = wl at *
   have p0 := pickM_range (c := z.z0) (n := mkN x) (by omega)
   have p1 := pickM_range (c := z.z1) (n := mkN x) (by omega)
   have p2 := pickM_range (c := z.z2) (n := 150) (by omega)
   have hn0 : (mkN x : Int) ≠ 0 := by omega
   have hwin : mkWin (mkN x) z = ⟨pickM z.z0 (mkN x), pickM z.z1 (mkN x), 10 + pickM z.z2 150⟩ := rfl
   generalize hw : mkWin (mkN x) z = w0 at *
   refine W_skip ?_; (with_reducible refine T_then ?_); refine W_seq ?_; refine W_block ?_; refine W_seq ?_
   have hs0 := hs
   apply W_draw allF rfl (Fact.eq _ :: Fact.eq _ :: (z3P z) :: (intPtr (z.z0)) :: Fact.eq _ :: Fact.eq _ :: Fact.eq _ :: Fact.eq _ :: Fact.eq _ :: (z3P z) :: (intPtr (z.z1)) :: Fact.eq _ :: Fact.eq _ :: Fact.eq _ :: Fact.eq _ :: Fact.eq _ :: (z3P z) :: (intPtr (z.z2)) :: Fact.eq _ :: Fact.eq _ :: Fact.eq _ :: Fact.eq _ :: (objF g4.dr.w.heap.size [.int .i64 0, .int .i64 0, .int .i64 0] 53) :: []) 23 [(21, 163), (22, 13)] rfl rfl
   ·refine D_s (js := []) (by kernel_rfl) (fun _ _ => QA_nil (DPu T.ok rfl rfl rfl)) ?_
    refine D_s (js := []) (by kernel_rfl) (fun _ _ => QA_nil (DPu T.ok rfl rfl rfl)) ?_
    refine D_cons (D_step2 (js := [(0, 142), (1, 143)]) (by kernel_rfl) fun gd hf => ?_) ?_
    ·have hsd := hs.dr.call hf; have hfe := (G.le_dr _).trans hf.le
     refine QA_eq rfl ?_; refine QA_eq rfl ?_
     refine QA_nil ?_
     refine D_yes rfl ?_
     refine OpR_idx T.ok rfl (rs1.mono hfe) (y := z) hgi rfl rfl rfl rfl rfl rfl ?_
     intro b p ys hep hrc
     exact ⟨_, rfl, Fr0.refl _, b, p, rfl, hrc ▸ hep⟩
    refine D_cons (D_step2 (js := [(2, 144)]) (by kernel_rfl) fun gd hf => ?_) ?_
    ·have hsd := hs.dr.call hf; have hfe := (G.le_dr _).trans hf.le
     refine QA_any fun v2 h2 => ?_
     refine QA_nil ?_
     obtain ⟨b, p, rfl, hep⟩ := h2
     refine D_yes rfl ?_
     refine OpR_idxA T.ok (q := 0) rfl rfl rfl rfl rfl rfl (by decide) ?_
     exact ⟨_, rfl, Fr0.refl _, b, _, rfl, hep.sub 0 rfl⟩
    refine D_cons (D_step2 (js := [(3, 145)]) (by kernel_rfl) fun gd hf => ?_) ?_
    ·have hsd := hs.dr.call hf; have hfe := (G.le_dr _).trans hf.le
     refine QA_any fun v3 h3 => ?_
     refine QA_nil ?_
     obtain ⟨b, p, rfl, hep⟩ := h3
     refine D_yes rfl ?_
     refine OpR_loadE T.ok 0 rfl hep rfl rfl ?_
     refine ⟨_, rfl, Fr0.refl _, ?_⟩
     exact rfl
    refine D_s (js := []) (by kernel_rfl) (fun _ _ => QA_nil (DPu T.ok rfl rfl rfl)) ?_
    refine D_cons (D_step2 (js := [(4, 146), (5, 147)]) (by kernel_rfl) fun gd hf => ?_) ?_
    ·have hsd := hs.dr.call hf; have hfe := (G.le_dr _).trans hf.le
     refine QA_eq rfl ?_; refine QA_eq rfl ?_
     refine QA_nil ?_
     refine D_yes rfl ?_
     refine OpR_ret cl22 allF rfl rfl rfl rfl rfl (pick_c z.z0 (mkN x) _ hfit.h0 hn0) fun g' v h1 h2 => ⟨g', rfl, h1, ?_⟩
     exact h2
    refine D_s (js := []) (by kernel_rfl) (fun _ _ => QA_nil (DPu T.ok rfl rfl rfl)) ?_
    refine D_s (js := []) (by kernel_rfl) (fun _ _ => QA_nil (DPu T.ok rfl rfl rfl)) ?_
    refine D_cons (D_step2 (js := [(7, 149), (8, 150)]) (by kernel_rfl) fun gd hf => ?_) ?_
    ·have hsd := hs.dr.call hf; have hfe := (G.le_dr _).trans hf.le
     refine QA_eq rfl ?_; refine QA_eq rfl ?_
     refine QA_nil ?_
     refine D_yes rfl ?_
     refine OpR_idx T.ok rfl (rs1.mono hfe) (y := z) hgi rfl rfl rfl rfl rfl rfl ?_
     intro b p ys hep hrc
     exact ⟨_, rfl, Fr0.refl _, b, p, rfl, hrc ▸ hep⟩
    refine D_cons (D_step2 (js := [(9, 151)]) (by kernel_rfl) fun gd hf => ?_) ?_
    ·have hsd := hs.dr.call hf; have hfe := (G.le_dr _).trans hf.le
     refine QA_any fun v9 h9 => ?_
     refine QA_nil ?_
     obtain ⟨b, p, rfl, hep⟩ := h9
     refine D_yes rfl ?_
     refine OpR_idxA T.ok (q := 1) rfl rfl rfl rfl rfl rfl (by decide) ?_
     exact ⟨_, rfl, Fr0.refl _, b, _, rfl, hep.sub 1 rfl⟩
    refine D_cons (D_step2 (js := [(10, 152)]) (by kernel_rfl) fun gd hf => ?_) ?_
    ·have hsd := hs.dr.call hf; have hfe := (G.le_dr _).trans hf.le
     refine QA_any fun v10 h10 => ?_
     refine QA_nil ?_
     obtain ⟨b, p, rfl, hep⟩ := h10
     refine D_yes rfl ?_
     refine OpR_loadE T.ok 0 rfl hep rfl rfl ?_
     refine ⟨_, rfl, Fr0.refl _, ?_⟩
     exact rfl
    refine D_s (js := []) (by kernel_rfl) (fun _ _ => QA_nil (DPu T.ok rfl rfl rfl)) ?_
    refine D_cons (D_step2 (js := [(11, 153), (12, 154)]) (by kernel_rfl) fun gd hf => ?_) ?_
    ·have hsd := hs.dr.call hf; have hfe := (G.le_dr _).trans hf.le
     refine QA_eq rfl ?_; refine QA_eq rfl ?_
     refine QA_nil ?_
     refine D_yes rfl ?_
     refine OpR_ret cl22 allF rfl rfl rfl rfl rfl (pick_c z.z1 (mkN x) _ hfit.h1 hn0) fun g' v h1 h2 => ⟨g', rfl, h1, ?_⟩
     exact h2
    refine D_s (js := []) (by kernel_rfl) (fun _ _ => QA_nil (DPu T.ok rfl rfl rfl)) ?_
    refine D_s (js := []) (by kernel_rfl) (fun _ _ => QA_nil (DPu T.ok rfl rfl rfl)) ?_
    refine D_cons (D_step2 (js := [(14, 156), (15, 157)]) (by kernel_rfl) fun gd hf => ?_) ?_
    ·have hsd := hs.dr.call hf; have hfe := (G.le_dr _).trans hf.le
     refine QA_eq rfl ?_; refine QA_eq rfl ?_
     refine QA_nil ?_
     refine D_yes rfl ?_
     refine OpR_idx T.ok rfl (rs1.mono hfe) (y := z) hgi rfl rfl rfl rfl rfl rfl ?_
     intro b p ys hep hrc
     exact ⟨_, rfl, Fr0.refl _, b, p, rfl, hrc ▸ hep⟩
    refine D_cons (D_step2 (js := [(16, 158)]) (by kernel_rfl) fun gd hf => ?_) ?_
    ·have hsd := hs.dr.call hf; have hfe := (G.le_dr _).trans hf.le
     refine QA_any fun v16 h16 => ?_
     refine QA_nil ?_
     obtain ⟨b, p, rfl, hep⟩ := h16
     refine D_yes rfl ?_
     refine OpR_idxA T.ok (q := 2) rfl rfl rfl rfl rfl rfl (by decide) ?_
     exact ⟨_, rfl, Fr0.refl _, b, _, rfl, hep.sub 2 rfl⟩
    refine D_cons (D_step2 (js := [(17, 159)]) (by kernel_rfl) fun gd hf => ?_) ?_
    ·have hsd := hs.dr.call hf; have hfe := (G.le_dr _).trans hf.le
     refine QA_any fun v17 h17 => ?_
     refine QA_nil ?_
     obtain ⟨b, p, rfl, hep⟩ := h17
     refine D_yes rfl ?_
     refine OpR_loadE T.ok 0 rfl hep rfl rfl ?_
     refine ⟨_, rfl, Fr0.refl _, ?_⟩
     exact rfl
    refine D_cons (D_step2 (js := [(18, 160)]) (by kernel_rfl) fun gd hf => ?_) ?_
    ·have hsd := hs.dr.call hf; have hfe := (G.le_dr _).trans hf.le
     refine QA_eq rfl ?_
     refine QA_nil ?_
     refine D_yes rfl ?_
     refine OpR_ret cl22 allF rfl rfl rfl rfl rfl (pick_c (z.z2) (150) _ (hfit.h2) (by decide)) fun g' v h1 h2 => ⟨g', rfl, h1, ?_⟩
     exact h2
    refine D_cons (D_step2 (js := [(19, 161)]) (by kernel_rfl) fun gd hf => ?_) ?_
    ·have hsd := hs.dr.call hf; have hfe := (G.le_dr _).trans hf.le
     refine QA_eq rfl ?_
     refine QA_nil ?_
     refine D_yes rfl ?_
     refine OpR_pure _ T.ok rfl ?_
     refine ⟨_, rfl, Fr0.refl _, ?_⟩
     exact congrArg (Value.int .i64) (show _ = 10 + pickM z.z2 150 from wr (by omega) (by omega))
    refine D_cons (D_step2 (js := [(6, 148), (13, 155), (20, 162)]) (by kernel_rfl) fun gd hf => ?_) ?_
    ·have hsd := hs.dr.call hf; have hfe := (G.le_dr _).trans hf.le
     refine QA_eq rfl ?_; refine QA_eq rfl ?_; refine QA_eq rfl ?_
     refine QA_nil ?_
     refine D_yes rfl ?_
     refine OpR_build T.ok rfl (vs := [(0, .int .i64 (pickM z.z0 (mkN x))), (1, .int .i64 (pickM z.z1 (mkN x))), (2, .int .i64 (10 + pickM z.z2 150))]) (cells := [.int .i64 (pickM z.z0 (mkN x)), .int .i64 (pickM z.z1 (mkN x)), .int .i64 (10 + pickM z.z2 150)]) rfl rfl rfl rfl [(0, 1), (1, 1), (2, 1)] rfl (by kernel_rfl) ?_
     exact ⟨_, rfl, Fr0.refl _, rfl⟩
    refine D_cons (D_step2 (js := []) (by kernel_rfl) fun gd hf => ?_) ?_
    ·have hsd := hs.dr.call hf; have hfe := (G.le_dr _).trans hf.le
     refine QA_nil ?_
     refine D_yes rfl ?_
     refine OpR_alloc T.ok rfl (St.start gd) rfl rfl ?_
     intro b g' hs' hle
     have ho := hs'.own 0 _ rfl
     exact ⟨g', rfl, hs'.fr0, b, rfl, Nat.le_trans hf.below.size ho.1, ho.2⟩
    exact D_nil
   intro g1 hf1; refine QA_eq rfl ?_; refine QA_any fun v22 h22 => ?_; refine QA_nil ?_
   replace hs := hs.dr.call hf1; have hqe := (G.le_dr _).trans hf1.le; replace le1 := G.le.trans le1 hqe; replace rs1 := rs1.mono hqe
   obtain ⟨bw, rfl, hob⟩ := h22
   replace hs := hs0.dr.getOwn hf1 hob; clear hs0
   skip
   refine WL_n rfl (OpR_storeO T.ok 0 rfl hs rfl rfl rfl rfl rfl rfl rfl rfl rfl ?_); replace hs := hs; rintro g1 hs hqe; replace le1 := G.le.trans le1 hqe; replace rs1 := rs1.mono hqe
   refine WL_nil ?_; (with_reducible refine T_then ?_); refine W_seq ?_; refine W_region ?_; refine P1 T.ok rfl rfl rfl ?_; refine WL_o rfl rfl (OpR_loadO T.ok 3 rfl hs rfl rfl rfl ?_); refine P1 T.ok rfl rfl rfl ?_; refine P1 T.ok rfl rfl rfl ?_; refine WL_nil ?_; (with_reducible refine T_then ?_); refine W_seq ?_
   have hadd : winAdd (mkN x) wl z = if w0.src ≠ w0.dst ∧ follows wl w0 = true then wl ++ [w0] else wl := by unfold winAdd; rw [hw]
   rw [hadd] at hst
   clear hadd
   have hsrc : w0.src = pickM z.z0 (mkN x) := by rw [hwin]
   have hdst : w0.dst = pickM z.z1 (mkN x) := by rw [hwin]
   have hlim : w0.limit = 10 + pickM z.z2 150 := by rw [hwin]
   rw [← hsrc, ← hdst, ← hlim] at hs
   replace hs : St g g1 [.obj bw (.cells [.int .i64 w0.src, .int .i64 w0.dst, .int .i64 w0.limit].toArray 53 (0, 0)), .row 53 3 (.slice wa (wl).length wc) (wl).length (winL (wl)), .row 50 7 (.slice sa (mkN x) sc) (mkN x) cells, .obj bf (.cells [.int .i64 2, .int .i64 5, .slice sa (mkN x) sc, .slice wa (wl).length wc].toArray 25 (0, 0)), .obj br (.cells [.int .i64 0, .int .i64 0, .slice none 0 0, .slice none 0 0].toArray 25 (0, 0))] := hs
   cases e1 : (w0.src != w0.dst) with
   | false =>
    have e1' : ¬ (w0.src ≠ w0.dst) := by simpa using e1
    rw [if_neg fun h => e1' h.1] at hst
    apply W_draw allF rfl (Fact.eq _ :: Fact.eq _ :: Fact.eq _ :: Fact.eq _ :: Fact.eq _ :: Fact.eq _ :: Fact.eq _ :: Fact.eq _ :: Fact.eq _ :: Fact.eq _ :: Fact.eq _ :: Fact.eq _ :: Fact.eq _ :: Fact.eq _ :: Fact.eq _ :: Fact.eq _ :: Fact.eq _ :: Fact.eq _ :: Fact.eq _ :: []) 19 [(18, 185)] rfl rfl
    ·refine D_s (js := []) (by kernel_rfl) (fun _ _ => QA_nil (DPu T.ok rfl rfl rfl)) ?_
     refine D_s (js := [(0, 167)]) (by kernel_rfl) (fun _ hf => QA_eq rfl (QA_nil (DLo T.ok 0 rfl rfl (hs.dr.call hf) rfl rfl rfl rfl))) ?_
     refine D_s (js := []) (by kernel_rfl) (fun _ _ => QA_nil (DPu T.ok rfl rfl rfl)) ?_
     refine D_s (js := [(2, 169)]) (by kernel_rfl) (fun _ hf => QA_eq rfl (QA_nil (DLo T.ok 0 rfl rfl (hs.dr.call hf) rfl rfl rfl rfl))) ?_
     refine D_cons (D_step2 (js := [(1, 168), (3, 170)]) (by kernel_rfl) fun gd hf => ?_) ?_
     ·have hsd := hs.dr.call hf; have hfe := (G.le_dr _).trans hf.le
      refine QA_eq rfl ?_; refine QA_eq rfl ?_
      refine QA_nil ?_
      refine D_yes rfl ?_
      refine OpR_pure _ T.ok rfl ?_
      exact ⟨_, rfl, Fr0.refl _, congrArg Value.bool e1⟩
     refine D_s (js := [(4, 171)]) (by kernel_rfl) (fun _ _ => QA_eq rfl (QA_nil (DPu T.ok rfl rfl rfl))) ?_
     refine D_s (js := [(5, 172)]) (by kernel_rfl) (fun _ _ => QA_eq rfl (QA_nil (DNo rfl rfl))) ?_
     refine D_s (js := [(6, 173), (5, 172)]) (by kernel_rfl) (fun _ _ => QA_eq rfl (QA_eq rfl (QA_nil (DNo rfl rfl)))) ?_
     refine D_s (js := [(7, 174), (5, 172), (5, 172)]) (by kernel_rfl) (fun _ _ => QA_eq rfl (QA_eq rfl (QA_eq rfl (QA_nil (DNo rfl rfl))))) ?_
     refine D_s (js := [(8, 175)]) (by kernel_rfl) (fun _ _ => QA_eq rfl (QA_nil (DNo rfl rfl))) ?_
     refine D_s (js := [(9, 176), (8, 175)]) (by kernel_rfl) (fun _ _ => QA_eq rfl (QA_eq rfl (QA_nil (DNo rfl rfl)))) ?_
     refine D_s (js := [(8, 175)]) (by kernel_rfl) (fun _ _ => QA_eq rfl (QA_nil (DNo rfl rfl))) ?_
     refine D_s (js := [(11, 178), (8, 175)]) (by kernel_rfl) (fun _ _ => QA_eq rfl (QA_eq rfl (QA_nil (DNo rfl rfl)))) ?_
     refine D_s (js := [(10, 177), (12, 179), (8, 175)]) (by kernel_rfl) (fun _ _ => QA_eq rfl (QA_eq rfl (QA_eq rfl (QA_nil (DNo rfl rfl))))) ?_
     refine D_s (js := [(13, 180), (8, 175)]) (by kernel_rfl) (fun _ _ => QA_eq rfl (QA_eq rfl (QA_nil (DNo rfl rfl)))) ?_
     refine D_s (js := [(8, 175)]) (by kernel_rfl) (fun _ _ => QA_eq rfl (QA_nil (DNo rfl rfl))) ?_
     refine D_s (js := [(14, 181), (15, 182), (8, 175), (8, 175)]) (by kernel_rfl) (fun _ _ => QA_eq rfl (QA_eq rfl (QA_eq rfl (QA_eq rfl (QA_nil (DNo rfl rfl)))))) ?_
     refine D_s (js := [(8, 175), (16, 183), (5, 172)]) (by kernel_rfl) (fun _ _ => QA_eq rfl (QA_eq rfl (QA_eq rfl (QA_nil (DNo rfl rfl))))) ?_
     refine D_s (js := [(5, 172), (17, 184)]) (by kernel_rfl) (fun _ _ => QA_eq rfl (QA_eq rfl (QA_nil (DPu T.ok rfl rfl rfl)))) ?_
     exact D_nil
    intro g1 hf1; refine QA_eq rfl ?_; refine QA_nil ?_
    replace hs := hs.dr.call hf1; have hqe := (G.le_dr _).trans hf1.le; replace le1 := G.le.trans le1 hqe; replace rs1 := rs1.mono hqe
    refine WL_nil ?_; (with_reducible refine T_then ?_)
    refine W_no rfl rfl ?_
    refine W_skip ?_; (with_reducible refine T_bn ?_); (with_reducible refine T_then ?_); refine W_region ?_; (iterate 3 refine P1 T.ok rfl rfl rfl ?_); refine WL_nil ?_
    refine fun a ha => ⟨min zs.length 4 - (k + 1), by omega, k + 1, wa, wc, _, rfl, ?_, le1, by omega, rfl, ha.keep ⟨rfl, rfl, rfl, rfl, kI rfl (by rw [wr (by omega) (by omega)]; omega), trivial⟩⟩
    rw [hst]; exact hs.drop 0
   | true =>
    have e1' : w0.src ≠ w0.dst := by simpa using e1
    cases e2 : ((wl.length : Int) == 0) with
    | true =>
     have hl1 : (wl.length : Int) = 0 := by simpa using e2
     have hl0 : wl = [] := List.eq_nil_of_length_eq_zero (by omega)
     rw [if_pos ⟨e1', by rw [hl0]; rfl⟩] at hst
     apply W_draw allF rfl (Fact.eq _ :: Fact.eq _ :: Fact.eq _ :: Fact.eq _ :: Fact.eq _ :: Fact.eq _ :: Fact.eq _ :: Fact.eq _ :: Fact.eq _ :: Fact.eq _ :: Fact.eq _ :: Fact.eq _ :: Fact.eq _ :: Fact.eq _ :: Fact.eq _ :: Fact.eq _ :: Fact.eq _ :: Fact.eq _ :: Fact.eq _ :: []) 19 [(18, 185)] rfl rfl
     ·refine D_s (js := []) (by kernel_rfl) (fun _ _ => QA_nil (DPu T.ok rfl rfl rfl)) ?_
      refine D_s (js := [(0, 167)]) (by kernel_rfl) (fun _ hf => QA_eq rfl (QA_nil (DLo T.ok 0 rfl rfl (hs.dr.call hf) rfl rfl rfl rfl))) ?_
      refine D_s (js := []) (by kernel_rfl) (fun _ _ => QA_nil (DPu T.ok rfl rfl rfl)) ?_
      refine D_s (js := [(2, 169)]) (by kernel_rfl) (fun _ hf => QA_eq rfl (QA_nil (DLo T.ok 0 rfl rfl (hs.dr.call hf) rfl rfl rfl rfl))) ?_
      refine D_cons (D_step2 (js := [(1, 168), (3, 170)]) (by kernel_rfl) fun gd hf => ?_) ?_
      ·have hsd := hs.dr.call hf; have hfe := (G.le_dr _).trans hf.le
       refine QA_eq rfl ?_; refine QA_eq rfl ?_
       refine QA_nil ?_
       refine D_yes rfl ?_
       refine OpR_pure _ T.ok rfl ?_
       exact ⟨_, rfl, Fr0.refl _, congrArg Value.bool e1⟩
      refine D_s (js := [(4, 171)]) (by kernel_rfl) (fun _ _ => QA_eq rfl (QA_nil (DPu T.ok rfl rfl rfl))) ?_
      refine D_s (js := [(5, 172)]) (by kernel_rfl) (fun _ _ => QA_eq rfl (QA_nil (DPu T.ok rfl rfl rfl))) ?_
      refine D_cons (D_step2 (js := [(6, 173), (5, 172)]) (by kernel_rfl) fun gd hf => ?_) ?_
      ·have hsd := hs.dr.call hf; have hfe := (G.le_dr _).trans hf.le
       refine QA_eq rfl ?_; refine QA_eq rfl ?_
       refine QA_nil ?_
       refine D_yes rfl ?_
       refine OpR_pure _ T.ok rfl ?_
       exact ⟨_, rfl, Fr0.refl _, congrArg Value.bool e2⟩
      refine D_s (js := [(7, 174), (5, 172), (5, 172)]) (by kernel_rfl) (fun _ _ => QA_eq rfl (QA_eq rfl (QA_eq rfl (QA_nil (DPu T.ok rfl rfl rfl))))) ?_
      refine D_s (js := [(8, 175)]) (by kernel_rfl) (fun _ _ => QA_eq rfl (QA_nil (DNo rfl rfl))) ?_
      refine D_s (js := [(9, 176), (8, 175)]) (by kernel_rfl) (fun _ _ => QA_eq rfl (QA_eq rfl (QA_nil (DNo rfl rfl)))) ?_
      refine D_s (js := [(8, 175)]) (by kernel_rfl) (fun _ _ => QA_eq rfl (QA_nil (DNo rfl rfl))) ?_
      refine D_s (js := [(11, 178), (8, 175)]) (by kernel_rfl) (fun _ _ => QA_eq rfl (QA_eq rfl (QA_nil (DNo rfl rfl)))) ?_
      refine D_s (js := [(10, 177), (12, 179), (8, 175)]) (by kernel_rfl) (fun _ _ => QA_eq rfl (QA_eq rfl (QA_eq rfl (QA_nil (DNo rfl rfl))))) ?_
      refine D_s (js := [(13, 180), (8, 175)]) (by kernel_rfl) (fun _ _ => QA_eq rfl (QA_eq rfl (QA_nil (DNo rfl rfl)))) ?_
      refine D_s (js := [(8, 175)]) (by kernel_rfl) (fun _ _ => QA_eq rfl (QA_nil (DNo rfl rfl))) ?_
      refine D_s (js := [(14, 181), (15, 182), (8, 175), (8, 175)]) (by kernel_rfl) (fun _ _ => QA_eq rfl (QA_eq rfl (QA_eq rfl (QA_eq rfl (QA_nil (DNo rfl rfl)))))) ?_
      refine D_s (js := [(8, 175), (16, 183), (5, 172)]) (by kernel_rfl) (fun _ _ => QA_eq rfl (QA_eq rfl (QA_eq rfl (QA_nil (DPu T.ok rfl rfl rfl))))) ?_
      refine D_s (js := [(5, 172), (17, 184)]) (by kernel_rfl) (fun _ _ => QA_eq rfl (QA_eq rfl (QA_nil (DPu T.ok rfl rfl rfl)))) ?_
      exact D_nil
     intro g1 hf1; refine QA_eq rfl ?_; refine QA_nil ?_
     replace hs := hs.dr.call hf1; have hqe := (G.le_dr _).trans hf1.le; replace le1 := G.le.trans le1 hqe; replace rs1 := rs1.mono hqe
     refine WL_nil ?_; (with_reducible refine T_then ?_)
     refine W_yes rfl rfl ?_
     refine W_region ?_; refine P1 T.ok rfl rfl rfl ?_; refine WL_o rfl rfl (OpR_loadO T.ok 3 rfl hs rfl rfl rfl ?_); refine WL_o rfl rfl (OpR_loadO T.ok 0 rfl hs rfl rfl rfl ?_)
     refine WL_o rfl rfl (OpR_lit T.ok rfl hs (vs := [(0, .agg (winV w0).toArray)]) (cells := winV w0) rfl rfl rfl rfl rfl rfl (by decide) (by decide) (by kernel_rfl) rfl ?_)
     clear hs
     rintro b2 g9 hs hqe; replace le1 := G.le.trans le1 hqe; replace rs1 := rs1.mono hqe
     skip
     refine WL_o rfl rfl (OpR_append T.ok 2 rfl hs rfl rfl rfl rfl rfl rfl rfl (by decide) rfl (Src.of_row (hs.own 0 _ rfl).1).2 (by simp [winV, Value.oneCell']) (by show (wl.length + 1) * 24 ≤ _; omega) (by unfold maxLen; show wl.length + 1 ≤ _; omega) ?_)
     clear hs
     rintro a9 c9 g8 hs hqe; replace le1 := G.le.trans le1 hqe; replace rs1 := rs1.mono hqe
     refine P1 T.ok rfl rfl rfl ?_
     refine WL_n rfl (OpR_storeO T.ok 4 rfl hs rfl rfl rfl rfl rfl rfl rfl rfl rfl ?_); replace hs := hs; rintro g1 hs hqe; replace le1 := G.le.trans le1 hqe; replace rs1 := rs1.mono hqe
     refine WL_nil ?_; (with_reducible refine T_bn ?_); (with_reducible refine T_then ?_); refine W_region ?_; (iterate 3 refine P1 T.ok rfl rfl rfl ?_); refine WL_nil ?_
     refine fun a ha => ⟨min zs.length 4 - (k + 1), by omega, k + 1, a9, c9, _, rfl, ?_, le1, by omega, rfl, ha.keep ⟨rfl, rfl, rfl, rfl, kI rfl (by rw [wr (by omega) (by omega)]; omega), trivial⟩⟩
     have hs2 := hs.re [2, 3, 4, 5] (by decide) (L' := [.row 53 3 (.slice a9 (wl ++ [w0]).length c9) (wl ++ [w0]).length (winL (wl ++ [w0])), .row 50 7 (.slice sa (mkN x) sc) (mkN x) cells, .obj bf (.cells [.int .i64 2, .int .i64 5, .slice sa (mkN x) sc, .slice a9 (wl ++ [w0]).length c9].toArray 25 (0, 0)), .obj br (.cells [.int .i64 0, .int .i64 0, .slice none 0 0, .slice none 0 0].toArray 25 (0, 0))]) (by rw [winL_app, List.length_append]; rfl)
     rw [hst]; exact hs2
    | false =>
     have hl0 : wl.length ≠ 0 := by
      intro h; rw [h] at e2; cases e2
     obtain ⟨lw, hlw⟩ : ∃ v, wl.getLast? = some v := by
      cases hg : wl.getLast? with
      | none => rw [List.getLast?_eq_none_iff] at hg; rw [hg] at hl0; exact absurd rfl hl0
      | some v => exact ⟨v, rfl⟩
     have hfl : follows wl w0 = winLess lw w0 := by unfold follows; rw [hlw]
     have hld := winL_last hlw
     obtain ⟨wb, wp, rfl⟩ := row_some (hs.own 1 _ rfl).1 hl0
     have hn1 : ((wl.length : Int) - 1).toNat = wl.length - 1 := by omega
     rw [← hn1] at hld
     rw [hfl] at hst
     cases e3 : winLess lw w0 with
     | true =>
      rw [if_pos ⟨e1', e3⟩] at hst
      apply W_draw allF rfl (Fact.eq _ :: Fact.eq _ :: Fact.eq _ :: Fact.eq _ :: Fact.eq _ :: Fact.eq _ :: Fact.eq _ :: Fact.eq _ :: Fact.eq _ :: Fact.eq _ :: Fact.eq _ :: Fact.eq _ :: Fact.eq _ :: Fact.eq _ :: Fact.eq _ :: Fact.eq _ :: Fact.eq _ :: Fact.eq _ :: Fact.eq _ :: []) 19 [(18, 185)] rfl rfl
      ·refine D_s (js := []) (by kernel_rfl) (fun _ _ => QA_nil (DPu T.ok rfl rfl rfl)) ?_
       refine D_s (js := [(0, 167)]) (by kernel_rfl) (fun _ hf => QA_eq rfl (QA_nil (DLo T.ok 0 rfl rfl (hs.dr.call hf) rfl rfl rfl rfl))) ?_
       refine D_s (js := []) (by kernel_rfl) (fun _ _ => QA_nil (DPu T.ok rfl rfl rfl)) ?_
       refine D_s (js := [(2, 169)]) (by kernel_rfl) (fun _ hf => QA_eq rfl (QA_nil (DLo T.ok 0 rfl rfl (hs.dr.call hf) rfl rfl rfl rfl))) ?_
       refine D_cons (D_step2 (js := [(1, 168), (3, 170)]) (by kernel_rfl) fun gd hf => ?_) ?_
       ·have hsd := hs.dr.call hf; have hfe := (G.le_dr _).trans hf.le
        refine QA_eq rfl ?_; refine QA_eq rfl ?_
        refine QA_nil ?_
        refine D_yes rfl ?_
        refine OpR_pure _ T.ok rfl ?_
        exact ⟨_, rfl, Fr0.refl _, congrArg Value.bool e1⟩
       refine D_s (js := [(4, 171)]) (by kernel_rfl) (fun _ _ => QA_eq rfl (QA_nil (DPu T.ok rfl rfl rfl))) ?_
       refine D_s (js := [(5, 172)]) (by kernel_rfl) (fun _ _ => QA_eq rfl (QA_nil (DPu T.ok rfl rfl rfl))) ?_
       refine D_cons (D_step2 (js := [(6, 173), (5, 172)]) (by kernel_rfl) fun gd hf => ?_) ?_
       ·have hsd := hs.dr.call hf; have hfe := (G.le_dr _).trans hf.le
        refine QA_eq rfl ?_; refine QA_eq rfl ?_
        refine QA_nil ?_
        refine D_yes rfl ?_
        refine OpR_pure _ T.ok rfl ?_
        exact ⟨_, rfl, Fr0.refl _, congrArg Value.bool e2⟩
       refine D_s (js := [(7, 174), (5, 172), (5, 172)]) (by kernel_rfl) (fun _ _ => QA_eq rfl (QA_eq rfl (QA_eq rfl (QA_nil (DPu T.ok rfl rfl rfl))))) ?_
       refine D_s (js := [(8, 175)]) (by kernel_rfl) (fun _ _ => QA_eq rfl (QA_nil (DPu T.ok rfl rfl rfl))) ?_
       refine D_s (js := [(9, 176), (8, 175)]) (by kernel_rfl) (fun _ hf => QA_eq rfl (QA_eq rfl (QA_nil (DLo T.ok 3 rfl rfl (hs.dr.call hf) rfl rfl rfl rfl)))) ?_
       refine D_s (js := [(8, 175)]) (by kernel_rfl) (fun _ _ => QA_eq rfl (QA_nil (DPu T.ok rfl rfl rfl))) ?_
       refine D_cons (D_step2 (js := [(11, 178), (8, 175)]) (by kernel_rfl) fun gd hf => ?_) ?_
       ·have hsd := hs.dr.call hf; have hfe := (G.le_dr _).trans hf.le
        refine QA_eq rfl ?_; refine QA_eq rfl ?_
        refine QA_nil ?_
        refine D_yes rfl ?_
        refine OpR_pure _ T.ok rfl ?_
        refine ⟨_, rfl, Fr0.refl _, ?_⟩
        exact congrArg (Value.int .i64) (show _ = (wl.length : Int) - 1 from wr (by omega) (by omega))
       refine D_cons (D_step2 (js := [(10, 177), (12, 179), (8, 175)]) (by kernel_rfl) fun gd hf => ?_) ?_
       ·have hsd := hs.dr.call hf; have hfe := (G.le_dr _).trans hf.le
        refine QA_eq rfl ?_; refine QA_eq rfl ?_; refine QA_eq rfl ?_
        refine QA_nil ?_
        refine D_yes rfl ?_
        refine OpR_idxR T.ok (n := (wl.length : Int) - 1) rfl (hsd.own 1 _ rfl).1 (by omega) (by omega) rfl rfl rfl rfl rfl rfl ?_
        rintro b p hh; obtain ⟨rfl, rfl⟩ : wb = b ∧ wp = p := by simpa using hh
        exact ⟨_, rfl, Fr0.refl _, rfl⟩
       refine D_cons (D_step2 (js := [(13, 180), (8, 175)]) (by kernel_rfl) fun gd hf => ?_) ?_
       ·have hsd := hs.dr.call hf; have hfe := (G.le_dr _).trans hf.le
        refine QA_eq rfl ?_; refine QA_eq rfl ?_
        refine QA_nil ?_
        refine D_yes rfl ?_
        refine OpR_loadR T.ok (((wl.length : Int) - 1).toNat * 3) rfl (hsd.own 1 _ rfl).1 rfl (v := .agg (winV lw).toArray) hld ?_
        exact ⟨_, rfl, Fr0.refl _, rfl⟩
       refine D_s (js := [(8, 175)]) (by kernel_rfl) (fun _ hf => QA_eq rfl (QA_nil (DLo T.ok 0 rfl rfl (hs.dr.call hf) rfl rfl rfl rfl))) ?_
       refine D_cons (D_step2 (js := [(14, 181), (15, 182), (8, 175), (8, 175)]) (by kernel_rfl) fun gd hf => ?_) ?_
       ·have hsd := hs.dr.call hf; have hfe := (G.le_dr _).trans hf.le
        refine QA_eq rfl ?_; refine QA_eq rfl ?_; refine QA_eq rfl ?_; refine QA_eq rfl ?_
        refine QA_nil ?_
        refine D_yes rfl ?_
        refine OpR_ret cl23 allF rfl rfl rfl rfl rfl (after_c lw w0 _) fun g' v h1 h2 => ⟨g', rfl, h1, ?_⟩
        rw [h2]; exact congrArg Value.bool e3
       refine D_s (js := [(8, 175), (16, 183), (5, 172)]) (by kernel_rfl) (fun _ _ => QA_eq rfl (QA_eq rfl (QA_eq rfl (QA_nil (DPu T.ok rfl rfl rfl))))) ?_
       refine D_s (js := [(5, 172), (17, 184)]) (by kernel_rfl) (fun _ _ => QA_eq rfl (QA_eq rfl (QA_nil (DPu T.ok rfl rfl rfl)))) ?_
       exact D_nil
      intro g1 hf1; refine QA_eq rfl ?_; refine QA_nil ?_
      replace hs := hs.dr.call hf1; have hqe := (G.le_dr _).trans hf1.le; replace le1 := G.le.trans le1 hqe; replace rs1 := rs1.mono hqe
      refine WL_nil ?_; (with_reducible refine T_then ?_)
      refine W_yes rfl rfl ?_
      refine W_region ?_; refine P1 T.ok rfl rfl rfl ?_; refine WL_o rfl rfl (OpR_loadO T.ok 3 rfl hs rfl rfl rfl ?_); refine WL_o rfl rfl (OpR_loadO T.ok 0 rfl hs rfl rfl rfl ?_)
      refine WL_o rfl rfl (OpR_lit T.ok rfl hs (vs := [(0, .agg (winV w0).toArray)]) (cells := winV w0) rfl rfl rfl rfl rfl rfl (by decide) (by decide) (by kernel_rfl) rfl ?_)
      clear hs
      rintro b2 g9 hs hqe; replace le1 := G.le.trans le1 hqe; replace rs1 := rs1.mono hqe
      skip
      refine WL_o rfl rfl (OpR_append T.ok 2 rfl hs rfl rfl rfl rfl rfl rfl rfl (by decide) rfl (Src.of_row (hs.own 0 _ rfl).1).2 (by simp [winV, Value.oneCell']) (by show (wl.length + 1) * 24 ≤ _; omega) (by unfold maxLen; show wl.length + 1 ≤ _; omega) ?_)
      clear hs
      rintro a9 c9 g8 hs hqe; replace le1 := G.le.trans le1 hqe; replace rs1 := rs1.mono hqe
      refine P1 T.ok rfl rfl rfl ?_
      refine WL_n rfl (OpR_storeO T.ok 4 rfl hs rfl rfl rfl rfl rfl rfl rfl rfl rfl ?_); replace hs := hs; rintro g1 hs hqe; replace le1 := G.le.trans le1 hqe; replace rs1 := rs1.mono hqe
      refine WL_nil ?_; (with_reducible refine T_bn ?_); (with_reducible refine T_then ?_); refine W_region ?_; (iterate 3 refine P1 T.ok rfl rfl rfl ?_); refine WL_nil ?_
      refine fun a ha => ⟨min zs.length 4 - (k + 1), by omega, k + 1, a9, c9, _, rfl, ?_, le1, by omega, rfl, ha.keep ⟨rfl, rfl, rfl, rfl, kI rfl (by rw [wr (by omega) (by omega)]; omega), trivial⟩⟩
      have hs2 := hs.re [2, 3, 4, 5] (by decide) (L' := [.row 53 3 (.slice a9 (wl ++ [w0]).length c9) (wl ++ [w0]).length (winL (wl ++ [w0])), .row 50 7 (.slice sa (mkN x) sc) (mkN x) cells, .obj bf (.cells [.int .i64 2, .int .i64 5, .slice sa (mkN x) sc, .slice a9 (wl ++ [w0]).length c9].toArray 25 (0, 0)), .obj br (.cells [.int .i64 0, .int .i64 0, .slice none 0 0, .slice none 0 0].toArray 25 (0, 0))]) (by rw [winL_app, List.length_append]; rfl)
      rw [hst]; exact hs2
     | false =>
      rw [if_neg fun h => by rw [e3] at h; cases h.2] at hst
      apply W_draw allF rfl (Fact.eq _ :: Fact.eq _ :: Fact.eq _ :: Fact.eq _ :: Fact.eq _ :: Fact.eq _ :: Fact.eq _ :: Fact.eq _ :: Fact.eq _ :: Fact.eq _ :: Fact.eq _ :: Fact.eq _ :: Fact.eq _ :: Fact.eq _ :: Fact.eq _ :: Fact.eq _ :: Fact.eq _ :: Fact.eq _ :: Fact.eq _ :: []) 19 [(18, 185)] rfl rfl
      ·refine D_s (js := []) (by kernel_rfl) (fun _ _ => QA_nil (DPu T.ok rfl rfl rfl)) ?_
       refine D_s (js := [(0, 167)]) (by kernel_rfl) (fun _ hf => QA_eq rfl (QA_nil (DLo T.ok 0 rfl rfl (hs.dr.call hf) rfl rfl rfl rfl))) ?_
       refine D_s (js := []) (by kernel_rfl) (fun _ _ => QA_nil (DPu T.ok rfl rfl rfl)) ?_
       refine D_s (js := [(2, 169)]) (by kernel_rfl) (fun _ hf => QA_eq rfl (QA_nil (DLo T.ok 0 rfl rfl (hs.dr.call hf) rfl rfl rfl rfl))) ?_
       refine D_cons (D_step2 (js := [(1, 168), (3, 170)]) (by kernel_rfl) fun gd hf => ?_) ?_
       ·have hsd := hs.dr.call hf; have hfe := (G.le_dr _).trans hf.le
        refine QA_eq rfl ?_; refine QA_eq rfl ?_
        refine QA_nil ?_
        refine D_yes rfl ?_
        refine OpR_pure _ T.ok rfl ?_
        exact ⟨_, rfl, Fr0.refl _, congrArg Value.bool e1⟩
       refine D_s (js := [(4, 171)]) (by kernel_rfl) (fun _ _ => QA_eq rfl (QA_nil (DPu T.ok rfl rfl rfl))) ?_
       refine D_s (js := [(5, 172)]) (by kernel_rfl) (fun _ _ => QA_eq rfl (QA_nil (DPu T.ok rfl rfl rfl))) ?_
       refine D_cons (D_step2 (js := [(6, 173), (5, 172)]) (by kernel_rfl) fun gd hf => ?_) ?_
       ·have hsd := hs.dr.call hf; have hfe := (G.le_dr _).trans hf.le
        refine QA_eq rfl ?_; refine QA_eq rfl ?_
        refine QA_nil ?_
        refine D_yes rfl ?_
        refine OpR_pure _ T.ok rfl ?_
        exact ⟨_, rfl, Fr0.refl _, congrArg Value.bool e2⟩
       refine D_s (js := [(7, 174), (5, 172), (5, 172)]) (by kernel_rfl) (fun _ _ => QA_eq rfl (QA_eq rfl (QA_eq rfl (QA_nil (DPu T.ok rfl rfl rfl))))) ?_
       refine D_s (js := [(8, 175)]) (by kernel_rfl) (fun _ _ => QA_eq rfl (QA_nil (DPu T.ok rfl rfl rfl))) ?_
       refine D_s (js := [(9, 176), (8, 175)]) (by kernel_rfl) (fun _ hf => QA_eq rfl (QA_eq rfl (QA_nil (DLo T.ok 3 rfl rfl (hs.dr.call hf) rfl rfl rfl rfl)))) ?_
       refine D_s (js := [(8, 175)]) (by kernel_rfl) (fun _ _ => QA_eq rfl (QA_nil (DPu T.ok rfl rfl rfl))) ?_
       refine D_cons (D_step2 (js := [(11, 178), (8, 175)]) (by kernel_rfl) fun gd hf => ?_) ?_
       ·have hsd := hs.dr.call hf; have hfe := (G.le_dr _).trans hf.le
        refine QA_eq rfl ?_; refine QA_eq rfl ?_
        refine QA_nil ?_
        refine D_yes rfl ?_
        refine OpR_pure _ T.ok rfl ?_
        refine ⟨_, rfl, Fr0.refl _, ?_⟩
        exact congrArg (Value.int .i64) (show _ = (wl.length : Int) - 1 from wr (by omega) (by omega))
       refine D_cons (D_step2 (js := [(10, 177), (12, 179), (8, 175)]) (by kernel_rfl) fun gd hf => ?_) ?_
       ·have hsd := hs.dr.call hf; have hfe := (G.le_dr _).trans hf.le
        refine QA_eq rfl ?_; refine QA_eq rfl ?_; refine QA_eq rfl ?_
        refine QA_nil ?_
        refine D_yes rfl ?_
        refine OpR_idxR T.ok (n := (wl.length : Int) - 1) rfl (hsd.own 1 _ rfl).1 (by omega) (by omega) rfl rfl rfl rfl rfl rfl ?_
        rintro b p hh; obtain ⟨rfl, rfl⟩ : wb = b ∧ wp = p := by simpa using hh
        exact ⟨_, rfl, Fr0.refl _, rfl⟩
       refine D_cons (D_step2 (js := [(13, 180), (8, 175)]) (by kernel_rfl) fun gd hf => ?_) ?_
       ·have hsd := hs.dr.call hf; have hfe := (G.le_dr _).trans hf.le
        refine QA_eq rfl ?_; refine QA_eq rfl ?_
        refine QA_nil ?_
        refine D_yes rfl ?_
        refine OpR_loadR T.ok (((wl.length : Int) - 1).toNat * 3) rfl (hsd.own 1 _ rfl).1 rfl (v := .agg (winV lw).toArray) hld ?_
        exact ⟨_, rfl, Fr0.refl _, rfl⟩
       refine D_s (js := [(8, 175)]) (by kernel_rfl) (fun _ hf => QA_eq rfl (QA_nil (DLo T.ok 0 rfl rfl (hs.dr.call hf) rfl rfl rfl rfl))) ?_
       refine D_cons (D_step2 (js := [(14, 181), (15, 182), (8, 175), (8, 175)]) (by kernel_rfl) fun gd hf => ?_) ?_
       ·have hsd := hs.dr.call hf; have hfe := (G.le_dr _).trans hf.le
        refine QA_eq rfl ?_; refine QA_eq rfl ?_; refine QA_eq rfl ?_; refine QA_eq rfl ?_
        refine QA_nil ?_
        refine D_yes rfl ?_
        refine OpR_ret cl23 allF rfl rfl rfl rfl rfl (after_c lw w0 _) fun g' v h1 h2 => ⟨g', rfl, h1, ?_⟩
        rw [h2]; exact congrArg Value.bool e3
       refine D_s (js := [(8, 175), (16, 183), (5, 172)]) (by kernel_rfl) (fun _ _ => QA_eq rfl (QA_eq rfl (QA_eq rfl (QA_nil (DPu T.ok rfl rfl rfl))))) ?_
       refine D_s (js := [(5, 172), (17, 184)]) (by kernel_rfl) (fun _ _ => QA_eq rfl (QA_eq rfl (QA_nil (DPu T.ok rfl rfl rfl)))) ?_
       exact D_nil
      intro g1 hf1; refine QA_eq rfl ?_; refine QA_nil ?_
      replace hs := hs.dr.call hf1; have hqe := (G.le_dr _).trans hf1.le; replace le1 := G.le.trans le1 hqe; replace rs1 := rs1.mono hqe
      refine WL_nil ?_; (with_reducible refine T_then ?_)
      refine W_no rfl rfl ?_
      refine W_skip ?_; (with_reducible refine T_bn ?_); (with_reducible refine T_then ?_); refine W_region ?_; (iterate 3 refine P1 T.ok rfl rfl rfl ?_); refine WL_nil ?_
      refine fun a ha => ⟨min zs.length 4 - (k + 1), by omega, k + 1, some ⟨wb, wp, none⟩, wc, _, rfl, ?_, le1, by omega, rfl, ha.keep ⟨rfl, rfl, rfl, rfl, kI rfl (by rw [wr (by omega) (by omega)]; omega), trivial⟩⟩
      rw [hst]; exact hs.drop 0
  ·obtain rfl : k = min zs.length 4 := by omega
   (with_reducible refine T_wp ?_); refine W_seq ?_; refine W_seq ?_; refine W_region ?_; (iterate 5 refine P1 T.ok rfl rfl rfl ?_)
   by_cases hz4 : min zs.length 4 < zs.length
   ·refine WL_know 136 (b' := true) (by simp; omega) rfl ?_
    (iterate 3 refine P1 T.ok rfl rfl rfl ?_); refine WL_nil ?_; (with_reducible refine T_then ?_)
    refine W_no (b := _) ?_ rfl ?_
    ·simp; omega
    obtain ⟨gx, hwx, hs1, hqx, rs5⟩ := hs.fzRow (α := Window) (xs := mkWins (mkN x) zs (min zs.length 4)) (i := 0) rfl (RcL.win _ _)
    obtain ⟨gy, hwy, hs2, hqy, rs6⟩ := hs1.fzRow (α := Step) (xs := mkSteps x (mkN x)) (i := 0) rfl (hrcf.mono (le1.trans hqx))
    replace rs5 := rs5.mono hqy
    rw [← hwx, ← hwy]
    replace hs := hs2
    clear hs1 hs2
    refine W_exit ?_; (with_reducible refine T_tx ?_; with_reducible refine T_tx ?_); (with_reducible refine T_bx ?_); (with_reducible refine T_then ?_); refine W_seq ?_; refine W_region ?_; refine WL_o rfl rfl (OpR_loadO T.ok 0 rfl hs rfl rfl rfl ?_)
    refine WL_n rfl (OpR_storeO T.ok 1 rfl hs rfl rfl rfl rfl rfl rfl rfl rfl rfl ?_); replace hs := hs; rintro g1 hs hqe; replace rs5 := rs5.mono hqe; replace rs6 := rs6.mono hqe
    refine WL_nil ?_; (with_reducible refine T_then ?_)
    refine W_ret ?_
    skip
    exact retC T.ok 1 rfl hs rfl rfl rfl (hs.ret ⟨_, _, _, _, _, _, rfl, rs6, rs5⟩)
   ·refine WL_know 136 (b' := false) (by simp; omega) rfl ?_
    refine S1 allF rfl rfl ?_; refine S1 allF rfl rfl ?_; refine P1 T.ok rfl rfl rfl ?_; refine WL_nil ?_; (with_reducible refine T_then ?_)
    refine W_no rfl rfl ?_
    obtain ⟨gx, hwx, hs1, hqx, rs5⟩ := hs.fzRow (α := Window) (xs := mkWins (mkN x) zs (min zs.length 4)) (i := 0) rfl (RcL.win _ _)
    obtain ⟨gy, hwy, hs2, hqy, rs6⟩ := hs1.fzRow (α := Step) (xs := mkSteps x (mkN x)) (i := 0) rfl (hrcf.mono (le1.trans hqx))
    replace rs5 := rs5.mono hqy
    rw [← hwx, ← hwy]
    replace hs := hs2
    clear hs1 hs2
    refine W_exit ?_; (with_reducible refine T_tx ?_; with_reducible refine T_tx ?_); (with_reducible refine T_bx ?_); (with_reducible refine T_then ?_); refine W_seq ?_; refine W_region ?_; refine WL_o rfl rfl (OpR_loadO T.ok 0 rfl hs rfl rfl rfl ?_)
    refine WL_n rfl (OpR_storeO T.ok 1 rfl hs rfl rfl rfl rfl rfl rfl rfl rfl rfl ?_); replace hs := hs; rintro g1 hs hqe; replace rs5 := rs5.mono hqe; replace rs6 := rs6.mono hqe
    refine WL_nil ?_; (with_reducible refine T_then ?_)
    refine W_ret ?_
    skip
    exact retC T.ok 1 rfl hs rfl rfl rfl (hs.ret ⟨_, _, _, _, _, _, rfl, rs6, rs5⟩)
end Go.Proofs.YtnaeopehmdcplaaGreatDoor

/- Lines (the reference's). -/
namespace Go.Proofs.YtnaeopehmdcplaaGreatDoor
open Go Go.K
set_option maxRecDepth 10000
attribute [local irreducible] W WL OpR bitAnd bitOr bitXor bitClr bitNot shlI shrI
set_option maxHeartbeats 4000000

def LInv (s : List UInt8) (k fr : Nat) (out : List (List UInt8)) : Prop :=
 (k ≤ s.length ∧ fr ≤ k ∧ splitC 10 s = out ++ splitC 10 (s.drop fr) ∧ (10 : UInt8) ∉ (s.drop fr).take (k - fr)) ∨ (k = s.length + 1 ∧ splitC 10 s = out)
theorem LInv.next {s : List UInt8} {k fr : Nat} {out : List (List UInt8)} (h : LInv s k fr out) (hk : k < s.length) (hn : s[k] ≠ 10) : LInv s (k + 1) fr out := by
 rcases h with ⟨h1, h2, h3, h4⟩ | ⟨h1, _⟩
 ·refine .inl ⟨hk, by omega, h3, ?_⟩
  rw [show k + 1 - fr = (k - fr) + 1 by omega, List.take_add_one]
  intro hm
  rcases List.mem_append.1 hm with hm | hm
  ·exact h4 hm
  ·rw [List.getElem?_drop, show fr + (k - fr) = k by omega, List.getElem?_eq_getElem hk] at hm
   simp at hm
   exact hn hm.symm
 ·omega
theorem LInv.cut {s : List UInt8} {k fr : Nat} {out : List (List UInt8)} (h : LInv s k fr out) (hk : k ≤ s.length) (hn : ∀ h : k < s.length, s[k] = 10) : fr ≤ k ∧ LInv s (k + 1) (k + 1) (out ++ [(s.take k).drop fr]) := by
 rcases h with ⟨h1, h2, h3, h4⟩ | ⟨h1, _⟩
 ·refine ⟨h2, ?_⟩
  rw [List.drop_take]
  by_cases hlt : k < s.length
  ·refine .inl ⟨hlt, Nat.le_refl _, ?_, by simp⟩
   rw [h3, List.append_assoc]
   congr 1
   have e : s.drop fr = (s.drop fr).take (k - fr) ++ 10 :: s.drop (k + 1) := by
    rw [← hn hlt, ← List.drop_eq_getElem_cons hlt, show s.drop k = (s.drop fr).drop (k - fr) by rw [List.drop_drop, show fr + (k - fr) = k by omega], List.take_append_drop]
   rw [e, split_app 10 _ _ h4, ← e]; rfl
  ·refine .inr ⟨by omega, ?_⟩
   rw [h3]
   congr 1
   have e : (s.drop fr).take (k - fr) = s.drop fr := List.take_of_length_le (by rw [List.length_drop]; omega)
   rw [e] at h4 ⊢
   exact split_piece 10 _ h4
 ·omega
theorem lines_c (s : List UInt8) (g : G) (hlen : s.length ≤ 1000000) :
  CallsIn Wd 0 Tryz.prog 19 #[.string (bs s)] g.w (Ret g fun g' r => Rs g' r ((splitC 10 s).map Str.mk)) := by
 have hs := St.start g
 have le0 := G.le.refl g
 refine enter Tryz.func19 rfl Tryz.ntmps19 rfl ?_
 replace hs := hs.nilrow 9 1 none
 refine W_seq ?_; refine W_region ?_; refine P1 T.ok rfl rfl rfl ?_; refine WL_nil ?_; (with_reducible refine T_then ?_); refine W_seq ?_; refine W_region ?_; refine P1 T.ok rfl rfl rfl ?_; refine WL_nil ?_; (with_reducible refine T_then ?_); refine W_seq ?_; refine W_region ?_; refine P1 T.ok rfl rfl rfl ?_; refine WL_nil ?_; (with_reducible refine T_then ?_); refine W_seq ?_; refine W_seq ?_; refine W_region ?_; refine P1 T.ok rfl rfl rfl ?_; refine WL_nil ?_; (with_reducible refine T_then ?_); refine W_block ?_
 refine W_loop (fun m a' w => ∃ (k fr : Nat) (out : List (List UInt8)) (ra : Option Addr) (rc : Nat) (g' : G), w = g'.w ∧ St g g' [.row 9 1 (.slice ra out.length rc) out.length (out.map fun n => Value.string (bs n))] ∧ G.le g g' ∧ k ≤ s.length + 1 ∧ LInv s k fr out ∧ out.length ≤ k ∧ m = s.length + 1 - k ∧
  Fr 32 [] [(0, .string (bs s)), (3, .slice ra out.length rc), (4, .int .i64 fr), (5, .int .i64 k)] a') (s.length + 1) (fun a' ha => ⟨0, 0, [], none, 0, g, rfl, hs, G.le.refl _, Nat.zero_le _, .inl ⟨Nat.zero_le _, Nat.zero_le _, rfl, by simp⟩, Nat.zero_le _, rfl, ha.keep (by (repeat (first | exact trivial | refine ⟨rfl, ?_⟩)))⟩) ?_
 clear hs
 rintro m a' _ ⟨k, fr, out, ra, rc, g', rfl, hs, le0, hk, hI, hol, rfl, ha'⟩
 revert a'
 (with_reducible refine T_wp ?_); refine W_seq ?_; refine W_seq ?_; refine W_region ?_; (iterate 4 refine P1 T.ok rfl rfl rfl ?_); refine WL_nil ?_; (with_reducible refine T_then ?_)
 by_cases hlt : k ≤ s.length
 ·refine W_yes (b := _) ?_ rfl ?_
  ·rw [bs_size]; exact decide_eq_true (by omega)
  by_cases he : k = s.length
  ·refine W_skip ?_; (with_reducible refine T_then ?_); refine W_seq ?_; refine W_block ?_; refine W_seq ?_; refine W_region ?_; (iterate 5 refine P1 T.ok rfl rfl rfl ?_)
   refine WL_know 16 (b' := true) (by rw [bs_size]; simp [he]) rfl ?_
   (iterate 4 refine S1 allF rfl rfl ?_); refine P1 T.ok rfl rfl rfl ?_; refine WL_nil ?_; (with_reducible refine T_then ?_)
   refine W_yes rfl rfl ?_
   have hc := hI.cut hlt (fun h => by omega)
   refine W_seq ?_; refine W_region ?_; (iterate 4 refine P1 T.ok rfl rfl rfl ?_)
   refine WL_o rfl rfl (OpR_cutS T.ok (s := s) (a := fr) (b := k) rfl rfl rfl rfl ⟨_, rfl⟩ ⟨_, rfl⟩ hc.1 hlt ?_)
   skip
   refine WL_o rfl rfl (OpR_lit T.ok rfl hs (vs := [(0, .string (bs ((s.take k).drop fr)))]) (cells := [.string (bs ((s.take k).drop fr))]) rfl rfl rfl rfl rfl rfl (by decide) (by decide) (by kernel_rfl) rfl ?_); clear hs; rintro bl2 gl2 hs hqe; replace le0 := le0.trans hqe
   skip
   refine WL_o rfl rfl (OpR_append T.ok 1 rfl hs rfl rfl rfl rfl rfl rfl rfl (by decide) rfl (Src.of_row (hs.own 0 _ rfl).1).2 (by simp [Value.oneCell']) (by show (out.length + 1) * 16 ≤ _; omega) (by unfold maxLen; show out.length + 1 ≤ _; omega) ?_); clear hs; rintro a9 c9 g9 hs hqe; replace le0 := le0.trans hqe
   replace hs := hs.drop 0
   refine P1 T.ok rfl rfl rfl ?_; refine WL_nil ?_; (with_reducible refine T_then ?_); refine W_region ?_; (iterate 3 refine P1 T.ok rfl rfl rfl ?_); refine WL_nil ?_; (with_reducible refine T_bn ?_); (with_reducible refine T_then ?_); refine W_region ?_; (iterate 3 refine P1 T.ok rfl rfl rfl ?_); refine WL_nil ?_
   refine fun a ha => ⟨s.length + 1 - (k + 1), by omega, k + 1, k + 1, out ++ [(s.take k).drop fr], a9, c9, g9, rfl, ?_, le0, by omega, hc.2, by rw [List.length_append, List.length_singleton]; omega, rfl, ha.keep ⟨rfl, by rw [List.length_append, List.length_singleton]; rfl, kI rfl (by rw [wr (by omega) (by omega)]; omega), kI rfl (by rw [wr (by omega) (by omega)]; omega), trivial⟩⟩
   rw [List.map_append, List.length_append, List.length_singleton]
   exact hs
  ·have hk2 : k < s.length := by omega
   refine W_skip ?_; (with_reducible refine T_then ?_); refine W_seq ?_; refine W_block ?_; refine W_seq ?_; refine W_region ?_; (iterate 5 refine P1 T.ok rfl rfl rfl ?_)
   refine WL_know 16 (b' := false) (by rw [bs_size]; simp; omega) rfl ?_
   refine P1 T.ok rfl rfl rfl ?_; refine P1 T.ok rfl rfl rfl ?_
   refine WL_o rfl rfl (OpR_idxS T.ok rfl rfl rfl rfl rfl (by omega) (by simpa using hk2) ?_)
   refine P1 T.ok rfl rfl rfl ?_; refine P1 T.ok rfl rfl rfl ?_; refine WL_nil ?_; (with_reducible refine T_then ?_)
   by_cases h10 : s[k] = 10
   ·refine W_yes (b := _) ?_ rfl ?_
    ·simp [h10]
    have hc := hI.cut hlt (fun h => h10)
    refine W_seq ?_; refine W_region ?_; (iterate 4 refine P1 T.ok rfl rfl rfl ?_)
    refine WL_o rfl rfl (OpR_cutS T.ok (s := s) (a := fr) (b := k) rfl rfl rfl rfl ⟨_, rfl⟩ ⟨_, rfl⟩ hc.1 hlt ?_)
    skip
    refine WL_o rfl rfl (OpR_lit T.ok rfl hs (vs := [(0, .string (bs ((s.take k).drop fr)))]) (cells := [.string (bs ((s.take k).drop fr))]) rfl rfl rfl rfl rfl rfl (by decide) (by decide) (by kernel_rfl) rfl ?_); clear hs; rintro bl2 gl2 hs hqe; replace le0 := le0.trans hqe
    skip
    refine WL_o rfl rfl (OpR_append T.ok 1 rfl hs rfl rfl rfl rfl rfl rfl rfl (by decide) rfl (Src.of_row (hs.own 0 _ rfl).1).2 (by simp [Value.oneCell']) (by show (out.length + 1) * 16 ≤ _; omega) (by unfold maxLen; show out.length + 1 ≤ _; omega) ?_); clear hs; rintro a9 c9 g9 hs hqe; replace le0 := le0.trans hqe
    replace hs := hs.drop 0
    refine P1 T.ok rfl rfl rfl ?_; refine WL_nil ?_; (with_reducible refine T_then ?_); refine W_region ?_; (iterate 3 refine P1 T.ok rfl rfl rfl ?_); refine WL_nil ?_; (with_reducible refine T_bn ?_); (with_reducible refine T_then ?_); refine W_region ?_; (iterate 3 refine P1 T.ok rfl rfl rfl ?_); refine WL_nil ?_
    refine fun a ha => ⟨s.length + 1 - (k + 1), by omega, k + 1, k + 1, out ++ [(s.take k).drop fr], a9, c9, g9, rfl, ?_, le0, by omega, hc.2, by rw [List.length_append, List.length_singleton]; omega, rfl, ha.keep ⟨rfl, by rw [List.length_append, List.length_singleton]; rfl, kI rfl (by rw [wr (by omega) (by omega)]; omega), kI rfl (by rw [wr (by omega) (by omega)]; omega), trivial⟩⟩
    rw [List.map_append, List.length_append, List.length_singleton]
    exact hs
   ·refine W_no (b := _) ?_ rfl ?_
    ·simp
     intro h; exact h10 (UInt8.toNat_inj.1 (show s[k].toNat = 10 by omega))
    have hc := hI.next hk2 h10
    refine W_skip ?_; (with_reducible refine T_bn ?_); (with_reducible refine T_then ?_); refine W_region ?_; (iterate 3 refine P1 T.ok rfl rfl rfl ?_); refine WL_nil ?_
    exact fun a ha => ⟨s.length + 1 - (k + 1), by omega, k + 1, fr, out, ra, rc, _, rfl, hs, le0, by omega, hc, by omega, rfl, ha.keep ⟨rfl, rfl, rfl, kI rfl (by rw [wr (by omega) (by omega)]; omega), trivial⟩⟩
 ·refine W_no (b := _) ?_ rfl ?_
  ·rw [bs_size]; exact decide_eq_false (by omega)
  have hout : splitC 10 s = out := by
   rcases hI with ⟨h1, _⟩ | ⟨_, h2⟩
   ·omega
   ·exact h2
  obtain ⟨gy, hwy, hsy, hqy, hrl⟩ := hs.fzRow (α := Str) (xs := out.map Str.mk) (i := 0) rfl (RcL.strs _ _)
  replace hs := hsy
  rw [← hwy]
  refine W_exit ?_; (with_reducible refine T_tx ?_; with_reducible refine T_tx ?_); (with_reducible refine T_bx ?_); (with_reducible refine T_then ?_); refine W_seq ?_; refine W_region ?_; refine P1 T.ok rfl rfl rfl ?_; refine P1 T.ok rfl rfl rfl ?_; refine WL_nil ?_; (with_reducible refine T_then ?_)
  refine W_ret ?_
  skip
  exact ret1 rfl rfl (hs.ret (by rw [hout]; exact hrl))

end Go.Proofs.YtnaeopehmdcplaaGreatDoor

/- few: a flow, shortened. -/
namespace Go.Proofs.YtnaeopehmdcplaaGreatDoor
open Go Go.K
set_option maxRecDepth 10000
attribute [local irreducible] W WL OpR bitAnd bitOr bitXor bitClr bitNot shlI shrI
set_option maxHeartbeats 4000000

theorem min_int (n m : Nat) : (if (m : Int) < (n : Int) then (m : Int) else (n : Int)) = ((min n m : Nat) : Int) := by split <;> omega
end Go.Proofs.YtnaeopehmdcplaaGreatDoor

/- The law's fixed examples. -/
namespace Go.Proofs.YtnaeopehmdcplaaGreatDoor
open Go Go.K
set_option maxRecDepth 10000
attribute [local irreducible] W WL OpR bitAnd bitOr bitXor bitClr bitNot shlI shrI
set_option maxHeartbeats 8000000

def saH0 : List UInt8 := (109 :: 111 :: 118 :: 101 :: 32 :: 53 :: 46 :: 46 :: 49 :: 48 :: 10 :: 115 :: 116 :: 101 :: 112 :: 32 :: 48 :: 32 :: 114 :: 101 :: 99 :: 105 :: 112 :: 101 :: 32 :: 49 :: 50 :: 32 :: 116 :: 111 :: 111 :: 108 :: 115 :: 32 :: 49 :: 44 :: 50 :: 32 :: 116 :: 105 :: 109 :: 101 :: 32 :: 49 :: 48 :: 46 :: 46 :: 50 :: 48 :: 32 :: 110 :: 101 :: 120 :: 116 :: 32 :: 49 :: 10 :: [])
def saR1 : List UInt8 := (115 :: 116 :: 101 :: 112 :: 32 :: 49 :: 32 :: 114 :: 101 :: 99 :: 105 :: 112 :: 101 :: 32 :: 51 :: 32 :: 116 :: 111 :: 111 :: 108 :: 115 :: 32 :: 55 :: 32 :: 116 :: 105 :: 109 :: 101 :: 32 :: 53 :: 46 :: 46 :: 53 :: 32 :: 110 :: 101 :: 120 :: 116 :: 32 :: 45 :: 32 :: 98 :: 97 :: 99 :: 107 :: 32 :: 48 :: 32 :: 108 :: 105 :: 109 :: 105 :: 116 :: 32 :: 51 :: 10 :: 119 :: 105 :: 110 :: 100 :: 111 :: 119 :: 32 :: 48 :: 32 :: 49 :: 32 :: 54 :: 48 :: 10 :: [])
def saR2 : List UInt8 := (115 :: 116 :: 101 :: 112 :: 32 :: 49 :: 32 :: 114 :: 101 :: 99 :: 105 :: 112 :: 101 :: 32 :: 51 :: 32 :: 116 :: 111 :: 111 :: 108 :: 115 :: 32 :: 55 :: 32 :: 116 :: 105 :: 109 :: 101 :: 32 :: 53 :: 46 :: 46 :: 53 :: 32 :: 110 :: 101 :: 120 :: 116 :: 32 :: 45 :: 10 :: 119 :: 105 :: 110 :: 100 :: 111 :: 119 :: 32 :: 48 :: 32 :: 50 :: 32 :: 54 :: 48 :: [])
def saR3 : List UInt8 := (115 :: 116 :: 101 :: 112 :: 32 :: 50 :: 32 :: 114 :: 101 :: 99 :: 105 :: 112 :: 101 :: 32 :: 51 :: 32 :: 116 :: 111 :: 111 :: 108 :: 115 :: 32 :: 55 :: 32 :: 116 :: 105 :: 109 :: 101 :: 32 :: 53 :: 46 :: 46 :: 53 :: 32 :: 110 :: 101 :: 120 :: 116 :: 32 :: 45 :: [])
def saR0 : List UInt8 := (35 :: 32 :: 120 :: 10 :: [])
theorem sa_cat1 : saH0 ++ saR1 = saS := by kernel_rfl
theorem sa_cat2 : saR0 ++ saH0 ++ saR2 = saT := by kernel_rfl
theorem sa_cat3 : saH0 ++ saR3 = saU := by kernel_rfl
theorem printRes_yes {f : Flow} (h : valid f = true) : printRes f = .tuple #[.string (bs (printM f)), .int .i64 0] := by unfold printRes; rw [if_pos h]
theorem printRes_no {f : Flow} (h : valid f = false) : printRes f = .tuple #[.string (bs []), .int .i64 40] := by unfold printRes; rw [if_neg (by rw [h]; decide)]
theorem sa_same : sameF saF saF = true := (sameF_iff _ _).2 rfl
theorem sa_diff : sameF saF flow0 = false := by kernel_rfl
theorem sa_no : valid flow0 = false := by kernel_rfl
theorem rflow0 (g : G) : RFlow g (.agg #[.int .i64 0, .int .i64 0, .slice none 0 0, .slice none 0 0]) flow0 := ⟨none, 0, 0, none, 0, 0, rfl, Rs.nil g, Rs.nil g⟩

theorem sane_c (g : G) (hF : FlAt g) : CallsIn Wd 0 Tryz.prog 6 #[] g.w (Ret g fun _ r => r = .bool true) := by
 have hs := St.start g
 have le0 := G.le.refl g
 refine enter Tryz.func6 rfl Tryz.ntmps6 rfl ?_
 refine W_seq ?_; refine W_region ?_; refine P1 T.ok rfl rfl rfl ?_; refine WL_nil ?_; (with_reducible refine T_then ?_); refine W_seq ?_; refine W_region ?_; refine P1 T.ok rfl rfl rfl ?_; refine WL_nil ?_; (with_reducible refine T_then ?_); refine W_seq ?_; refine W_region ?_; refine P1 T.ok rfl rfl rfl ?_
 skip
 refine WL_o rfl rfl (OpR_addS (p := saH0) (q := saR1) rfl rfl rfl (by decide) ?_)
 rw [sa_cat1]
 refine P1 T.ok rfl rfl rfl ?_; refine WL_nil ?_; (with_reducible refine T_then ?_); refine W_seq ?_; refine W_region ?_; refine P1 T.ok rfl rfl rfl ?_
 refine WL_o rfl rfl (OpR_ret cl16 allF rfl rfl rfl rfl rfl (parse_c saS _ (by decide) (hF.mono le0)) ?_); rintro g1 _ hf1 hp; replace hs := hs.call hf1; have hqe := hf1.le; replace le0 := G.le.trans le0 hqe
 rw [sa_s] at hp
 obtain ⟨_, rfl, a1, n1, c1, a2, n2, c2, rfl, rs0, rs1⟩ := hp
 obtain ⟨_, _, e⟩ := rs0.isSlice; obtain rfl : n1 = 2 := (Value.slice.inj e).2.1; clear e
 obtain ⟨_, _, e⟩ := rs1.isSlice; obtain rfl : n2 = 1 := (Value.slice.inj e).2.1; clear e
 (iterate 4 refine P1 T.ok rfl rfl rfl ?_)
 refine WL_o rfl rfl (OpR_alloc T.ok rfl hs rfl rfl ?_); clear hs; rintro bf g1 hs hqe; replace le0 := G.le.trans le0 hqe; replace rs0 := rs0.mono hqe; replace rs1 := rs1.mono hqe
 skip
 refine WL_n rfl (OpR_storeO T.ok 0 rfl hs rfl rfl rfl rfl rfl rfl rfl rfl rfl ?_); replace hs := hs; rintro g1 hs hqe; replace le0 := G.le.trans le0 hqe; replace rs0 := rs0.mono hqe; replace rs1 := rs1.mono hqe
 refine P1 T.ok rfl rfl rfl ?_; refine P1 T.ok rfl rfl rfl ?_; refine WL_nil ?_; (with_reducible refine T_then ?_); refine W_seq ?_; refine W_region ?_; refine WL_o rfl rfl (OpR_loadO T.ok 0 rfl hs rfl rfl rfl ?_)
 refine WL_o rfl rfl (OpR_ret cl11 allF rfl rfl rfl rfl rfl (print_c _ saF _ ⟨_, _, _, _, _, _, rfl, rs0, rs1⟩ (hF.mono le0)) ?_); rintro g1 _ hf1 hp; replace hs := hs.call hf1; have hqe := hf1.le; replace le0 := G.le.trans le0 hqe; replace rs0 := rs0.mono hqe; replace rs1 := rs1.mono hqe
 rw [printRes_yes saF_valid, saF_print] at hp
 subst hp
 (iterate 5 refine P1 T.ok rfl rfl rfl ?_); refine WL_nil ?_; (with_reducible refine T_then ?_); refine W_seq ?_; refine W_region ?_; refine P1 T.ok rfl rfl rfl ?_
 refine WL_o rfl rfl (OpR_addS (p := saR0) (q := saH0) rfl rfl rfl (by decide) ?_)
 refine WL_o rfl rfl (OpR_addS (p := saR0 ++ saH0) (q := saR2) rfl rfl rfl (by decide) ?_)
 rw [sa_cat2]
 skip
 refine WL_o rfl rfl (OpR_ret cl16 allF rfl rfl rfl rfl rfl (parse_c saT _ (by decide) (hF.mono le0)) ?_); rintro g1 _ hf1 hp; replace hs := hs.call hf1; have hqe := hf1.le; replace le0 := G.le.trans le0 hqe; replace rs0 := rs0.mono hqe; replace rs1 := rs1.mono hqe
 rw [sa_t] at hp
 obtain rfl := hp
 (iterate 4 refine P1 T.ok rfl rfl rfl ?_)
 refine WL_o rfl rfl (OpR_alloc T.ok rfl hs rfl rfl ?_); clear hs; rintro b8 g1 hs hqe; replace le0 := G.le.trans le0 hqe; replace rs0 := rs0.mono hqe; replace rs1 := rs1.mono hqe
 skip
 refine WL_n rfl (OpR_storeO T.ok 0 rfl hs rfl rfl rfl rfl rfl rfl rfl rfl rfl ?_); replace hs := hs; rintro g1 hs hqe; replace le0 := G.le.trans le0 hqe; replace rs0 := rs0.mono hqe; replace rs1 := rs1.mono hqe
 replace hs := hs.drop 0
 refine P1 T.ok rfl rfl rfl ?_; refine P1 T.ok rfl rfl rfl ?_; refine WL_nil ?_; (with_reducible refine T_then ?_); refine W_seq ?_; refine W_region ?_; refine P1 T.ok rfl rfl rfl ?_
 refine WL_o rfl rfl (OpR_addS (p := saH0) (q := saR3) rfl rfl rfl (by decide) ?_)
 rw [sa_cat3]
 skip
 refine WL_o rfl rfl (OpR_ret cl16 allF rfl rfl rfl rfl rfl (parse_c saU _ (by decide) (hF.mono le0)) ?_); rintro g1 _ hf1 hp; replace hs := hs.call hf1; have hqe := hf1.le; replace le0 := G.le.trans le0 hqe; replace rs0 := rs0.mono hqe; replace rs1 := rs1.mono hqe
 rw [sa_u] at hp
 obtain rfl := hp
 (iterate 4 refine P1 T.ok rfl rfl rfl ?_)
 refine WL_o rfl rfl (OpR_alloc T.ok rfl hs rfl rfl ?_); clear hs; rintro b11 g1 hs hqe; replace le0 := G.le.trans le0 hqe; replace rs0 := rs0.mono hqe; replace rs1 := rs1.mono hqe
 skip
 refine WL_n rfl (OpR_storeO T.ok 0 rfl hs rfl rfl rfl rfl rfl rfl rfl rfl rfl ?_); replace hs := hs; rintro g1 hs hqe; replace le0 := G.le.trans le0 hqe; replace rs0 := rs0.mono hqe; replace rs1 := rs1.mono hqe
 replace hs := hs.drop 0
 refine P1 T.ok rfl rfl rfl ?_; refine P1 T.ok rfl rfl rfl ?_; refine WL_nil ?_; (with_reducible refine T_then ?_); refine W_seq ?_; refine W_region ?_
 refine WL_o rfl rfl (OpR_ret cl16 allF rfl rfl rfl rfl rfl (parse_c [] _ (by decide) (hF.mono le0)) ?_); rintro g1 _ hf1 hp; replace hs := hs.call hf1; have hqe := hf1.le; replace le0 := G.le.trans le0 hqe; replace rs0 := rs0.mono hqe; replace rs1 := rs1.mono hqe
 rw [sa_e] at hp
 obtain rfl := hp
 (iterate 4 refine P1 T.ok rfl rfl rfl ?_)
 refine WL_o rfl rfl (OpR_alloc T.ok rfl hs rfl rfl ?_); clear hs; rintro b14 g1 hs hqe; replace le0 := G.le.trans le0 hqe; replace rs0 := rs0.mono hqe; replace rs1 := rs1.mono hqe
 skip
 refine WL_n rfl (OpR_storeO T.ok 0 rfl hs rfl rfl rfl rfl rfl rfl rfl rfl rfl ?_); replace hs := hs; rintro g1 hs hqe; replace le0 := G.le.trans le0 hqe; replace rs0 := rs0.mono hqe; replace rs1 := rs1.mono hqe
 replace hs := hs.drop 0
 generalize hSS : saS = S
 refine P1 T.ok rfl rfl rfl ?_; refine P1 T.ok rfl rfl rfl ?_; refine WL_nil ?_; (with_reducible refine T_then ?_); refine W_seq ?_; refine W_seq ?_; refine W_region ?_; refine P1 T.ok rfl rfl rfl ?_; refine WL_o rfl rfl (OpR_loadO T.ok 0 rfl hs rfl rfl rfl ?_); (iterate 4 refine P1 T.ok rfl rfl rfl ?_); refine WL_o rfl rfl (OpR_loadO T.ok 0 rfl hs rfl rfl rfl ?_); (iterate 3 refine P1 T.ok rfl rfl rfl ?_); refine WL_nil ?_; (with_reducible refine T_then ?_)
 refine W_no rfl rfl ?_
 refine W_skip ?_; (with_reducible refine T_then ?_); refine W_seq ?_; refine W_region ?_; (iterate 12 refine P1 T.ok rfl rfl rfl ?_)
 refine WL_know 71 (b' := true) (by simp) rfl ?_
 (iterate 29 refine P1 T.ok rfl rfl rfl ?_); refine WL_o rfl rfl (OpR_loadO T.ok 0 rfl hs rfl rfl rfl ?_)
 refine WL_o rfl rfl (OpR_idx T.ok rfl rs0 (y := sa1) rfl rfl rfl rfl rfl rfl rfl ?_)
 rintro bq pq ys hep ⟨ta, tn, tc, na, nn, nc, rfl, _, _⟩
 refine P1 T.ok rfl rfl rfl ?_
 refine WL_o rfl rfl (OpR_loadE T.ok 5 rfl hep rfl rfl ?_)
 (iterate 4 refine P1 T.ok rfl rfl rfl ?_); refine WL_o rfl rfl (OpR_loadO T.ok 0 rfl hs rfl rfl rfl ?_)
 refine WL_o rfl rfl (OpR_idx T.ok rfl rs1 (y := ⟨0, 1, 60⟩) rfl rfl rfl rfl rfl rfl rfl ?_)
 rintro bq2 pq2 ys hep2 rfl
 refine P1 T.ok rfl rfl rfl ?_
 refine WL_o rfl rfl (OpR_loadE T.ok 2 rfl hep2 rfl rfl ?_)
 (iterate 3 refine P1 T.ok rfl rfl rfl ?_); refine WL_o rfl rfl (OpR_loadO T.ok 0 rfl hs rfl rfl rfl ?_)
 refine WL_o rfl rfl (OpR_ret cl8 allF rfl rfl rfl rfl rfl (valid_c _ saF _ ⟨_, _, _, _, _, _, rfl, rs0, rs1⟩) ?_); rintro g1 _ hf1 hp; replace hs := hs.call hf1; have hqe := hf1.le; replace le0 := G.le.trans le0 hqe; replace rs0 := rs0.mono hqe; replace rs1 := rs1.mono hqe
 rw [saF_valid] at hp
 subst hp
 refine P1 T.ok rfl rfl rfl ?_; refine P1 T.ok rfl rfl rfl ?_
 refine WL_o rfl rfl (OpR_build T.ok rfl (vs := []) (cells := [.int .i64 0, .int .i64 0, .slice none 0 0, .slice none 0 0]) rfl rfl rfl rfl [(0, 1), (1, 1), (2, 1), (3, 1)] rfl (by kernel_rfl) ?_)
 skip
 refine WL_o rfl rfl (OpR_ret cl8 allF rfl rfl rfl rfl rfl (valid_c _ flow0 _ (rflow0 _)) ?_); rintro g1 _ hf1 hp; replace hs := hs.call hf1; have hqe := hf1.le; replace le0 := G.le.trans le0 hqe; replace rs0 := rs0.mono hqe; replace rs1 := rs1.mono hqe
 rw [sa_no] at hp
 subst hp
 (iterate 3 refine P1 T.ok rfl rfl rfl ?_); refine WL_o rfl rfl (OpR_loadO T.ok 0 rfl hs rfl rfl rfl ?_); refine WL_o rfl rfl (OpR_loadO T.ok 0 rfl hs rfl rfl rfl ?_)
 refine WL_o rfl rfl (OpR_ret cl14 allF rfl rfl rfl rfl rfl (same_c _ _ saF saF _ ⟨_, _, _, _, _, _, rfl, rs0, rs1⟩ ⟨_, _, _, _, _, _, rfl, rs0, rs1⟩) ?_); rintro g1 _ hf1 hp; replace hs := hs.call hf1; have hqe := hf1.le; replace le0 := G.le.trans le0 hqe; replace rs0 := rs0.mono hqe; replace rs1 := rs1.mono hqe
 rw [sa_same] at hp
 subst hp
 refine P1 T.ok rfl rfl rfl ?_; refine P1 T.ok rfl rfl rfl ?_; refine WL_o rfl rfl (OpR_loadO T.ok 0 rfl hs rfl rfl rfl ?_)
 refine WL_o rfl rfl (OpR_build T.ok rfl (vs := []) (cells := [.int .i64 0, .int .i64 0, .slice none 0 0, .slice none 0 0]) rfl rfl rfl rfl [(0, 1), (1, 1), (2, 1), (3, 1)] rfl (by kernel_rfl) ?_)
 skip
 refine WL_o rfl rfl (OpR_ret cl14 allF rfl rfl rfl rfl rfl (same_c _ _ saF flow0 _ ⟨_, _, _, _, _, _, rfl, rs0, rs1⟩ (rflow0 _)) ?_); rintro g1 _ hf1 hp; replace hs := hs.call hf1; have hqe := hf1.le; replace le0 := G.le.trans le0 hqe; replace rs0 := rs0.mono hqe; replace rs1 := rs1.mono hqe
 rw [sa_diff] at hp
 subst hp
 (iterate 3 refine P1 T.ok rfl rfl rfl ?_); refine WL_nil ?_; (with_reducible refine T_then ?_)
 refine W_ret ?_
 skip
 exact ret1 rfl rfl (hs.ret rfl)
end Go.Proofs.YtnaeopehmdcplaaGreatDoor
