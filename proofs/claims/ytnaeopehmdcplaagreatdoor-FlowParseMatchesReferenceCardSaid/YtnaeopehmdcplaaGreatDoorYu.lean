/- The walk through the reference's Parse. -/
import Derived.Test.YtnaeopehmdcplaaGreatDoorYt
import Derived.Test.YtnaeopehmdcplaaGreatDoorYi

/- The reference's readMove, readWindow. -/
namespace Go.Proofs.YtnaeopehmdcplaaGreatDoor
open Go Go.K
set_option maxRecDepth 10000
attribute [local irreducible] W WL OpR bitAnd bitOr bitXor bitClr bitNot shlI shrI
set_option maxHeartbeats 16000000

def stFact (g0 : G) (L : List Ent) : Fact := ⟨fun _ g => St g0 g L, fun _ _ _ hf h => h.call hf⟩
theorem retC2 {fn : Func} {tb : Tb} {P : Program} {N : Nat} {l : Env} {g0 g : G} {L : List Ent} {R : Ending → World → Prop} (htb : tb.ok P) (i : Nat) {t tt u b : Nat} {cs : List Value} {E : TypeId} {fz : Nat × Nat} {v v2 : Value} (hr : fn.results = #[.cell t tt, .tmp u]) (hs : St g0 g L) (hi : L[i]? = some (.obj b (.cells cs.toArray E fz)))
  (hl : lk l t = some (.pointer (some ⟨b, 0, none⟩))) (hv : ldl tb tt cs 0 = some v) (hl2 : lk l u = some v2) (hR : R (.returned (.tuple #[v, v2])) g.w) (a : Act) (ha : Fr N [] l a) : bodyPost P fn R .ret a g.w := by
 refine ⟨ha.defers, _, ?_, hR⟩
 have := run_loadVar (P := P) (w := g.w) (off := 0) (o := 0) htb hv (obj_cells (hs.own i _ hi).2.1)
 simp only [Nat.add_zero] at this
 simp [results, hr, ha.get t _ hl, ha.get u _ hl2, asAddr, this]



theorem rreadMove_c (line : List UInt8) (g : G) (hsl : line.length ≤ 1000000) :
  CallsIn Wd 0 Tryz.prog 51 #[.string (bs line)] g.w (Ret g fun _ r => r = .tuple #[.int .i64 (readMoveR line).1.1, .int .i64 (readMoveR line).1.2, .bool ((readMoveR line).2 && rightMoves ⟨(readMoveR line).1.1, (readMoveR line).1.2, [], []⟩)]) := by
 have hs := St.start g
 have le0 := G.le.refl g
 refine enter Tryz.func51 rfl Tryz.ntmps51 rfl ?_
 refine W_seq ?_; refine W_region ?_; (iterate 3 refine P1 T.ok rfl rfl rfl ?_); refine WL_nil ?_; (with_reducible refine T_then ?_); refine W_seq ?_; refine W_region ?_; refine P1 T.ok rfl rfl rfl ?_
 refine WL_o rfl rfl (OpR_build T.ok rfl (vs := [(0, .string (bs line)), (2, .bool true)]) (cells := [.string (bs line), .int .i64 0, .bool true]) rfl rfl rfl rfl [(0, 1), (1, 1), (2, 1)] rfl (by kernel_rfl) ?_)
 refine WL_o rfl rfl (OpR_box rfl hs rfl rfl ?_); clear hs; rintro b g1 hs hqe; replace le0 := G.le.trans le0 hqe
 obtain ⟨ok0, hok0⟩ : ∃ x : Bool, x = true := ⟨true, rfl⟩
 obtain ⟨r0, hdr0⟩ : ∃ r, line.drop 0 = r := ⟨_, rfl⟩
 have hat0 : 0 ≤ line.length := Nat.zero_le _
 have hr0 : r0 = line := hdr0.symm
 replace hs : St g g1 (txO b line 0 ok0 :: []) := by rw [hok0]; exact hs
 refine P1 T.ok rfl rfl rfl ?_; refine WL_nil ?_; (with_reducible refine T_then ?_); refine W_seq ?_; refine W_region ?_; refine P1 T.ok rfl rfl rfl ?_
 obtain ⟨ok1, r1, hq1⟩ : ∃ x y, wordR (wMove ++ [32]) ok0 r0 = (x, y) := ⟨_, _, rfl⟩
 have hc := word_c (w := wMove ++ [32]) hat0 hsl (by simp only [List.length_append, List.length_cons, List.length_nil, wMove]; omega) hs
 rw [hdr0, hq1] at hc
 refine WL_o rfl rfl (OpR_st cl68 allF rfl rfl rfl rfl rfl hc ?_)
 clear hs hc
 rintro g1 _ hqe ⟨rfl, a1, hat1, hdr1, hs⟩; replace le0 := G.le.trans le0 hqe
 dsimp only at hdr1 hs
 refine WL_nil ?_; (with_reducible refine T_then ?_); refine W_seq ?_; refine W_region ?_; refine P1 T.ok rfl rfl rfl ?_
 obtain ⟨n2, ok2, r2, hq2⟩ : ∃ x y z, numR ok1 r1 = (x, y, z) := ⟨_, _, _, rfl⟩
 have hc := tnumber_c hat1 hsl hs
 rw [hdr1, hq2] at hc
 refine WL_o rfl rfl (OpR_st cl69 allF rfl rfl rfl rfl rfl hc ?_)
 clear hs hc
 rintro g1 _ hqe ⟨rfl, a2, hat2, hdr2, hs⟩; replace le0 := G.le.trans le0 hqe
 dsimp only at hdr2 hs
 refine P1 T.ok rfl rfl rfl ?_; refine WL_nil ?_; (with_reducible refine T_then ?_); refine W_seq ?_; refine W_region ?_; refine P1 T.ok rfl rfl rfl ?_
 obtain ⟨ok3, r3, hq3⟩ : ∃ x y, wordR ([46, 46]) ok2 r2 = (x, y) := ⟨_, _, rfl⟩
 have hc := word_c (w := [46, 46]) hat2 hsl (by simp only [List.length_cons, List.length_nil]; omega) hs
 rw [hdr2, hq3] at hc
 refine WL_o rfl rfl (OpR_st cl68 allF rfl rfl rfl rfl rfl hc ?_)
 clear hs hc
 rintro g1 _ hqe ⟨rfl, a3, hat3, hdr3, hs⟩; replace le0 := G.le.trans le0 hqe
 dsimp only at hdr3 hs
 refine WL_nil ?_; (with_reducible refine T_then ?_); refine W_seq ?_; refine W_region ?_; refine P1 T.ok rfl rfl rfl ?_
 obtain ⟨n4, ok4, r4, hq4⟩ : ∃ x y z, numR ok3 r3 = (x, y, z) := ⟨_, _, _, rfl⟩
 have hc := tnumber_c hat3 hsl hs
 rw [hdr3, hq4] at hc
 refine WL_o rfl rfl (OpR_st cl69 allF rfl rfl rfl rfl rfl hc ?_)
 clear hs hc
 rintro g1 _ hqe ⟨rfl, a4, hat4, hdr4, hs⟩; replace le0 := G.le.trans le0 hqe
 dsimp only at hdr4 hs
 have hrm : readMoveR line = (((n2 : Int), (n4 : Int)), endR ok4 r4) := by
  unfold readMoveR
  rw [← hr0, ← hok0, hq1]; dsimp only
  rw [hq2]; dsimp only
  rw [hq3]; dsimp only
  rw [hq4]
 rw [hrm, endR_at hdr4 hat4]
 unfold txO at hs
 cases ok4 with
 | false =>
  refine P1 T.ok rfl rfl rfl ?_; refine WL_nil ?_; (with_reducible refine T_then ?_); refine W_seq ?_; refine W_region ?_; (iterate 5 refine P1 T.ok rfl rfl rfl ?_); refine WL_o rfl rfl (OpR_loadO T.ok 0 rfl hs rfl rfl rfl ?_); refine P1 T.ok rfl rfl rfl ?_; (iterate 7 refine S1 allF rfl rfl ?_); refine P1 T.ok rfl rfl rfl ?_; refine P1 T.ok rfl rfl rfl ?_; (iterate 3 refine S1 allF rfl rfl ?_); (iterate 4 refine P1 T.ok rfl rfl rfl ?_); refine WL_nil ?_; (with_reducible refine T_then ?_)
  exact W_ret (ret3 rfl rfl rfl rfl (hs.ret rfl))
 | true =>
  cases e1 : decide ((a4 : Int) = (line.length : Int)) with
  | false =>
   have e1' : a4 ≠ line.length := by simp at e1; omega
   refine P1 T.ok rfl rfl rfl ?_; refine WL_nil ?_; (with_reducible refine T_then ?_); refine W_seq ?_; refine W_region ?_; (iterate 5 refine P1 T.ok rfl rfl rfl ?_); refine WL_o rfl rfl (OpR_loadO T.ok 0 rfl hs rfl rfl rfl ?_); (iterate 4 refine P1 T.ok rfl rfl rfl ?_); refine WL_o rfl rfl (OpR_loadO T.ok 0 rfl hs rfl rfl rfl ?_); (iterate 5 refine P1 T.ok rfl rfl rfl ?_)
   refine WL_know 34 (b' := false) (by rw [bs_size]; simp; omega) rfl ?_
   (iterate 3 refine S1 allF rfl rfl ?_); (iterate 4 refine P1 T.ok rfl rfl rfl ?_); refine WL_nil ?_; (with_reducible refine T_then ?_)
   exact W_ret (ret3 rfl rfl rfl rfl (hs.ret rfl))
  | true =>
   have e1' : a4 = line.length := by simp at e1; omega
   refine P1 T.ok rfl rfl rfl ?_; refine WL_nil ?_; (with_reducible refine T_then ?_); refine W_seq ?_; refine W_region ?_; (iterate 5 refine P1 T.ok rfl rfl rfl ?_); refine WL_o rfl rfl (OpR_loadO T.ok 0 rfl hs rfl rfl rfl ?_); (iterate 4 refine P1 T.ok rfl rfl rfl ?_); refine WL_o rfl rfl (OpR_loadO T.ok 0 rfl hs rfl rfl rfl ?_); (iterate 5 refine P1 T.ok rfl rfl rfl ?_)
   refine WL_know 34 (b' := true) (by rw [bs_size]; simp; omega) rfl ?_
   refine P1 T.ok rfl rfl rfl ?_; refine P1 T.ok rfl rfl rfl ?_
   refine WL_o rfl rfl (OpR_ret cl38 allF rfl rfl rfl rfl rfl (rmoves_c (n2 : Int) (n4 : Int) _) ?_); rintro g1 _ hf1 rfl; replace hs := hs.call hf1; have hqe := hf1.le; replace le0 := G.le.trans le0 hqe
   (iterate 4 refine P1 T.ok rfl rfl rfl ?_); refine WL_nil ?_; (with_reducible refine T_then ?_)
   exact W_ret (ret3 rfl rfl rfl rfl (hs.ret rfl))
theorem rreadWindow_c (line : List UInt8) (g : G) (hsl : line.length ≤ 1000000) :
  CallsIn Wd 0 Tryz.prog 53 #[.string (bs line)] g.w (Ret g fun _ r => r = .tuple #[.agg (winV (readWindowR line).1).toArray, .bool ((readWindowR line).2 && rightWindow (readWindowR line).1 40)]) := by
 have hs := St.start g
 have le0 := G.le.refl g
 refine enter Tryz.func53 rfl Tryz.ntmps53 rfl ?_
 refine W_seq ?_; refine W_region ?_
 refine WL_o rfl rfl (OpR_alloc T.ok rfl hs rfl rfl ?_); clear hs; rintro br g1 hs hqe; replace le0 := G.le.trans le0 hqe
 refine P1 T.ok rfl rfl rfl ?_; refine WL_nil ?_; (with_reducible refine T_then ?_); refine W_seq ?_; refine W_region ?_; refine P1 T.ok rfl rfl rfl ?_
 refine WL_o rfl rfl (OpR_build T.ok rfl (vs := [(0, .string (bs line)), (2, .bool true)]) (cells := [.string (bs line), .int .i64 0, .bool true]) rfl rfl rfl rfl [(0, 1), (1, 1), (2, 1)] rfl (by kernel_rfl) ?_)
 refine WL_o rfl rfl (OpR_box rfl hs rfl rfl ?_); clear hs; rintro b g1 hs hqe; replace le0 := G.le.trans le0 hqe
 obtain ⟨ok0, hok0⟩ : ∃ x : Bool, x = true := ⟨true, rfl⟩
 obtain ⟨r0, hdr0⟩ : ∃ r, line.drop 0 = r := ⟨_, rfl⟩
 have hat0 : 0 ≤ line.length := Nat.zero_le _
 have hr0 : r0 = line := hdr0.symm
 refine P1 T.ok rfl rfl rfl ?_; refine WL_nil ?_; (with_reducible refine T_then ?_); refine W_seq ?_; refine W_region ?_
 refine WL_o rfl rfl (OpR_build T.ok rfl (vs := []) (cells := [.int .i64 0, .int .i64 0, .int .i64 0]) rfl rfl rfl rfl [(0, 1), (1, 1), (2, 1)] rfl (by kernel_rfl) ?_)
 skip
 refine WL_o rfl rfl (OpR_alloc T.ok rfl hs rfl rfl ?_); clear hs; rintro bw g1 hs hqe; replace le0 := G.le.trans le0 hqe
 skip
 refine WL_n rfl (OpR_storeO T.ok 0 rfl hs rfl rfl rfl rfl rfl rfl rfl rfl rfl ?_); replace hs := hs; rintro g1 hs hqe; replace le0 := G.le.trans le0 hqe
 replace hs := hs.front (i := 1) rfl
 replace hs : St g g1 (txO b line 0 ok0 :: .obj bw (.cells [.int .i64 0, .int .i64 0, .int .i64 0].toArray 53 (0, 0)) :: .obj br (.cells [.int .i64 0, .int .i64 0, .int .i64 0].toArray 53 (0, 0)) :: []) := by rw [hok0]; exact hs
 refine WL_nil ?_; (with_reducible refine T_then ?_); refine W_seq ?_; refine W_region ?_; refine P1 T.ok rfl rfl rfl ?_
 obtain ⟨ok1, r1, hq1⟩ : ∃ x y, wordR (wWindow ++ [32]) ok0 r0 = (x, y) := ⟨_, _, rfl⟩
 have hc := word_c (w := wWindow ++ [32]) hat0 hsl (by simp only [List.length_append, List.length_cons, List.length_nil, wWindow]; omega) hs
 rw [hdr0, hq1] at hc
 refine WL_o rfl rfl (OpR_st cl68 allF rfl rfl rfl rfl rfl hc ?_)
 clear hs hc
 rintro g1 _ hqe ⟨rfl, a1, hat1, hdr1, hs⟩; replace le0 := G.le.trans le0 hqe
 dsimp only at hdr1 hs
 refine WL_nil ?_; (with_reducible refine T_then ?_); refine W_seq ?_; refine W_region ?_; refine P1 T.ok rfl rfl rfl ?_
 obtain ⟨n2, ok2, r2, hq2⟩ : ∃ x y z, numR ok1 r1 = (x, y, z) := ⟨_, _, _, rfl⟩
 have hc := tnumber_c hat1 hsl hs
 rw [hdr1, hq2] at hc
 refine WL_o rfl rfl (OpR_st cl69 allF rfl rfl rfl rfl rfl hc ?_)
 clear hs hc
 rintro g1 _ hqe ⟨rfl, a2, hat2, hdr2, hs⟩; replace le0 := G.le.trans le0 hqe
 dsimp only at hdr2 hs
 unfold txO at hs
 refine P1 T.ok rfl rfl rfl ?_
 refine WL_n rfl (OpR_storeO T.ok 1 rfl hs rfl rfl rfl rfl rfl rfl rfl rfl rfl ?_); replace hs := hs; rintro g1 hs hqe; replace le0 := G.le.trans le0 hqe
 replace hs : St g g1 (txO b line a2 ok2 :: .obj bw (.cells [.int .i64 (n2 : Nat), .int .i64 0, .int .i64 0].toArray 53 (0, 0)) :: .obj br (.cells [.int .i64 0, .int .i64 0, .int .i64 0].toArray 53 (0, 0)) :: []) := hs
 refine WL_nil ?_; (with_reducible refine T_then ?_); refine W_seq ?_; refine W_region ?_; refine P1 T.ok rfl rfl rfl ?_
 obtain ⟨ok3, r3, hq3⟩ : ∃ x y, wordR ([32]) ok2 r2 = (x, y) := ⟨_, _, rfl⟩
 have hc := word_c (w := [32]) hat2 hsl (by simp only [List.length_cons, List.length_nil]; omega) hs
 rw [hdr2, hq3] at hc
 refine WL_o rfl rfl (OpR_st cl68 allF rfl rfl rfl rfl rfl hc ?_)
 clear hs hc
 rintro g1 _ hqe ⟨rfl, a3, hat3, hdr3, hs⟩; replace le0 := G.le.trans le0 hqe
 dsimp only at hdr3 hs
 refine WL_nil ?_; (with_reducible refine T_then ?_); refine W_seq ?_; refine W_region ?_; refine P1 T.ok rfl rfl rfl ?_
 obtain ⟨n4, ok4, r4, hq4⟩ : ∃ x y z, numR ok3 r3 = (x, y, z) := ⟨_, _, _, rfl⟩
 have hc := tnumber_c hat3 hsl hs
 rw [hdr3, hq4] at hc
 refine WL_o rfl rfl (OpR_st cl69 allF rfl rfl rfl rfl rfl hc ?_)
 clear hs hc
 rintro g1 _ hqe ⟨rfl, a4, hat4, hdr4, hs⟩; replace le0 := G.le.trans le0 hqe
 dsimp only at hdr4 hs
 unfold txO at hs
 refine P1 T.ok rfl rfl rfl ?_
 refine WL_n rfl (OpR_storeO T.ok 1 rfl hs rfl rfl rfl rfl rfl rfl rfl rfl rfl ?_); replace hs := hs; rintro g1 hs hqe; replace le0 := G.le.trans le0 hqe
 replace hs : St g g1 (txO b line a4 ok4 :: .obj bw (.cells [.int .i64 (n2 : Nat), .int .i64 (n4 : Nat), .int .i64 0].toArray 53 (0, 0)) :: .obj br (.cells [.int .i64 0, .int .i64 0, .int .i64 0].toArray 53 (0, 0)) :: []) := hs
 refine WL_nil ?_; (with_reducible refine T_then ?_); refine W_seq ?_; refine W_region ?_; refine P1 T.ok rfl rfl rfl ?_
 obtain ⟨ok5, r5, hq5⟩ : ∃ x y, wordR ([32]) ok4 r4 = (x, y) := ⟨_, _, rfl⟩
 have hc := word_c (w := [32]) hat4 hsl (by simp only [List.length_cons, List.length_nil]; omega) hs
 rw [hdr4, hq5] at hc
 refine WL_o rfl rfl (OpR_st cl68 allF rfl rfl rfl rfl rfl hc ?_)
 clear hs hc
 rintro g1 _ hqe ⟨rfl, a5, hat5, hdr5, hs⟩; replace le0 := G.le.trans le0 hqe
 dsimp only at hdr5 hs
 refine WL_nil ?_; (with_reducible refine T_then ?_); refine W_seq ?_; refine W_region ?_; refine P1 T.ok rfl rfl rfl ?_
 obtain ⟨n6, ok6, r6, hq6⟩ : ∃ x y z, numR ok5 r5 = (x, y, z) := ⟨_, _, _, rfl⟩
 have hc := tnumber_c hat5 hsl hs
 rw [hdr5, hq6] at hc
 refine WL_o rfl rfl (OpR_st cl69 allF rfl rfl rfl rfl rfl hc ?_)
 clear hs hc
 rintro g1 _ hqe ⟨rfl, a6, hat6, hdr6, hs⟩; replace le0 := G.le.trans le0 hqe
 dsimp only at hdr6 hs
 unfold txO at hs
 refine P1 T.ok rfl rfl rfl ?_
 refine WL_n rfl (OpR_storeO T.ok 1 rfl hs rfl rfl rfl rfl rfl rfl rfl rfl rfl ?_); replace hs := hs; rintro g1 hs hqe; replace le0 := G.le.trans le0 hqe
 replace hs : St g g1 (.obj b (.cells [.string (bs line), .int .i64 a6, .bool ok6].toArray 100 (0, 0)) :: .obj bw (.cells [.int .i64 (n2 : Nat), .int .i64 (n4 : Nat), .int .i64 (n6 : Nat)].toArray 53 (0, 0)) :: .obj br (.cells [.int .i64 0, .int .i64 0, .int .i64 0].toArray 53 (0, 0)) :: []) := hs
 have hrm : readWindowR line = (⟨(n2 : Int), (n4 : Int), (n6 : Int)⟩, endR ok6 r6) := by
  unfold readWindowR
  rw [← hr0, ← hok0, hq1]; dsimp only
  rw [hq2]; dsimp only
  rw [hq3]; dsimp only
  rw [hq4]; dsimp only
  rw [hq5]; dsimp only
  rw [hq6]
 rw [hrm, endR_at hdr6 hat6]
 cases ok6 with
 | false =>
  refine WL_nil ?_; (with_reducible refine T_then ?_); refine W_seq ?_
  apply W_drawN allF rfl (Fact.eq _ :: Fact.eq _ :: Fact.eq _ :: Fact.eq _ :: Fact.eq _ :: Fact.eq _ :: Fact.eq _ :: Fact.eq _ :: Fact.eq _ :: Fact.eq _ :: Fact.eq _ :: Fact.eq _ :: Fact.eq _ :: Fact.eq _ :: Fact.eq _ :: Fact.eq _ :: Fact.eq _ :: Fact.eq _ :: (stFact g (.obj b (.cells [.string (bs line), .int .i64 a6, .bool false].toArray 100 (0, 0)) :: .obj bw (.cells [.int .i64 (n2 : Nat), .int .i64 (n4 : Nat), .int .i64 (n6 : Nat)].toArray 53 (0, 0)) :: .obj br (.cells [.int .i64 (n2 : Nat), .int .i64 (n4 : Nat), .int .i64 (n6 : Nat)].toArray 53 (0, 0)) :: [])) :: []) 19 [(17, 42)] [] [0, 1, 2, 3, 4, 5, 6, 7, 8, 9, 10, 11, 12, 13, 14, 15, 16] 18 rfl (by decide) (by kernel_rfl) (by kernel_rfl)
  case houts => exact rfl
  case hsoft => (repeat (first | exact softN | apply softE | refine softC (soft_eq _) ?_ | refine softC (soft_rs _) ?_ | refine softC (soft_step _ _) ?_ | refine softC (soft_stepV _) ?_ | refine softC (soft_wayV _) ?_ | refine softC (soft_intPtr _) ?_ | refine softC (soft_y6 _) ?_ | refine softC (soft_lst _) ?_ | refine softO (by exact rfl) ?_))
  ·refine M_cons (M_anc (js := []) (by kernel_rfl) (by exact rfl) (by exact rfl) fun gd hf => ?_) ?_
   ·have hsd := hs.dr.call hf; have hfe := (G.le_dr _).trans hf.le
    refine QA_nil ?_
    (refine D_yes rfl ?_; refine OpR_loadO T.ok 1 rfl hsd rfl rfl rfl ?_; refine ⟨_, rfl, Fr0.refl _, ?_⟩; exact rfl)
   refine M_cons (M_anc (js := []) (by kernel_rfl) (by exact rfl) (by exact rfl) fun gd hf => ?_) ?_
   ·have hsd := hs.dr.call hf; have hfe := (G.le_dr _).trans hf.le
    refine QA_nil ?_
    (refine D_yes rfl ?_; refine OpR_pure _ T.ok rfl ?_; refine ⟨_, rfl, Fr0.refl _, ?_⟩; exact rfl)
   refine M_cons (M_anc (js := [(1, 26)]) (by kernel_rfl) (by exact rfl) (by exact rfl) fun gd hf => ?_) ?_
   ·have hsd := hs.dr.call hf; have hfe := (G.le_dr _).trans hf.le
    refine QA_eq rfl ?_
    refine QA_nil ?_
    (refine D_yes rfl ?_; refine OpR_pure _ T.ok rfl ?_; refine ⟨_, rfl, Fr0.refl _, ?_⟩; exact rfl)
   refine M_cons (M_anc (js := [(2, 27)]) (by kernel_rfl) (by exact rfl) (by exact rfl) fun gd hf => ?_) ?_
   ·have hsd := hs.dr.call hf; have hfe := (G.le_dr _).trans hf.le
    refine QA_eq rfl ?_
    refine QA_nil ?_
    (refine D_yes rfl ?_; refine OpR_pure _ T.ok rfl ?_; refine ⟨_, rfl, Fr0.refl _, ?_⟩; exact rfl)
   refine M_cons (M_anc (js := [(3, 28)]) (by kernel_rfl) (by exact rfl) (by exact rfl) fun gd hf => ?_) ?_
   ·have hsd := hs.dr.call hf; have hfe := (G.le_dr _).trans hf.le
    refine QA_eq rfl ?_
    refine QA_nil ?_
    (refine D_yes rfl ?_; refine OpR_loadO T.ok 0 rfl hsd rfl rfl rfl ?_; refine ⟨_, rfl, Fr0.refl _, ?_⟩; exact rfl)
   refine M_cons (M_anc (js := [(4, 29)]) (by kernel_rfl) (by exact rfl) (by exact rfl) fun gd hf => ?_) ?_
   ·have hsd := hs.dr.call hf; have hfe := (G.le_dr _).trans hf.le
    refine QA_eq rfl ?_
    refine QA_nil ?_
    (refine D_yes rfl ?_; refine OpR_pure _ T.ok rfl ?_; refine ⟨_, rfl, Fr0.refl _, ?_⟩; exact rfl)
   refine M_cons (M_anc (js := [(5, 30)]) (by kernel_rfl) (by exact rfl) (by exact rfl) fun gd hf => ?_) ?_
   ·have hsd := hs.dr.call hf; have hfe := (G.le_dr _).trans hf.le
    refine QA_eq rfl ?_
    refine QA_nil ?_
    (refine D_no rfl ?_; exact rfl)
   refine M_cons (M_anc (js := [(6, 31), (5, 30)]) (by kernel_rfl) (by exact rfl) (by exact rfl) fun gd hf => ?_) ?_
   ·have hsd := hs.dr.call hf; have hfe := (G.le_dr _).trans hf.le
    refine QA_eq rfl ?_; refine QA_eq rfl ?_
    refine QA_nil ?_
    (refine D_no rfl ?_; exact rfl)
   refine M_cons (M_anc (js := [(7, 32), (5, 30)]) (by kernel_rfl) (by exact rfl) (by exact rfl) fun gd hf => ?_) ?_
   ·have hsd := hs.dr.call hf; have hfe := (G.le_dr _).trans hf.le
    refine QA_eq rfl ?_; refine QA_eq rfl ?_
    refine QA_nil ?_
    (refine D_no rfl ?_; exact rfl)
   refine M_cons (M_anc (js := [(8, 33), (5, 30)]) (by kernel_rfl) (by exact rfl) (by exact rfl) fun gd hf => ?_) ?_
   ·have hsd := hs.dr.call hf; have hfe := (G.le_dr _).trans hf.le
    refine QA_eq rfl ?_; refine QA_eq rfl ?_
    refine QA_nil ?_
    (refine D_no rfl ?_; exact rfl)
   refine M_cons (M_anc (js := [(5, 30)]) (by kernel_rfl) (by exact rfl) (by exact rfl) fun gd hf => ?_) ?_
   ·have hsd := hs.dr.call hf; have hfe := (G.le_dr _).trans hf.le
    refine QA_eq rfl ?_
    refine QA_nil ?_
    (refine D_no rfl ?_; exact rfl)
   refine M_cons (M_anc (js := [(10, 35), (5, 30)]) (by kernel_rfl) (by exact rfl) (by exact rfl) fun gd hf => ?_) ?_
   ·have hsd := hs.dr.call hf; have hfe := (G.le_dr _).trans hf.le
    refine QA_eq rfl ?_; refine QA_eq rfl ?_
    refine QA_nil ?_
    (refine D_no rfl ?_; exact rfl)
   refine M_cons (M_anc (js := [(9, 34), (11, 36), (5, 30)]) (by kernel_rfl) (by exact rfl) (by exact rfl) fun gd hf => ?_) ?_
   ·have hsd := hs.dr.call hf; have hfe := (G.le_dr _).trans hf.le
    refine QA_eq rfl ?_; refine QA_eq rfl ?_; refine QA_eq rfl ?_
    refine QA_nil ?_
    (refine D_no rfl ?_; exact rfl)
   refine M_cons (M_anc (js := [(5, 30), (12, 37)]) (by kernel_rfl) (by exact rfl) (by exact rfl) fun gd hf => ?_) ?_
   ·have hsd := hs.dr.call hf; have hfe := (G.le_dr _).trans hf.le
    refine QA_eq rfl ?_; refine QA_eq rfl ?_
    refine QA_nil ?_
    (refine D_yes rfl ?_; refine OpR_pure _ T.ok rfl ?_; refine ⟨_, rfl, Fr0.refl _, ?_⟩; exact rfl)
   refine M_cons (M_anc (js := [(13, 38)]) (by kernel_rfl) (by exact rfl) (by exact rfl) fun gd hf => ?_) ?_
   ·have hsd := hs.dr.call hf; have hfe := (G.le_dr _).trans hf.le
    refine QA_eq rfl ?_
    refine QA_nil ?_
    (refine D_yes rfl ?_; refine OpR_pure _ T.ok rfl ?_; refine ⟨_, rfl, Fr0.refl _, ?_⟩; exact rfl)
   refine M_cons (M_anc (js := [(14, 39)]) (by kernel_rfl) (by exact rfl) (by exact rfl) fun gd hf => ?_) ?_
   ·have hsd := hs.dr.call hf; have hfe := (G.le_dr _).trans hf.le
    refine QA_eq rfl ?_
    refine QA_nil ?_
    (refine D_no rfl ?_; exact rfl)
   refine M_cons (M_anc (js := [(15, 40), (14, 39), (14, 39)]) (by kernel_rfl) (by exact rfl) (by exact rfl) fun gd hf => ?_) ?_
   ·have hsd := hs.dr.call hf; have hfe := (G.le_dr _).trans hf.le
    refine QA_eq rfl ?_; refine QA_eq rfl ?_; refine QA_eq rfl ?_
    refine QA_nil ?_
    (refine D_no rfl ?_; exact rfl)
   refine M_cons (M_free (js := [(14, 39), (16, 41)]) (by kernel_rfl) (by exact rfl) fun gd hf => ?_) ?_
   ·have hfe := (G.le_dr _).trans hf
    refine QA_eq rfl ?_; refine QA_eq rfl ?_
    refine QA_nil ?_
    (refine D_yes rfl ?_; refine OpR_pure _ T.ok rfl ?_; refine ⟨_, rfl, Fr0.refl _, ?_⟩; exact rfl)
   refine M_cons (M_eat (js := [(0, 25), (0, 25)]) (by kernel_rfl) fun gd hf => ?_) ?_
   ·have hsd := hs.dr.call hf; have hfe := (G.le_dr _).trans hf.le
    refine QA_eq rfl ?_; refine QA_eq rfl ?_
    refine QA_nil ?_
    refine ⟨rfl, ?_⟩
    refine OpR_storeO T.ok 2 rfl hsd rfl rfl rfl rfl rfl rfl rfl rfl rfl ?_
    intro g8 hs8 hqe8
    exact ⟨g8, rfl, hqe8, hs8⟩
   exact M_nil
  intro g1 hf1; rintro ⟨_, hE⟩; refine QA_eq rfl ?_; refine QA_nil ?_
  have hqe := (G.le_dr _).trans hf1; replace le0 := G.le.trans le0 hqe
  replace hs : St g g1 [.obj b (.cells [.string (bs line), .int .i64 a6, .bool false].toArray 100 (0, 0)), .obj bw (.cells [.int .i64 (n2 : Nat), .int .i64 (n4 : Nat), .int .i64 (n6 : Nat)].toArray 53 (0, 0)), .obj br (.cells [.int .i64 (n2 : Nat), .int .i64 (n4 : Nat), .int .i64 (n6 : Nat)].toArray 53 (0, 0))] := hE
  refine P1 T.ok rfl rfl rfl ?_; refine WL_nil ?_; (with_reducible refine T_then ?_)
  refine W_ret ?_
  skip
  exact retC2 T.ok 2 rfl hs rfl rfl rfl rfl (hs.ret rfl)
 | true =>
  cases e1 : decide ((a6 : Int) = (line.length : Int)) with
  | false =>
   refine WL_nil ?_; (with_reducible refine T_then ?_); refine W_seq ?_
   apply W_drawN allF rfl (Fact.eq _ :: Fact.eq _ :: Fact.eq _ :: Fact.eq _ :: Fact.eq _ :: Fact.eq _ :: Fact.eq _ :: Fact.eq _ :: Fact.eq _ :: Fact.eq _ :: Fact.eq _ :: Fact.eq _ :: Fact.eq _ :: Fact.eq _ :: Fact.eq _ :: Fact.eq _ :: Fact.eq _ :: Fact.eq _ :: (stFact g (.obj b (.cells [.string (bs line), .int .i64 a6, .bool true].toArray 100 (0, 0)) :: .obj bw (.cells [.int .i64 (n2 : Nat), .int .i64 (n4 : Nat), .int .i64 (n6 : Nat)].toArray 53 (0, 0)) :: .obj br (.cells [.int .i64 (n2 : Nat), .int .i64 (n4 : Nat), .int .i64 (n6 : Nat)].toArray 53 (0, 0)) :: [])) :: []) 19 [(17, 42)] [] [0, 1, 2, 3, 4, 5, 6, 7, 8, 9, 10, 11, 12, 13, 14, 15, 16] 18 rfl (by decide) (by kernel_rfl) (by kernel_rfl)
   case houts => exact rfl
   case hsoft => (repeat (first | exact softN | apply softE | refine softC (soft_eq _) ?_ | refine softC (soft_rs _) ?_ | refine softC (soft_step _ _) ?_ | refine softC (soft_stepV _) ?_ | refine softC (soft_wayV _) ?_ | refine softC (soft_intPtr _) ?_ | refine softC (soft_y6 _) ?_ | refine softC (soft_lst _) ?_ | refine softO (by exact rfl) ?_))
   ·refine M_cons (M_anc (js := []) (by kernel_rfl) (by exact rfl) (by exact rfl) fun gd hf => ?_) ?_
    ·have hsd := hs.dr.call hf; have hfe := (G.le_dr _).trans hf.le
     refine QA_nil ?_
     (refine D_yes rfl ?_; refine OpR_loadO T.ok 1 rfl hsd rfl rfl rfl ?_; refine ⟨_, rfl, Fr0.refl _, ?_⟩; exact rfl)
    refine M_cons (M_anc (js := []) (by kernel_rfl) (by exact rfl) (by exact rfl) fun gd hf => ?_) ?_
    ·have hsd := hs.dr.call hf; have hfe := (G.le_dr _).trans hf.le
     refine QA_nil ?_
     (refine D_yes rfl ?_; refine OpR_pure _ T.ok rfl ?_; refine ⟨_, rfl, Fr0.refl _, ?_⟩; exact rfl)
    refine M_cons (M_anc (js := [(1, 26)]) (by kernel_rfl) (by exact rfl) (by exact rfl) fun gd hf => ?_) ?_
    ·have hsd := hs.dr.call hf; have hfe := (G.le_dr _).trans hf.le
     refine QA_eq rfl ?_
     refine QA_nil ?_
     (refine D_yes rfl ?_; refine OpR_pure _ T.ok rfl ?_; refine ⟨_, rfl, Fr0.refl _, ?_⟩; exact rfl)
    refine M_cons (M_anc (js := [(2, 27)]) (by kernel_rfl) (by exact rfl) (by exact rfl) fun gd hf => ?_) ?_
    ·have hsd := hs.dr.call hf; have hfe := (G.le_dr _).trans hf.le
     refine QA_eq rfl ?_
     refine QA_nil ?_
     (refine D_yes rfl ?_; refine OpR_pure _ T.ok rfl ?_; refine ⟨_, rfl, Fr0.refl _, ?_⟩; exact rfl)
    refine M_cons (M_anc (js := [(3, 28)]) (by kernel_rfl) (by exact rfl) (by exact rfl) fun gd hf => ?_) ?_
    ·have hsd := hs.dr.call hf; have hfe := (G.le_dr _).trans hf.le
     refine QA_eq rfl ?_
     refine QA_nil ?_
     (refine D_yes rfl ?_; refine OpR_loadO T.ok 0 rfl hsd rfl rfl rfl ?_; refine ⟨_, rfl, Fr0.refl _, ?_⟩; exact rfl)
    refine M_cons (M_anc (js := [(4, 29)]) (by kernel_rfl) (by exact rfl) (by exact rfl) fun gd hf => ?_) ?_
    ·have hsd := hs.dr.call hf; have hfe := (G.le_dr _).trans hf.le
     refine QA_eq rfl ?_
     refine QA_nil ?_
     (refine D_yes rfl ?_; refine OpR_pure _ T.ok rfl ?_; refine ⟨_, rfl, Fr0.refl _, ?_⟩; exact rfl)
    refine M_cons (M_anc (js := [(5, 30)]) (by kernel_rfl) (by exact rfl) (by exact rfl) fun gd hf => ?_) ?_
    ·have hsd := hs.dr.call hf; have hfe := (G.le_dr _).trans hf.le
     refine QA_eq rfl ?_
     refine QA_nil ?_
     (refine D_yes rfl ?_; refine OpR_pure _ T.ok rfl ?_; refine ⟨_, rfl, Fr0.refl _, ?_⟩; exact rfl)
    refine M_cons (M_anc (js := [(6, 31), (5, 30)]) (by kernel_rfl) (by exact rfl) (by exact rfl) fun gd hf => ?_) ?_
    ·have hsd := hs.dr.call hf; have hfe := (G.le_dr _).trans hf.le
     refine QA_eq rfl ?_; refine QA_eq rfl ?_
     refine QA_nil ?_
     (refine D_yes rfl ?_; refine OpR_pure _ T.ok rfl ?_; refine ⟨_, rfl, Fr0.refl _, ?_⟩; exact rfl)
    refine M_cons (M_anc (js := [(7, 32), (5, 30)]) (by kernel_rfl) (by exact rfl) (by exact rfl) fun gd hf => ?_) ?_
    ·have hsd := hs.dr.call hf; have hfe := (G.le_dr _).trans hf.le
     refine QA_eq rfl ?_; refine QA_eq rfl ?_
     refine QA_nil ?_
     (refine D_yes rfl ?_; refine OpR_pure _ T.ok rfl ?_; refine ⟨_, rfl, Fr0.refl _, ?_⟩; exact rfl)
    refine M_cons (M_anc (js := [(8, 33), (5, 30)]) (by kernel_rfl) (by exact rfl) (by exact rfl) fun gd hf => ?_) ?_
    ·have hsd := hs.dr.call hf; have hfe := (G.le_dr _).trans hf.le
     refine QA_eq rfl ?_; refine QA_eq rfl ?_
     refine QA_nil ?_
     (refine D_yes rfl ?_; refine OpR_loadO T.ok 0 rfl hsd rfl rfl rfl ?_; refine ⟨_, rfl, Fr0.refl _, ?_⟩; exact rfl)
    refine M_cons (M_anc (js := [(5, 30)]) (by kernel_rfl) (by exact rfl) (by exact rfl) fun gd hf => ?_) ?_
    ·have hsd := hs.dr.call hf; have hfe := (G.le_dr _).trans hf.le
     refine QA_eq rfl ?_
     refine QA_nil ?_
     (refine D_yes rfl ?_; refine OpR_pure _ T.ok rfl ?_; refine ⟨_, rfl, Fr0.refl _, ?_⟩; exact rfl)
    refine M_cons (M_anc (js := [(10, 35), (5, 30)]) (by kernel_rfl) (by exact rfl) (by exact rfl) fun gd hf => ?_) ?_
    ·have hsd := hs.dr.call hf; have hfe := (G.le_dr _).trans hf.le
     refine QA_eq rfl ?_; refine QA_eq rfl ?_
     refine QA_nil ?_
     (refine D_yes rfl ?_; refine OpR_pure _ T.ok rfl ?_; refine ⟨_, rfl, Fr0.refl _, ?_⟩; exact rfl)
    refine M_cons (M_anc (js := [(9, 34), (11, 36), (5, 30)]) (by kernel_rfl) (by exact rfl) (by exact rfl) fun gd hf => ?_) ?_
    ·have hsd := hs.dr.call hf; have hfe := (G.le_dr _).trans hf.le
     refine QA_eq rfl ?_; refine QA_eq rfl ?_; refine QA_eq rfl ?_
     refine QA_nil ?_
     refine D_yes rfl ?_
     refine OpR_pure _ T.ok rfl ?_
     exact ⟨_, rfl, Fr0.refl _, congrArg Value.bool (show _ = false from by rw [bs_size]; simpa using e1)⟩
    refine M_cons (M_anc (js := [(5, 30), (12, 37)]) (by kernel_rfl) (by exact rfl) (by exact rfl) fun gd hf => ?_) ?_
    ·have hsd := hs.dr.call hf; have hfe := (G.le_dr _).trans hf.le
     refine QA_eq rfl ?_; refine QA_eq rfl ?_
     refine QA_nil ?_
     (refine D_yes rfl ?_; refine OpR_pure _ T.ok rfl ?_; refine ⟨_, rfl, Fr0.refl _, ?_⟩; exact rfl)
    refine M_cons (M_anc (js := [(13, 38)]) (by kernel_rfl) (by exact rfl) (by exact rfl) fun gd hf => ?_) ?_
    ·have hsd := hs.dr.call hf; have hfe := (G.le_dr _).trans hf.le
     refine QA_eq rfl ?_
     refine QA_nil ?_
     (refine D_yes rfl ?_; refine OpR_pure _ T.ok rfl ?_; refine ⟨_, rfl, Fr0.refl _, ?_⟩; exact rfl)
    refine M_cons (M_anc (js := [(14, 39)]) (by kernel_rfl) (by exact rfl) (by exact rfl) fun gd hf => ?_) ?_
    ·have hsd := hs.dr.call hf; have hfe := (G.le_dr _).trans hf.le
     refine QA_eq rfl ?_
     refine QA_nil ?_
     (refine D_no rfl ?_; exact rfl)
    refine M_cons (M_anc (js := [(15, 40), (14, 39), (14, 39)]) (by kernel_rfl) (by exact rfl) (by exact rfl) fun gd hf => ?_) ?_
    ·have hsd := hs.dr.call hf; have hfe := (G.le_dr _).trans hf.le
     refine QA_eq rfl ?_; refine QA_eq rfl ?_; refine QA_eq rfl ?_
     refine QA_nil ?_
     (refine D_no rfl ?_; exact rfl)
    refine M_cons (M_free (js := [(14, 39), (16, 41)]) (by kernel_rfl) (by exact rfl) fun gd hf => ?_) ?_
    ·have hfe := (G.le_dr _).trans hf
     refine QA_eq rfl ?_; refine QA_eq rfl ?_
     refine QA_nil ?_
     (refine D_yes rfl ?_; refine OpR_pure _ T.ok rfl ?_; refine ⟨_, rfl, Fr0.refl _, ?_⟩; exact rfl)
    refine M_cons (M_eat (js := [(0, 25), (0, 25)]) (by kernel_rfl) fun gd hf => ?_) ?_
    ·have hsd := hs.dr.call hf; have hfe := (G.le_dr _).trans hf.le
     refine QA_eq rfl ?_; refine QA_eq rfl ?_
     refine QA_nil ?_
     refine ⟨rfl, ?_⟩
     refine OpR_storeO T.ok 2 rfl hsd rfl rfl rfl rfl rfl rfl rfl rfl rfl ?_
     intro g8 hs8 hqe8
     exact ⟨g8, rfl, hqe8, hs8⟩
    exact M_nil
   intro g1 hf1; rintro ⟨_, hE⟩; refine QA_eq rfl ?_; refine QA_nil ?_
   have hqe := (G.le_dr _).trans hf1; replace le0 := G.le.trans le0 hqe
   replace hs : St g g1 [.obj b (.cells [.string (bs line), .int .i64 a6, .bool true].toArray 100 (0, 0)), .obj bw (.cells [.int .i64 (n2 : Nat), .int .i64 (n4 : Nat), .int .i64 (n6 : Nat)].toArray 53 (0, 0)), .obj br (.cells [.int .i64 (n2 : Nat), .int .i64 (n4 : Nat), .int .i64 (n6 : Nat)].toArray 53 (0, 0))] := hE
   refine P1 T.ok rfl rfl rfl ?_; refine WL_nil ?_; (with_reducible refine T_then ?_)
   refine W_ret ?_
   skip
   exact retC2 T.ok 2 rfl hs rfl rfl rfl rfl (hs.ret rfl)
  | true =>
   refine WL_nil ?_; (with_reducible refine T_then ?_); refine W_seq ?_
   apply W_drawN allF rfl (Fact.eq _ :: Fact.eq _ :: Fact.eq _ :: Fact.eq _ :: Fact.eq _ :: Fact.eq _ :: Fact.eq _ :: Fact.eq _ :: Fact.eq _ :: Fact.eq _ :: Fact.eq _ :: Fact.eq _ :: Fact.eq _ :: Fact.eq _ :: Fact.eq _ :: Fact.eq _ :: Fact.eq _ :: Fact.eq _ :: (stFact g (.obj b (.cells [.string (bs line), .int .i64 a6, .bool true].toArray 100 (0, 0)) :: .obj bw (.cells [.int .i64 (n2 : Nat), .int .i64 (n4 : Nat), .int .i64 (n6 : Nat)].toArray 53 (0, 0)) :: .obj br (.cells [.int .i64 (n2 : Nat), .int .i64 (n4 : Nat), .int .i64 (n6 : Nat)].toArray 53 (0, 0)) :: [])) :: []) 19 [(17, 42)] [] [0, 1, 2, 3, 4, 5, 6, 7, 8, 9, 10, 11, 12, 13, 14, 15, 16] 18 rfl (by decide) (by kernel_rfl) (by kernel_rfl)
   case houts => exact rfl
   case hsoft => (repeat (first | exact softN | apply softE | refine softC (soft_eq _) ?_ | refine softC (soft_rs _) ?_ | refine softC (soft_step _ _) ?_ | refine softC (soft_stepV _) ?_ | refine softC (soft_wayV _) ?_ | refine softC (soft_intPtr _) ?_ | refine softC (soft_y6 _) ?_ | refine softC (soft_lst _) ?_ | refine softO (by exact rfl) ?_))
   ·refine M_cons (M_anc (js := []) (by kernel_rfl) (by exact rfl) (by exact rfl) fun gd hf => ?_) ?_
    ·have hsd := hs.dr.call hf; have hfe := (G.le_dr _).trans hf.le
     refine QA_nil ?_
     (refine D_yes rfl ?_; refine OpR_loadO T.ok 1 rfl hsd rfl rfl rfl ?_; refine ⟨_, rfl, Fr0.refl _, ?_⟩; exact rfl)
    refine M_cons (M_anc (js := []) (by kernel_rfl) (by exact rfl) (by exact rfl) fun gd hf => ?_) ?_
    ·have hsd := hs.dr.call hf; have hfe := (G.le_dr _).trans hf.le
     refine QA_nil ?_
     (refine D_yes rfl ?_; refine OpR_pure _ T.ok rfl ?_; refine ⟨_, rfl, Fr0.refl _, ?_⟩; exact rfl)
    refine M_cons (M_anc (js := [(1, 26)]) (by kernel_rfl) (by exact rfl) (by exact rfl) fun gd hf => ?_) ?_
    ·have hsd := hs.dr.call hf; have hfe := (G.le_dr _).trans hf.le
     refine QA_eq rfl ?_
     refine QA_nil ?_
     (refine D_yes rfl ?_; refine OpR_pure _ T.ok rfl ?_; refine ⟨_, rfl, Fr0.refl _, ?_⟩; exact rfl)
    refine M_cons (M_anc (js := [(2, 27)]) (by kernel_rfl) (by exact rfl) (by exact rfl) fun gd hf => ?_) ?_
    ·have hsd := hs.dr.call hf; have hfe := (G.le_dr _).trans hf.le
     refine QA_eq rfl ?_
     refine QA_nil ?_
     (refine D_yes rfl ?_; refine OpR_pure _ T.ok rfl ?_; refine ⟨_, rfl, Fr0.refl _, ?_⟩; exact rfl)
    refine M_cons (M_anc (js := [(3, 28)]) (by kernel_rfl) (by exact rfl) (by exact rfl) fun gd hf => ?_) ?_
    ·have hsd := hs.dr.call hf; have hfe := (G.le_dr _).trans hf.le
     refine QA_eq rfl ?_
     refine QA_nil ?_
     (refine D_yes rfl ?_; refine OpR_loadO T.ok 0 rfl hsd rfl rfl rfl ?_; refine ⟨_, rfl, Fr0.refl _, ?_⟩; exact rfl)
    refine M_cons (M_anc (js := [(4, 29)]) (by kernel_rfl) (by exact rfl) (by exact rfl) fun gd hf => ?_) ?_
    ·have hsd := hs.dr.call hf; have hfe := (G.le_dr _).trans hf.le
     refine QA_eq rfl ?_
     refine QA_nil ?_
     (refine D_yes rfl ?_; refine OpR_pure _ T.ok rfl ?_; refine ⟨_, rfl, Fr0.refl _, ?_⟩; exact rfl)
    refine M_cons (M_anc (js := [(5, 30)]) (by kernel_rfl) (by exact rfl) (by exact rfl) fun gd hf => ?_) ?_
    ·have hsd := hs.dr.call hf; have hfe := (G.le_dr _).trans hf.le
     refine QA_eq rfl ?_
     refine QA_nil ?_
     (refine D_yes rfl ?_; refine OpR_pure _ T.ok rfl ?_; refine ⟨_, rfl, Fr0.refl _, ?_⟩; exact rfl)
    refine M_cons (M_anc (js := [(6, 31), (5, 30)]) (by kernel_rfl) (by exact rfl) (by exact rfl) fun gd hf => ?_) ?_
    ·have hsd := hs.dr.call hf; have hfe := (G.le_dr _).trans hf.le
     refine QA_eq rfl ?_; refine QA_eq rfl ?_
     refine QA_nil ?_
     (refine D_yes rfl ?_; refine OpR_pure _ T.ok rfl ?_; refine ⟨_, rfl, Fr0.refl _, ?_⟩; exact rfl)
    refine M_cons (M_anc (js := [(7, 32), (5, 30)]) (by kernel_rfl) (by exact rfl) (by exact rfl) fun gd hf => ?_) ?_
    ·have hsd := hs.dr.call hf; have hfe := (G.le_dr _).trans hf.le
     refine QA_eq rfl ?_; refine QA_eq rfl ?_
     refine QA_nil ?_
     (refine D_yes rfl ?_; refine OpR_pure _ T.ok rfl ?_; refine ⟨_, rfl, Fr0.refl _, ?_⟩; exact rfl)
    refine M_cons (M_anc (js := [(8, 33), (5, 30)]) (by kernel_rfl) (by exact rfl) (by exact rfl) fun gd hf => ?_) ?_
    ·have hsd := hs.dr.call hf; have hfe := (G.le_dr _).trans hf.le
     refine QA_eq rfl ?_; refine QA_eq rfl ?_
     refine QA_nil ?_
     (refine D_yes rfl ?_; refine OpR_loadO T.ok 0 rfl hsd rfl rfl rfl ?_; refine ⟨_, rfl, Fr0.refl _, ?_⟩; exact rfl)
    refine M_cons (M_anc (js := [(5, 30)]) (by kernel_rfl) (by exact rfl) (by exact rfl) fun gd hf => ?_) ?_
    ·have hsd := hs.dr.call hf; have hfe := (G.le_dr _).trans hf.le
     refine QA_eq rfl ?_
     refine QA_nil ?_
     (refine D_yes rfl ?_; refine OpR_pure _ T.ok rfl ?_; refine ⟨_, rfl, Fr0.refl _, ?_⟩; exact rfl)
    refine M_cons (M_anc (js := [(10, 35), (5, 30)]) (by kernel_rfl) (by exact rfl) (by exact rfl) fun gd hf => ?_) ?_
    ·have hsd := hs.dr.call hf; have hfe := (G.le_dr _).trans hf.le
     refine QA_eq rfl ?_; refine QA_eq rfl ?_
     refine QA_nil ?_
     (refine D_yes rfl ?_; refine OpR_pure _ T.ok rfl ?_; refine ⟨_, rfl, Fr0.refl _, ?_⟩; exact rfl)
    refine M_cons (M_anc (js := [(9, 34), (11, 36), (5, 30)]) (by kernel_rfl) (by exact rfl) (by exact rfl) fun gd hf => ?_) ?_
    ·have hsd := hs.dr.call hf; have hfe := (G.le_dr _).trans hf.le
     refine QA_eq rfl ?_; refine QA_eq rfl ?_; refine QA_eq rfl ?_
     refine QA_nil ?_
     refine D_yes rfl ?_
     refine OpR_pure _ T.ok rfl ?_
     exact ⟨_, rfl, Fr0.refl _, congrArg Value.bool (show _ = true from by rw [bs_size]; simpa using e1)⟩
    refine M_cons (M_anc (js := [(5, 30), (12, 37)]) (by kernel_rfl) (by exact rfl) (by exact rfl) fun gd hf => ?_) ?_
    ·have hsd := hs.dr.call hf; have hfe := (G.le_dr _).trans hf.le
     refine QA_eq rfl ?_; refine QA_eq rfl ?_
     refine QA_nil ?_
     (refine D_yes rfl ?_; refine OpR_pure _ T.ok rfl ?_; refine ⟨_, rfl, Fr0.refl _, ?_⟩; exact rfl)
    refine M_cons (M_anc (js := [(13, 38)]) (by kernel_rfl) (by exact rfl) (by exact rfl) fun gd hf => ?_) ?_
    ·have hsd := hs.dr.call hf; have hfe := (G.le_dr _).trans hf.le
     refine QA_eq rfl ?_
     refine QA_nil ?_
     (refine D_yes rfl ?_; refine OpR_pure _ T.ok rfl ?_; refine ⟨_, rfl, Fr0.refl _, ?_⟩; exact rfl)
    refine M_cons (M_anc (js := [(14, 39)]) (by kernel_rfl) (by exact rfl) (by exact rfl) fun gd hf => ?_) ?_
    ·have hsd := hs.dr.call hf; have hfe := (G.le_dr _).trans hf.le
     refine QA_eq rfl ?_
     refine QA_nil ?_
     (refine D_yes rfl ?_; refine OpR_loadO T.ok 1 rfl hsd rfl rfl rfl ?_; refine ⟨_, rfl, Fr0.refl _, ?_⟩; exact rfl)
    refine M_cons (M_anc (js := [(15, 40), (14, 39), (14, 39)]) (by kernel_rfl) (by exact rfl) (by exact rfl) fun gd hf => ?_) ?_
    ·have hsd := hs.dr.call hf; have hfe := (G.le_dr _).trans hf.le
     refine QA_eq rfl ?_; refine QA_eq rfl ?_; refine QA_eq rfl ?_
     refine QA_nil ?_
     refine D_yes rfl ?_
     refine OpR_ret cl41 allF rfl rfl rfl rfl rfl (rwindow_c ⟨(n2 : Int), (n4 : Int), (n6 : Int)⟩ 40 _ (by omega) (by omega)) fun g' v h1 h2 => ⟨g', rfl, h1, ?_⟩
     exact h2
    refine M_cons (M_free (js := [(14, 39), (16, 41)]) (by kernel_rfl) (by exact rfl) fun gd hf => ?_) ?_
    ·have hfe := (G.le_dr _).trans hf
     refine QA_eq rfl ?_; refine QA_eq rfl ?_
     refine QA_nil ?_
     (refine D_yes rfl ?_; refine OpR_pure _ T.ok rfl ?_; refine ⟨_, rfl, Fr0.refl _, ?_⟩; exact rfl)
    refine M_cons (M_eat (js := [(0, 25), (0, 25)]) (by kernel_rfl) fun gd hf => ?_) ?_
    ·have hsd := hs.dr.call hf; have hfe := (G.le_dr _).trans hf.le
     refine QA_eq rfl ?_; refine QA_eq rfl ?_
     refine QA_nil ?_
     refine ⟨rfl, ?_⟩
     refine OpR_storeO T.ok 2 rfl hsd rfl rfl rfl rfl rfl rfl rfl rfl rfl ?_
     intro g8 hs8 hqe8
     exact ⟨g8, rfl, hqe8, hs8⟩
    exact M_nil
   intro g1 hf1; rintro ⟨_, hE⟩; refine QA_eq rfl ?_; refine QA_nil ?_
   have hqe := (G.le_dr _).trans hf1; replace le0 := G.le.trans le0 hqe
   replace hs : St g g1 [.obj b (.cells [.string (bs line), .int .i64 a6, .bool true].toArray 100 (0, 0)), .obj bw (.cells [.int .i64 (n2 : Nat), .int .i64 (n4 : Nat), .int .i64 (n6 : Nat)].toArray 53 (0, 0)), .obj br (.cells [.int .i64 (n2 : Nat), .int .i64 (n4 : Nat), .int .i64 (n6 : Nat)].toArray 53 (0, 0))] := hE
   refine P1 T.ok rfl rfl rfl ?_; refine WL_nil ?_; (with_reducible refine T_then ?_)
   refine W_ret ?_
   skip
   exact retC2 T.ok 2 rfl hs rfl rfl rfl rfl (hs.ret rfl)



end Go.Proofs.YtnaeopehmdcplaaGreatDoor

/- The reference's readStep. -/
namespace Go.Proofs.YtnaeopehmdcplaaGreatDoor
open Go Go.K
set_option maxRecDepth 10000
attribute [local irreducible] W WL OpR bitAnd bitOr bitXor bitClr bitNot shlI shrI
set_option maxHeartbeats 16000000






theorem rreadStep_c (line : List UInt8) (i : Nat) (g : G) (hsl : line.length ≤ 1000000) (hi : i ≤ 1000000) :
  CallsIn Wd 0 Tryz.prog 52 #[.string (bs line), .int .i64 i] g.w (Ret g fun g' r => ∃ v, r = .tuple #[v, .bool ((readStepR i line).2 && rightStep (readStepR i line).1 40)] ∧ RStepV g' v (readStepR i line).1) := by
 have hs := St.start g
 have le0 := G.le.refl g
 have hbi : big (i : Int) := ⟨by omega, by omega⟩
 have hdi : decI (i : Int) = dec i := rfl
 have hdl := decI_len hbi
 rw [hdi] at hdl
 refine enter Tryz.func52 rfl Tryz.ntmps52 rfl ?_
 refine W_seq ?_; refine W_region ?_
 refine WL_o rfl rfl (OpR_alloc T.ok rfl hs rfl rfl ?_); clear hs; rintro br g1 hs hqe; replace le0 := G.le.trans le0 hqe
 refine P1 T.ok rfl rfl rfl ?_; refine WL_nil ?_; (with_reducible refine T_then ?_); refine W_seq ?_; refine W_region ?_; refine P1 T.ok rfl rfl rfl ?_
 refine WL_o rfl rfl (OpR_build T.ok rfl (vs := [(0, .string (bs line)), (2, .bool true)]) (cells := [.string (bs line), .int .i64 0, .bool true]) rfl rfl rfl rfl [(0, 1), (1, 1), (2, 1)] rfl (by kernel_rfl) ?_)
 refine WL_o rfl rfl (OpR_box rfl hs rfl rfl ?_); clear hs; rintro b g1 hs hqe; replace le0 := G.le.trans le0 hqe
 obtain ⟨ok0, hok0⟩ : ∃ x : Bool, x = true := ⟨true, rfl⟩
 obtain ⟨r0, hdr0⟩ : ∃ r, line.drop 0 = r := ⟨_, rfl⟩
 have hat0 : 0 ≤ line.length := Nat.zero_le _
 have hr0 : r0 = line := hdr0.symm
 refine P1 T.ok rfl rfl rfl ?_; refine WL_nil ?_; (with_reducible refine T_then ?_); refine W_seq ?_; refine W_region ?_
 refine WL_o rfl rfl (OpR_build T.ok rfl (vs := [(5, .int .i64 (-1))]) (cells := [.int .i64 0, .slice none 0 0, .int .i64 0, .int .i64 0, .slice none 0 0, .int .i64 (-1), .int .i64 0]) rfl rfl rfl rfl [(0, 1), (1, 1), (2, 1), (3, 1), (4, 1), (5, 1), (6, 1)] rfl (by kernel_rfl) ?_)
 skip
 refine WL_o rfl rfl (OpR_alloc T.ok rfl hs rfl rfl ?_); clear hs; rintro b7 g1 hs hqe; replace le0 := G.le.trans le0 hqe
 skip
 refine WL_n rfl (OpR_storeO T.ok 0 rfl hs rfl rfl rfl rfl rfl rfl rfl rfl rfl ?_); replace hs := hs; rintro g1 hs hqe; replace le0 := G.le.trans le0 hqe
 replace hs := hs.front (i := 1) rfl
 replace hs : St g g1 (txO b line 0 ok0 :: .obj b7 (.cells [.int .i64 0, .slice none 0 0, .int .i64 0, .int .i64 0, .slice none 0 0, .int .i64 (-1), .int .i64 0].toArray 50 (0, 0)) :: .obj br (.cells [.int .i64 0, .slice none 0 0, .int .i64 0, .int .i64 0, .slice none 0 0, .int .i64 0, .int .i64 0].toArray 50 (0, 0)) :: []) := by rw [hok0]; exact hs
 have hw1 : tStep ++ decI (i : Int) ++ tRecipe = wStep ++ 32 :: (dec i ++ 32 :: (wRecipe ++ [32])) := by rw [hdi]; simp [tStep, tRecipe, wStep, wRecipe]
 refine WL_nil ?_; (with_reducible refine T_then ?_); refine W_seq ?_; refine W_region ?_; refine P1 T.ok rfl rfl rfl ?_; refine P1 T.ok rfl rfl rfl ?_
 refine WL_o rfl rfl (OpR_ret cl37 allF rfl rfl rfl rfl rfl (digits_c (i : Int) _ hbi) ?_); rintro g1 _ hf1 rfl; replace hs := hs.call hf1; have hqe := hf1.le; replace le0 := G.le.trans le0 hqe
 refine WL_o rfl rfl (OpR_addS (p := tStep) (q := decI (i : Int)) rfl rfl rfl (by rw [hdi]; simp only [tStep, List.length_cons, List.length_nil]; omega) ?_)
 refine WL_o rfl rfl (OpR_addS (p := tStep ++ decI (i : Int)) (q := tRecipe) rfl rfl rfl (by rw [hdi]; simp only [tStep, tRecipe, List.length_append, List.length_cons, List.length_nil]; omega) ?_)
 rw [hw1]
 skip
 obtain ⟨ok1, r1, hq1⟩ : ∃ x y, wordR (wStep ++ 32 :: (dec i ++ 32 :: (wRecipe ++ [32]))) ok0 r0 = (x, y) := ⟨_, _, rfl⟩
 have hc := word_c (w := wStep ++ 32 :: (dec i ++ 32 :: (wRecipe ++ [32]))) hat0 hsl (by simp only [List.length_append, List.length_cons, List.length_nil, wStep, wRecipe]; omega) hs
 rw [hdr0, hq1] at hc
 refine WL_o rfl rfl (OpR_st cl68 allF rfl rfl rfl rfl rfl hc ?_)
 clear hs hc
 rintro g1 _ hqe ⟨rfl, a1, hat1, hdr1, hs⟩; replace le0 := G.le.trans le0 hqe
 dsimp only at hdr1 hs
 refine WL_nil ?_; (with_reducible refine T_then ?_); refine W_seq ?_; refine W_region ?_; refine P1 T.ok rfl rfl rfl ?_
 obtain ⟨n2, ok2, r2, hq2⟩ : ∃ x y z, numR ok1 r1 = (x, y, z) := ⟨_, _, _, rfl⟩
 have hc := tnumber_c hat1 hsl hs
 rw [hdr1, hq2] at hc
 refine WL_o rfl rfl (OpR_st cl69 allF rfl rfl rfl rfl rfl hc ?_)
 clear hs hc
 rintro g1 _ hqe ⟨rfl, a2, hat2, hdr2, hs⟩; replace le0 := G.le.trans le0 hqe
 dsimp only at hdr2 hs
 unfold txO at hs
 refine P1 T.ok rfl rfl rfl ?_
 refine WL_n rfl (OpR_storeO T.ok 1 rfl hs rfl rfl rfl rfl rfl rfl rfl rfl rfl ?_); replace hs := hs; rintro g1 hs hqe; replace le0 := G.le.trans le0 hqe
 replace hs : St g g1 (txO b line a2 ok2 :: .obj b7 (.cells [.int .i64 (n2 : Nat), .slice none 0 0, .int .i64 0, .int .i64 0, .slice none 0 0, .int .i64 (-1), .int .i64 0].toArray 50 (0, 0)) :: .obj br (.cells [.int .i64 0, .slice none 0 0, .int .i64 0, .int .i64 0, .slice none 0 0, .int .i64 0, .int .i64 0].toArray 50 (0, 0)) :: []) := hs
 refine WL_nil ?_; (with_reducible refine T_then ?_); refine W_seq ?_; refine W_region ?_; refine P1 T.ok rfl rfl rfl ?_
 obtain ⟨ok3, r3, hq3⟩ : ∃ x y, wordR (32 :: wTools ++ [32]) ok2 r2 = (x, y) := ⟨_, _, rfl⟩
 have hc := word_c (w := 32 :: wTools ++ [32]) hat2 hsl (by simp only [List.length_append, List.length_cons, List.length_nil, wTools]; omega) hs
 rw [hdr2, hq3] at hc
 refine WL_o rfl rfl (OpR_st cl68 allF rfl rfl rfl rfl rfl hc ?_)
 clear hs hc
 rintro g1 _ hqe ⟨rfl, a3, hat3, hdr3, hs⟩; replace le0 := G.le.trans le0 hqe
 dsimp only at hdr3 hs
 refine WL_nil ?_; (with_reducible refine T_then ?_); refine W_seq ?_; refine W_region ?_; refine P1 T.ok rfl rfl rfl ?_
 obtain ⟨l4, ok4, r4, hq4⟩ : ∃ x y z, numsR ok3 r3 = (x, y, z) := ⟨_, _, _, rfl⟩
 have hc := tnumbers_c hat3 hsl hs
 rw [hdr3, hq4] at hc
 refine WL_o rfl rfl (OpR_st cl70 allF rfl rfl rfl rfl rfl hc ?_)
 clear hs hc
 rintro g1 _ hqe ⟨rs4, a4, hat4, hdr4, hs⟩; replace le0 := G.le.trans le0 hqe
 dsimp only at hdr4 hs rs4
 obtain ⟨ta, tc, rfl⟩ := rs4.isSlice
 unfold txO at hs
 refine P1 T.ok rfl rfl rfl ?_
 refine WL_n rfl (OpR_storeO T.ok 1 rfl hs rfl rfl rfl rfl rfl rfl rfl rfl rfl ?_); replace hs := hs; rintro g1 hs hqe; replace le0 := G.le.trans le0 hqe; replace rs4 := rs4.mono hqe
 replace hs : St g g1 (txO b line a4 ok4 :: .obj b7 (.cells [.int .i64 (n2 : Nat), .slice ta (ints l4).length tc, .int .i64 0, .int .i64 0, .slice none 0 0, .int .i64 (-1), .int .i64 0].toArray 50 (0, 0)) :: .obj br (.cells [.int .i64 0, .slice none 0 0, .int .i64 0, .int .i64 0, .slice none 0 0, .int .i64 0, .int .i64 0].toArray 50 (0, 0)) :: []) := hs
 refine WL_nil ?_; (with_reducible refine T_then ?_); refine W_seq ?_; refine W_region ?_; refine P1 T.ok rfl rfl rfl ?_
 obtain ⟨ok5, r5, hq5⟩ : ∃ x y, wordR (32 :: wTime ++ [32]) ok4 r4 = (x, y) := ⟨_, _, rfl⟩
 have hc := word_c (w := 32 :: wTime ++ [32]) hat4 hsl (by simp only [List.length_append, List.length_cons, List.length_nil, wTime]; omega) hs
 rw [hdr4, hq5] at hc
 refine WL_o rfl rfl (OpR_st cl68 allF rfl rfl rfl rfl rfl hc ?_)
 clear hs hc
 rintro g1 _ hqe ⟨rfl, a5, hat5, hdr5, hs⟩; replace le0 := G.le.trans le0 hqe; replace rs4 := rs4.mono hqe
 dsimp only at hdr5 hs
 refine WL_nil ?_; (with_reducible refine T_then ?_); refine W_seq ?_; refine W_region ?_; refine P1 T.ok rfl rfl rfl ?_
 obtain ⟨n6, ok6, r6, hq6⟩ : ∃ x y z, numR ok5 r5 = (x, y, z) := ⟨_, _, _, rfl⟩
 have hc := tnumber_c hat5 hsl hs
 rw [hdr5, hq6] at hc
 refine WL_o rfl rfl (OpR_st cl69 allF rfl rfl rfl rfl rfl hc ?_)
 clear hs hc
 rintro g1 _ hqe ⟨rfl, a6, hat6, hdr6, hs⟩; replace le0 := G.le.trans le0 hqe; replace rs4 := rs4.mono hqe
 dsimp only at hdr6 hs
 unfold txO at hs
 refine P1 T.ok rfl rfl rfl ?_
 refine WL_n rfl (OpR_storeO T.ok 1 rfl hs rfl rfl rfl rfl rfl rfl rfl rfl rfl ?_); replace hs := hs; rintro g1 hs hqe; replace le0 := G.le.trans le0 hqe; replace rs4 := rs4.mono hqe
 replace hs : St g g1 (txO b line a6 ok6 :: .obj b7 (.cells [.int .i64 (n2 : Nat), .slice ta (ints l4).length tc, .int .i64 (n6 : Nat), .int .i64 0, .slice none 0 0, .int .i64 (-1), .int .i64 0].toArray 50 (0, 0)) :: .obj br (.cells [.int .i64 0, .slice none 0 0, .int .i64 0, .int .i64 0, .slice none 0 0, .int .i64 0, .int .i64 0].toArray 50 (0, 0)) :: []) := hs
 refine WL_nil ?_; (with_reducible refine T_then ?_); refine W_seq ?_; refine W_region ?_; refine P1 T.ok rfl rfl rfl ?_
 obtain ⟨ok7, r7, hq7⟩ : ∃ x y, wordR ([46, 46]) ok6 r6 = (x, y) := ⟨_, _, rfl⟩
 have hc := word_c (w := [46, 46]) hat6 hsl (by simp only [List.length_cons, List.length_nil]; omega) hs
 rw [hdr6, hq7] at hc
 refine WL_o rfl rfl (OpR_st cl68 allF rfl rfl rfl rfl rfl hc ?_)
 clear hs hc
 rintro g1 _ hqe ⟨rfl, a7, hat7, hdr7, hs⟩; replace le0 := G.le.trans le0 hqe; replace rs4 := rs4.mono hqe
 dsimp only at hdr7 hs
 refine WL_nil ?_; (with_reducible refine T_then ?_); refine W_seq ?_; refine W_region ?_; refine P1 T.ok rfl rfl rfl ?_
 obtain ⟨n8, ok8, r8, hq8⟩ : ∃ x y z, numR ok7 r7 = (x, y, z) := ⟨_, _, _, rfl⟩
 have hc := tnumber_c hat7 hsl hs
 rw [hdr7, hq8] at hc
 refine WL_o rfl rfl (OpR_st cl69 allF rfl rfl rfl rfl rfl hc ?_)
 clear hs hc
 rintro g1 _ hqe ⟨rfl, a8, hat8, hdr8, hs⟩; replace le0 := G.le.trans le0 hqe; replace rs4 := rs4.mono hqe
 dsimp only at hdr8 hs
 unfold txO at hs
 refine P1 T.ok rfl rfl rfl ?_
 refine WL_n rfl (OpR_storeO T.ok 1 rfl hs rfl rfl rfl rfl rfl rfl rfl rfl rfl ?_); replace hs := hs; rintro g1 hs hqe; replace le0 := G.le.trans le0 hqe; replace rs4 := rs4.mono hqe
 replace hs : St g g1 (txO b line a8 ok8 :: .obj b7 (.cells [.int .i64 (n2 : Nat), .slice ta (ints l4).length tc, .int .i64 (n6 : Nat), .int .i64 (n8 : Nat), .slice none 0 0, .int .i64 (-1), .int .i64 0].toArray 50 (0, 0)) :: .obj br (.cells [.int .i64 0, .slice none 0 0, .int .i64 0, .int .i64 0, .slice none 0 0, .int .i64 0, .int .i64 0].toArray 50 (0, 0)) :: []) := hs
 refine WL_nil ?_; (with_reducible refine T_then ?_); refine W_seq ?_; refine W_region ?_; refine P1 T.ok rfl rfl rfl ?_
 obtain ⟨ok9, r9, hq9⟩ : ∃ x y, wordR (32 :: wNext ++ [32]) ok8 r8 = (x, y) := ⟨_, _, rfl⟩
 have hc := word_c (w := 32 :: wNext ++ [32]) hat8 hsl (by simp only [List.length_append, List.length_cons, List.length_nil, wNext]; omega) hs
 rw [hdr8, hq9] at hc
 refine WL_o rfl rfl (OpR_st cl68 allF rfl rfl rfl rfl rfl hc ?_)
 clear hs hc
 rintro g1 _ hqe ⟨rfl, a9, hat9, hdr9, hs⟩; replace le0 := G.le.trans le0 hqe; replace rs4 := rs4.mono hqe
 dsimp only at hdr9 hs
 refine WL_nil ?_; (with_reducible refine T_then ?_); refine W_seq ?_; refine W_seq ?_; refine W_region ?_; refine P1 T.ok rfl rfl rfl ?_
 have hb := begins_c (w := [45]) hat9 hsl (by decide) hs
 rw [hdr9] at hb
 refine WL_o rfl rfl (OpR_st cl71 allF rfl rfl rfl rfl rfl hb ?_)
 clear hs hb
 rintro g1 _ hqe ⟨rfl, hs⟩; replace le0 := G.le.trans le0 hqe; replace rs4 := rs4.mono hqe
 refine WL_nil ?_; (with_reducible refine T_then ?_)
 have le1 := G.le.refl g1
 refine W_mid (fun a' w => ∃ (nx : List Nat) (ok10 : Bool) (r10 : List UInt8) (a10 : Nat) (na : Option Addr) (nc : Nat) (g6 : G), nextR ok9 r9 = (nx, ok10, r10) ∧ Rs g6 (.slice na (ints nx).length nc) (ints nx) ∧ a10 ≤ line.length ∧ line.drop a10 = r10 ∧ w = g6.w ∧ G.le g1 g6 ∧ St g g6 (txO b line a10 ok10 :: .obj b7 (.cells [.int .i64 (n2 : Nat), .slice ta (ints l4).length tc, .int .i64 (n6 : Nat), .int .i64 (n8 : Nat), .slice na (ints nx).length nc, .int .i64 (-1), .int .i64 0].toArray 50 (0, 0)) :: .obj br (.cells [.int .i64 0, .slice none 0 0, .int .i64 0, .int .i64 0, .slice none 0 0, .int .i64 0, .int .i64 0].toArray 50 (0, 0)) :: []) ∧
   Fr 75 [] [(0, .string (bs line)), (4, .pointer (some ⟨br, 0, none⟩)), (5, .bool false), (6, .pointer (some ⟨b, 0, none⟩)), (7, .pointer (some ⟨b7, 0, none⟩))] a') ?_ ?_
 ·cases hbe : tBegins [45] ok9 r9 with
  | true =>
   refine W_yes rfl rfl ?_
   refine W_region ?_; refine P1 T.ok rfl rfl rfl ?_
   obtain ⟨ok10, r10, hq10⟩ : ∃ x y, wordR ([45]) ok9 r9 = (x, y) := ⟨_, _, rfl⟩
   have hc := word_c (w := [45]) hat9 hsl (by simp only [List.length_cons, List.length_nil]; omega) hs
   rw [hdr9, hq10] at hc
   refine WL_o rfl rfl (OpR_st cl68 allF rfl rfl rfl rfl rfl hc ?_)
   clear hs hc
   rintro g1 _ hqe ⟨rfl, a10, hat10, hdr10, hs⟩; replace le0 := G.le.trans le0 hqe; replace le1 := G.le.trans le1 hqe; replace rs4 := rs4.mono hqe
   dsimp only at hdr10 hs
   refine WL_nil ?_
   exact fun a ha => ⟨[], ok10, r10, a10, none, 0, g1, by unfold nextR; rw [if_pos hbe, hq10], Rs.nil _, hat10, hdr10, rfl, le1, hs, ha.keep (by (repeat (first | exact trivial | refine ⟨rfl, ?_⟩)))⟩
  | false =>
   refine W_no rfl rfl ?_
   refine W_region ?_; refine P1 T.ok rfl rfl rfl ?_
   obtain ⟨l10, ok10, r10, hq10⟩ : ∃ x y z, numsR ok9 r9 = (x, y, z) := ⟨_, _, _, rfl⟩
   have hc := tnumbers_c hat9 hsl hs
   rw [hdr9, hq10] at hc
   refine WL_o rfl rfl (OpR_st cl70 allF rfl rfl rfl rfl rfl hc ?_)
   clear hs hc
   rintro g1 _ hqe ⟨rs5, a10, hat10, hdr10, hs⟩; replace le0 := G.le.trans le0 hqe; replace le1 := G.le.trans le1 hqe; replace rs4 := rs4.mono hqe
   dsimp only at hdr10 hs rs5
   obtain ⟨na, nc, rfl⟩ := rs5.isSlice
   unfold txO at hs
   refine P1 T.ok rfl rfl rfl ?_
   refine WL_n rfl (OpR_storeO T.ok 1 rfl hs rfl rfl rfl rfl rfl rfl rfl rfl rfl ?_); replace hs := hs; rintro g1 hs hqe; replace le0 := G.le.trans le0 hqe; replace le1 := G.le.trans le1 hqe; replace rs4 := rs4.mono hqe; replace rs5 := rs5.mono hqe
   refine WL_nil ?_
   exact fun a ha => ⟨l10, ok10, r10, a10, na, nc, g1, by unfold nextR; rw [if_neg (by rw [hbe]; decide), hq10], rs5, hat10, hdr10, rfl, le1, hs, ha.keep (by (repeat (first | exact trivial | refine ⟨rfl, ?_⟩)))⟩
 clear hs
 rintro a' _ ⟨nx, ok10, r10, a10, na, nc, g6, hq10, rs5, hat10, hdr10, rfl, hqe, hs, ha'⟩
 replace le0 := G.le.trans le0 hqe; replace le1 := G.le.trans le1 hqe; replace rs4 := rs4.mono hqe
 clear le1
 revert a'
 (with_reducible refine T_wp ?_); refine W_seq ?_; refine W_seq ?_; refine W_region ?_; refine P1 T.ok rfl rfl rfl ?_
 have hb := begins_c (w := [32]) hat10 hsl (by decide) hs
 rw [hdr10] at hb
 refine WL_o rfl rfl (OpR_st cl71 allF rfl rfl rfl rfl rfl hb ?_)
 clear hs hb
 rintro g1 _ hqe ⟨rfl, hs⟩; replace le0 := G.le.trans le0 hqe; replace rs4 := rs4.mono hqe; replace rs5 := rs5.mono hqe
 refine WL_nil ?_; (with_reducible refine T_then ?_)
 have le1 := G.le.refl g1
 refine W_mid (fun a' w => ∃ (bk lm : Int) (ok15 : Bool) (r15 : List UInt8) (a15 : Nat) (g6 : G), backR ok10 r10 = ((bk, lm), ok15, r15) ∧ a15 ≤ line.length ∧ line.drop a15 = r15 ∧ w = g6.w ∧ G.le g1 g6 ∧ St g g6 (txO b line a15 ok15 :: .obj b7 (.cells [.int .i64 (n2 : Nat), .slice ta (ints l4).length tc, .int .i64 (n6 : Nat), .int .i64 (n8 : Nat), .slice na (ints nx).length nc, .int .i64 bk, .int .i64 lm].toArray 50 (0, 0)) :: .obj br (.cells [.int .i64 0, .slice none 0 0, .int .i64 0, .int .i64 0, .slice none 0 0, .int .i64 0, .int .i64 0].toArray 50 (0, 0)) :: []) ∧
   Fr 75 [] [(0, .string (bs line)), (4, .pointer (some ⟨br, 0, none⟩)), (5, .bool false), (6, .pointer (some ⟨b, 0, none⟩)), (7, .pointer (some ⟨b7, 0, none⟩))] a') ?_ ?_
 ·cases hbe : tBegins [32] ok10 r10 with
  | true =>
   refine W_yes rfl rfl ?_
   refine W_seq ?_; refine W_region ?_; refine P1 T.ok rfl rfl rfl ?_
   obtain ⟨ok11, r11, hq11⟩ : ∃ x y, wordR (32 :: wBack ++ [32]) ok10 r10 = (x, y) := ⟨_, _, rfl⟩
   have hc := word_c (w := 32 :: wBack ++ [32]) hat10 hsl (by simp only [List.length_append, List.length_cons, List.length_nil, wBack]; omega) hs
   rw [hdr10, hq11] at hc
   refine WL_o rfl rfl (OpR_st cl68 allF rfl rfl rfl rfl rfl hc ?_)
   clear hs hc
   rintro g1 _ hqe ⟨rfl, a11, hat11, hdr11, hs⟩; replace le0 := G.le.trans le0 hqe; replace le1 := G.le.trans le1 hqe; replace rs4 := rs4.mono hqe; replace rs5 := rs5.mono hqe
   dsimp only at hdr11 hs
   refine WL_nil ?_; (with_reducible refine T_then ?_); refine W_seq ?_; refine W_region ?_; refine P1 T.ok rfl rfl rfl ?_
   obtain ⟨n12, ok12, r12, hq12⟩ : ∃ x y z, numR ok11 r11 = (x, y, z) := ⟨_, _, _, rfl⟩
   have hc := tnumber_c hat11 hsl hs
   rw [hdr11, hq12] at hc
   refine WL_o rfl rfl (OpR_st cl69 allF rfl rfl rfl rfl rfl hc ?_)
   clear hs hc
   rintro g1 _ hqe ⟨rfl, a12, hat12, hdr12, hs⟩; replace le0 := G.le.trans le0 hqe; replace le1 := G.le.trans le1 hqe; replace rs4 := rs4.mono hqe; replace rs5 := rs5.mono hqe
   dsimp only at hdr12 hs
   unfold txO at hs
   refine P1 T.ok rfl rfl rfl ?_
   refine WL_n rfl (OpR_storeO T.ok 1 rfl hs rfl rfl rfl rfl rfl rfl rfl rfl rfl ?_); replace hs := hs; rintro g1 hs hqe; replace le0 := G.le.trans le0 hqe; replace le1 := G.le.trans le1 hqe; replace rs4 := rs4.mono hqe; replace rs5 := rs5.mono hqe
   replace hs : St g g1 (txO b line a12 ok12 :: .obj b7 (.cells [.int .i64 (n2 : Nat), .slice ta (ints l4).length tc, .int .i64 (n6 : Nat), .int .i64 (n8 : Nat), .slice na (ints nx).length nc, .int .i64 (n12 : Nat), .int .i64 0].toArray 50 (0, 0)) :: .obj br (.cells [.int .i64 0, .slice none 0 0, .int .i64 0, .int .i64 0, .slice none 0 0, .int .i64 0, .int .i64 0].toArray 50 (0, 0)) :: []) := hs
   refine WL_nil ?_; (with_reducible refine T_then ?_); refine W_seq ?_; refine W_region ?_; refine P1 T.ok rfl rfl rfl ?_
   obtain ⟨ok13, r13, hq13⟩ : ∃ x y, wordR (32 :: wLimit ++ [32]) ok12 r12 = (x, y) := ⟨_, _, rfl⟩
   have hc := word_c (w := 32 :: wLimit ++ [32]) hat12 hsl (by simp only [List.length_append, List.length_cons, List.length_nil, wLimit]; omega) hs
   rw [hdr12, hq13] at hc
   refine WL_o rfl rfl (OpR_st cl68 allF rfl rfl rfl rfl rfl hc ?_)
   clear hs hc
   rintro g1 _ hqe ⟨rfl, a13, hat13, hdr13, hs⟩; replace le0 := G.le.trans le0 hqe; replace le1 := G.le.trans le1 hqe; replace rs4 := rs4.mono hqe; replace rs5 := rs5.mono hqe
   dsimp only at hdr13 hs
   refine WL_nil ?_; (with_reducible refine T_then ?_); refine W_region ?_; refine P1 T.ok rfl rfl rfl ?_
   obtain ⟨n14, ok14, r14, hq14⟩ : ∃ x y z, numR ok13 r13 = (x, y, z) := ⟨_, _, _, rfl⟩
   have hc := tnumber_c hat13 hsl hs
   rw [hdr13, hq14] at hc
   refine WL_o rfl rfl (OpR_st cl69 allF rfl rfl rfl rfl rfl hc ?_)
   clear hs hc
   rintro g1 _ hqe ⟨rfl, a14, hat14, hdr14, hs⟩; replace le0 := G.le.trans le0 hqe; replace le1 := G.le.trans le1 hqe; replace rs4 := rs4.mono hqe; replace rs5 := rs5.mono hqe
   dsimp only at hdr14 hs
   unfold txO at hs
   refine P1 T.ok rfl rfl rfl ?_
   refine WL_n rfl (OpR_storeO T.ok 1 rfl hs rfl rfl rfl rfl rfl rfl rfl rfl rfl ?_); replace hs := hs; rintro g1 hs hqe; replace le0 := G.le.trans le0 hqe; replace le1 := G.le.trans le1 hqe; replace rs4 := rs4.mono hqe; replace rs5 := rs5.mono hqe
   refine WL_nil ?_
   exact fun a ha => ⟨(n12 : Nat), (n14 : Nat), ok14, r14, a14, g1, by
    unfold backR
    rw [if_pos hbe, hq11]; dsimp only
    rw [hq12]; dsimp only
    rw [hq13]; dsimp only
    rw [hq14], hat14, hdr14, rfl, le1, hs, ha.keep (by (repeat (first | exact trivial | refine ⟨rfl, ?_⟩)))⟩
  | false =>
   refine W_no rfl rfl ?_
   refine W_skip ?_
   exact fun a ha => ⟨-1, 0, ok10, r10, a10, g1, by unfold backR; rw [if_neg (by rw [hbe]; decide)], hat10, hdr10, rfl, le1, hs, ha.keep (by (repeat (first | exact trivial | refine ⟨rfl, ?_⟩)))⟩
 clear hs
 rintro a' _ ⟨bk, lm, ok15, r15, a15, g6, hq15, hat15, hdr15, rfl, hqe, hs, ha'⟩
 replace le0 := G.le.trans le0 hqe; replace le1 := G.le.trans le1 hqe; replace rs4 := rs4.mono hqe; replace rs5 := rs5.mono hqe
 clear le1
 revert a'
 have hrm : readStepR i line = (⟨(n2 : Int), ints l4, (n6 : Int), (n8 : Int), ints nx, bk, lm⟩, endR ok15 r15) := by
  unfold readStepR
  rw [← hr0, ← hok0, hq1]; dsimp only
  rw [hq2]; dsimp only
  rw [hq3]; dsimp only
  rw [hq4]; dsimp only
  rw [hq5]; dsimp only
  rw [hq6]; dsimp only
  rw [hq7]; dsimp only
  rw [hq8]; dsimp only
  rw [hq9]; dsimp only
  rw [hq10]; dsimp only
  rw [hq15]
 rw [hrm, endR_at hdr15 hat15]
 unfold txO at hs
 cases ok15 with
 | false =>
  (with_reducible refine T_wp ?_); refine W_seq ?_
  apply W_drawN allF rfl (Fact.eq _ :: Fact.eq _ :: Fact.eq _ :: Fact.eq _ :: Fact.eq _ :: Fact.eq _ :: Fact.eq _ :: Fact.eq _ :: Fact.eq _ :: Fact.eq _ :: Fact.eq _ :: Fact.eq _ :: Fact.eq _ :: Fact.eq _ :: Fact.eq _ :: Fact.eq _ :: Fact.eq _ :: Fact.eq _ :: (stFact g (.obj b (.cells [.string (bs line), .int .i64 a15, .bool false].toArray 100 (0, 0)) :: .obj b7 (.cells [.int .i64 (n2 : Nat), .slice ta (ints l4).length tc, .int .i64 (n6 : Nat), .int .i64 (n8 : Nat), .slice na (ints nx).length nc, .int .i64 bk, .int .i64 lm].toArray 50 (0, 0)) :: .obj br (.cells [.int .i64 (n2 : Nat), .slice ta (ints l4).length tc, .int .i64 (n6 : Nat), .int .i64 (n8 : Nat), .slice na (ints nx).length nc, .int .i64 bk, .int .i64 lm].toArray 50 (0, 0)) :: [])) :: []) 19 [(17, 74)] [] [0, 1, 2, 3, 4, 5, 6, 7, 8, 9, 10, 11, 12, 13, 14, 15, 16] 18 rfl (by decide) (by kernel_rfl) (by kernel_rfl)
  case houts => exact rfl
  case hsoft => (repeat (first | exact softN | apply softE | refine softC (soft_eq _) ?_ | refine softC (soft_rs _) ?_ | refine softC (soft_step _ _) ?_ | refine softC (soft_stepV _) ?_ | refine softC (soft_wayV _) ?_ | refine softC (soft_intPtr _) ?_ | refine softC (soft_y6 _) ?_ | refine softC (soft_lst _) ?_ | refine softO (by exact rfl) ?_))
  ·refine M_cons (M_anc (js := []) (by kernel_rfl) (by exact rfl) (by exact rfl) fun gd hf => ?_) ?_
   ·have hsd := hs.dr.call hf; have hfe := (G.le_dr _).trans hf.le
    refine QA_nil ?_
    (refine D_yes rfl ?_; refine OpR_loadO T.ok 1 rfl hsd rfl rfl rfl ?_; refine ⟨_, rfl, Fr0.refl _, ?_⟩; exact rfl)
   refine M_cons (M_anc (js := []) (by kernel_rfl) (by exact rfl) (by exact rfl) fun gd hf => ?_) ?_
   ·have hsd := hs.dr.call hf; have hfe := (G.le_dr _).trans hf.le
    refine QA_nil ?_
    (refine D_yes rfl ?_; refine OpR_pure _ T.ok rfl ?_; refine ⟨_, rfl, Fr0.refl _, ?_⟩; exact rfl)
   refine M_cons (M_anc (js := [(1, 58)]) (by kernel_rfl) (by exact rfl) (by exact rfl) fun gd hf => ?_) ?_
   ·have hsd := hs.dr.call hf; have hfe := (G.le_dr _).trans hf.le
    refine QA_eq rfl ?_
    refine QA_nil ?_
    (refine D_yes rfl ?_; refine OpR_pure _ T.ok rfl ?_; refine ⟨_, rfl, Fr0.refl _, ?_⟩; exact rfl)
   refine M_cons (M_anc (js := [(2, 59)]) (by kernel_rfl) (by exact rfl) (by exact rfl) fun gd hf => ?_) ?_
   ·have hsd := hs.dr.call hf; have hfe := (G.le_dr _).trans hf.le
    refine QA_eq rfl ?_
    refine QA_nil ?_
    (refine D_yes rfl ?_; refine OpR_pure _ T.ok rfl ?_; refine ⟨_, rfl, Fr0.refl _, ?_⟩; exact rfl)
   refine M_cons (M_anc (js := [(3, 60)]) (by kernel_rfl) (by exact rfl) (by exact rfl) fun gd hf => ?_) ?_
   ·have hsd := hs.dr.call hf; have hfe := (G.le_dr _).trans hf.le
    refine QA_eq rfl ?_
    refine QA_nil ?_
    (refine D_yes rfl ?_; refine OpR_loadO T.ok 0 rfl hsd rfl rfl rfl ?_; refine ⟨_, rfl, Fr0.refl _, ?_⟩; exact rfl)
   refine M_cons (M_anc (js := [(4, 61)]) (by kernel_rfl) (by exact rfl) (by exact rfl) fun gd hf => ?_) ?_
   ·have hsd := hs.dr.call hf; have hfe := (G.le_dr _).trans hf.le
    refine QA_eq rfl ?_
    refine QA_nil ?_
    (refine D_yes rfl ?_; refine OpR_pure _ T.ok rfl ?_; refine ⟨_, rfl, Fr0.refl _, ?_⟩; exact rfl)
   refine M_cons (M_anc (js := [(5, 62)]) (by kernel_rfl) (by exact rfl) (by exact rfl) fun gd hf => ?_) ?_
   ·have hsd := hs.dr.call hf; have hfe := (G.le_dr _).trans hf.le
    refine QA_eq rfl ?_
    refine QA_nil ?_
    (refine D_no rfl ?_; exact rfl)
   refine M_cons (M_anc (js := [(6, 63), (5, 62)]) (by kernel_rfl) (by exact rfl) (by exact rfl) fun gd hf => ?_) ?_
   ·have hsd := hs.dr.call hf; have hfe := (G.le_dr _).trans hf.le
    refine QA_eq rfl ?_; refine QA_eq rfl ?_
    refine QA_nil ?_
    (refine D_no rfl ?_; exact rfl)
   refine M_cons (M_anc (js := [(7, 64), (5, 62)]) (by kernel_rfl) (by exact rfl) (by exact rfl) fun gd hf => ?_) ?_
   ·have hsd := hs.dr.call hf; have hfe := (G.le_dr _).trans hf.le
    refine QA_eq rfl ?_; refine QA_eq rfl ?_
    refine QA_nil ?_
    (refine D_no rfl ?_; exact rfl)
   refine M_cons (M_anc (js := [(8, 65), (5, 62)]) (by kernel_rfl) (by exact rfl) (by exact rfl) fun gd hf => ?_) ?_
   ·have hsd := hs.dr.call hf; have hfe := (G.le_dr _).trans hf.le
    refine QA_eq rfl ?_; refine QA_eq rfl ?_
    refine QA_nil ?_
    (refine D_no rfl ?_; exact rfl)
   refine M_cons (M_anc (js := [(5, 62)]) (by kernel_rfl) (by exact rfl) (by exact rfl) fun gd hf => ?_) ?_
   ·have hsd := hs.dr.call hf; have hfe := (G.le_dr _).trans hf.le
    refine QA_eq rfl ?_
    refine QA_nil ?_
    (refine D_no rfl ?_; exact rfl)
   refine M_cons (M_anc (js := [(10, 67), (5, 62)]) (by kernel_rfl) (by exact rfl) (by exact rfl) fun gd hf => ?_) ?_
   ·have hsd := hs.dr.call hf; have hfe := (G.le_dr _).trans hf.le
    refine QA_eq rfl ?_; refine QA_eq rfl ?_
    refine QA_nil ?_
    (refine D_no rfl ?_; exact rfl)
   refine M_cons (M_anc (js := [(9, 66), (11, 68), (5, 62)]) (by kernel_rfl) (by exact rfl) (by exact rfl) fun gd hf => ?_) ?_
   ·have hsd := hs.dr.call hf; have hfe := (G.le_dr _).trans hf.le
    refine QA_eq rfl ?_; refine QA_eq rfl ?_; refine QA_eq rfl ?_
    refine QA_nil ?_
    (refine D_no rfl ?_; exact rfl)
   refine M_cons (M_anc (js := [(5, 62), (12, 69)]) (by kernel_rfl) (by exact rfl) (by exact rfl) fun gd hf => ?_) ?_
   ·have hsd := hs.dr.call hf; have hfe := (G.le_dr _).trans hf.le
    refine QA_eq rfl ?_; refine QA_eq rfl ?_
    refine QA_nil ?_
    (refine D_yes rfl ?_; refine OpR_pure _ T.ok rfl ?_; refine ⟨_, rfl, Fr0.refl _, ?_⟩; exact rfl)
   refine M_cons (M_anc (js := [(13, 70)]) (by kernel_rfl) (by exact rfl) (by exact rfl) fun gd hf => ?_) ?_
   ·have hsd := hs.dr.call hf; have hfe := (G.le_dr _).trans hf.le
    refine QA_eq rfl ?_
    refine QA_nil ?_
    (refine D_yes rfl ?_; refine OpR_pure _ T.ok rfl ?_; refine ⟨_, rfl, Fr0.refl _, ?_⟩; exact rfl)
   refine M_cons (M_anc (js := [(14, 71)]) (by kernel_rfl) (by exact rfl) (by exact rfl) fun gd hf => ?_) ?_
   ·have hsd := hs.dr.call hf; have hfe := (G.le_dr _).trans hf.le
    refine QA_eq rfl ?_
    refine QA_nil ?_
    (refine D_no rfl ?_; exact rfl)
   refine M_cons (M_anc (js := [(15, 72), (14, 71), (14, 71)]) (by kernel_rfl) (by exact rfl) (by exact rfl) fun gd hf => ?_) ?_
   ·have hsd := hs.dr.call hf; have hfe := (G.le_dr _).trans hf.le
    refine QA_eq rfl ?_; refine QA_eq rfl ?_; refine QA_eq rfl ?_
    refine QA_nil ?_
    (refine D_no rfl ?_; exact rfl)
   refine M_cons (M_free (js := [(14, 71), (16, 73)]) (by kernel_rfl) (by exact rfl) fun gd hf => ?_) ?_
   ·have hfe := (G.le_dr _).trans hf
    refine QA_eq rfl ?_; refine QA_eq rfl ?_
    refine QA_nil ?_
    (refine D_yes rfl ?_; refine OpR_pure _ T.ok rfl ?_; refine ⟨_, rfl, Fr0.refl _, ?_⟩; exact rfl)
   refine M_cons (M_eat (js := [(0, 57), (0, 57)]) (by kernel_rfl) fun gd hf => ?_) ?_
   ·have hsd := hs.dr.call hf; have hfe := (G.le_dr _).trans hf.le
    refine QA_eq rfl ?_; refine QA_eq rfl ?_
    refine QA_nil ?_
    refine ⟨rfl, ?_⟩
    refine OpR_storeO T.ok 2 rfl hsd rfl rfl rfl rfl rfl rfl rfl rfl rfl ?_
    intro g8 hs8 hqe8
    exact ⟨g8, rfl, hqe8, hs8⟩
   exact M_nil
  intro g1 hf1; rintro ⟨_, hE⟩; refine QA_eq rfl ?_; refine QA_nil ?_
  have hqe := (G.le_dr _).trans hf1; replace le0 := G.le.trans le0 hqe; replace rs4 := rs4.mono hqe; replace rs5 := rs5.mono hqe
  replace hs : St g g1 (.obj b (.cells [.string (bs line), .int .i64 a15, .bool false].toArray 100 (0, 0)) :: .obj b7 (.cells [.int .i64 (n2 : Nat), .slice ta (ints l4).length tc, .int .i64 (n6 : Nat), .int .i64 (n8 : Nat), .slice na (ints nx).length nc, .int .i64 bk, .int .i64 lm].toArray 50 (0, 0)) :: .obj br (.cells [.int .i64 (n2 : Nat), .slice ta (ints l4).length tc, .int .i64 (n6 : Nat), .int .i64 (n8 : Nat), .slice na (ints nx).length nc, .int .i64 bk, .int .i64 lm].toArray 50 (0, 0)) :: []) := hE
  refine P1 T.ok rfl rfl rfl ?_; refine WL_nil ?_; (with_reducible refine T_then ?_)
  refine W_ret ?_
  skip
  exact retC2 T.ok 2 rfl hs rfl rfl rfl rfl (hs.ret ⟨_, rfl, _, rfl, _, _, _, _, _, _, rfl, rs4, rs5⟩)
 | true =>
  cases e1 : decide ((a15 : Int) = (line.length : Int)) with
  | false =>
   (with_reducible refine T_wp ?_); refine W_seq ?_
   apply W_drawN allF rfl (Fact.eq _ :: Fact.eq _ :: Fact.eq _ :: Fact.eq _ :: Fact.eq _ :: Fact.eq _ :: Fact.eq _ :: Fact.eq _ :: Fact.eq _ :: Fact.eq _ :: Fact.eq _ :: Fact.eq _ :: Fact.eq _ :: Fact.eq _ :: Fact.eq _ :: Fact.eq _ :: Fact.eq _ :: Fact.eq _ :: (stFact g (.obj b (.cells [.string (bs line), .int .i64 a15, .bool true].toArray 100 (0, 0)) :: .obj b7 (.cells [.int .i64 (n2 : Nat), .slice ta (ints l4).length tc, .int .i64 (n6 : Nat), .int .i64 (n8 : Nat), .slice na (ints nx).length nc, .int .i64 bk, .int .i64 lm].toArray 50 (0, 0)) :: .obj br (.cells [.int .i64 (n2 : Nat), .slice ta (ints l4).length tc, .int .i64 (n6 : Nat), .int .i64 (n8 : Nat), .slice na (ints nx).length nc, .int .i64 bk, .int .i64 lm].toArray 50 (0, 0)) :: [])) :: []) 19 [(17, 74)] [] [0, 1, 2, 3, 4, 5, 6, 7, 8, 9, 10, 11, 12, 13, 14, 15, 16] 18 rfl (by decide) (by kernel_rfl) (by kernel_rfl)
   case houts => exact rfl
   case hsoft => (repeat (first | exact softN | apply softE | refine softC (soft_eq _) ?_ | refine softC (soft_rs _) ?_ | refine softC (soft_step _ _) ?_ | refine softC (soft_stepV _) ?_ | refine softC (soft_wayV _) ?_ | refine softC (soft_intPtr _) ?_ | refine softC (soft_y6 _) ?_ | refine softC (soft_lst _) ?_ | refine softO (by exact rfl) ?_))
   ·refine M_cons (M_anc (js := []) (by kernel_rfl) (by exact rfl) (by exact rfl) fun gd hf => ?_) ?_
    ·have hsd := hs.dr.call hf; have hfe := (G.le_dr _).trans hf.le
     refine QA_nil ?_
     (refine D_yes rfl ?_; refine OpR_loadO T.ok 1 rfl hsd rfl rfl rfl ?_; refine ⟨_, rfl, Fr0.refl _, ?_⟩; exact rfl)
    refine M_cons (M_anc (js := []) (by kernel_rfl) (by exact rfl) (by exact rfl) fun gd hf => ?_) ?_
    ·have hsd := hs.dr.call hf; have hfe := (G.le_dr _).trans hf.le
     refine QA_nil ?_
     (refine D_yes rfl ?_; refine OpR_pure _ T.ok rfl ?_; refine ⟨_, rfl, Fr0.refl _, ?_⟩; exact rfl)
    refine M_cons (M_anc (js := [(1, 58)]) (by kernel_rfl) (by exact rfl) (by exact rfl) fun gd hf => ?_) ?_
    ·have hsd := hs.dr.call hf; have hfe := (G.le_dr _).trans hf.le
     refine QA_eq rfl ?_
     refine QA_nil ?_
     (refine D_yes rfl ?_; refine OpR_pure _ T.ok rfl ?_; refine ⟨_, rfl, Fr0.refl _, ?_⟩; exact rfl)
    refine M_cons (M_anc (js := [(2, 59)]) (by kernel_rfl) (by exact rfl) (by exact rfl) fun gd hf => ?_) ?_
    ·have hsd := hs.dr.call hf; have hfe := (G.le_dr _).trans hf.le
     refine QA_eq rfl ?_
     refine QA_nil ?_
     (refine D_yes rfl ?_; refine OpR_pure _ T.ok rfl ?_; refine ⟨_, rfl, Fr0.refl _, ?_⟩; exact rfl)
    refine M_cons (M_anc (js := [(3, 60)]) (by kernel_rfl) (by exact rfl) (by exact rfl) fun gd hf => ?_) ?_
    ·have hsd := hs.dr.call hf; have hfe := (G.le_dr _).trans hf.le
     refine QA_eq rfl ?_
     refine QA_nil ?_
     (refine D_yes rfl ?_; refine OpR_loadO T.ok 0 rfl hsd rfl rfl rfl ?_; refine ⟨_, rfl, Fr0.refl _, ?_⟩; exact rfl)
    refine M_cons (M_anc (js := [(4, 61)]) (by kernel_rfl) (by exact rfl) (by exact rfl) fun gd hf => ?_) ?_
    ·have hsd := hs.dr.call hf; have hfe := (G.le_dr _).trans hf.le
     refine QA_eq rfl ?_
     refine QA_nil ?_
     (refine D_yes rfl ?_; refine OpR_pure _ T.ok rfl ?_; refine ⟨_, rfl, Fr0.refl _, ?_⟩; exact rfl)
    refine M_cons (M_anc (js := [(5, 62)]) (by kernel_rfl) (by exact rfl) (by exact rfl) fun gd hf => ?_) ?_
    ·have hsd := hs.dr.call hf; have hfe := (G.le_dr _).trans hf.le
     refine QA_eq rfl ?_
     refine QA_nil ?_
     (refine D_yes rfl ?_; refine OpR_pure _ T.ok rfl ?_; refine ⟨_, rfl, Fr0.refl _, ?_⟩; exact rfl)
    refine M_cons (M_anc (js := [(6, 63), (5, 62)]) (by kernel_rfl) (by exact rfl) (by exact rfl) fun gd hf => ?_) ?_
    ·have hsd := hs.dr.call hf; have hfe := (G.le_dr _).trans hf.le
     refine QA_eq rfl ?_; refine QA_eq rfl ?_
     refine QA_nil ?_
     (refine D_yes rfl ?_; refine OpR_pure _ T.ok rfl ?_; refine ⟨_, rfl, Fr0.refl _, ?_⟩; exact rfl)
    refine M_cons (M_anc (js := [(7, 64), (5, 62)]) (by kernel_rfl) (by exact rfl) (by exact rfl) fun gd hf => ?_) ?_
    ·have hsd := hs.dr.call hf; have hfe := (G.le_dr _).trans hf.le
     refine QA_eq rfl ?_; refine QA_eq rfl ?_
     refine QA_nil ?_
     (refine D_yes rfl ?_; refine OpR_pure _ T.ok rfl ?_; refine ⟨_, rfl, Fr0.refl _, ?_⟩; exact rfl)
    refine M_cons (M_anc (js := [(8, 65), (5, 62)]) (by kernel_rfl) (by exact rfl) (by exact rfl) fun gd hf => ?_) ?_
    ·have hsd := hs.dr.call hf; have hfe := (G.le_dr _).trans hf.le
     refine QA_eq rfl ?_; refine QA_eq rfl ?_
     refine QA_nil ?_
     (refine D_yes rfl ?_; refine OpR_loadO T.ok 0 rfl hsd rfl rfl rfl ?_; refine ⟨_, rfl, Fr0.refl _, ?_⟩; exact rfl)
    refine M_cons (M_anc (js := [(5, 62)]) (by kernel_rfl) (by exact rfl) (by exact rfl) fun gd hf => ?_) ?_
    ·have hsd := hs.dr.call hf; have hfe := (G.le_dr _).trans hf.le
     refine QA_eq rfl ?_
     refine QA_nil ?_
     (refine D_yes rfl ?_; refine OpR_pure _ T.ok rfl ?_; refine ⟨_, rfl, Fr0.refl _, ?_⟩; exact rfl)
    refine M_cons (M_anc (js := [(10, 67), (5, 62)]) (by kernel_rfl) (by exact rfl) (by exact rfl) fun gd hf => ?_) ?_
    ·have hsd := hs.dr.call hf; have hfe := (G.le_dr _).trans hf.le
     refine QA_eq rfl ?_; refine QA_eq rfl ?_
     refine QA_nil ?_
     (refine D_yes rfl ?_; refine OpR_pure _ T.ok rfl ?_; refine ⟨_, rfl, Fr0.refl _, ?_⟩; exact rfl)
    refine M_cons (M_anc (js := [(9, 66), (11, 68), (5, 62)]) (by kernel_rfl) (by exact rfl) (by exact rfl) fun gd hf => ?_) ?_
    ·have hsd := hs.dr.call hf; have hfe := (G.le_dr _).trans hf.le
     refine QA_eq rfl ?_; refine QA_eq rfl ?_; refine QA_eq rfl ?_
     refine QA_nil ?_
     refine D_yes rfl ?_
     refine OpR_pure _ T.ok rfl ?_
     exact ⟨_, rfl, Fr0.refl _, congrArg Value.bool (show _ = false from by rw [bs_size]; simpa using e1)⟩
    refine M_cons (M_anc (js := [(5, 62), (12, 69)]) (by kernel_rfl) (by exact rfl) (by exact rfl) fun gd hf => ?_) ?_
    ·have hsd := hs.dr.call hf; have hfe := (G.le_dr _).trans hf.le
     refine QA_eq rfl ?_; refine QA_eq rfl ?_
     refine QA_nil ?_
     (refine D_yes rfl ?_; refine OpR_pure _ T.ok rfl ?_; refine ⟨_, rfl, Fr0.refl _, ?_⟩; exact rfl)
    refine M_cons (M_anc (js := [(13, 70)]) (by kernel_rfl) (by exact rfl) (by exact rfl) fun gd hf => ?_) ?_
    ·have hsd := hs.dr.call hf; have hfe := (G.le_dr _).trans hf.le
     refine QA_eq rfl ?_
     refine QA_nil ?_
     (refine D_yes rfl ?_; refine OpR_pure _ T.ok rfl ?_; refine ⟨_, rfl, Fr0.refl _, ?_⟩; exact rfl)
    refine M_cons (M_anc (js := [(14, 71)]) (by kernel_rfl) (by exact rfl) (by exact rfl) fun gd hf => ?_) ?_
    ·have hsd := hs.dr.call hf; have hfe := (G.le_dr _).trans hf.le
     refine QA_eq rfl ?_
     refine QA_nil ?_
     (refine D_no rfl ?_; exact rfl)
    refine M_cons (M_anc (js := [(15, 72), (14, 71), (14, 71)]) (by kernel_rfl) (by exact rfl) (by exact rfl) fun gd hf => ?_) ?_
    ·have hsd := hs.dr.call hf; have hfe := (G.le_dr _).trans hf.le
     refine QA_eq rfl ?_; refine QA_eq rfl ?_; refine QA_eq rfl ?_
     refine QA_nil ?_
     (refine D_no rfl ?_; exact rfl)
    refine M_cons (M_free (js := [(14, 71), (16, 73)]) (by kernel_rfl) (by exact rfl) fun gd hf => ?_) ?_
    ·have hfe := (G.le_dr _).trans hf
     refine QA_eq rfl ?_; refine QA_eq rfl ?_
     refine QA_nil ?_
     (refine D_yes rfl ?_; refine OpR_pure _ T.ok rfl ?_; refine ⟨_, rfl, Fr0.refl _, ?_⟩; exact rfl)
    refine M_cons (M_eat (js := [(0, 57), (0, 57)]) (by kernel_rfl) fun gd hf => ?_) ?_
    ·have hsd := hs.dr.call hf; have hfe := (G.le_dr _).trans hf.le
     refine QA_eq rfl ?_; refine QA_eq rfl ?_
     refine QA_nil ?_
     refine ⟨rfl, ?_⟩
     refine OpR_storeO T.ok 2 rfl hsd rfl rfl rfl rfl rfl rfl rfl rfl rfl ?_
     intro g8 hs8 hqe8
     exact ⟨g8, rfl, hqe8, hs8⟩
    exact M_nil
   intro g1 hf1; rintro ⟨_, hE⟩; refine QA_eq rfl ?_; refine QA_nil ?_
   have hqe := (G.le_dr _).trans hf1; replace le0 := G.le.trans le0 hqe; replace rs4 := rs4.mono hqe; replace rs5 := rs5.mono hqe
   replace hs : St g g1 (.obj b (.cells [.string (bs line), .int .i64 a15, .bool true].toArray 100 (0, 0)) :: .obj b7 (.cells [.int .i64 (n2 : Nat), .slice ta (ints l4).length tc, .int .i64 (n6 : Nat), .int .i64 (n8 : Nat), .slice na (ints nx).length nc, .int .i64 bk, .int .i64 lm].toArray 50 (0, 0)) :: .obj br (.cells [.int .i64 (n2 : Nat), .slice ta (ints l4).length tc, .int .i64 (n6 : Nat), .int .i64 (n8 : Nat), .slice na (ints nx).length nc, .int .i64 bk, .int .i64 lm].toArray 50 (0, 0)) :: []) := hE
   refine P1 T.ok rfl rfl rfl ?_; refine WL_nil ?_; (with_reducible refine T_then ?_)
   refine W_ret ?_
   skip
   exact retC2 T.ok 2 rfl hs rfl rfl rfl rfl (hs.ret ⟨_, rfl, _, rfl, _, _, _, _, _, _, rfl, rs4, rs5⟩)
  | true =>
   (with_reducible refine T_wp ?_); refine W_seq ?_
   apply W_drawN allF rfl (Fact.eq _ :: Fact.eq _ :: Fact.eq _ :: Fact.eq _ :: Fact.eq _ :: Fact.eq _ :: Fact.eq _ :: Fact.eq _ :: Fact.eq _ :: Fact.eq _ :: Fact.eq _ :: Fact.eq _ :: Fact.eq _ :: Fact.eq _ :: Fact.eq _ :: Fact.eq _ :: Fact.eq _ :: Fact.eq _ :: (stFact g (.obj b (.cells [.string (bs line), .int .i64 a15, .bool true].toArray 100 (0, 0)) :: .obj b7 (.cells [.int .i64 (n2 : Nat), .slice ta (ints l4).length tc, .int .i64 (n6 : Nat), .int .i64 (n8 : Nat), .slice na (ints nx).length nc, .int .i64 bk, .int .i64 lm].toArray 50 (0, 0)) :: .obj br (.cells [.int .i64 (n2 : Nat), .slice ta (ints l4).length tc, .int .i64 (n6 : Nat), .int .i64 (n8 : Nat), .slice na (ints nx).length nc, .int .i64 bk, .int .i64 lm].toArray 50 (0, 0)) :: [])) :: []) 19 [(17, 74)] [] [0, 1, 2, 3, 4, 5, 6, 7, 8, 9, 10, 11, 12, 13, 14, 15, 16] 18 rfl (by decide) (by kernel_rfl) (by kernel_rfl)
   case houts => exact rfl
   case hsoft => (repeat (first | exact softN | apply softE | refine softC (soft_eq _) ?_ | refine softC (soft_rs _) ?_ | refine softC (soft_step _ _) ?_ | refine softC (soft_stepV _) ?_ | refine softC (soft_wayV _) ?_ | refine softC (soft_intPtr _) ?_ | refine softC (soft_y6 _) ?_ | refine softC (soft_lst _) ?_ | refine softO (by exact rfl) ?_))
   ·refine M_cons (M_anc (js := []) (by kernel_rfl) (by exact rfl) (by exact rfl) fun gd hf => ?_) ?_
    ·have hsd := hs.dr.call hf; have hfe := (G.le_dr _).trans hf.le
     refine QA_nil ?_
     (refine D_yes rfl ?_; refine OpR_loadO T.ok 1 rfl hsd rfl rfl rfl ?_; refine ⟨_, rfl, Fr0.refl _, ?_⟩; exact rfl)
    refine M_cons (M_anc (js := []) (by kernel_rfl) (by exact rfl) (by exact rfl) fun gd hf => ?_) ?_
    ·have hsd := hs.dr.call hf; have hfe := (G.le_dr _).trans hf.le
     refine QA_nil ?_
     (refine D_yes rfl ?_; refine OpR_pure _ T.ok rfl ?_; refine ⟨_, rfl, Fr0.refl _, ?_⟩; exact rfl)
    refine M_cons (M_anc (js := [(1, 58)]) (by kernel_rfl) (by exact rfl) (by exact rfl) fun gd hf => ?_) ?_
    ·have hsd := hs.dr.call hf; have hfe := (G.le_dr _).trans hf.le
     refine QA_eq rfl ?_
     refine QA_nil ?_
     (refine D_yes rfl ?_; refine OpR_pure _ T.ok rfl ?_; refine ⟨_, rfl, Fr0.refl _, ?_⟩; exact rfl)
    refine M_cons (M_anc (js := [(2, 59)]) (by kernel_rfl) (by exact rfl) (by exact rfl) fun gd hf => ?_) ?_
    ·have hsd := hs.dr.call hf; have hfe := (G.le_dr _).trans hf.le
     refine QA_eq rfl ?_
     refine QA_nil ?_
     (refine D_yes rfl ?_; refine OpR_pure _ T.ok rfl ?_; refine ⟨_, rfl, Fr0.refl _, ?_⟩; exact rfl)
    refine M_cons (M_anc (js := [(3, 60)]) (by kernel_rfl) (by exact rfl) (by exact rfl) fun gd hf => ?_) ?_
    ·have hsd := hs.dr.call hf; have hfe := (G.le_dr _).trans hf.le
     refine QA_eq rfl ?_
     refine QA_nil ?_
     (refine D_yes rfl ?_; refine OpR_loadO T.ok 0 rfl hsd rfl rfl rfl ?_; refine ⟨_, rfl, Fr0.refl _, ?_⟩; exact rfl)
    refine M_cons (M_anc (js := [(4, 61)]) (by kernel_rfl) (by exact rfl) (by exact rfl) fun gd hf => ?_) ?_
    ·have hsd := hs.dr.call hf; have hfe := (G.le_dr _).trans hf.le
     refine QA_eq rfl ?_
     refine QA_nil ?_
     (refine D_yes rfl ?_; refine OpR_pure _ T.ok rfl ?_; refine ⟨_, rfl, Fr0.refl _, ?_⟩; exact rfl)
    refine M_cons (M_anc (js := [(5, 62)]) (by kernel_rfl) (by exact rfl) (by exact rfl) fun gd hf => ?_) ?_
    ·have hsd := hs.dr.call hf; have hfe := (G.le_dr _).trans hf.le
     refine QA_eq rfl ?_
     refine QA_nil ?_
     (refine D_yes rfl ?_; refine OpR_pure _ T.ok rfl ?_; refine ⟨_, rfl, Fr0.refl _, ?_⟩; exact rfl)
    refine M_cons (M_anc (js := [(6, 63), (5, 62)]) (by kernel_rfl) (by exact rfl) (by exact rfl) fun gd hf => ?_) ?_
    ·have hsd := hs.dr.call hf; have hfe := (G.le_dr _).trans hf.le
     refine QA_eq rfl ?_; refine QA_eq rfl ?_
     refine QA_nil ?_
     (refine D_yes rfl ?_; refine OpR_pure _ T.ok rfl ?_; refine ⟨_, rfl, Fr0.refl _, ?_⟩; exact rfl)
    refine M_cons (M_anc (js := [(7, 64), (5, 62)]) (by kernel_rfl) (by exact rfl) (by exact rfl) fun gd hf => ?_) ?_
    ·have hsd := hs.dr.call hf; have hfe := (G.le_dr _).trans hf.le
     refine QA_eq rfl ?_; refine QA_eq rfl ?_
     refine QA_nil ?_
     (refine D_yes rfl ?_; refine OpR_pure _ T.ok rfl ?_; refine ⟨_, rfl, Fr0.refl _, ?_⟩; exact rfl)
    refine M_cons (M_anc (js := [(8, 65), (5, 62)]) (by kernel_rfl) (by exact rfl) (by exact rfl) fun gd hf => ?_) ?_
    ·have hsd := hs.dr.call hf; have hfe := (G.le_dr _).trans hf.le
     refine QA_eq rfl ?_; refine QA_eq rfl ?_
     refine QA_nil ?_
     (refine D_yes rfl ?_; refine OpR_loadO T.ok 0 rfl hsd rfl rfl rfl ?_; refine ⟨_, rfl, Fr0.refl _, ?_⟩; exact rfl)
    refine M_cons (M_anc (js := [(5, 62)]) (by kernel_rfl) (by exact rfl) (by exact rfl) fun gd hf => ?_) ?_
    ·have hsd := hs.dr.call hf; have hfe := (G.le_dr _).trans hf.le
     refine QA_eq rfl ?_
     refine QA_nil ?_
     (refine D_yes rfl ?_; refine OpR_pure _ T.ok rfl ?_; refine ⟨_, rfl, Fr0.refl _, ?_⟩; exact rfl)
    refine M_cons (M_anc (js := [(10, 67), (5, 62)]) (by kernel_rfl) (by exact rfl) (by exact rfl) fun gd hf => ?_) ?_
    ·have hsd := hs.dr.call hf; have hfe := (G.le_dr _).trans hf.le
     refine QA_eq rfl ?_; refine QA_eq rfl ?_
     refine QA_nil ?_
     (refine D_yes rfl ?_; refine OpR_pure _ T.ok rfl ?_; refine ⟨_, rfl, Fr0.refl _, ?_⟩; exact rfl)
    refine M_cons (M_anc (js := [(9, 66), (11, 68), (5, 62)]) (by kernel_rfl) (by exact rfl) (by exact rfl) fun gd hf => ?_) ?_
    ·have hsd := hs.dr.call hf; have hfe := (G.le_dr _).trans hf.le
     refine QA_eq rfl ?_; refine QA_eq rfl ?_; refine QA_eq rfl ?_
     refine QA_nil ?_
     refine D_yes rfl ?_
     refine OpR_pure _ T.ok rfl ?_
     exact ⟨_, rfl, Fr0.refl _, congrArg Value.bool (show _ = true from by rw [bs_size]; simpa using e1)⟩
    refine M_cons (M_anc (js := [(5, 62), (12, 69)]) (by kernel_rfl) (by exact rfl) (by exact rfl) fun gd hf => ?_) ?_
    ·have hsd := hs.dr.call hf; have hfe := (G.le_dr _).trans hf.le
     refine QA_eq rfl ?_; refine QA_eq rfl ?_
     refine QA_nil ?_
     (refine D_yes rfl ?_; refine OpR_pure _ T.ok rfl ?_; refine ⟨_, rfl, Fr0.refl _, ?_⟩; exact rfl)
    refine M_cons (M_anc (js := [(13, 70)]) (by kernel_rfl) (by exact rfl) (by exact rfl) fun gd hf => ?_) ?_
    ·have hsd := hs.dr.call hf; have hfe := (G.le_dr _).trans hf.le
     refine QA_eq rfl ?_
     refine QA_nil ?_
     (refine D_yes rfl ?_; refine OpR_pure _ T.ok rfl ?_; refine ⟨_, rfl, Fr0.refl _, ?_⟩; exact rfl)
    refine M_cons (M_anc (js := [(14, 71)]) (by kernel_rfl) (by exact rfl) (by exact rfl) fun gd hf => ?_) ?_
    ·have hsd := hs.dr.call hf; have hfe := (G.le_dr _).trans hf.le
     refine QA_eq rfl ?_
     refine QA_nil ?_
     (refine D_yes rfl ?_; refine OpR_loadO T.ok 1 rfl hsd rfl rfl rfl ?_; refine ⟨_, rfl, Fr0.refl _, ?_⟩; exact rfl)
    refine M_cons (M_anc (js := [(15, 72), (14, 71), (14, 71)]) (by kernel_rfl) (by exact rfl) (by exact rfl) fun gd hf => ?_) ?_
    ·have hsd := hs.dr.call hf; have hfe := (G.le_dr _).trans hf.le
     refine QA_eq rfl ?_; refine QA_eq rfl ?_; refine QA_eq rfl ?_
     refine QA_nil ?_
     refine D_yes rfl ?_
     refine OpR_ret cl40 allF rfl rfl rfl rfl rfl (rstep_c _ ⟨(n2 : Int), ints l4, (n6 : Int), (n8 : Int), ints nx, bk, lm⟩ 40 _ ⟨_, rfl, _, _, _, _, _, _, rfl, rs4.mono hfe, rs5.mono hfe⟩ (by omega) (by omega)) fun g' v h1 h2 => ⟨g', rfl, h1, ?_⟩
     exact h2
    refine M_cons (M_free (js := [(14, 71), (16, 73)]) (by kernel_rfl) (by exact rfl) fun gd hf => ?_) ?_
    ·have hfe := (G.le_dr _).trans hf
     refine QA_eq rfl ?_; refine QA_eq rfl ?_
     refine QA_nil ?_
     (refine D_yes rfl ?_; refine OpR_pure _ T.ok rfl ?_; refine ⟨_, rfl, Fr0.refl _, ?_⟩; exact rfl)
    refine M_cons (M_eat (js := [(0, 57), (0, 57)]) (by kernel_rfl) fun gd hf => ?_) ?_
    ·have hsd := hs.dr.call hf; have hfe := (G.le_dr _).trans hf.le
     refine QA_eq rfl ?_; refine QA_eq rfl ?_
     refine QA_nil ?_
     refine ⟨rfl, ?_⟩
     refine OpR_storeO T.ok 2 rfl hsd rfl rfl rfl rfl rfl rfl rfl rfl rfl ?_
     intro g8 hs8 hqe8
     exact ⟨g8, rfl, hqe8, hs8⟩
    exact M_nil
   intro g1 hf1; rintro ⟨_, hE⟩; refine QA_eq rfl ?_; refine QA_nil ?_
   have hqe := (G.le_dr _).trans hf1; replace le0 := G.le.trans le0 hqe; replace rs4 := rs4.mono hqe; replace rs5 := rs5.mono hqe
   replace hs : St g g1 (.obj b (.cells [.string (bs line), .int .i64 a15, .bool true].toArray 100 (0, 0)) :: .obj b7 (.cells [.int .i64 (n2 : Nat), .slice ta (ints l4).length tc, .int .i64 (n6 : Nat), .int .i64 (n8 : Nat), .slice na (ints nx).length nc, .int .i64 bk, .int .i64 lm].toArray 50 (0, 0)) :: .obj br (.cells [.int .i64 (n2 : Nat), .slice ta (ints l4).length tc, .int .i64 (n6 : Nat), .int .i64 (n8 : Nat), .slice na (ints nx).length nc, .int .i64 bk, .int .i64 lm].toArray 50 (0, 0)) :: []) := hE
   refine P1 T.ok rfl rfl rfl ?_; refine WL_nil ?_; (with_reducible refine T_then ?_)
   refine W_ret ?_
   skip
   exact retC2 T.ok 2 rfl hs rfl rfl rfl rfl (hs.ret ⟨_, rfl, _, rfl, _, _, _, _, _, _, rfl, rs4, rs5⟩)



end Go.Proofs.YtnaeopehmdcplaaGreatDoor

/- The reference's Parse. -/
namespace Go.Proofs.YtnaeopehmdcplaaGreatDoor
open Go Go.K
set_option maxRecDepth 10000
attribute [local irreducible] W WL OpR bitAnd bitOr bitXor bitClr bitNot shlI shrI
set_option maxHeartbeats 16000000

/-- A line of moves: what the reference reads is what the program reads. -/
theorem head_first (f : Flow) (l : List UInt8) : headR true f l = if ((readMoveR l).2 && rightMoves ⟨(readMoveR l).1.1, (readMoveR l).1.2, [], []⟩) = true then some ⟨(readMoveR l).1.1, (readMoveR l).1.2, [], []⟩ else none := by
 show (moveR l).map _ = _
 unfold moveR
 cases hr : readMoveR l with
 | mk p ok =>
  obtain ⟨a, b⟩ := p
  cases ok with
  | true =>
   rw [moveM_iff.2 (readMoveR_iff.1 hr)]
   dsimp only [Option.bind_some]
   by_cases h : rightMoves ⟨a, b, [], []⟩ = true
   ·rw [if_pos h, if_pos (by rw [h]; rfl)]; rfl
   ·rw [if_neg h, if_neg (by simpa using h)]; rfl
  | false =>
   cases hm : moveM l with
   | none => rfl
   | some q =>
    obtain ⟨a', b'⟩ := q
    have := readMoveR_iff.2 (moveM_iff.1 hm)
    rw [hr] at this; cases this
theorem win_head {w : Window} : (windowLine w).head? = some 119 := by
 rw [windowLine_eq]; rfl
theorem head_step (f : Flow) (l : List UInt8) (h : l.head? = some 115) : lineR f l = if ((readStepR f.steps.length l).2 && rightStep (readStepR f.steps.length l).1 40 && decide ((f.steps.length : Int) < 40) && ((f.windows.length : Int) == 0)) = true then some { f with steps := f.steps ++ [(readStepR f.steps.length l).1] } else none := by
 unfold lineR
 cases hr : readStepR f.steps.length l with
 | mk s ok =>
  by_cases hp : wStep.isPrefixOf l = true
  ·rw [if_pos hp]
   unfold stepR
   cases ok with
   | true =>
    rw [stepM_iff.2 (readStepR_iff.1 hr)]
    dsimp only [Option.bind_some]
    have e : decide ((f.windows.length : Int) = 0) = ((f.windows.length : Int) == 0) := by
     by_cases h0 : (f.windows.length : Int) = 0
     ·rw [decide_eq_true h0]; exact (beq_iff_eq.2 h0).symm
     ·rw [decide_eq_false h0]; exact (beq_eq_false_iff_ne.2 h0).symm
    rw [e, Bool.true_and]
    split <;> rfl
   | false =>
    cases hm : stepM f.steps.length l with
    | none => rfl
    | some q =>
     have := readStepR_iff.2 (stepM_iff.1 hm)
     rw [hr] at this; cases this
  ·rw [if_neg hp]
   have hw : windowM l = none := by
    cases hm : windowM l with
    | none => rfl
    | some w =>
     have := (windowM_iff.1 hm).1
     rw [this, win_head] at h; cases h
   unfold windowR
   rw [hw]
   cases ok with
   | true =>
    have := (readStepR_iff.1 hr).1
    rw [this, step_pre] at hp; exact absurd rfl hp
   | false => rfl
theorem head_win (f : Flow) (l : List UInt8) (h : l.head? ≠ some 115) : lineR f l = if ((readWindowR l).2 && rightWindow (readWindowR l).1 40 && decide ((f.windows.length : Int) < 20) && decide ((f.steps.length : Int) > 0) && follows f.windows (readWindowR l).1) = true then some { f with windows := f.windows ++ [(readWindowR l).1] } else none := by
 have hp : ¬ wStep.isPrefixOf l = true := by
  intro hp
  obtain ⟨t, rfl⟩ := List.isPrefixOf_iff_prefix.1 hp
  exact h rfl
 unfold lineR
 rw [if_neg hp]
 unfold windowR
 cases hr : readWindowR l with
 | mk w ok =>
  cases ok with
  | true =>
   rw [windowM_iff.2 (readWindowR_iff.1 hr)]
   dsimp only [Option.bind_some]
   rw [Bool.true_and]
   split <;> rfl
  | false =>
   cases hm : windowM l with
   | none => rfl
   | some q =>
    have := readWindowR_iff.2 (windowM_iff.1 hm)
    rw [hr] at this; cases this
theorem go_line (first : Bool) (f : Flow) (k : Nat) (l : List UInt8) (r : List (List UInt8)) (h : skipL l = false) : parseGo first f k (l :: r) = match headR first f l with
  | some f' => parseGo false f' (k + 1) r
  | none => .inr (k + 1) := by
 rw [parseGo, if_neg (by rw [h]; decide)]
 cases headR first f l <;> rfl
theorem go_skip1 (first : Bool) (f : Flow) (k : Nat) (l : List UInt8) (r : List (List UInt8)) (h : skipL l = true) : parseGo first f k (l :: r) = parseGo first f (k + 1) r := by
 rw [parseGo, if_pos h]
theorem skip_cons (b : UInt8) (t : List UInt8) : skipL (b :: t) = (b == 35) := by
 unfold skipL
 rw [show ((b :: t) == []) = false from rfl, Bool.false_or]
 show ((35 : UInt8) == b && ([] : List UInt8).isPrefixOf t) = _
 rw [show ([] : List UInt8).isPrefixOf t = true from by cases t <;> rfl, Bool.and_true]
 exact BEq.comm


theorem rparse_c (s : List UInt8) (g : G) (hlen : s.length ≤ 999999) : CallsIn Wd 0 Tryz.prog 17 #[.string (bs s)] g.w (Ret g fun g' r => parsePost g' (parseM s) r) := by
 have hs := St.start g
 have le0 := G.le.refl g
 refine enter Tryz.func17 rfl Tryz.ntmps17 rfl ?_
 refine W_seq ?_; refine W_region ?_
 refine WL_o rfl rfl (OpR_alloc T.ok rfl hs rfl rfl ?_); clear hs; rintro b2 g1 hs hqe; replace le0 := G.le.trans le0 hqe
 refine P1 T.ok rfl rfl rfl ?_; refine P1 T.ok rfl rfl rfl ?_; refine WL_nil ?_; (with_reducible refine T_then ?_); refine W_seq ?_; refine W_region ?_; refine P1 T.ok rfl rfl rfl ?_
 refine WL_o rfl rfl (OpR_ret cl19 allF rfl rfl rfl rfl rfl (lines_c s _ (by omega)) ?_); rintro g1 _ hf1 rs0; replace hs := hs.call hf1; have hqe := hf1.le; replace le0 := G.le.trans le0 hqe
 have hpl := split_len 10 s
 have hpm := split_mem 10 s
 have hpM : ∀ x, parseGo true flow0 0 (splitC 10 s) = x → parseM s = match x with
  | .inl f => if valid f = true then .inl f else .inr (splitC 10 s).length
  | .inr k => .inr k := by rintro x rfl; rfl
 generalize splitC 10 s = ps at *
 obtain ⟨pa, pc, rfl⟩ := rs0.isSlice
 have hlp : (ps.map Str.mk).length = ps.length := List.length_map _
 rw [hlp] at rs0 ⊢
 refine P1 T.ok rfl rfl rfl ?_; refine WL_nil ?_; (with_reducible refine T_then ?_); refine W_seq ?_; refine W_region ?_
 refine WL_o rfl rfl (OpR_build T.ok rfl (vs := []) (cells := [.int .i64 0, .int .i64 0, .slice none 0 0, .slice none 0 0]) rfl rfl rfl rfl [(0, 1), (1, 1), (2, 1), (3, 1)] rfl (by kernel_rfl) ?_)
 skip
 refine WL_o rfl rfl (OpR_alloc T.ok rfl hs rfl rfl ?_); clear hs; rintro b g1 hs hqe; replace le0 := G.le.trans le0 hqe; replace rs0 := rs0.mono hqe
 skip
 refine WL_n rfl (OpR_storeO T.ok 0 rfl hs rfl rfl rfl rfl rfl rfl rfl rfl rfl ?_); replace hs := hs; rintro g1 hs hqe; replace le0 := G.le.trans le0 hqe; replace rs0 := rs0.mono hqe
 have hs2 : St g g1 (flL b flow0 none 0 none 0 [] ++ [.obj b2 (.cells [.int .i64 0, .int .i64 0, .slice none 0 0, .slice none 0 0].toArray 25 (0, 0))]) :=
  ((hs.nilrow 53 3 none).nilrow 50 7 none).perm (List.perm_middle (l₁ := [Ent.row 50 7 (.slice none 0 0) 0 [], Ent.row 53 3 (.slice none 0 0) 0 []]))
 clear hs
 have hO0 : FlO b flow0 [.obj b2 (.cells [.int .i64 0, .int .i64 0, .slice none 0 0, .slice none 0 0].toArray 25 (0, 0))] g g1 := ⟨none, 0, none, 0, [], hs2, rfl⟩
 clear hs2
 have rs0c := rs0; have le0c := le0
 refine WL_nil ?_; (with_reducible refine T_then ?_); refine W_seq ?_; refine W_region ?_; refine P1 T.ok rfl rfl rfl ?_; refine WL_nil ?_; (with_reducible refine T_then ?_); refine W_seq ?_; refine W_seq ?_; refine W_region ?_; refine P1 T.ok rfl rfl rfl ?_; refine WL_nil ?_; (with_reducible refine T_then ?_); refine W_block ?_
 refine W_loop (fun m a' w => ∃ (k : Nat) (first : Bool) (f : Flow) (g' : G), w = g'.w ∧ FlO b f [.obj b2 (.cells [.int .i64 0, .int .i64 0, .slice none 0 0, .slice none 0 0].toArray 25 (0, 0))] g g' ∧ (first = true → f = flow0) ∧ G.le g1 g' ∧ k ≤ ps.length ∧ m = ps.length - k ∧ f.steps.length ≤ k ∧ f.windows.length ≤ k ∧ parseGo first f k (ps.drop k) = parseGo true flow0 0 ps ∧
  Fr 126 [] [(2, .pointer (some ⟨b2, 0, none⟩)), (3, .int .i64 0), (4, .int .i64 0), (5, .slice pa ps.length pc), (6, .pointer (some ⟨b, 0, none⟩)), (7, .bool first), (8, .int .i64 k)] a') ps.length
   (fun a' ha => ⟨0, true, flow0, g1, rfl, hO0, fun _ => rfl, G.le.refl _, Nat.zero_le _, rfl, Nat.zero_le _, Nat.zero_le _, rfl, ha.keep (by (repeat (first | exact trivial | refine ⟨rfl, ?_⟩)))⟩) ?_
 clear le0 hO0 rs0
 rintro m a' _ ⟨k, first, f, g', rfl, hO, hff, lez, hk, rfl, hfs, hfw, hgo, ha'⟩
 have rs0 := rs0c.mono lez
 have le0 := le0c.trans lez
 revert a'
 (with_reducible refine T_wp ?_); refine W_seq ?_; refine W_seq ?_; refine W_region ?_; (iterate 4 refine P1 T.ok rfl rfl rfl ?_); refine WL_nil ?_; (with_reducible refine T_then ?_)
 by_cases hlt : k < ps.length
 ·refine W_yes (b := decide ((k : Int) < (ps.length : Int))) (by simp; omega) rfl ?_
  rw [List.drop_eq_getElem_cons hlt] at hgo
  have hgl : geti (ps.map Str.mk) (k : Int) = some ⟨ps[k]⟩ := by simp [geti, hlt]
  have hlk := hpm _ (List.getElem_mem hlt)
  generalize ps[k] = ln at *
  refine W_skip ?_; (with_reducible refine T_then ?_); refine W_seq ?_; refine W_block ?_; refine W_seq ?_; refine W_region ?_; refine P1 T.ok rfl rfl rfl ?_; refine P1 T.ok rfl rfl rfl ?_
  refine WL_o rfl rfl (OpR_idx T.ok rfl rs0 (y := ⟨ln⟩) hgl rfl rfl rfl rfl rfl rfl ?_)
  rintro bq pq ys hep rfl
  refine WL_o rfl rfl (OpR_loadE T.ok 0 rfl hep rfl rfl ?_)
  refine P1 T.ok rfl rfl rfl ?_; refine WL_nil ?_; (with_reducible refine T_then ?_); refine W_seq ?_; refine W_seq ?_; refine W_region ?_; (iterate 3 refine P1 T.ok rfl rfl rfl ?_)
  cases ln with
  | nil =>
   refine WL_know 31 (b' := true) (by rw [bs_toList]; simp) rfl ?_
   rw [go_skip1 _ _ _ _ _ rfl] at hgo
   (iterate 3 refine S1 allF rfl rfl ?_); refine P1 T.ok rfl rfl rfl ?_; refine WL_nil ?_; (with_reducible refine T_then ?_)
   refine W_yes rfl rfl ?_
   refine W_exit ?_; (with_reducible refine T_tx ?_); (with_reducible refine T_bx ?_); (with_reducible refine T_then ?_); refine W_region ?_; (iterate 3 refine P1 T.ok rfl rfl rfl ?_); refine WL_nil ?_
   refine fun a ha => ⟨ps.length - (k + 1), by omega, k + 1, first, f, _, rfl, hO, hff, lez, by omega, rfl, by omega, by omega, hgo, ha.keep ⟨rfl, rfl, rfl, rfl, rfl, rfl, kI rfl (by rw [wr (by omega) (by omega)]; omega), trivial⟩⟩
  | cons c tl =>
  refine WL_know 31 (b' := false) (by rw [bs_toList]; simp) rfl ?_
  refine P1 T.ok rfl rfl rfl ?_
  refine WL_o rfl rfl (OpR_idxS T.ok rfl rfl rfl rfl rfl (by omega) (by simp) ?_)
  refine P1 T.ok rfl rfl rfl ?_; refine P1 T.ok rfl rfl rfl ?_; refine WL_nil ?_; (with_reducible refine T_then ?_)
  by_cases h35 : c = 35
  ·refine W_yes (b := _) ?_ rfl ?_
   ·simp [h35]
   rw [go_skip1 _ _ _ _ _ (by rw [skip_cons, h35]; rfl)] at hgo
   refine W_exit ?_; (with_reducible refine T_tx ?_); (with_reducible refine T_bx ?_); (with_reducible refine T_then ?_); refine W_region ?_; (iterate 3 refine P1 T.ok rfl rfl rfl ?_); refine WL_nil ?_
   refine fun a ha => ⟨ps.length - (k + 1), by omega, k + 1, first, f, _, rfl, hO, hff, lez, by omega, rfl, by omega, by omega, hgo, ha.keep ⟨rfl, rfl, rfl, rfl, rfl, rfl, kI rfl (by rw [wr (by omega) (by omega)]; omega), trivial⟩⟩
  ·refine W_no (b := _) ?_ rfl ?_
   ·simp
    intro h; exact h35 (UInt8.toNat_inj.1 (show c.toNat = 35 by omega))
   rw [go_line _ _ _ _ _ (by rw [skip_cons]; simpa using h35)] at hgo
   have hll : (c :: tl).length ≤ 1000000 := by omega
   cases first with
   | true =>
    obtain rfl := hff rfl
    obtain ⟨sa, sc, wa, wc, scs, hs, rc0⟩ := hO
    have hhd := head_first flow0 (c :: tl)
    refine W_skip ?_; (with_reducible refine T_then ?_); refine W_seq ?_; refine W_region ?_; refine P1 T.ok rfl rfl rfl ?_; refine WL_nil ?_; (with_reducible refine T_then ?_); refine W_seq ?_; refine W_seq ?_; refine W_region ?_; refine P1 T.ok rfl rfl rfl ?_; refine WL_nil ?_; (with_reducible refine T_then ?_)
    refine W_yes rfl rfl ?_
    refine W_seq ?_; refine W_region ?_; refine P1 T.ok rfl rfl rfl ?_
    refine WL_o rfl rfl (OpR_ret cl51 allF rfl rfl rfl rfl rfl (rreadMove_c (c :: tl) _ hll) ?_); rintro g1 _ hf1 rfl; replace hs := hs.call hf1; have hqe := hf1.le; replace le0 := G.le.trans le0 hqe; replace rs0 := rs0.mono hqe; replace rc0 := rc0.mono hqe
    replace lez := lez.trans hqe
    generalize (readMoveR (c :: tl)).1.1 = ma at *
    generalize (readMoveR (c :: tl)).1.2 = mb at *
    generalize (readMoveR (c :: tl)).2 = okk at *
    (iterate 5 refine P1 T.ok rfl rfl rfl ?_)
    refine WL_n rfl (OpR_storeO T.ok 0 rfl hs rfl rfl rfl rfl rfl rfl rfl rfl rfl ?_); replace hs := hs; rintro g1 hs hqe; replace le0 := G.le.trans le0 hqe; replace rs0 := rs0.mono hqe; replace rc0 := rc0.mono hqe
    replace lez := lez.trans hqe
    refine P1 T.ok rfl rfl rfl ?_
    refine WL_n rfl (OpR_storeO T.ok 0 rfl hs rfl rfl rfl rfl rfl rfl rfl rfl rfl ?_); replace hs := hs; rintro g1 hs hqe; replace le0 := G.le.trans le0 hqe; replace rs0 := rs0.mono hqe; replace rc0 := rc0.mono hqe
    replace lez := lez.trans hqe
    refine P1 T.ok rfl rfl rfl ?_; refine WL_nil ?_; (with_reducible refine T_then ?_); refine W_region ?_; refine P1 T.ok rfl rfl rfl ?_; refine WL_nil ?_; (with_reducible refine T_then ?_); refine W_seq ?_; refine W_region ?_; refine P1 T.ok rfl rfl rfl ?_; refine P1 T.ok rfl rfl rfl ?_; refine WL_nil ?_; (with_reducible refine T_then ?_)
    cases hcc : (okk && rightMoves ⟨ma, mb, [], []⟩) with
    | false =>
     rw [hhd, hcc] at hgo
     skip
     refine W_yes rfl rfl ?_
     refine W_seq ?_; refine W_region ?_
     refine WL_o rfl rfl (OpR_build T.ok rfl (vs := []) (cells := [.int .i64 0, .int .i64 0, .slice none 0 0, .slice none 0 0]) rfl rfl rfl rfl [(0, 1), (1, 1), (2, 1), (3, 1)] rfl (by kernel_rfl) ?_)
     refine P1 T.ok rfl rfl rfl ?_; refine P1 T.ok rfl rfl rfl ?_
     refine WL_n rfl (OpR_storeO T.ok 3 rfl hs rfl rfl rfl rfl rfl rfl rfl rfl rfl ?_); replace hs := hs; rintro g1 hs hqe; replace le0 := G.le.trans le0 hqe; replace rs0 := rs0.mono hqe; replace rc0 := rc0.mono hqe
     refine P1 T.ok rfl rfl rfl ?_; refine P1 T.ok rfl rfl rfl ?_; refine WL_nil ?_; (with_reducible refine T_then ?_)
     refine W_ret ?_
     (with_reducible refine T_br ?_); (with_reducible refine T_tr ?_; with_reducible refine T_tr ?_); (with_reducible refine T_br ?_); (with_reducible refine T_tr ?_)
     refine retC3 (v2 := .int .i64 ((k + 1 : Nat) : Int)) T.ok 3 rfl hs rfl rfl rfl (kI rfl (by rw [wr (by omega) (by omega)]; omega)) rfl (hs.ret ?_)
     rw [hpM _ hgo.symm]
     rfl
    | true =>
     rw [hhd, hcc] at hgo
     refine W_no rfl rfl ?_
     refine W_skip ?_; (with_reducible refine T_bn ?_); (with_reducible refine T_then ?_); refine W_region ?_; (iterate 3 refine P1 T.ok rfl rfl rfl ?_); refine WL_nil ?_
     refine fun a ha => ⟨ps.length - (k + 1), by omega, k + 1, false, ⟨ma, mb, [], []⟩, _, rfl, ⟨sa, sc, wa, wc, scs, hs, rc0⟩, (fun h => (by cases h)), lez, by omega, rfl, by exact Nat.zero_le _, by exact Nat.zero_le _, hgo, ha.keep ⟨rfl, rfl, rfl, rfl, rfl, rfl, kI rfl (by rw [wr (by omega) (by omega)]; omega), trivial⟩⟩
   | false =>
    obtain ⟨sa, sc, wa, wc, scs, hs, rc0⟩ := hO
    refine W_skip ?_; (with_reducible refine T_then ?_); refine W_seq ?_; refine W_region ?_; refine P1 T.ok rfl rfl rfl ?_; refine WL_nil ?_; (with_reducible refine T_then ?_); refine W_seq ?_; refine W_seq ?_; refine W_region ?_; refine P1 T.ok rfl rfl rfl ?_; refine WL_nil ?_; (with_reducible refine T_then ?_)
    refine W_no rfl rfl ?_
    refine W_seq ?_; refine W_region ?_; refine P1 T.ok rfl rfl rfl ?_
    refine WL_o rfl rfl (OpR_idxS T.ok rfl rfl rfl rfl rfl (by omega) (by simp) ?_)
    refine P1 T.ok rfl rfl rfl ?_; refine WL_nil ?_; (with_reducible refine T_then ?_)
    by_cases h115 : c = 115
    ·have hhd := head_step f (c :: tl) (by rw [h115]; rfl)
     refine W_yes (b := _) ?_ rfl ?_
     ·simp [h115]
     refine W_seq ?_; refine W_region ?_; refine P1 T.ok rfl rfl rfl ?_; refine P1 T.ok rfl rfl rfl ?_; refine WL_o rfl rfl (OpR_loadO T.ok 0 rfl hs rfl rfl rfl ?_); refine P1 T.ok rfl rfl rfl ?_
     refine WL_o rfl rfl (OpR_ret cl52 allF rfl rfl rfl rfl rfl (rreadStep_c (c :: tl) f.steps.length _ hll (by omega)) ?_)
     rintro g3 _ hf3 ⟨_, rfl, _, rfl, ua, un, uc, xa, xn, xc, rfl, rs2, rs3⟩
     replace hs := hs.call hf3
     have hqe := hf3.le; replace le0 := G.le.trans le0 hqe; replace rs0 := rs0.mono hqe; replace rc0 := rc0.mono hqe
     replace lez := lez.trans hqe
     generalize hrs : (readStepR f.steps.length (c :: tl)).1 = st0 at *
     generalize (readStepR f.steps.length (c :: tl)).2 = okk at *
     (iterate 3 refine P1 T.ok rfl rfl rfl ?_)
     refine WL_o rfl rfl (OpR_alloc T.ok rfl hs rfl rfl ?_); clear hs; rintro b11 g1 hs hqe; replace le0 := G.le.trans le0 hqe; replace rs0 := rs0.mono hqe; replace rs2 := rs2.mono hqe; replace rs3 := rs3.mono hqe; replace rc0 := rc0.mono hqe
     replace lez := lez.trans hqe
     skip
     refine WL_n rfl (OpR_storeO T.ok 0 rfl hs rfl rfl rfl rfl rfl rfl rfl rfl rfl ?_); replace hs := hs; rintro g1 hs hqe; replace le0 := G.le.trans le0 hqe; replace rs0 := rs0.mono hqe; replace rs2 := rs2.mono hqe; replace rs3 := rs3.mono hqe; replace rc0 := rc0.mono hqe
     replace lez := lez.trans hqe
     refine P1 T.ok rfl rfl rfl ?_
     refine WL_nil ?_
     with_reducible refine T_then ?_
     refine W_seq ?_
     have lef := G.le.refl g1
     refine W_mid (fun a' w => ∃ (g6 : G), w = g6.w ∧ G.le g1 g6 ∧ St g g6 (.obj b11 (.cells [.int .i64 st0.recipe, .slice ua un uc, .int .i64 st0.min, .int .i64 st0.max, .slice xa xn xc, .int .i64 st0.back, .int .i64 st0.limit].toArray 50 (0, 0)) :: (flL b f sa sc wa wc scs ++ [.obj b2 (.cells [.int .i64 0, .int .i64 0, .slice none 0 0, .slice none 0 0].toArray 25 (0, 0))])) ∧
      Fr 126 [] [(2, .pointer (some ⟨b2, 0, none⟩)), (3, .int .i64 0), (4, .int .i64 0), (5, .slice pa ps.length pc), (6, .pointer (some ⟨b, 0, none⟩)), (7, .bool false), (8, .int .i64 k), (11, .pointer (some ⟨b11, 0, none⟩)), (10, .bool (okk && rightStep st0 40 && decide ((f.steps.length : Int) < 40) && ((f.windows.length : Int) == 0)))] a') ?_ ?_
     ·cases d1 : (okk && rightStep st0 40) with
      | false =>
       rw [Bool.false_and, Bool.false_and]
       refine W_region ?_; refine P1 T.ok rfl rfl rfl ?_; refine P1 T.ok rfl rfl rfl ?_; (iterate 4 refine S1 allF rfl rfl ?_); refine P1 T.ok rfl rfl rfl ?_; refine P1 T.ok rfl rfl rfl ?_; (iterate 4 refine S1 allF rfl rfl ?_); refine P1 T.ok rfl rfl rfl ?_; refine P1 T.ok rfl rfl rfl ?_; refine WL_nil ?_
       exact fun a ha => ⟨_, rfl, lef, hs, ha.keep (by (repeat (first | exact trivial | refine ⟨rfl, ?_⟩)))⟩
      | true =>
      rw [Bool.true_and]
      cases d2 : decide ((f.steps.length : Int) < 40) with
      | false =>
       rw [Bool.false_and]
       refine W_region ?_; (iterate 3 refine P1 T.ok rfl rfl rfl ?_); refine WL_o rfl rfl (OpR_loadO T.ok 1 rfl hs rfl rfl rfl ?_); (iterate 4 refine P1 T.ok rfl rfl rfl ?_)
       refine WL_know 63 (b' := false) (by simpa using d2) rfl ?_
       (iterate 4 refine S1 allF rfl rfl ?_); refine P1 T.ok rfl rfl rfl ?_; refine P1 T.ok rfl rfl rfl ?_; refine WL_nil ?_
       exact fun a ha => ⟨_, rfl, lef, hs, ha.keep (by (repeat (first | exact trivial | refine ⟨rfl, ?_⟩)))⟩
      | true =>
       rw [Bool.true_and]
       refine W_region ?_; (iterate 3 refine P1 T.ok rfl rfl rfl ?_); refine WL_o rfl rfl (OpR_loadO T.ok 1 rfl hs rfl rfl rfl ?_); (iterate 4 refine P1 T.ok rfl rfl rfl ?_)
       refine WL_know 63 (b' := true) (by simpa using d2) rfl ?_
       refine P1 T.ok rfl rfl rfl ?_; refine WL_o rfl rfl (OpR_loadO T.ok 1 rfl hs rfl rfl rfl ?_); (iterate 4 refine P1 T.ok rfl rfl rfl ?_); refine WL_nil ?_
       exact fun a ha => ⟨_, rfl, lef, hs, ha.keep (by (repeat (first | exact trivial | refine ⟨rfl, ?_⟩)))⟩
     clear hs
     rintro a' _ ⟨g6, rfl, hqe, hs, ha'⟩
     replace le0 := G.le.trans le0 hqe; replace rs0 := rs0.mono hqe; replace rs2 := rs2.mono hqe; replace rs3 := rs3.mono hqe; replace rc0 := rc0.mono hqe
     replace lez := lez.trans hqe
     clear lef
     revert a'
     (with_reducible refine T_wp ?_); refine W_region ?_; refine P1 T.ok rfl rfl rfl ?_; refine WL_o rfl rfl (OpR_loadO T.ok 1 rfl hs rfl rfl rfl ?_); refine WL_o rfl rfl (OpR_loadO T.ok 0 rfl hs rfl rfl rfl ?_)
     refine WL_o rfl rfl (OpR_lit T.ok rfl hs (vs := [(0, .agg #[.int .i64 st0.recipe, .slice ua un uc, .int .i64 st0.min, .int .i64 st0.max, .slice xa xn xc, .int .i64 st0.back, .int .i64 st0.limit])]) (cells := [.int .i64 st0.recipe, .slice ua un uc, .int .i64 st0.min, .int .i64 st0.max, .slice xa xn xc, .int .i64 st0.back, .int .i64 st0.limit]) rfl rfl rfl rfl rfl rfl (by decide) (by decide) (by kernel_rfl) rfl ?_)
     clear hs
     rintro bl gl hs hqe; replace le0 := G.le.trans le0 hqe; replace rs0 := rs0.mono hqe; replace rs2 := rs2.mono hqe; replace rs3 := rs3.mono hqe; replace rc0 := rc0.mono hqe
     replace lez := lez.trans hqe
     skip
     refine WL_o rfl rfl (OpR_append T.ok 3 rfl hs rfl rfl rfl rfl rfl rfl rfl (by decide) rfl (Src.of_row (hs.own 0 _ rfl).1).2 (by simp [Value.oneCell']) (by show (f.steps.length + 1) * 88 ≤ _; omega) (by unfold maxLen; show f.steps.length + 1 ≤ _; omega) ?_)
     clear hs
     rintro a9 c9 g9 hs hqe; replace le0 := G.le.trans le0 hqe; replace rs0 := rs0.mono hqe; replace rs2 := rs2.mono hqe; replace rs3 := rs3.mono hqe; replace rc0 := rc0.mono hqe
     replace lez := lez.trans hqe
     refine P1 T.ok rfl rfl rfl ?_
     refine WL_n rfl (OpR_storeO T.ok 2 rfl hs rfl rfl rfl rfl rfl rfl rfl rfl rfl ?_); replace hs := hs; rintro g1 hs hqe; replace le0 := G.le.trans le0 hqe; replace rs0 := rs0.mono hqe; replace rs2 := rs2.mono hqe; replace rs3 := rs3.mono hqe; replace rc0 := rc0.mono hqe
     replace lez := lez.trans hqe
     replace hs := (hs.drop 0).drop 0
     refine WL_nil ?_; (with_reducible refine T_then ?_); refine W_seq ?_; refine W_region ?_; refine P1 T.ok rfl rfl rfl ?_; refine P1 T.ok rfl rfl rfl ?_; refine WL_nil ?_; (with_reducible refine T_then ?_)
     cases hcc : (okk && rightStep st0 40 && decide ((f.steps.length : Int) < 40) && ((f.windows.length : Int) == 0)) with
     | false =>
      rw [show headR false f (c :: tl) = lineR f (c :: tl) from rfl, hhd, hcc] at hgo
      skip
      refine W_yes rfl rfl ?_
      refine W_seq ?_; refine W_region ?_
      refine WL_o rfl rfl (OpR_build T.ok rfl (vs := []) (cells := [.int .i64 0, .int .i64 0, .slice none 0 0, .slice none 0 0]) rfl rfl rfl rfl [(0, 1), (1, 1), (2, 1), (3, 1)] rfl (by kernel_rfl) ?_)
      refine P1 T.ok rfl rfl rfl ?_; refine P1 T.ok rfl rfl rfl ?_
      refine WL_n rfl (OpR_storeO T.ok 3 rfl hs rfl rfl rfl rfl rfl rfl rfl rfl rfl ?_); replace hs := hs; rintro g1 hs hqe; replace le0 := G.le.trans le0 hqe; replace rs0 := rs0.mono hqe; replace rs2 := rs2.mono hqe; replace rs3 := rs3.mono hqe; replace rc0 := rc0.mono hqe
      refine P1 T.ok rfl rfl rfl ?_; refine P1 T.ok rfl rfl rfl ?_; refine WL_nil ?_; (with_reducible refine T_then ?_)
      refine W_ret ?_
      (with_reducible refine T_br ?_); (with_reducible refine T_tr ?_; with_reducible refine T_tr ?_); (with_reducible refine T_br ?_); (with_reducible refine T_tr ?_)
      refine retC3 (v2 := .int .i64 ((k + 1 : Nat) : Int)) T.ok 3 rfl hs rfl rfl rfl (kI rfl (by rw [wr (by omega) (by omega)]; omega)) rfl (hs.ret ?_)
      rw [hpM _ hgo.symm]
      rfl
     | true =>
      rw [show headR false f (c :: tl) = lineR f (c :: tl) from rfl, hhd, hcc] at hgo
      refine W_no rfl rfl ?_
      have hO2 : FlO b ⟨f.moveMin, f.moveMax, f.steps ++ [st0], f.windows⟩ [.obj b2 (.cells [.int .i64 0, .int .i64 0, .slice none 0 0, .slice none 0 0].toArray 25 (0, 0))] g g1 := by
       refine ⟨a9, c9, wa, wc, _, ?_, RcL.app (α := Step) (ys := [st0]) ⟨_, [], (List.append_nil _).symm, (show RStep _ _ _ from ⟨_, _, _, _, _, _, rfl, rs2, rs3⟩), rfl⟩ rc0⟩
       unfold flL
       rw [List.length_append]
       exact hs
      refine W_skip ?_; (with_reducible refine T_bn ?_); (with_reducible refine T_then ?_); refine W_region ?_; (iterate 3 refine P1 T.ok rfl rfl rfl ?_); refine WL_nil ?_
      refine fun a ha => ⟨ps.length - (k + 1), by omega, k + 1, false, ⟨f.moveMin, f.moveMax, f.steps ++ [st0], f.windows⟩, _, rfl, hO2, (fun h => (by cases h)), lez, by omega, rfl, by show (f.steps ++ [st0]).length ≤ _; rw [List.length_append, List.length_singleton]; omega, by show f.windows.length ≤ _; omega, hgo, ha.keep ⟨rfl, rfl, rfl, rfl, rfl, rfl, kI rfl (by rw [wr (by omega) (by omega)]; omega), trivial⟩⟩
    ·have hhd := head_win f (c :: tl) (by simpa using h115)
     refine W_no (b := _) ?_ rfl ?_
     ·simp
      intro h; exact h115 (UInt8.toNat_inj.1 (show c.toNat = 115 by omega))
     refine W_seq ?_; refine W_region ?_; refine P1 T.ok rfl rfl rfl ?_
     refine WL_o rfl rfl (OpR_ret cl53 allF rfl rfl rfl rfl rfl (rreadWindow_c (c :: tl) _ hll) ?_); rintro g1 _ hf1 rfl; replace hs := hs.call hf1; have hqe := hf1.le; replace le0 := G.le.trans le0 hqe; replace rs0 := rs0.mono hqe; replace rc0 := rc0.mono hqe
     replace lez := lez.trans hqe
     generalize (readWindowR (c :: tl)).1 = w0 at *
     generalize (readWindowR (c :: tl)).2 = okk at *
     (iterate 3 refine P1 T.ok rfl rfl rfl ?_)
     refine WL_o rfl rfl (OpR_alloc T.ok rfl hs rfl rfl ?_); clear hs; rintro b13 g1 hs hqe; replace le0 := G.le.trans le0 hqe; replace rs0 := rs0.mono hqe; replace rc0 := rc0.mono hqe
     replace lez := lez.trans hqe
     skip
     refine WL_n rfl (OpR_storeO T.ok 0 rfl hs rfl rfl rfl rfl rfl rfl rfl rfl rfl ?_); replace hs := hs; rintro g1 hs hqe; replace le0 := G.le.trans le0 hqe; replace rs0 := rs0.mono hqe; replace rc0 := rc0.mono hqe
     replace lez := lez.trans hqe
     refine P1 T.ok rfl rfl rfl ?_; refine WL_nil ?_; (with_reducible refine T_then ?_); refine W_seq ?_; refine W_region ?_; refine P1 T.ok rfl rfl rfl ?_; refine WL_o rfl rfl (OpR_loadO T.ok 1 rfl hs rfl rfl rfl ?_); refine P1 T.ok rfl rfl rfl ?_; refine P1 T.ok rfl rfl rfl ?_; refine WL_nil ?_; (with_reducible refine T_then ?_); refine W_seq ?_
     have hsf := hs
     have lef := G.le.refl g1
     have hX : (okk && rightWindow w0 40 && decide ((f.windows.length : Int) < 20) && decide ((f.steps.length : Int) > 0) && follows f.windows w0) = (okk && rightWindow w0 40 && decide ((f.windows.length : Int) < 20) && decide ((f.steps.length : Int) > 0) && follows f.windows w0) := rfl
     refine W_mid (fun a' w => ∃ (g6 : G), w = g6.w ∧ G.le g1 g6 ∧ St g g6 (.obj b13 (.cells (winV w0).toArray 53 (0, 0)) :: (flL b f sa sc wa wc scs ++ [.obj b2 (.cells [.int .i64 0, .int .i64 0, .slice none 0 0, .slice none 0 0].toArray 25 (0, 0))])) ∧
      Fr 126 [] [(2, .pointer (some ⟨b2, 0, none⟩)), (3, .int .i64 0), (4, .int .i64 0), (5, .slice pa ps.length pc), (6, .pointer (some ⟨b, 0, none⟩)), (7, .bool false), (8, .int .i64 k), (13, .pointer (some ⟨b13, 0, none⟩)), (10, .bool (okk && rightWindow w0 40 && decide ((f.windows.length : Int) < 20) && decide ((f.steps.length : Int) > 0) && follows f.windows w0))] a') ?_ ?_
     ·cases d1 : (okk && rightWindow w0 40) with
      | false =>
       rw [Bool.false_and, Bool.false_and, Bool.false_and]
       apply W_draw allF rfl (Fact.eq _ :: Fact.eq _ :: Fact.eq _ :: Fact.eq _ :: Fact.eq _ :: Fact.eq _ :: Fact.eq _ :: Fact.eq _ :: Fact.eq _ :: Fact.eq _ :: Fact.eq _ :: Fact.eq _ :: Fact.eq _ :: Fact.eq _ :: Fact.eq _ :: Fact.eq _ :: Fact.eq _ :: Fact.eq _ :: Fact.eq _ :: Fact.eq _ :: Fact.eq _ :: Fact.eq _ :: Fact.eq _ :: Fact.eq _ :: Fact.eq _ :: []) 25 [(24, 107)] rfl rfl
       ·refine D_s (js := []) (by kernel_rfl) (fun _ _ => QA_nil (DPu T.ok rfl rfl rfl)) ?_
        refine D_s (js := [(0, 83)]) (by kernel_rfl) (fun _ _ => QA_eq rfl (QA_nil (DPu T.ok rfl rfl rfl))) ?_
        refine D_s (js := [(1, 84)]) (by kernel_rfl) (fun _ _ => QA_eq rfl (QA_nil (DNo rfl rfl))) ?_
        refine D_s (js := [(2, 85), (1, 84)]) (by kernel_rfl) (fun _ _ => QA_eq rfl (QA_eq rfl (QA_nil (DNo rfl rfl)))) ?_
        refine D_s (js := [(1, 84), (3, 86)]) (by kernel_rfl) (fun _ _ => QA_eq rfl (QA_eq rfl (QA_nil (DPu T.ok rfl rfl rfl)))) ?_
        refine D_s (js := [(4, 87)]) (by kernel_rfl) (fun _ _ => QA_eq rfl (QA_nil (DPu T.ok rfl rfl rfl))) ?_
        refine D_s (js := [(5, 88)]) (by kernel_rfl) (fun _ _ => QA_eq rfl (QA_nil (DNo rfl rfl))) ?_
        refine D_s (js := [(6, 89), (5, 88)]) (by kernel_rfl) (fun _ _ => QA_eq rfl (QA_eq rfl (QA_nil (DNo rfl rfl)))) ?_
        refine D_s (js := [(7, 90), (5, 88)]) (by kernel_rfl) (fun _ _ => QA_eq rfl (QA_eq rfl (QA_nil (DNo rfl rfl)))) ?_
        refine D_s (js := [(8, 91), (5, 88)]) (by kernel_rfl) (fun _ _ => QA_eq rfl (QA_eq rfl (QA_nil (DNo rfl rfl)))) ?_
        refine D_s (js := [(5, 88), (9, 92)]) (by kernel_rfl) (fun _ _ => QA_eq rfl (QA_eq rfl (QA_nil (DPu T.ok rfl rfl rfl)))) ?_
        refine D_s (js := [(10, 93)]) (by kernel_rfl) (fun _ _ => QA_eq rfl (QA_nil (DPu T.ok rfl rfl rfl))) ?_
        refine D_s (js := [(11, 94)]) (by kernel_rfl) (fun _ _ => QA_eq rfl (QA_nil (DNo rfl rfl))) ?_
        refine D_s (js := [(12, 95), (11, 94)]) (by kernel_rfl) (fun _ _ => QA_eq rfl (QA_eq rfl (QA_nil (DNo rfl rfl)))) ?_
        refine D_s (js := [(13, 96), (11, 94), (11, 94)]) (by kernel_rfl) (fun _ _ => QA_eq rfl (QA_eq rfl (QA_eq rfl (QA_nil (DNo rfl rfl))))) ?_
        refine D_s (js := [(14, 97)]) (by kernel_rfl) (fun _ _ => QA_eq rfl (QA_nil (DNo rfl rfl))) ?_
        refine D_s (js := [(15, 98), (14, 97)]) (by kernel_rfl) (fun _ _ => QA_eq rfl (QA_eq rfl (QA_nil (DNo rfl rfl)))) ?_
        refine D_s (js := [(14, 97)]) (by kernel_rfl) (fun _ _ => QA_eq rfl (QA_nil (DNo rfl rfl))) ?_
        refine D_s (js := [(17, 100), (14, 97)]) (by kernel_rfl) (fun _ _ => QA_eq rfl (QA_eq rfl (QA_nil (DNo rfl rfl)))) ?_
        refine D_s (js := [(16, 99), (18, 101), (14, 97)]) (by kernel_rfl) (fun _ _ => QA_eq rfl (QA_eq rfl (QA_eq rfl (QA_nil (DNo rfl rfl))))) ?_
        refine D_s (js := [(19, 102), (14, 97)]) (by kernel_rfl) (fun _ _ => QA_eq rfl (QA_eq rfl (QA_nil (DNo rfl rfl)))) ?_
        refine D_s (js := [(14, 97)]) (by kernel_rfl) (fun _ _ => QA_eq rfl (QA_nil (DNo rfl rfl))) ?_
        refine D_s (js := [(20, 103), (21, 104), (14, 97), (14, 97)]) (by kernel_rfl) (fun _ _ => QA_eq rfl (QA_eq rfl (QA_eq rfl (QA_eq rfl (QA_nil (DNo rfl rfl)))))) ?_
        refine D_s (js := [(14, 97), (22, 105), (11, 94)]) (by kernel_rfl) (fun _ _ => QA_eq rfl (QA_eq rfl (QA_eq rfl (QA_nil (DNo rfl rfl))))) ?_
        refine D_s (js := [(11, 94), (23, 106)]) (by kernel_rfl) (fun _ _ => QA_eq rfl (QA_eq rfl (QA_nil (DPu T.ok rfl rfl rfl)))) ?_
        exact D_nil
       intro g1 hf1; refine QA_eq rfl ?_; refine QA_nil ?_
       replace hs := hs.dr.call hf1; have hqe := (G.le_dr _).trans hf1.le; replace le0 := G.le.trans le0 hqe; replace rs0 := rs0.mono hqe; replace rc0 := rc0.mono hqe
       refine P1 T.ok rfl rfl rfl ?_; refine WL_nil ?_
       exact fun a ha => ⟨_, rfl, hqe, hs, ha.keep (by (repeat (first | exact trivial | refine ⟨rfl, ?_⟩)))⟩
      | true =>
      rw [Bool.true_and]
      cases d2 : decide ((f.windows.length : Int) < 20) with
      | false =>
       rw [Bool.false_and, Bool.false_and]
       apply W_draw allF rfl (Fact.eq _ :: Fact.eq _ :: Fact.eq _ :: Fact.eq _ :: Fact.eq _ :: Fact.eq _ :: Fact.eq _ :: Fact.eq _ :: Fact.eq _ :: Fact.eq _ :: Fact.eq _ :: Fact.eq _ :: Fact.eq _ :: Fact.eq _ :: Fact.eq _ :: Fact.eq _ :: Fact.eq _ :: Fact.eq _ :: Fact.eq _ :: Fact.eq _ :: Fact.eq _ :: Fact.eq _ :: Fact.eq _ :: Fact.eq _ :: Fact.eq _ :: []) 25 [(24, 107)] rfl rfl
       ·refine D_s (js := []) (by kernel_rfl) (fun _ _ => QA_nil (DPu T.ok rfl rfl rfl)) ?_
        refine D_s (js := [(0, 83)]) (by kernel_rfl) (fun _ _ => QA_eq rfl (QA_nil (DPu T.ok rfl rfl rfl))) ?_
        refine D_s (js := [(1, 84)]) (by kernel_rfl) (fun _ _ => QA_eq rfl (QA_nil (DPu T.ok rfl rfl rfl))) ?_
        refine D_cons (D_step2 (js := [(2, 85), (1, 84)]) (by kernel_rfl) fun gd hf => ?_) ?_
        ·have hsd := hs.dr.call hf; have hfe := (G.le_dr _).trans hf.le
         refine QA_eq rfl ?_; refine QA_eq rfl ?_
         refine QA_nil ?_
         refine D_yes rfl ?_
         refine OpR_pure _ T.ok rfl ?_
         exact ⟨_, rfl, Fr0.refl _, congrArg Value.bool (d2)⟩
        refine D_s (js := [(1, 84), (3, 86)]) (by kernel_rfl) (fun _ _ => QA_eq rfl (QA_eq rfl (QA_nil (DPu T.ok rfl rfl rfl)))) ?_
        refine D_s (js := [(4, 87)]) (by kernel_rfl) (fun _ _ => QA_eq rfl (QA_nil (DPu T.ok rfl rfl rfl))) ?_
        refine D_s (js := [(5, 88)]) (by kernel_rfl) (fun _ _ => QA_eq rfl (QA_nil (DNo rfl rfl))) ?_
        refine D_s (js := [(6, 89), (5, 88)]) (by kernel_rfl) (fun _ _ => QA_eq rfl (QA_eq rfl (QA_nil (DNo rfl rfl)))) ?_
        refine D_s (js := [(7, 90), (5, 88)]) (by kernel_rfl) (fun _ _ => QA_eq rfl (QA_eq rfl (QA_nil (DNo rfl rfl)))) ?_
        refine D_s (js := [(8, 91), (5, 88)]) (by kernel_rfl) (fun _ _ => QA_eq rfl (QA_eq rfl (QA_nil (DNo rfl rfl)))) ?_
        refine D_s (js := [(5, 88), (9, 92)]) (by kernel_rfl) (fun _ _ => QA_eq rfl (QA_eq rfl (QA_nil (DPu T.ok rfl rfl rfl)))) ?_
        refine D_s (js := [(10, 93)]) (by kernel_rfl) (fun _ _ => QA_eq rfl (QA_nil (DPu T.ok rfl rfl rfl))) ?_
        refine D_s (js := [(11, 94)]) (by kernel_rfl) (fun _ _ => QA_eq rfl (QA_nil (DNo rfl rfl))) ?_
        refine D_s (js := [(12, 95), (11, 94)]) (by kernel_rfl) (fun _ _ => QA_eq rfl (QA_eq rfl (QA_nil (DNo rfl rfl)))) ?_
        refine D_s (js := [(13, 96), (11, 94), (11, 94)]) (by kernel_rfl) (fun _ _ => QA_eq rfl (QA_eq rfl (QA_eq rfl (QA_nil (DNo rfl rfl))))) ?_
        refine D_s (js := [(14, 97)]) (by kernel_rfl) (fun _ _ => QA_eq rfl (QA_nil (DNo rfl rfl))) ?_
        refine D_s (js := [(15, 98), (14, 97)]) (by kernel_rfl) (fun _ _ => QA_eq rfl (QA_eq rfl (QA_nil (DNo rfl rfl)))) ?_
        refine D_s (js := [(14, 97)]) (by kernel_rfl) (fun _ _ => QA_eq rfl (QA_nil (DNo rfl rfl))) ?_
        refine D_s (js := [(17, 100), (14, 97)]) (by kernel_rfl) (fun _ _ => QA_eq rfl (QA_eq rfl (QA_nil (DNo rfl rfl)))) ?_
        refine D_s (js := [(16, 99), (18, 101), (14, 97)]) (by kernel_rfl) (fun _ _ => QA_eq rfl (QA_eq rfl (QA_eq rfl (QA_nil (DNo rfl rfl))))) ?_
        refine D_s (js := [(19, 102), (14, 97)]) (by kernel_rfl) (fun _ _ => QA_eq rfl (QA_eq rfl (QA_nil (DNo rfl rfl)))) ?_
        refine D_s (js := [(14, 97)]) (by kernel_rfl) (fun _ _ => QA_eq rfl (QA_nil (DNo rfl rfl))) ?_
        refine D_s (js := [(20, 103), (21, 104), (14, 97), (14, 97)]) (by kernel_rfl) (fun _ _ => QA_eq rfl (QA_eq rfl (QA_eq rfl (QA_eq rfl (QA_nil (DNo rfl rfl)))))) ?_
        refine D_s (js := [(14, 97), (22, 105), (11, 94)]) (by kernel_rfl) (fun _ _ => QA_eq rfl (QA_eq rfl (QA_eq rfl (QA_nil (DNo rfl rfl))))) ?_
        refine D_s (js := [(11, 94), (23, 106)]) (by kernel_rfl) (fun _ _ => QA_eq rfl (QA_eq rfl (QA_nil (DPu T.ok rfl rfl rfl)))) ?_
        exact D_nil
       intro g1 hf1; refine QA_eq rfl ?_; refine QA_nil ?_
       replace hs := hs.dr.call hf1; have hqe := (G.le_dr _).trans hf1.le; replace le0 := G.le.trans le0 hqe; replace rs0 := rs0.mono hqe; replace rc0 := rc0.mono hqe
       refine P1 T.ok rfl rfl rfl ?_; refine WL_nil ?_
       exact fun a ha => ⟨_, rfl, hqe, hs, ha.keep (by (repeat (first | exact trivial | refine ⟨rfl, ?_⟩)))⟩
      | true =>
      rw [Bool.true_and]
      cases d3 : decide ((f.steps.length : Int) > 0) with
      | false =>
       rw [Bool.false_and]
       apply W_draw allF rfl (Fact.eq _ :: Fact.eq _ :: Fact.eq _ :: Fact.eq _ :: Fact.eq _ :: Fact.eq _ :: Fact.eq _ :: Fact.eq _ :: Fact.eq _ :: Fact.eq _ :: Fact.eq _ :: Fact.eq _ :: Fact.eq _ :: Fact.eq _ :: Fact.eq _ :: Fact.eq _ :: Fact.eq _ :: Fact.eq _ :: Fact.eq _ :: Fact.eq _ :: Fact.eq _ :: Fact.eq _ :: Fact.eq _ :: Fact.eq _ :: Fact.eq _ :: []) 25 [(24, 107)] rfl rfl
       ·refine D_s (js := []) (by kernel_rfl) (fun _ _ => QA_nil (DPu T.ok rfl rfl rfl)) ?_
        refine D_s (js := [(0, 83)]) (by kernel_rfl) (fun _ _ => QA_eq rfl (QA_nil (DPu T.ok rfl rfl rfl))) ?_
        refine D_s (js := [(1, 84)]) (by kernel_rfl) (fun _ _ => QA_eq rfl (QA_nil (DPu T.ok rfl rfl rfl))) ?_
        refine D_cons (D_step2 (js := [(2, 85), (1, 84)]) (by kernel_rfl) fun gd hf => ?_) ?_
        ·have hsd := hs.dr.call hf; have hfe := (G.le_dr _).trans hf.le
         refine QA_eq rfl ?_; refine QA_eq rfl ?_
         refine QA_nil ?_
         refine D_yes rfl ?_
         refine OpR_pure _ T.ok rfl ?_
         exact ⟨_, rfl, Fr0.refl _, congrArg Value.bool (d2)⟩
        refine D_s (js := [(1, 84), (3, 86)]) (by kernel_rfl) (fun _ _ => QA_eq rfl (QA_eq rfl (QA_nil (DPu T.ok rfl rfl rfl)))) ?_
        refine D_s (js := [(4, 87)]) (by kernel_rfl) (fun _ _ => QA_eq rfl (QA_nil (DPu T.ok rfl rfl rfl))) ?_
        refine D_s (js := [(5, 88)]) (by kernel_rfl) (fun _ _ => QA_eq rfl (QA_nil (DPu T.ok rfl rfl rfl))) ?_
        refine D_s (js := [(6, 89), (5, 88)]) (by kernel_rfl) (fun _ hf => QA_eq rfl (QA_eq rfl (QA_nil (DLo T.ok 1 rfl rfl (hs.dr.call hf) rfl rfl rfl rfl)))) ?_
        refine D_s (js := [(7, 90), (5, 88)]) (by kernel_rfl) (fun _ _ => QA_eq rfl (QA_eq rfl (QA_nil (DPu T.ok rfl rfl rfl)))) ?_
        refine D_cons (D_step2 (js := [(8, 91), (5, 88)]) (by kernel_rfl) fun gd hf => ?_) ?_
        ·have hsd := hs.dr.call hf; have hfe := (G.le_dr _).trans hf.le
         refine QA_eq rfl ?_; refine QA_eq rfl ?_
         refine QA_nil ?_
         refine D_yes rfl ?_
         refine OpR_pure _ T.ok rfl ?_
         exact ⟨_, rfl, Fr0.refl _, congrArg Value.bool (d3)⟩
        refine D_s (js := [(5, 88), (9, 92)]) (by kernel_rfl) (fun _ _ => QA_eq rfl (QA_eq rfl (QA_nil (DPu T.ok rfl rfl rfl)))) ?_
        refine D_s (js := [(10, 93)]) (by kernel_rfl) (fun _ _ => QA_eq rfl (QA_nil (DPu T.ok rfl rfl rfl))) ?_
        refine D_s (js := [(11, 94)]) (by kernel_rfl) (fun _ _ => QA_eq rfl (QA_nil (DNo rfl rfl))) ?_
        refine D_s (js := [(12, 95), (11, 94)]) (by kernel_rfl) (fun _ _ => QA_eq rfl (QA_eq rfl (QA_nil (DNo rfl rfl)))) ?_
        refine D_s (js := [(13, 96), (11, 94), (11, 94)]) (by kernel_rfl) (fun _ _ => QA_eq rfl (QA_eq rfl (QA_eq rfl (QA_nil (DNo rfl rfl))))) ?_
        refine D_s (js := [(14, 97)]) (by kernel_rfl) (fun _ _ => QA_eq rfl (QA_nil (DNo rfl rfl))) ?_
        refine D_s (js := [(15, 98), (14, 97)]) (by kernel_rfl) (fun _ _ => QA_eq rfl (QA_eq rfl (QA_nil (DNo rfl rfl)))) ?_
        refine D_s (js := [(14, 97)]) (by kernel_rfl) (fun _ _ => QA_eq rfl (QA_nil (DNo rfl rfl))) ?_
        refine D_s (js := [(17, 100), (14, 97)]) (by kernel_rfl) (fun _ _ => QA_eq rfl (QA_eq rfl (QA_nil (DNo rfl rfl)))) ?_
        refine D_s (js := [(16, 99), (18, 101), (14, 97)]) (by kernel_rfl) (fun _ _ => QA_eq rfl (QA_eq rfl (QA_eq rfl (QA_nil (DNo rfl rfl))))) ?_
        refine D_s (js := [(19, 102), (14, 97)]) (by kernel_rfl) (fun _ _ => QA_eq rfl (QA_eq rfl (QA_nil (DNo rfl rfl)))) ?_
        refine D_s (js := [(14, 97)]) (by kernel_rfl) (fun _ _ => QA_eq rfl (QA_nil (DNo rfl rfl))) ?_
        refine D_s (js := [(20, 103), (21, 104), (14, 97), (14, 97)]) (by kernel_rfl) (fun _ _ => QA_eq rfl (QA_eq rfl (QA_eq rfl (QA_eq rfl (QA_nil (DNo rfl rfl)))))) ?_
        refine D_s (js := [(14, 97), (22, 105), (11, 94)]) (by kernel_rfl) (fun _ _ => QA_eq rfl (QA_eq rfl (QA_eq rfl (QA_nil (DNo rfl rfl))))) ?_
        refine D_s (js := [(11, 94), (23, 106)]) (by kernel_rfl) (fun _ _ => QA_eq rfl (QA_eq rfl (QA_nil (DPu T.ok rfl rfl rfl)))) ?_
        exact D_nil
       intro g1 hf1; refine QA_eq rfl ?_; refine QA_nil ?_
       replace hs := hs.dr.call hf1; have hqe := (G.le_dr _).trans hf1.le; replace le0 := G.le.trans le0 hqe; replace rs0 := rs0.mono hqe; replace rc0 := rc0.mono hqe
       refine P1 T.ok rfl rfl rfl ?_; refine WL_nil ?_
       exact fun a ha => ⟨_, rfl, hqe, hs, ha.keep (by (repeat (first | exact trivial | refine ⟨rfl, ?_⟩)))⟩
      | true =>
      rw [Bool.true_and]
      cases d4 : ((f.windows.length : Int) == 0) with
      | true =>
       have hw0 : f.windows = [] := by
        have := eq_of_beq d4
        exact List.eq_nil_of_length_eq_zero (by omega)
       have hfo : follows f.windows w0 = true := by rw [hw0]; rfl
       rw [hfo]
       apply W_draw allF rfl (Fact.eq _ :: Fact.eq _ :: Fact.eq _ :: Fact.eq _ :: Fact.eq _ :: Fact.eq _ :: Fact.eq _ :: Fact.eq _ :: Fact.eq _ :: Fact.eq _ :: Fact.eq _ :: Fact.eq _ :: Fact.eq _ :: Fact.eq _ :: Fact.eq _ :: Fact.eq _ :: Fact.eq _ :: Fact.eq _ :: Fact.eq _ :: Fact.eq _ :: Fact.eq _ :: Fact.eq _ :: Fact.eq _ :: Fact.eq _ :: Fact.eq _ :: []) 25 [(24, 107)] rfl rfl
       ·refine D_s (js := []) (by kernel_rfl) (fun _ _ => QA_nil (DPu T.ok rfl rfl rfl)) ?_
        refine D_s (js := [(0, 83)]) (by kernel_rfl) (fun _ _ => QA_eq rfl (QA_nil (DPu T.ok rfl rfl rfl))) ?_
        refine D_s (js := [(1, 84)]) (by kernel_rfl) (fun _ _ => QA_eq rfl (QA_nil (DPu T.ok rfl rfl rfl))) ?_
        refine D_cons (D_step2 (js := [(2, 85), (1, 84)]) (by kernel_rfl) fun gd hf => ?_) ?_
        ·have hsd := hs.dr.call hf; have hfe := (G.le_dr _).trans hf.le
         refine QA_eq rfl ?_; refine QA_eq rfl ?_
         refine QA_nil ?_
         refine D_yes rfl ?_
         refine OpR_pure _ T.ok rfl ?_
         exact ⟨_, rfl, Fr0.refl _, congrArg Value.bool (d2)⟩
        refine D_s (js := [(1, 84), (3, 86)]) (by kernel_rfl) (fun _ _ => QA_eq rfl (QA_eq rfl (QA_nil (DPu T.ok rfl rfl rfl)))) ?_
        refine D_s (js := [(4, 87)]) (by kernel_rfl) (fun _ _ => QA_eq rfl (QA_nil (DPu T.ok rfl rfl rfl))) ?_
        refine D_s (js := [(5, 88)]) (by kernel_rfl) (fun _ _ => QA_eq rfl (QA_nil (DPu T.ok rfl rfl rfl))) ?_
        refine D_s (js := [(6, 89), (5, 88)]) (by kernel_rfl) (fun _ hf => QA_eq rfl (QA_eq rfl (QA_nil (DLo T.ok 1 rfl rfl (hs.dr.call hf) rfl rfl rfl rfl)))) ?_
        refine D_s (js := [(7, 90), (5, 88)]) (by kernel_rfl) (fun _ _ => QA_eq rfl (QA_eq rfl (QA_nil (DPu T.ok rfl rfl rfl)))) ?_
        refine D_cons (D_step2 (js := [(8, 91), (5, 88)]) (by kernel_rfl) fun gd hf => ?_) ?_
        ·have hsd := hs.dr.call hf; have hfe := (G.le_dr _).trans hf.le
         refine QA_eq rfl ?_; refine QA_eq rfl ?_
         refine QA_nil ?_
         refine D_yes rfl ?_
         refine OpR_pure _ T.ok rfl ?_
         exact ⟨_, rfl, Fr0.refl _, congrArg Value.bool (d3)⟩
        refine D_s (js := [(5, 88), (9, 92)]) (by kernel_rfl) (fun _ _ => QA_eq rfl (QA_eq rfl (QA_nil (DPu T.ok rfl rfl rfl)))) ?_
        refine D_s (js := [(10, 93)]) (by kernel_rfl) (fun _ _ => QA_eq rfl (QA_nil (DPu T.ok rfl rfl rfl))) ?_
        refine D_s (js := [(11, 94)]) (by kernel_rfl) (fun _ _ => QA_eq rfl (QA_nil (DPu T.ok rfl rfl rfl))) ?_
        refine D_cons (D_step2 (js := [(12, 95), (11, 94)]) (by kernel_rfl) fun gd hf => ?_) ?_
        ·have hsd := hs.dr.call hf; have hfe := (G.le_dr _).trans hf.le
         refine QA_eq rfl ?_; refine QA_eq rfl ?_
         refine QA_nil ?_
         refine D_yes rfl ?_
         refine OpR_pure _ T.ok rfl ?_
         exact ⟨_, rfl, Fr0.refl _, congrArg Value.bool (d4)⟩
        refine D_s (js := [(13, 96), (11, 94), (11, 94)]) (by kernel_rfl) (fun _ _ => QA_eq rfl (QA_eq rfl (QA_eq rfl (QA_nil (DPu T.ok rfl rfl rfl))))) ?_
        refine D_s (js := [(14, 97)]) (by kernel_rfl) (fun _ _ => QA_eq rfl (QA_nil (DNo rfl rfl))) ?_
        refine D_s (js := [(15, 98), (14, 97)]) (by kernel_rfl) (fun _ _ => QA_eq rfl (QA_eq rfl (QA_nil (DNo rfl rfl)))) ?_
        refine D_s (js := [(14, 97)]) (by kernel_rfl) (fun _ _ => QA_eq rfl (QA_nil (DNo rfl rfl))) ?_
        refine D_s (js := [(17, 100), (14, 97)]) (by kernel_rfl) (fun _ _ => QA_eq rfl (QA_eq rfl (QA_nil (DNo rfl rfl)))) ?_
        refine D_s (js := [(16, 99), (18, 101), (14, 97)]) (by kernel_rfl) (fun _ _ => QA_eq rfl (QA_eq rfl (QA_eq rfl (QA_nil (DNo rfl rfl))))) ?_
        refine D_s (js := [(19, 102), (14, 97)]) (by kernel_rfl) (fun _ _ => QA_eq rfl (QA_eq rfl (QA_nil (DNo rfl rfl)))) ?_
        refine D_s (js := [(14, 97)]) (by kernel_rfl) (fun _ _ => QA_eq rfl (QA_nil (DNo rfl rfl))) ?_
        refine D_s (js := [(20, 103), (21, 104), (14, 97), (14, 97)]) (by kernel_rfl) (fun _ _ => QA_eq rfl (QA_eq rfl (QA_eq rfl (QA_eq rfl (QA_nil (DNo rfl rfl)))))) ?_
        refine D_s (js := [(14, 97), (22, 105), (11, 94)]) (by kernel_rfl) (fun _ _ => QA_eq rfl (QA_eq rfl (QA_eq rfl (QA_nil (DPu T.ok rfl rfl rfl))))) ?_
        refine D_s (js := [(11, 94), (23, 106)]) (by kernel_rfl) (fun _ _ => QA_eq rfl (QA_eq rfl (QA_nil (DPu T.ok rfl rfl rfl)))) ?_
        exact D_nil
       intro g1 hf1; refine QA_eq rfl ?_; refine QA_nil ?_
       replace hs := hs.dr.call hf1; have hqe := (G.le_dr _).trans hf1.le; replace le0 := G.le.trans le0 hqe; replace rs0 := rs0.mono hqe; replace rc0 := rc0.mono hqe
       refine P1 T.ok rfl rfl rfl ?_; refine WL_nil ?_
       exact fun a ha => ⟨_, rfl, hqe, hs, ha.keep (by (repeat (first | exact trivial | refine ⟨rfl, ?_⟩)))⟩
      | false =>
       have hl0 : f.windows.length ≠ 0 := by intro h; rw [h] at d4; cases d4
       obtain ⟨lw, hlw⟩ : ∃ v, f.windows.getLast? = some v := by
        cases hg : f.windows.getLast? with
        | none => rw [List.getLast?_eq_none_iff] at hg; rw [hg] at hl0; exact absurd rfl hl0
        | some v => exact ⟨v, rfl⟩
       have hfl : follows f.windows w0 = winLess lw w0 := by unfold follows; rw [hlw]
       have hld := winL_last hlw
       obtain ⟨wb, wp, rfl⟩ := row_some (hs.own 3 _ rfl).1 hl0
       have hn1 : ((f.windows.length : Int) - 1).toNat = f.windows.length - 1 := by omega
       rw [← hn1] at hld
       rw [hfl]
       apply W_draw allF rfl (Fact.eq _ :: Fact.eq _ :: Fact.eq _ :: Fact.eq _ :: Fact.eq _ :: Fact.eq _ :: Fact.eq _ :: Fact.eq _ :: Fact.eq _ :: Fact.eq _ :: Fact.eq _ :: Fact.eq _ :: Fact.eq _ :: Fact.eq _ :: Fact.eq _ :: Fact.eq _ :: Fact.eq _ :: Fact.eq _ :: Fact.eq _ :: Fact.eq _ :: Fact.eq _ :: Fact.eq _ :: Fact.eq _ :: Fact.eq _ :: Fact.eq _ :: []) 25 [(24, 107)] rfl rfl
       ·refine D_s (js := []) (by kernel_rfl) (fun _ _ => QA_nil (DPu T.ok rfl rfl rfl)) ?_
        refine D_s (js := [(0, 83)]) (by kernel_rfl) (fun _ _ => QA_eq rfl (QA_nil (DPu T.ok rfl rfl rfl))) ?_
        refine D_s (js := [(1, 84)]) (by kernel_rfl) (fun _ _ => QA_eq rfl (QA_nil (DPu T.ok rfl rfl rfl))) ?_
        refine D_cons (D_step2 (js := [(2, 85), (1, 84)]) (by kernel_rfl) fun gd hf => ?_) ?_
        ·have hsd := hs.dr.call hf; have hfe := (G.le_dr _).trans hf.le
         refine QA_eq rfl ?_; refine QA_eq rfl ?_
         refine QA_nil ?_
         refine D_yes rfl ?_
         refine OpR_pure _ T.ok rfl ?_
         exact ⟨_, rfl, Fr0.refl _, congrArg Value.bool (d2)⟩
        refine D_s (js := [(1, 84), (3, 86)]) (by kernel_rfl) (fun _ _ => QA_eq rfl (QA_eq rfl (QA_nil (DPu T.ok rfl rfl rfl)))) ?_
        refine D_s (js := [(4, 87)]) (by kernel_rfl) (fun _ _ => QA_eq rfl (QA_nil (DPu T.ok rfl rfl rfl))) ?_
        refine D_s (js := [(5, 88)]) (by kernel_rfl) (fun _ _ => QA_eq rfl (QA_nil (DPu T.ok rfl rfl rfl))) ?_
        refine D_s (js := [(6, 89), (5, 88)]) (by kernel_rfl) (fun _ hf => QA_eq rfl (QA_eq rfl (QA_nil (DLo T.ok 1 rfl rfl (hs.dr.call hf) rfl rfl rfl rfl)))) ?_
        refine D_s (js := [(7, 90), (5, 88)]) (by kernel_rfl) (fun _ _ => QA_eq rfl (QA_eq rfl (QA_nil (DPu T.ok rfl rfl rfl)))) ?_
        refine D_cons (D_step2 (js := [(8, 91), (5, 88)]) (by kernel_rfl) fun gd hf => ?_) ?_
        ·have hsd := hs.dr.call hf; have hfe := (G.le_dr _).trans hf.le
         refine QA_eq rfl ?_; refine QA_eq rfl ?_
         refine QA_nil ?_
         refine D_yes rfl ?_
         refine OpR_pure _ T.ok rfl ?_
         exact ⟨_, rfl, Fr0.refl _, congrArg Value.bool (d3)⟩
        refine D_s (js := [(5, 88), (9, 92)]) (by kernel_rfl) (fun _ _ => QA_eq rfl (QA_eq rfl (QA_nil (DPu T.ok rfl rfl rfl)))) ?_
        refine D_s (js := [(10, 93)]) (by kernel_rfl) (fun _ _ => QA_eq rfl (QA_nil (DPu T.ok rfl rfl rfl))) ?_
        refine D_s (js := [(11, 94)]) (by kernel_rfl) (fun _ _ => QA_eq rfl (QA_nil (DPu T.ok rfl rfl rfl))) ?_
        refine D_cons (D_step2 (js := [(12, 95), (11, 94)]) (by kernel_rfl) fun gd hf => ?_) ?_
        ·have hsd := hs.dr.call hf; have hfe := (G.le_dr _).trans hf.le
         refine QA_eq rfl ?_; refine QA_eq rfl ?_
         refine QA_nil ?_
         refine D_yes rfl ?_
         refine OpR_pure _ T.ok rfl ?_
         exact ⟨_, rfl, Fr0.refl _, congrArg Value.bool (d4)⟩
        refine D_s (js := [(13, 96), (11, 94), (11, 94)]) (by kernel_rfl) (fun _ _ => QA_eq rfl (QA_eq rfl (QA_eq rfl (QA_nil (DPu T.ok rfl rfl rfl))))) ?_
        refine D_s (js := [(14, 97)]) (by kernel_rfl) (fun _ _ => QA_eq rfl (QA_nil (DPu T.ok rfl rfl rfl))) ?_
        refine D_s (js := [(15, 98), (14, 97)]) (by kernel_rfl) (fun _ hf => QA_eq rfl (QA_eq rfl (QA_nil (DLo T.ok 1 rfl rfl (hs.dr.call hf) rfl rfl rfl rfl)))) ?_
        refine D_s (js := [(14, 97)]) (by kernel_rfl) (fun _ _ => QA_eq rfl (QA_nil (DPu T.ok rfl rfl rfl))) ?_
        refine D_cons (D_step2 (js := [(17, 100), (14, 97)]) (by kernel_rfl) fun gd hf => ?_) ?_
        ·have hsd := hs.dr.call hf; have hfe := (G.le_dr _).trans hf.le
         refine QA_eq rfl ?_; refine QA_eq rfl ?_
         refine QA_nil ?_
         refine D_yes rfl ?_
         refine OpR_pure _ T.ok rfl ?_
         refine ⟨_, rfl, Fr0.refl _, ?_⟩
         exact congrArg (Value.int .i64) (show _ = (f.windows.length : Int) - 1 from wr (by omega) (by omega))
        refine D_cons (D_step2 (js := [(16, 99), (18, 101), (14, 97)]) (by kernel_rfl) fun gd hf => ?_) ?_
        ·have hsd := hs.dr.call hf; have hfe := (G.le_dr _).trans hf.le
         refine QA_eq rfl ?_; refine QA_eq rfl ?_; refine QA_eq rfl ?_
         refine QA_nil ?_
         refine D_yes rfl ?_
         refine OpR_idxR T.ok (n := (f.windows.length : Int) - 1) rfl (hsd.own 3 _ rfl).1 (by omega) (by omega) rfl rfl rfl rfl rfl rfl ?_
         rintro b p hh; obtain ⟨rfl, rfl⟩ : wb = b ∧ wp = p := by simpa using hh
         exact ⟨_, rfl, Fr0.refl _, rfl⟩
        refine D_cons (D_step2 (js := [(19, 102), (14, 97)]) (by kernel_rfl) fun gd hf => ?_) ?_
        ·have hsd := hs.dr.call hf; have hfe := (G.le_dr _).trans hf.le
         refine QA_eq rfl ?_; refine QA_eq rfl ?_
         refine QA_nil ?_
         refine D_yes rfl ?_
         refine OpR_loadR T.ok (((f.windows.length : Int) - 1).toNat * 3) rfl (hsd.own 3 _ rfl).1 rfl (v := .agg (winV lw).toArray) hld ?_
         exact ⟨_, rfl, Fr0.refl _, rfl⟩
        refine D_s (js := [(14, 97)]) (by kernel_rfl) (fun _ hf => QA_eq rfl (QA_nil (DLo T.ok 0 rfl rfl (hs.dr.call hf) rfl rfl rfl rfl))) ?_
        refine D_cons (D_step2 (js := [(20, 103), (21, 104), (14, 97), (14, 97)]) (by kernel_rfl) fun gd hf => ?_) ?_
        ·have hsd := hs.dr.call hf; have hfe := (G.le_dr _).trans hf.le
         refine QA_eq rfl ?_; refine QA_eq rfl ?_; refine QA_eq rfl ?_; refine QA_eq rfl ?_
         refine QA_nil ?_
         refine D_yes rfl ?_
         refine OpR_ret cl23 allF rfl rfl rfl rfl rfl (after_c lw w0 _) fun g' v h1 h2 => ⟨g', rfl, h1, ?_⟩
         exact h2
        refine D_s (js := [(14, 97), (22, 105), (11, 94)]) (by kernel_rfl) (fun _ _ => QA_eq rfl (QA_eq rfl (QA_eq rfl (QA_nil (DPu T.ok rfl rfl rfl))))) ?_
        refine D_s (js := [(11, 94), (23, 106)]) (by kernel_rfl) (fun _ _ => QA_eq rfl (QA_eq rfl (QA_nil (DPu T.ok rfl rfl rfl)))) ?_
        exact D_nil
       intro g1 hf1; refine QA_eq rfl ?_; refine QA_nil ?_
       replace hs := hs.dr.call hf1; have hqe := (G.le_dr _).trans hf1.le; replace le0 := G.le.trans le0 hqe; replace rs0 := rs0.mono hqe; replace rc0 := rc0.mono hqe
       refine P1 T.ok rfl rfl rfl ?_; refine WL_nil ?_
       exact fun a ha => ⟨_, rfl, hqe, hs, ha.keep (by (repeat (first | exact trivial | refine ⟨rfl, ?_⟩)))⟩
     clear hs hsf
     rintro a' _ ⟨g6, rfl, hqe, hs, ha'⟩
     replace le0 := G.le.trans le0 hqe; replace rs0 := rs0.mono hqe; replace rc0 := rc0.mono hqe
     replace lez := lez.trans hqe
     clear lef hX
     revert a'
     (with_reducible refine T_wp ?_); refine W_region ?_; refine P1 T.ok rfl rfl rfl ?_; refine WL_o rfl rfl (OpR_loadO T.ok 1 rfl hs rfl rfl rfl ?_); refine WL_o rfl rfl (OpR_loadO T.ok 0 rfl hs rfl rfl rfl ?_)
     refine WL_o rfl rfl (OpR_lit T.ok rfl hs (vs := [(0, .agg (winV w0).toArray)]) (cells := winV w0) rfl rfl rfl rfl rfl rfl (by decide) (by decide) (by kernel_rfl) rfl ?_)
     clear hs
     rintro bl gl hs hqe; replace le0 := G.le.trans le0 hqe; replace rs0 := rs0.mono hqe; replace rc0 := rc0.mono hqe
     replace lez := lez.trans hqe
     skip
     refine WL_o rfl rfl (OpR_append T.ok 4 rfl hs rfl rfl rfl rfl rfl rfl rfl (by decide) rfl (Src.of_row (hs.own 0 _ rfl).1).2 (by simp [winV, Value.oneCell']) (by show (f.windows.length + 1) * 24 ≤ _; omega) (by unfold maxLen; show f.windows.length + 1 ≤ _; omega) ?_)
     clear hs
     rintro a9 c9 g9 hs hqe; replace le0 := G.le.trans le0 hqe; replace rs0 := rs0.mono hqe; replace rc0 := rc0.mono hqe
     replace lez := lez.trans hqe
     refine P1 T.ok rfl rfl rfl ?_
     refine WL_n rfl (OpR_storeO T.ok 2 rfl hs rfl rfl rfl rfl rfl rfl rfl rfl rfl ?_); replace hs := hs; rintro g1 hs hqe; replace le0 := G.le.trans le0 hqe; replace rs0 := rs0.mono hqe; replace rc0 := rc0.mono hqe
     replace lez := lez.trans hqe
     replace hs := (hs.drop 0).drop 0
     refine WL_nil ?_; (with_reducible refine T_then ?_); refine W_seq ?_; refine W_region ?_; refine P1 T.ok rfl rfl rfl ?_; refine P1 T.ok rfl rfl rfl ?_; refine WL_nil ?_; (with_reducible refine T_then ?_)
     cases hcc : (okk && rightWindow w0 40 && decide ((f.windows.length : Int) < 20) && decide ((f.steps.length : Int) > 0) && follows f.windows w0) with
     | false =>
      rw [show headR false f (c :: tl) = lineR f (c :: tl) from rfl, hhd, hcc] at hgo
      skip
      refine W_yes rfl rfl ?_
      refine W_seq ?_; refine W_region ?_
      refine WL_o rfl rfl (OpR_build T.ok rfl (vs := []) (cells := [.int .i64 0, .int .i64 0, .slice none 0 0, .slice none 0 0]) rfl rfl rfl rfl [(0, 1), (1, 1), (2, 1), (3, 1)] rfl (by kernel_rfl) ?_)
      refine P1 T.ok rfl rfl rfl ?_; refine P1 T.ok rfl rfl rfl ?_
      refine WL_n rfl (OpR_storeO T.ok 3 rfl hs rfl rfl rfl rfl rfl rfl rfl rfl rfl ?_); replace hs := hs; rintro g1 hs hqe; replace le0 := G.le.trans le0 hqe; replace rs0 := rs0.mono hqe; replace rc0 := rc0.mono hqe
      refine P1 T.ok rfl rfl rfl ?_; refine P1 T.ok rfl rfl rfl ?_; refine WL_nil ?_; (with_reducible refine T_then ?_)
      refine W_ret ?_
      (with_reducible refine T_br ?_); (with_reducible refine T_tr ?_; with_reducible refine T_tr ?_); (with_reducible refine T_br ?_); (with_reducible refine T_tr ?_)
      refine retC3 (v2 := .int .i64 ((k + 1 : Nat) : Int)) T.ok 3 rfl hs rfl rfl rfl (kI rfl (by rw [wr (by omega) (by omega)]; omega)) rfl (hs.ret ?_)
      rw [hpM _ hgo.symm]
      rfl
     | true =>
      rw [show headR false f (c :: tl) = lineR f (c :: tl) from rfl, hhd, hcc] at hgo
      refine W_no rfl rfl ?_
      have hO2 : FlO b ⟨f.moveMin, f.moveMax, f.steps, f.windows ++ [w0]⟩ [.obj b2 (.cells [.int .i64 0, .int .i64 0, .slice none 0 0, .slice none 0 0].toArray 25 (0, 0))] g g1 := by
       refine ⟨sa, sc, a9, c9, scs, ?_, rc0⟩
       unfold flL
       rw [winL_app, List.length_append]
       exact hs
      refine W_skip ?_; (with_reducible refine T_bn ?_); (with_reducible refine T_then ?_); refine W_region ?_; (iterate 3 refine P1 T.ok rfl rfl rfl ?_); refine WL_nil ?_
      refine fun a ha => ⟨ps.length - (k + 1), by omega, k + 1, false, ⟨f.moveMin, f.moveMax, f.steps, f.windows ++ [w0]⟩, _, rfl, hO2, (fun h => (by cases h)), lez, by omega, rfl, by show f.steps.length ≤ _; omega, by show (f.windows ++ [w0]).length ≤ _; rw [List.length_append, List.length_singleton]; omega, hgo, ha.keep ⟨rfl, rfl, rfl, rfl, rfl, rfl, kI rfl (by rw [wr (by omega) (by omega)]; omega), trivial⟩⟩
 ·refine W_no (b := decide ((k : Int) < (ps.length : Int))) (by simp; omega) rfl ?_
  obtain rfl : k = ps.length := by omega
  rw [List.drop_length] at hgo
  have hpm2 := hpM _ hgo.symm
  obtain ⟨sa, sc, wa, wc, scs, hs, rc0⟩ := hO
  obtain ⟨g1', hw1, hs1, hq1, rs2⟩ := hs.fzRow (α := Step) (xs := f.steps) (i := 1) rfl rc0
  obtain ⟨g2, hw2, hs2, hq2, rs3⟩ := hs1.fzRow (α := Window) (xs := f.windows) (i := 1) rfl (RcL.win _ _)
  replace hs : St g g2 (.obj b (.cells [.int .i64 f.moveMin, .int .i64 f.moveMax, .slice sa f.steps.length sc, .slice wa f.windows.length wc].toArray 25 (0, 0)) :: .obj b2 (.cells [.int .i64 0, .int .i64 0, .slice none 0 0, .slice none 0 0].toArray 25 (0, 0)) :: []) := hs2
  clear hs1 hs2
  replace rs2 := rs2.mono hq2
  rw [← hw1, ← hw2]
  have fl0 : RFlow g2 (.agg #[.int .i64 f.moveMin, .int .i64 f.moveMax, .slice sa f.steps.length sc, .slice wa f.windows.length wc]) f := ⟨sa, f.steps.length, sc, wa, f.windows.length, wc, rfl, rs2, rs3⟩
  refine W_exit ?_; (with_reducible refine T_tx ?_; with_reducible refine T_tx ?_); (with_reducible refine T_bx ?_); (with_reducible refine T_then ?_); refine W_seq ?_; refine W_seq ?_; refine W_region ?_; refine WL_o rfl rfl (OpR_loadO T.ok 0 rfl hs rfl rfl rfl ?_)
  refine WL_o rfl rfl (OpR_ret cl13 allF rfl rfl rfl rfl rfl (rvalid_c _ f _ fl0) ?_); rintro g1 _ hf1 rfl; replace hs := hs.call hf1; have hqe := hf1.le; replace rs2 := rs2.mono hqe; replace rs3 := rs3.mono hqe; replace fl0 := fl0.mono hqe
  refine P1 T.ok rfl rfl rfl ?_; refine WL_nil ?_; (with_reducible refine T_then ?_)
  cases hv : valid f with
  | true =>
   refine W_no rfl rfl ?_
   refine W_skip ?_; (with_reducible refine T_then ?_); refine W_seq ?_; refine W_region ?_; refine WL_o rfl rfl (OpR_loadO T.ok 0 rfl hs rfl rfl rfl ?_)
   refine WL_n rfl (OpR_storeO T.ok 1 rfl hs rfl rfl rfl rfl rfl rfl rfl rfl rfl ?_); replace hs := hs; rintro g1 hs hqe; replace rs2 := rs2.mono hqe; replace rs3 := rs3.mono hqe; replace fl0 := fl0.mono hqe
   refine P1 T.ok rfl rfl rfl ?_; refine P1 T.ok rfl rfl rfl ?_; refine WL_nil ?_; (with_reducible refine T_then ?_)
   refine W_ret ?_
   skip
   refine retC3 T.ok 1 rfl hs rfl rfl rfl rfl rfl (hs.ret ?_)
   rw [hpm2]
   show parsePost _ (if valid f = true then _ else _) _
   rw [if_pos hv]
   exact ⟨_, rfl, fl0⟩
  | false =>
   refine W_yes rfl rfl ?_
   refine W_seq ?_; refine W_region ?_
   refine WL_o rfl rfl (OpR_build T.ok rfl (vs := []) (cells := [.int .i64 0, .int .i64 0, .slice none 0 0, .slice none 0 0]) rfl rfl rfl rfl [(0, 1), (1, 1), (2, 1), (3, 1)] rfl (by kernel_rfl) ?_)
   refine P1 T.ok rfl rfl rfl ?_; refine P1 T.ok rfl rfl rfl ?_
   refine WL_n rfl (OpR_storeO T.ok 1 rfl hs rfl rfl rfl rfl rfl rfl rfl rfl rfl ?_); replace hs := hs; rintro g1 hs hqe; replace rs2 := rs2.mono hqe; replace rs3 := rs3.mono hqe; replace fl0 := fl0.mono hqe
   refine P1 T.ok rfl rfl rfl ?_; refine P1 T.ok rfl rfl rfl ?_; refine WL_nil ?_; (with_reducible refine T_then ?_)
   refine W_ret ?_
   (with_reducible refine T_tr ?_)
   refine retC3 T.ok 1 rfl hs rfl rfl rfl rfl rfl (hs.ret ?_)
   rw [hpm2]
   show parsePost _ (if valid f = true then _ else _) _
   rw [if_neg (by rw [hv]; decide)]
   rfl



end Go.Proofs.YtnaeopehmdcplaaGreatDoor
