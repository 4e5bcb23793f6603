/- The walk through FlowMatchesReference. -/
import Derived.Test.YtnaeopehmdcplaaGreatDoorRa
import Derived.Test.YtnaeopehmdcplaaGreatDoorFh

namespace Go.Proofs.YtnaeopehmdcplaaGreatDoor
open Go Go.K
set_option maxRecDepth 10000
attribute [local irreducible] W WL OpR bitAnd bitOr bitXor bitClr bitNot shlI shrI
set_option maxHeartbeats 16000000

def RFlowC (g : G) (cs : List Value) (f : Flow) : Prop :=
 ∃ a1 n1 c1 a2 n2 c2, cs = [.int .i64 f.moveMin, .int .i64 f.moveMax, .slice a1 n1 c1, .slice a2 n2 c2] ∧ Rs g (.slice a1 n1 c1) f.steps ∧ Rs g (.slice a2 n2 c2) f.windows
instance : El Flow where
 k := 4
 pos := by omega
 rc := RFlowC
 len h := by obtain ⟨_, _, _, _, _, _, rfl, _⟩ := h; rfl
 mono hle h := by obtain ⟨a1, n1, c1, a2, n2, c2, e, h1, h2⟩ := h; exact ⟨a1, n1, c1, a2, n2, c2, e, h1.mono hle, h2.mono hle⟩
 one h := by obtain ⟨_, _, _, _, _, _, rfl, _⟩ := h; simp [Value.oneCell']
theorem mk_bent (x : List Y6) (zs : List Y3) : 1 ≤ (mk x zs).steps.length ∧ (mk x zs).steps.length ≤ 1000 ∧ (mk x zs).windows.length ≤ 1000 ∧ ∀ s ∈ (mk x zs).steps, s.tools ≠ [] ∧ s.tools.length ≤ 1000000 ∧ s.next.length ≤ 1000000 := by
 have hB := valid_N (mk_valid x zs)
 have h1 := hB.n1; have h2 := hB.n40; have h3 := hB.w20
 exact ⟨h1, by omega, by omega, fun s hs => ⟨(hB.steps s hs).n.tools, by have := (hB.steps s hs).tools; omega, by have := (hB.steps s hs).next; omega⟩⟩
def flowF (f : Flow) : Fact := ⟨fun v g => RFlow g v f, fun _ _ _ hf h => h.mono hf.le⟩
def someFlow : Fact := ⟨fun v g => ∃ f : Flow, RFlow g v f, fun _ _ _ hf ⟨f, h⟩ => ⟨f, h.mono hf.le⟩⟩
def flows3 : Fact := ⟨fun v g => ∃ fs : List Flow, fs.length = 3 ∧ Rs g v fs, fun _ _ _ hf ⟨fs, h1, h2⟩ => ⟨fs, h1, h2.mono hf.le⟩⟩

theorem matches_c (v : Value) (raw : Flow) (u : Value) (x : List Y6) (t : Value) (zs : List Y3) (y : Y3) (g : G) (hF : FlAt g) (fl0 : RFlow g v raw) (rs0 : Rs g u x) (hx : ∀ y ∈ x, y.fit) (rs1 : Rs g t zs) (hz : ∀ z ∈ zs, z.fit) (hy : y.fit) :
  CallsIn Wd 0 Tryz.prog 3 #[v, u, t, .agg #[.int .i64 y.z0, .int .i64 y.z1, .int .i64 y.z2]] g.w (Ret g fun _ r => r = .bool true) := by
 obtain ⟨a1, n1, c1, a2, n2, c2, rfl, rs2, rs3⟩ := fl0
 obtain ⟨ua, uc, rfl⟩ := rs0.isSlice
 obtain ⟨ta, tc, rfl⟩ := rs1.isSlice
 have hs := St.start g
 have le0 := G.le.refl g
 refine enter Tryz.func3 rfl Tryz.ntmps3 rfl ?_
 refine W_seq ?_; refine W_region ?_
 refine WL_o rfl rfl (OpR_box rfl hs rfl rfl ?_); clear hs; rintro b4 g1 hs hqe; replace le0 := G.le.trans le0 hqe; replace rs0 := rs0.mono hqe; replace rs1 := rs1.mono hqe; replace rs2 := rs2.mono hqe; replace rs3 := rs3.mono hqe
 obtain ⟨g2, hw2, hs2, hqe, hep⟩ := hs.fzObj (i := 0) rfl; replace hs := hs2; clear hs2; rw [← hw2]; replace le0 := G.le.trans le0 hqe; replace rs0 := rs0.mono hqe; replace rs1 := rs1.mono hqe; replace rs2 := rs2.mono hqe; replace rs3 := rs3.mono hqe
 have ep0 := hep
 clear hep hw2 hqe
 skip
 refine WL_o rfl rfl (OpR_box rfl hs rfl rfl ?_); clear hs; rintro b7 g1 hs hqe; replace le0 := G.le.trans le0 hqe; replace ep0 := ep0.mono hqe; replace rs0 := rs0.mono hqe; replace rs1 := rs1.mono hqe; replace rs2 := rs2.mono hqe; replace rs3 := rs3.mono hqe
 obtain ⟨g2, hw2, hs2, hqe, hep⟩ := hs.fzObj (i := 0) rfl; replace hs := hs2; clear hs2; rw [← hw2]; replace le0 := G.le.trans le0 hqe; replace ep0 := ep0.mono hqe; replace rs0 := rs0.mono hqe; replace rs1 := rs1.mono hqe; replace rs2 := rs2.mono hqe; replace rs3 := rs3.mono hqe
 have ep1 := hep
 clear hep hw2 hqe
 refine P1 T.ok rfl rfl rfl ?_; refine WL_nil ?_; (with_reducible refine T_then ?_); refine W_seq ?_; refine W_region ?_
 refine WL_o rfl rfl (OpR_ret cl6 allF rfl rfl rfl rfl rfl (sane_c _ (hF.mono le0)) ?_); rintro g1 _ hf1 rfl; replace hs := hs.call hf1; have hqe := hf1.le; replace le0 := G.le.trans le0 hqe; replace ep0 := ep0.mono hqe; replace ep1 := ep1.mono hqe; replace rs0 := rs0.mono hqe; replace rs1 := rs1.mono hqe; replace rs2 := rs2.mono hqe; replace rs3 := rs3.mono hqe
 refine P1 T.ok rfl rfl rfl ?_; refine WL_nil ?_; (with_reducible refine T_then ?_); refine W_seq ?_; refine W_region ?_; refine P1 T.ok rfl rfl rfl ?_; refine P1 T.ok rfl rfl rfl ?_
 refine WL_o rfl rfl (OpR_ret cl7 allF rfl rfl rfl rfl rfl (make_c _ _ x zs _ rs0 rs1 hx hz) ?_); rintro g1 _ hf1 fl1; replace hs := hs.call hf1; have hqe := hf1.le; replace le0 := G.le.trans le0 hqe; replace ep0 := ep0.mono hqe; replace ep1 := ep1.mono hqe; replace rs0 := rs0.mono hqe; replace rs1 := rs1.mono hqe; replace rs2 := rs2.mono hqe; replace rs3 := rs3.mono hqe
 obtain ⟨a5, n5, c5, a6, n6, c6, rfl, rs4, rs5⟩ := fl1
 have hmb := mk_bent x zs
 have hmv := mk_valid x zs
 generalize mk x zs = F at *
 clear rs0 rs1 hx hz
 skip
 refine WL_o rfl rfl (OpR_alloc T.ok rfl hs rfl rfl ?_); clear hs; rintro b10 g1 hs hqe; replace le0 := G.le.trans le0 hqe; replace ep0 := ep0.mono hqe; replace ep1 := ep1.mono hqe; replace rs2 := rs2.mono hqe; replace rs3 := rs3.mono hqe; replace rs4 := rs4.mono hqe; replace rs5 := rs5.mono hqe
 skip
 refine WL_n rfl (OpR_storeO T.ok 0 rfl hs rfl rfl rfl rfl rfl rfl rfl rfl rfl ?_); replace hs := hs; rintro g1 hs hqe; replace le0 := G.le.trans le0 hqe; replace ep0 := ep0.mono hqe; replace ep1 := ep1.mono hqe; replace rs2 := rs2.mono hqe; replace rs3 := rs3.mono hqe; replace rs4 := rs4.mono hqe; replace rs5 := rs5.mono hqe
 obtain ⟨g2, hw2, hs2, hqe, hep⟩ := hs.fzObj (i := 0) rfl; replace hs := hs2; clear hs2; rw [← hw2]; replace le0 := G.le.trans le0 hqe; replace ep0 := ep0.mono hqe; replace ep1 := ep1.mono hqe; replace rs2 := rs2.mono hqe; replace rs3 := rs3.mono hqe; replace rs4 := rs4.mono hqe; replace rs5 := rs5.mono hqe
 have ep2 : EP g2 b10 0 [.int .i64 F.moveMin, .int .i64 F.moveMax, .slice a5 n5 c5, .slice a6 n6 c6] := hep
 clear hep hw2 hqe
 replace hs : St g g2 [] := hs
 refine WL_nil ?_; (with_reducible refine T_then ?_); refine W_seq ?_; refine W_seq ?_; refine W_region ?_; refine WL_o rfl rfl (OpR_loadE T.ok 0 rfl ep2 rfl rfl ?_)
 refine WL_o rfl rfl (OpR_ret cl8 allF rfl rfl rfl rfl rfl (valid_c _ F _ ⟨_, _, _, _, _, _, rfl, rs4, rs5⟩) ?_); rintro g1 _ hf1 hp; replace hs := hs.call hf1; have hqe := hf1.le; replace le0 := G.le.trans le0 hqe; replace ep0 := ep0.mono hqe; replace ep1 := ep1.mono hqe; replace ep2 := ep2.mono hqe; replace rs2 := rs2.mono hqe; replace rs3 := rs3.mono hqe; replace rs4 := rs4.mono hqe; replace rs5 := rs5.mono hqe
 rw [hmv] at hp
 subst hp
 refine P1 T.ok rfl rfl rfl ?_; refine WL_nil ?_; (with_reducible refine T_then ?_)
 refine W_no rfl rfl ?_
 refine W_skip ?_; (with_reducible refine T_then ?_); refine W_seq ?_; refine W_seq ?_
 apply W_draw allF rfl (Fact.eq _ :: (flowF (fewM raw)) :: Fact.eq _ :: Fact.eq _ :: Fact.eq _ :: someFlow :: flows3 :: Fact.eq _ :: Fact.eq _ :: []) 9 [(6, 30), (7, 31), (8, 32)] rfl rfl
 ·refine D_s (js := []) (by kernel_rfl) (fun _ hf => QA_nil (DLe T.ok 0 rfl rfl (ep0.mono ((G.le_dr _).trans hf.le)) rfl rfl rfl)) ?_
  refine D_cons (D_step2 (js := [(0, 24)]) (by kernel_rfl) fun gd hf => ?_) ?_
  ·have hsd := hs.dr.call hf; have hfe := (G.le_dr _).trans hf.le
   refine QA_eq rfl ?_
   refine QA_nil ?_
   refine D_yes rfl ?_
   refine OpR_ret cl9 allF rfl rfl rfl rfl rfl (few_c _ raw _ ⟨_, _, _, _, _, _, rfl, rs2.mono hfe, rs3.mono hfe⟩) fun g' v h1 h2 => ⟨g', rfl, h1, ?_⟩
   exact h2
  refine D_s (js := []) (by kernel_rfl) (fun _ hf => QA_nil (DLe T.ok 0 rfl rfl (ep2.mono ((G.le_dr _).trans hf.le)) rfl rfl rfl)) ?_
  refine D_s (js := []) (by kernel_rfl) (fun _ hf => QA_nil (DLe T.ok 0 rfl rfl (ep2.mono ((G.le_dr _).trans hf.le)) rfl rfl rfl)) ?_
  refine D_s (js := []) (by kernel_rfl) (fun _ hf => QA_nil (DLe T.ok 0 rfl rfl (ep1.mono ((G.le_dr _).trans hf.le)) rfl rfl rfl)) ?_
  refine D_cons (D_step2 (js := [(3, 27), (4, 28)]) (by kernel_rfl) fun gd hf => ?_) ?_
  ·have hsd := hs.dr.call hf; have hfe := (G.le_dr _).trans hf.le
   refine QA_eq rfl ?_; refine QA_eq rfl ?_
   refine QA_nil ?_
   refine D_yes rfl ?_
   refine OpR_ret cl10 allF rfl rfl rfl rfl rfl (bent_c _ F y _ ⟨_, _, _, _, _, _, rfl, rs4.mono hfe, rs5.mono hfe⟩ hmb.1 hmb.2.1 hmb.2.2.1 hmb.2.2.2 hy) fun g' v h1 h2 => ⟨g', rfl, h1, ?_⟩
   exact h2
  refine D_cons (D_step2 (js := [(1, 25), (2, 26), (5, 29)]) (by kernel_rfl) fun gd hf => ?_) ?_
  ·have hsd := hs.dr.call hf; have hfe := (G.le_dr _).trans hf.le
   refine QA_any fun v1 h1 => ?_; refine QA_eq rfl ?_; refine QA_any fun v5 h5 => ?_
   refine QA_nil ?_
   obtain ⟨ea, en, ec, ed, em, eg, rfl, q1, q2⟩ := h1
   obtain ⟨B, ha, hn, hc, hd, hm, hg, rfl, q3, q4⟩ := h5
   refine D_yes rfl ?_
   refine OpR_lit T.ok rfl (St.start gd) (vs := [(0, .agg #[.int .i64 (fewM raw).moveMin, .int .i64 (fewM raw).moveMax, .slice ea en ec, .slice ed em eg]), (1, .agg #[.int .i64 F.moveMin, .int .i64 F.moveMax, .slice a5 n5 c5, .slice a6 n6 c6]), (2, .agg #[.int .i64 B.moveMin, .int .i64 B.moveMax, .slice ha hn hc, .slice hd hm hg])]) (cells := [.int .i64 (fewM raw).moveMin, .int .i64 (fewM raw).moveMax, .slice ea en ec, .slice ed em eg, .int .i64 F.moveMin, .int .i64 F.moveMax, .slice a5 n5 c5, .slice a6 n6 c6, .int .i64 B.moveMin, .int .i64 B.moveMax, .slice ha hn hc, .slice hd hm hg]) rfl rfl rfl rfl rfl rfl (by decide) (by decide) (by kernel_rfl) rfl ?_
   intro b2 g2' hs1 hqe1
   obtain ⟨g3, hw3, hs3, hqe3, hrl⟩ := hs1.fzRow (α := Flow) (xs := [fewM raw, F, B]) (i := 0) rfl ⟨_, [.int .i64 F.moveMin, .int .i64 F.moveMax, .slice a5 n5 c5, .slice a6 n6 c6, .int .i64 B.moveMin, .int .i64 B.moveMax, .slice ha hn hc, .slice hd hm hg], rfl, ⟨_, _, _, _, _, _, rfl, q1.mono hqe1, q2.mono hqe1⟩, [.int .i64 F.moveMin, .int .i64 F.moveMax, .slice a5 n5 c5, .slice a6 n6 c6], [.int .i64 B.moveMin, .int .i64 B.moveMax, .slice ha hn hc, .slice hd hm hg], rfl, ⟨_, _, _, _, _, _, rfl, (rs4.mono hfe).mono hqe1, (rs5.mono hfe).mono hqe1⟩, [.int .i64 B.moveMin, .int .i64 B.moveMax, .slice ha hn hc, .slice hd hm hg], [], rfl, ⟨_, _, _, _, _, _, rfl, q3.mono hqe1, q4.mono hqe1⟩, rfl⟩
   exact ⟨g3, hw3, hs3.fr0, _, rfl, hrl⟩
  refine D_cons (D_step2 (js := [(6, 30)]) (by kernel_rfl) fun gd hf => ?_) ?_
  ·have hsd := hs.dr.call hf; have hfe := (G.le_dr _).trans hf.le
   refine QA_any fun v6 h6 => ?_
   refine QA_nil ?_
   obtain ⟨fs, hfl, hr⟩ := h6
   obtain ⟨ba, bc, rfl⟩ := hr.isSlice
   refine D_yes rfl ?_
   refine OpR_pure _ T.ok rfl ?_
   refine ⟨_, rfl, Fr0.refl _, ?_⟩
   exact congrArg (Value.int .i64) (show ((fs.length : Nat) : Int) = ((3 : Nat) : Int) from by rw [hfl])
  refine D_s (js := []) (by kernel_rfl) (fun _ _ => QA_nil (DPu T.ok rfl rfl rfl)) ?_
  exact D_nil
 intro g1 hf1; refine QA_any fun v6 h6 => ?_; refine QA_eq rfl ?_; refine QA_eq rfl ?_; refine QA_nil ?_
 replace hs := hs.dr.call hf1; have hqe := (G.le_dr _).trans hf1.le; replace le0 := G.le.trans le0 hqe; replace ep0 := ep0.mono hqe; replace ep1 := ep1.mono hqe; replace ep2 := ep2.mono hqe; replace rs2 := rs2.mono hqe; replace rs3 := rs3.mono hqe; replace rs4 := rs4.mono hqe; replace rs5 := rs5.mono hqe
 obtain ⟨FSx, hfl, rs8⟩ := h6
 obtain ⟨ba, bc, rfl⟩ := rs8.isSlice
 have hget : ∀ k : Nat, k < 3 → ∃ f, geti FSx (k : Int) = some f := fun k hk => ⟨_, geti_of rfl (by omega)⟩
 clear rs2 rs3
 refine WL_nil ?_; (with_reducible refine T_then ?_); refine W_block ?_
 have rs8c := rs8; have rs4c := rs4; have rs5c := rs5; have ep2c := ep2; have le0c := le0
 refine W_loop (fun m a' w => ∃ (k : Nat) (g' : G), w = g'.w ∧ St g g' [] ∧ G.le g1 g' ∧ k ≤ 3 ∧ m = 3 - k ∧
  Fr 78 [] [(9, .bool true), (10, .pointer (some ⟨b10, 0, none⟩)), (30, .slice ba FSx.length bc), (31, .int .i64 3), (32, .int .i64 k)] a') 3 (fun a' ha => ⟨0, g1, rfl, hs, G.le.refl _, Nat.zero_le _, rfl, ha.keep (by (repeat (first | exact trivial | refine ⟨rfl, ?_⟩)))⟩) ?_
 clear hs le0 rs8 rs4 rs5 ep2 ep0 ep1
 rintro m a' _ ⟨k, g', rfl, hs, le8, hk, rfl, ha'⟩
 have rs8 := rs8c.mono le8
 have rs4 := rs4c.mono le8
 have rs5 := rs5c.mono le8
 have ep0 := ep2c.mono le8
 have le0 := le0c.trans le8
 revert a'
 (with_reducible refine T_wp ?_); refine W_seq ?_; refine W_region ?_; refine P1 T.ok rfl rfl rfl ?_; refine WL_nil ?_; (with_reducible refine T_then ?_); refine W_seq ?_
 by_cases hlt : k < 3
 ·refine W_yes (b := _) ?_ rfl ?_
  ·simp; omega
  obtain ⟨f, hgf⟩ := hget k hlt
  refine W_skip ?_; (with_reducible refine T_then ?_); refine W_seq ?_; refine W_block ?_; refine W_seq ?_; refine W_region ?_
  refine WL_o rfl rfl (OpR_idx T.ok rfl rs8 (y := f) hgf rfl rfl rfl rfl rfl rfl ?_)
  rintro bq pq ys hep ⟨e1, en1, ec1, e2, en2, ec2, rfl, rs2, rs3⟩
  refine WL_o rfl rfl (OpR_loadE T.ok 0 rfl hep rfl rfl ?_)
  skip
  refine WL_o rfl rfl (OpR_alloc T.ok rfl hs rfl rfl ?_); clear hs; rintro b9 g1 hs hqe; replace le0 := G.le.trans le0 hqe; replace le8 := G.le.trans le8 hqe; replace ep0 := ep0.mono hqe; replace rs2 := rs2.mono hqe; replace rs3 := rs3.mono hqe; replace rs4 := rs4.mono hqe; replace rs5 := rs5.mono hqe; replace rs8 := rs8.mono hqe
  skip
  refine WL_n rfl (OpR_storeO T.ok 0 rfl hs rfl rfl rfl rfl rfl rfl rfl rfl rfl ?_); replace hs := hs; rintro g1 hs hqe; replace le0 := G.le.trans le0 hqe; replace le8 := G.le.trans le8 hqe; replace ep0 := ep0.mono hqe; replace rs2 := rs2.mono hqe; replace rs3 := rs3.mono hqe; replace rs4 := rs4.mono hqe; replace rs5 := rs5.mono hqe; replace rs8 := rs8.mono hqe
  obtain ⟨g2, hw2, hs2, hqe, hep⟩ := hs.fzObj (i := 0) rfl; replace hs := hs2; clear hs2; rw [← hw2]; replace le0 := G.le.trans le0 hqe; replace le8 := G.le.trans le8 hqe; replace ep0 := ep0.mono hqe; replace rs2 := rs2.mono hqe; replace rs3 := rs3.mono hqe; replace rs4 := rs4.mono hqe; replace rs5 := rs5.mono hqe; replace rs8 := rs8.mono hqe
  have ep1 : EP g2 b9 0 [.int .i64 f.moveMin, .int .i64 f.moveMax, .slice e1 en1 ec1, .slice e2 en2 ec2] := hep
  clear hep hw2 hqe
  replace hs : St g g2 [] := hs
  refine WL_nil ?_; (with_reducible refine T_then ?_); refine W_seq ?_; refine W_region ?_; refine WL_o rfl rfl (OpR_loadE T.ok 0 rfl ep1 rfl rfl ?_)
  refine WL_o rfl rfl (OpR_ret cl11 allF rfl rfl rfl rfl rfl (print_c _ f _ ⟨_, _, _, _, _, _, rfl, rs2, rs3⟩ (hF.mono le0)) ?_); rintro g1 _ hf1 hp; replace hs := hs.call hf1; have hqe := hf1.le; replace le0 := G.le.trans le0 hqe; replace le8 := G.le.trans le8 hqe; replace ep0 := ep0.mono hqe; replace ep1 := ep1.mono hqe; replace rs2 := rs2.mono hqe; replace rs3 := rs3.mono hqe; replace rs4 := rs4.mono hqe; replace rs5 := rs5.mono hqe; replace rs8 := rs8.mono hqe
  cases hv : valid f with
  | true =>
   rw [printRes_yes hv] at hp
   subst hp
   (iterate 5 refine P1 T.ok rfl rfl rfl ?_); refine WL_nil ?_; (with_reducible refine T_then ?_); refine W_seq ?_; refine W_region ?_; refine WL_o rfl rfl (OpR_loadE T.ok 0 rfl ep1 rfl rfl ?_)
   refine WL_o rfl rfl (OpR_ret cl12 allF rfl rfl rfl rfl rfl (rprint_c _ f _ ⟨_, _, _, _, _, _, rfl, rs2, rs3⟩) ?_); rintro g1 _ hf1 hp; replace hs := hs.call hf1; have hqe := hf1.le; replace le0 := G.le.trans le0 hqe; replace le8 := G.le.trans le8 hqe; replace ep0 := ep0.mono hqe; replace ep1 := ep1.mono hqe; replace rs2 := rs2.mono hqe; replace rs3 := rs3.mono hqe; replace rs4 := rs4.mono hqe; replace rs5 := rs5.mono hqe; replace rs8 := rs8.mono hqe
   rw [printRes_yes hv] at hp
   subst hp
   generalize printM f = pm at *
   (iterate 5 refine P1 T.ok rfl rfl rfl ?_); refine WL_nil ?_; (with_reducible refine T_then ?_); refine W_seq ?_
   apply W_draw allF rfl (Fact.eq _ :: Fact.eq _ :: Fact.eq _ :: Fact.eq _ :: Fact.eq _ :: Fact.eq _ :: Fact.eq _ :: Fact.eq _ :: Fact.eq _ :: Fact.eq _ :: Fact.eq _ :: Fact.eq _ :: Fact.eq _ :: Fact.eq _ :: Fact.eq _ :: Fact.eq _ :: Fact.eq _ :: Fact.eq _ :: Fact.eq _ :: Fact.eq _ :: Fact.eq _ :: Fact.eq _ :: Fact.eq _ :: Fact.eq _ :: Fact.eq _ :: Fact.eq _ :: Fact.eq _ :: Fact.eq _ :: Fact.eq _ :: Fact.eq _ :: []) 30 [(29, 75)] rfl rfl
   ·refine D_s (js := []) (by kernel_rfl) (fun _ _ => QA_nil (DPu T.ok rfl rfl rfl)) ?_
    refine D_s (js := []) (by kernel_rfl) (fun _ _ => QA_nil (DPu T.ok rfl rfl rfl)) ?_
    refine D_cons (D_step2 (js := [(0, 46), (1, 47)]) (by kernel_rfl) fun gd hf => ?_) ?_
    ·have hsd := hs.dr.call hf; have hfe := (G.le_dr _).trans hf.le
     refine QA_eq rfl ?_; refine QA_eq rfl ?_
     refine QA_nil ?_
     refine D_yes rfl ?_
     refine OpR_pure _ T.ok rfl ?_
     exact ⟨_, rfl, Fr0.refl _, congrArg Value.bool (show _ = false from by simp)⟩
    refine D_s (js := [(2, 48)]) (by kernel_rfl) (fun _ _ => QA_eq rfl (QA_nil (DPu T.ok rfl rfl rfl))) ?_
    refine D_s (js := [(3, 49)]) (by kernel_rfl) (fun _ _ => QA_eq rfl (QA_nil (DPu T.ok rfl rfl rfl))) ?_
    refine D_s (js := [(3, 49)]) (by kernel_rfl) (fun _ _ => QA_eq rfl (QA_nil (DPu T.ok rfl rfl rfl))) ?_
    refine D_s (js := [(4, 50), (5, 51), (3, 49)]) (by kernel_rfl) (fun _ _ => QA_eq rfl (QA_eq rfl (QA_eq rfl (QA_nil (DPu T.ok rfl rfl rfl))))) ?_
    refine D_s (js := [(3, 49), (6, 52)]) (by kernel_rfl) (fun _ _ => QA_eq rfl (QA_eq rfl (QA_nil (DPu T.ok rfl rfl rfl)))) ?_
    refine D_s (js := [(7, 53)]) (by kernel_rfl) (fun _ _ => QA_eq rfl (QA_nil (DPu T.ok rfl rfl rfl))) ?_
    refine D_s (js := [(8, 54)]) (by kernel_rfl) (fun _ hf => QA_eq rfl (QA_nil (DLe T.ok 0 rfl rfl (ep1.mono ((G.le_dr _).trans hf.le)) rfl rfl rfl))) ?_
    refine D_cons (D_step2 (js := [(9, 55), (8, 54), (8, 54)]) (by kernel_rfl) fun gd hf => ?_) ?_
    ·have hsd := hs.dr.call hf; have hfe := (G.le_dr _).trans hf.le
     refine QA_eq rfl ?_; refine QA_eq rfl ?_; refine QA_eq rfl ?_
     refine QA_nil ?_
     refine D_yes rfl ?_
     refine OpR_ret cl8 allF rfl rfl rfl rfl rfl (valid_c _ f _ ⟨_, _, _, _, _, _, rfl, rs2.mono hfe, rs3.mono hfe⟩) fun g' v h1 h2 => ⟨g', rfl, h1, ?_⟩
     rw [h2]; exact congrArg Value.bool hv
    refine D_s (js := [(8, 54)]) (by kernel_rfl) (fun _ hf => QA_eq rfl (QA_nil (DLe T.ok 0 rfl rfl (ep1.mono ((G.le_dr _).trans hf.le)) rfl rfl rfl))) ?_
    refine D_cons (D_step2 (js := [(11, 57), (8, 54)]) (by kernel_rfl) fun gd hf => ?_) ?_
    ·have hsd := hs.dr.call hf; have hfe := (G.le_dr _).trans hf.le
     refine QA_eq rfl ?_; refine QA_eq rfl ?_
     refine QA_nil ?_
     refine D_yes rfl ?_
     refine OpR_ret cl13 allF rfl rfl rfl rfl rfl (rvalid_c _ f _ ⟨_, _, _, _, _, _, rfl, rs2.mono hfe, rs3.mono hfe⟩) fun g' v h1 h2 => ⟨g', rfl, h1, ?_⟩
     rw [h2]; exact congrArg Value.bool hv
    refine D_cons (D_step2 (js := [(10, 56), (12, 58), (8, 54)]) (by kernel_rfl) fun gd hf => ?_) ?_
    ·have hsd := hs.dr.call hf; have hfe := (G.le_dr _).trans hf.le
     refine QA_eq rfl ?_; refine QA_eq rfl ?_; refine QA_eq rfl ?_
     refine QA_nil ?_
     refine D_yes rfl ?_
     refine OpR_eqBool T.ok (neg := true) rfl rfl rfl rfl rfl ?_
     exact ⟨_, rfl, Fr0.refl _, rfl⟩
    refine D_s (js := [(8, 54), (13, 59)]) (by kernel_rfl) (fun _ _ => QA_eq rfl (QA_eq rfl (QA_nil (DPu T.ok rfl rfl rfl)))) ?_
    refine D_s (js := [(14, 60)]) (by kernel_rfl) (fun _ _ => QA_eq rfl (QA_nil (DPu T.ok rfl rfl rfl))) ?_
    refine D_s (js := [(15, 61)]) (by kernel_rfl) (fun _ hf => QA_eq rfl (QA_nil (DLe T.ok 0 rfl rfl (ep0.mono ((G.le_dr _).trans hf.le)) rfl rfl rfl))) ?_
    refine D_s (js := [(15, 61)]) (by kernel_rfl) (fun _ hf => QA_eq rfl (QA_nil (DLe T.ok 0 rfl rfl (ep1.mono ((G.le_dr _).trans hf.le)) rfl rfl rfl))) ?_
    refine D_cons (D_step2 (js := [(16, 62), (17, 63), (15, 61), (15, 61)]) (by kernel_rfl) fun gd hf => ?_) ?_
    ·have hsd := hs.dr.call hf; have hfe := (G.le_dr _).trans hf.le
     refine QA_eq rfl ?_; refine QA_eq rfl ?_; refine QA_eq rfl ?_; refine QA_eq rfl ?_
     refine QA_nil ?_
     refine D_yes rfl ?_
     refine OpR_ret cl14 allF rfl rfl rfl rfl rfl (same_c _ _ F f _ ⟨_, _, _, _, _, _, rfl, rs4.mono hfe, rs5.mono hfe⟩ ⟨_, _, _, _, _, _, rfl, rs2.mono hfe, rs3.mono hfe⟩) fun g' v h1 h2 => ⟨g', rfl, h1, ?_⟩
     exact h2
    refine D_s (js := [(15, 61)]) (by kernel_rfl) (fun _ hf => QA_eq rfl (QA_nil (DLe T.ok 0 rfl rfl (ep0.mono ((G.le_dr _).trans hf.le)) rfl rfl rfl))) ?_
    refine D_s (js := [(15, 61)]) (by kernel_rfl) (fun _ hf => QA_eq rfl (QA_nil (DLe T.ok 0 rfl rfl (ep1.mono ((G.le_dr _).trans hf.le)) rfl rfl rfl))) ?_
    refine D_cons (D_step2 (js := [(19, 65), (20, 66), (15, 61)]) (by kernel_rfl) fun gd hf => ?_) ?_
    ·have hsd := hs.dr.call hf; have hfe := (G.le_dr _).trans hf.le
     refine QA_eq rfl ?_; refine QA_eq rfl ?_; refine QA_eq rfl ?_
     refine QA_nil ?_
     refine D_yes rfl ?_
     refine OpR_ret cl15 allF rfl rfl rfl rfl rfl (rsame_c _ _ F f _ ⟨_, _, _, _, _, _, rfl, rs4.mono hfe, rs5.mono hfe⟩ ⟨_, _, _, _, _, _, rfl, rs2.mono hfe, rs3.mono hfe⟩) fun g' v h1 h2 => ⟨g', rfl, h1, ?_⟩
     exact h2
    refine D_cons (D_step2 (js := [(18, 64), (21, 67), (15, 61)]) (by kernel_rfl) fun gd hf => ?_) ?_
    ·have hsd := hs.dr.call hf; have hfe := (G.le_dr _).trans hf.le
     refine QA_eq rfl ?_; refine QA_eq rfl ?_; refine QA_eq rfl ?_
     refine QA_nil ?_
     refine D_yes rfl ?_
     refine OpR_eqBool T.ok (neg := true) rfl rfl rfl rfl rfl ?_
     exact ⟨_, rfl, Fr0.refl _, congrArg Value.bool (show (true != (sameF F f == sameF F f)) = false from by simp)⟩
    refine D_s (js := [(15, 61), (22, 68)]) (by kernel_rfl) (fun _ _ => QA_eq rfl (QA_eq rfl (QA_nil (DPu T.ok rfl rfl rfl)))) ?_
    refine D_s (js := [(23, 69)]) (by kernel_rfl) (fun _ _ => QA_eq rfl (QA_nil (DPu T.ok rfl rfl rfl))) ?_
    refine D_s (js := [(24, 70)]) (by kernel_rfl) (fun _ hf => QA_eq rfl (QA_nil (DLe T.ok 0 rfl rfl (ep1.mono ((G.le_dr _).trans hf.le)) rfl rfl rfl))) ?_
    refine D_s (js := [(24, 70)]) (by kernel_rfl) (fun _ hf => QA_eq rfl (QA_nil (DLe T.ok 0 rfl rfl (ep1.mono ((G.le_dr _).trans hf.le)) rfl rfl rfl))) ?_
    refine D_cons (D_step2 (js := [(25, 71), (26, 72), (24, 70), (24, 70)]) (by kernel_rfl) fun gd hf => ?_) ?_
    ·have hsd := hs.dr.call hf; have hfe := (G.le_dr _).trans hf.le
     refine QA_eq rfl ?_; refine QA_eq rfl ?_; refine QA_eq rfl ?_; refine QA_eq rfl ?_
     refine QA_nil ?_
     refine D_yes rfl ?_
     refine OpR_ret cl14 allF rfl rfl rfl rfl rfl (same_c _ _ f f _ ⟨_, _, _, _, _, _, rfl, rs2.mono hfe, rs3.mono hfe⟩ ⟨_, _, _, _, _, _, rfl, rs2.mono hfe, rs3.mono hfe⟩) fun g' v h1 h2 => ⟨g', rfl, h1, ?_⟩
     rw [h2]; exact congrArg Value.bool ((sameF_iff f f).2 rfl)
    refine D_s (js := [(27, 73), (24, 70)]) (by kernel_rfl) (fun _ _ => QA_eq rfl (QA_eq rfl (QA_nil (DPu T.ok rfl rfl rfl)))) ?_
    refine D_s (js := [(24, 70), (28, 74)]) (by kernel_rfl) (fun _ _ => QA_eq rfl (QA_eq rfl (QA_nil (DPu T.ok rfl rfl rfl)))) ?_
    exact D_nil
   intro g1 hf1; refine QA_eq rfl ?_; refine QA_nil ?_
   replace hs := hs.dr.call hf1; have hqe := (G.le_dr _).trans hf1.le; replace le0 := G.le.trans le0 hqe; replace le8 := G.le.trans le8 hqe; replace ep0 := ep0.mono hqe; replace ep1 := ep1.mono hqe; replace rs2 := rs2.mono hqe; replace rs3 := rs3.mono hqe; replace rs4 := rs4.mono hqe; replace rs5 := rs5.mono hqe; replace rs8 := rs8.mono hqe
   refine WL_nil ?_; (with_reducible refine T_then ?_)
   refine W_no rfl rfl ?_
   refine W_skip ?_; (with_reducible refine T_bn ?_); (with_reducible refine T_then ?_); refine W_region ?_; refine P1 T.ok rfl rfl rfl ?_; refine P1 T.ok rfl rfl rfl ?_; refine WL_nil ?_
   exact fun a ha => ⟨3 - (k + 1), by omega, k + 1, _, rfl, hs, le8, by omega, rfl, ha.keep ⟨rfl, rfl, rfl, rfl, kI rfl (by rw [wr (by omega) (by omega)]; omega), trivial⟩⟩
  | false =>
   rw [printRes_no hv] at hp
   subst hp
   (iterate 5 refine P1 T.ok rfl rfl rfl ?_); refine WL_nil ?_; (with_reducible refine T_then ?_); refine W_seq ?_; refine W_region ?_; refine WL_o rfl rfl (OpR_loadE T.ok 0 rfl ep1 rfl rfl ?_)
   refine WL_o rfl rfl (OpR_ret cl12 allF rfl rfl rfl rfl rfl (rprint_c _ f _ ⟨_, _, _, _, _, _, rfl, rs2, rs3⟩) ?_); rintro g1 _ hf1 hp; replace hs := hs.call hf1; have hqe := hf1.le; replace le0 := G.le.trans le0 hqe; replace le8 := G.le.trans le8 hqe; replace ep0 := ep0.mono hqe; replace ep1 := ep1.mono hqe; replace rs2 := rs2.mono hqe; replace rs3 := rs3.mono hqe; replace rs4 := rs4.mono hqe; replace rs5 := rs5.mono hqe; replace rs8 := rs8.mono hqe
   rw [printRes_no hv] at hp
   subst hp
   generalize ([] : List UInt8) = pm at *
   (iterate 5 refine P1 T.ok rfl rfl rfl ?_); refine WL_nil ?_; (with_reducible refine T_then ?_); refine W_seq ?_
   apply W_draw allF rfl (Fact.eq _ :: Fact.eq _ :: Fact.eq _ :: Fact.eq _ :: Fact.eq _ :: Fact.eq _ :: Fact.eq _ :: Fact.eq _ :: Fact.eq _ :: Fact.eq _ :: Fact.eq _ :: Fact.eq _ :: Fact.eq _ :: Fact.eq _ :: Fact.eq _ :: Fact.eq _ :: Fact.eq _ :: Fact.eq _ :: Fact.eq _ :: Fact.eq _ :: Fact.eq _ :: Fact.eq _ :: Fact.eq _ :: Fact.eq _ :: Fact.eq _ :: Fact.eq _ :: Fact.eq _ :: Fact.eq _ :: Fact.eq _ :: Fact.eq _ :: []) 30 [(29, 75)] rfl rfl
   ·refine D_s (js := []) (by kernel_rfl) (fun _ _ => QA_nil (DPu T.ok rfl rfl rfl)) ?_
    refine D_s (js := []) (by kernel_rfl) (fun _ _ => QA_nil (DPu T.ok rfl rfl rfl)) ?_
    refine D_cons (D_step2 (js := [(0, 46), (1, 47)]) (by kernel_rfl) fun gd hf => ?_) ?_
    ·have hsd := hs.dr.call hf; have hfe := (G.le_dr _).trans hf.le
     refine QA_eq rfl ?_; refine QA_eq rfl ?_
     refine QA_nil ?_
     refine D_yes rfl ?_
     refine OpR_pure _ T.ok rfl ?_
     exact ⟨_, rfl, Fr0.refl _, congrArg Value.bool (show _ = false from by simp)⟩
    refine D_s (js := [(2, 48)]) (by kernel_rfl) (fun _ _ => QA_eq rfl (QA_nil (DPu T.ok rfl rfl rfl))) ?_
    refine D_s (js := [(3, 49)]) (by kernel_rfl) (fun _ _ => QA_eq rfl (QA_nil (DPu T.ok rfl rfl rfl))) ?_
    refine D_s (js := [(3, 49)]) (by kernel_rfl) (fun _ _ => QA_eq rfl (QA_nil (DPu T.ok rfl rfl rfl))) ?_
    refine D_s (js := [(4, 50), (5, 51), (3, 49)]) (by kernel_rfl) (fun _ _ => QA_eq rfl (QA_eq rfl (QA_eq rfl (QA_nil (DPu T.ok rfl rfl rfl))))) ?_
    refine D_s (js := [(3, 49), (6, 52)]) (by kernel_rfl) (fun _ _ => QA_eq rfl (QA_eq rfl (QA_nil (DPu T.ok rfl rfl rfl)))) ?_
    refine D_s (js := [(7, 53)]) (by kernel_rfl) (fun _ _ => QA_eq rfl (QA_nil (DPu T.ok rfl rfl rfl))) ?_
    refine D_s (js := [(8, 54)]) (by kernel_rfl) (fun _ hf => QA_eq rfl (QA_nil (DLe T.ok 0 rfl rfl (ep1.mono ((G.le_dr _).trans hf.le)) rfl rfl rfl))) ?_
    refine D_cons (D_step2 (js := [(9, 55), (8, 54), (8, 54)]) (by kernel_rfl) fun gd hf => ?_) ?_
    ·have hsd := hs.dr.call hf; have hfe := (G.le_dr _).trans hf.le
     refine QA_eq rfl ?_; refine QA_eq rfl ?_; refine QA_eq rfl ?_
     refine QA_nil ?_
     refine D_yes rfl ?_
     refine OpR_ret cl8 allF rfl rfl rfl rfl rfl (valid_c _ f _ ⟨_, _, _, _, _, _, rfl, rs2.mono hfe, rs3.mono hfe⟩) fun g' v h1 h2 => ⟨g', rfl, h1, ?_⟩
     rw [h2]; exact congrArg Value.bool hv
    refine D_s (js := [(8, 54)]) (by kernel_rfl) (fun _ hf => QA_eq rfl (QA_nil (DLe T.ok 0 rfl rfl (ep1.mono ((G.le_dr _).trans hf.le)) rfl rfl rfl))) ?_
    refine D_cons (D_step2 (js := [(11, 57), (8, 54)]) (by kernel_rfl) fun gd hf => ?_) ?_
    ·have hsd := hs.dr.call hf; have hfe := (G.le_dr _).trans hf.le
     refine QA_eq rfl ?_; refine QA_eq rfl ?_
     refine QA_nil ?_
     refine D_yes rfl ?_
     refine OpR_ret cl13 allF rfl rfl rfl rfl rfl (rvalid_c _ f _ ⟨_, _, _, _, _, _, rfl, rs2.mono hfe, rs3.mono hfe⟩) fun g' v h1 h2 => ⟨g', rfl, h1, ?_⟩
     rw [h2]; exact congrArg Value.bool hv
    refine D_cons (D_step2 (js := [(10, 56), (12, 58), (8, 54)]) (by kernel_rfl) fun gd hf => ?_) ?_
    ·have hsd := hs.dr.call hf; have hfe := (G.le_dr _).trans hf.le
     refine QA_eq rfl ?_; refine QA_eq rfl ?_; refine QA_eq rfl ?_
     refine QA_nil ?_
     refine D_yes rfl ?_
     refine OpR_eqBool T.ok (neg := true) rfl rfl rfl rfl rfl ?_
     exact ⟨_, rfl, Fr0.refl _, rfl⟩
    refine D_s (js := [(8, 54), (13, 59)]) (by kernel_rfl) (fun _ _ => QA_eq rfl (QA_eq rfl (QA_nil (DPu T.ok rfl rfl rfl)))) ?_
    refine D_s (js := [(14, 60)]) (by kernel_rfl) (fun _ _ => QA_eq rfl (QA_nil (DPu T.ok rfl rfl rfl))) ?_
    refine D_s (js := [(15, 61)]) (by kernel_rfl) (fun _ hf => QA_eq rfl (QA_nil (DLe T.ok 0 rfl rfl (ep0.mono ((G.le_dr _).trans hf.le)) rfl rfl rfl))) ?_
    refine D_s (js := [(15, 61)]) (by kernel_rfl) (fun _ hf => QA_eq rfl (QA_nil (DLe T.ok 0 rfl rfl (ep1.mono ((G.le_dr _).trans hf.le)) rfl rfl rfl))) ?_
    refine D_cons (D_step2 (js := [(16, 62), (17, 63), (15, 61), (15, 61)]) (by kernel_rfl) fun gd hf => ?_) ?_
    ·have hsd := hs.dr.call hf; have hfe := (G.le_dr _).trans hf.le
     refine QA_eq rfl ?_; refine QA_eq rfl ?_; refine QA_eq rfl ?_; refine QA_eq rfl ?_
     refine QA_nil ?_
     refine D_yes rfl ?_
     refine OpR_ret cl14 allF rfl rfl rfl rfl rfl (same_c _ _ F f _ ⟨_, _, _, _, _, _, rfl, rs4.mono hfe, rs5.mono hfe⟩ ⟨_, _, _, _, _, _, rfl, rs2.mono hfe, rs3.mono hfe⟩) fun g' v h1 h2 => ⟨g', rfl, h1, ?_⟩
     exact h2
    refine D_s (js := [(15, 61)]) (by kernel_rfl) (fun _ hf => QA_eq rfl (QA_nil (DLe T.ok 0 rfl rfl (ep0.mono ((G.le_dr _).trans hf.le)) rfl rfl rfl))) ?_
    refine D_s (js := [(15, 61)]) (by kernel_rfl) (fun _ hf => QA_eq rfl (QA_nil (DLe T.ok 0 rfl rfl (ep1.mono ((G.le_dr _).trans hf.le)) rfl rfl rfl))) ?_
    refine D_cons (D_step2 (js := [(19, 65), (20, 66), (15, 61)]) (by kernel_rfl) fun gd hf => ?_) ?_
    ·have hsd := hs.dr.call hf; have hfe := (G.le_dr _).trans hf.le
     refine QA_eq rfl ?_; refine QA_eq rfl ?_; refine QA_eq rfl ?_
     refine QA_nil ?_
     refine D_yes rfl ?_
     refine OpR_ret cl15 allF rfl rfl rfl rfl rfl (rsame_c _ _ F f _ ⟨_, _, _, _, _, _, rfl, rs4.mono hfe, rs5.mono hfe⟩ ⟨_, _, _, _, _, _, rfl, rs2.mono hfe, rs3.mono hfe⟩) fun g' v h1 h2 => ⟨g', rfl, h1, ?_⟩
     exact h2
    refine D_cons (D_step2 (js := [(18, 64), (21, 67), (15, 61)]) (by kernel_rfl) fun gd hf => ?_) ?_
    ·have hsd := hs.dr.call hf; have hfe := (G.le_dr _).trans hf.le
     refine QA_eq rfl ?_; refine QA_eq rfl ?_; refine QA_eq rfl ?_
     refine QA_nil ?_
     refine D_yes rfl ?_
     refine OpR_eqBool T.ok (neg := true) rfl rfl rfl rfl rfl ?_
     exact ⟨_, rfl, Fr0.refl _, congrArg Value.bool (show (true != (sameF F f == sameF F f)) = false from by simp)⟩
    refine D_s (js := [(15, 61), (22, 68)]) (by kernel_rfl) (fun _ _ => QA_eq rfl (QA_eq rfl (QA_nil (DPu T.ok rfl rfl rfl)))) ?_
    refine D_s (js := [(23, 69)]) (by kernel_rfl) (fun _ _ => QA_eq rfl (QA_nil (DPu T.ok rfl rfl rfl))) ?_
    refine D_s (js := [(24, 70)]) (by kernel_rfl) (fun _ hf => QA_eq rfl (QA_nil (DLe T.ok 0 rfl rfl (ep1.mono ((G.le_dr _).trans hf.le)) rfl rfl rfl))) ?_
    refine D_s (js := [(24, 70)]) (by kernel_rfl) (fun _ hf => QA_eq rfl (QA_nil (DLe T.ok 0 rfl rfl (ep1.mono ((G.le_dr _).trans hf.le)) rfl rfl rfl))) ?_
    refine D_cons (D_step2 (js := [(25, 71), (26, 72), (24, 70), (24, 70)]) (by kernel_rfl) fun gd hf => ?_) ?_
    ·have hsd := hs.dr.call hf; have hfe := (G.le_dr _).trans hf.le
     refine QA_eq rfl ?_; refine QA_eq rfl ?_; refine QA_eq rfl ?_; refine QA_eq rfl ?_
     refine QA_nil ?_
     refine D_yes rfl ?_
     refine OpR_ret cl14 allF rfl rfl rfl rfl rfl (same_c _ _ f f _ ⟨_, _, _, _, _, _, rfl, rs2.mono hfe, rs3.mono hfe⟩ ⟨_, _, _, _, _, _, rfl, rs2.mono hfe, rs3.mono hfe⟩) fun g' v h1 h2 => ⟨g', rfl, h1, ?_⟩
     rw [h2]; exact congrArg Value.bool ((sameF_iff f f).2 rfl)
    refine D_s (js := [(27, 73), (24, 70)]) (by kernel_rfl) (fun _ _ => QA_eq rfl (QA_eq rfl (QA_nil (DPu T.ok rfl rfl rfl)))) ?_
    refine D_s (js := [(24, 70), (28, 74)]) (by kernel_rfl) (fun _ _ => QA_eq rfl (QA_eq rfl (QA_nil (DPu T.ok rfl rfl rfl)))) ?_
    exact D_nil
   intro g1 hf1; refine QA_eq rfl ?_; refine QA_nil ?_
   replace hs := hs.dr.call hf1; have hqe := (G.le_dr _).trans hf1.le; replace le0 := G.le.trans le0 hqe; replace le8 := G.le.trans le8 hqe; replace ep0 := ep0.mono hqe; replace ep1 := ep1.mono hqe; replace rs2 := rs2.mono hqe; replace rs3 := rs3.mono hqe; replace rs4 := rs4.mono hqe; replace rs5 := rs5.mono hqe; replace rs8 := rs8.mono hqe
   refine WL_nil ?_; (with_reducible refine T_then ?_)
   refine W_no rfl rfl ?_
   refine W_skip ?_; (with_reducible refine T_bn ?_); (with_reducible refine T_then ?_); refine W_region ?_; refine P1 T.ok rfl rfl rfl ?_; refine P1 T.ok rfl rfl rfl ?_; refine WL_nil ?_
   exact fun a ha => ⟨3 - (k + 1), by omega, k + 1, _, rfl, hs, le8, by omega, rfl, ha.keep ⟨rfl, rfl, rfl, rfl, kI rfl (by rw [wr (by omega) (by omega)]; omega), trivial⟩⟩
 ·refine W_no (b := _) ?_ rfl ?_
  ·simp; omega
  refine W_exit ?_; (with_reducible refine T_tx ?_; with_reducible refine T_tx ?_); (with_reducible refine T_bx ?_); (with_reducible refine T_then ?_); refine W_seq ?_; refine W_region ?_; refine P1 T.ok rfl rfl rfl ?_; refine P1 T.ok rfl rfl rfl ?_; refine WL_nil ?_; (with_reducible refine T_then ?_)
  refine W_ret ?_
  skip
  exact ret1 rfl rfl (hs.ret rfl)
end Go.Proofs.YtnaeopehmdcplaaGreatDoor
