/- The walk through GraphText. -/
import Derived.Test.YtnggomfbgmlkhaaGreatDoorYw
import Derived.Test.YtnggomfbgmlkhaaGreatDoorYx
import Derived.Test.YtnggomfbgmlkhaaGreatDoorYq
import Derived.Test.YtnggomfbgmlkhaaGreatDoorYp

namespace Go.Proofs.YtnggomfbgmlkhaaGreatDoor
open Go Go.K
set_option maxRecDepth 10000
attribute [local irreducible] W WL OpR bitAnd bitOr bitXor bitClr bitNot shlI shrI
set_option maxHeartbeats 4000000

theorem printRes_yes {f : Flow} (h : valid f = true) : printRes f = .tuple #[.string (bs (printM f)), .int .i64 0] := by unfold printRes; rw [if_pos h]
theorem made_inR (x : List Y6) {c : Int} : InR (made x) (pickM c (made x).steps.length) := by
 have h := made_len x
 have h2 := madeN_range x
 have := pickM_range (c := c) (n := ((made x).steps.length : Int)) (by omega)
 exact this
theorem text_c (v : Value) (x : List Y6) (a b : Int) (g : G) (hF : FlAt g) (rs0 : Rs g v x) (hx : ∀ y ∈ x, y.fit) (ha : I64 a) (hb : I64 b) :
  CallsIn Wd 0 Tryz.prog 3 #[v, .int .i64 a, .int .i64 b] g.w (Ret g fun _ r => r = .bool true) := by
 have hs := St.start g
 have le0 := G.le.refl g
 refine enter Tryz.func3 rfl Tryz.ntmps3 rfl ?_
 refine W_seq ?_; refine W_region ?_; refine P1 T.ok rfl rfl rfl ?_; refine WL_nil ?_; (with_reducible refine T_then ?_); refine W_seq ?_; refine W_region ?_
 refine WL_o rfl rfl (OpR_ret cl4 allF rfl rfl rfl rfl rfl (sane_c _) ?_); rintro g1 _ hf1 rfl; replace hs := hs.call hf1; have hqe := hf1.le; replace le0 := G.le.trans le0 hqe; replace rs0 := rs0.mono hqe
 refine P1 T.ok rfl rfl rfl ?_; refine WL_nil ?_; (with_reducible refine T_then ?_); refine W_seq ?_; refine W_region ?_; refine P1 T.ok rfl rfl rfl ?_
 refine WL_o rfl rfl (OpR_ret cl5 allF rfl rfl rfl rfl rfl (made_c _ x _ rs0 hx) ?_); rintro g1 _ hf1 ⟨sa, sn, sc, wa, wn, wc, cells, rfl, hh, rc0, rs2⟩
 replace hs := hs.getOwn hf1 hh; have hqe := hf1.le
 replace le0 := le0.trans hqe; replace rs0 := rs0.mono hqe; clear hh
 obtain ⟨gz, hwz, hsz, hqz, rs1⟩ := hs.fzRow (α := Step) (i := 0) rfl rc0
 clear hqe; have hqe := hqz; rw [← hwz]; replace hs := hsz; clear hsz rc0; replace le0 := G.le.trans le0 hqe; replace rs0 := rs0.mono hqe; replace rs2 := rs2.mono hqe
 have hval := made_valid x
 have hn40 := valid_n hval
 have hmr : ∀ c, InR (made x) (pickM c (made x).steps.length) := fun c => made_inR x
 generalize hfe : made x = f at *
 clear rs0 hx
 obtain ⟨_, _, e⟩ := rs1.isSlice; obtain ⟨rfl, rfl, rfl⟩ := Value.slice.inj e; clear e
 have fl0 : RFlow gz (.agg #[.int .i64 f.moveMin, .int .i64 f.moveMax, .slice sa f.steps.length sc, .slice wa wn wc]) f := ⟨_, _, _, _, _, _, rfl, rs1, rs2⟩
 clear rs1 rs2
 skip
 refine WL_o rfl rfl (OpR_alloc T.ok rfl hs rfl rfl ?_); clear hs; rintro bf g1 hs hqe; replace le0 := G.le.trans le0 hqe; replace fl0 := fl0.mono hqe
 skip
 refine WL_n rfl (OpR_storeO T.ok 0 rfl hs rfl rfl rfl rfl rfl rfl rfl rfl rfl ?_); replace hs := hs; rintro g1 hs hqe; replace le0 := G.le.trans le0 hqe; replace fl0 := fl0.mono hqe
 obtain ⟨g2, hw2, hs2, hqe, hep⟩ := hs.fzObj (i := 0) rfl; replace hs := hs2; clear hs2; rw [← hw2]; replace le0 := G.le.trans le0 hqe; replace fl0 := fl0.mono hqe
 have ep0 := hep; clear hep
 refine WL_nil ?_; (with_reducible refine T_then ?_); refine W_seq ?_; refine W_region ?_; refine WL_o rfl rfl (OpR_loadE T.ok 0 rfl ep0 rfl rfl ?_)
 refine WL_o rfl rfl (OpR_ret cl6 allF rfl rfl rfl rfl rfl (print_c _ f _ fl0 (hF.mono le0)) ?_); rintro g1 _ hf1 hp; replace hs := hs.call hf1; have hqe := hf1.le; replace le0 := G.le.trans le0 hqe; replace ep0 := ep0.mono hqe; replace fl0 := fl0.mono hqe
 rw [printRes_yes hval] at hp; subst hp
 have hTl := printM_len (valid_N hval)
 (iterate 5 refine P1 T.ok rfl rfl rfl ?_); refine WL_nil ?_; (with_reducible refine T_then ?_); refine W_seq ?_; refine W_region ?_; refine P1 T.ok rfl rfl rfl ?_
 refine WL_o rfl rfl (OpR_ret cl7 allF rfl rfl rfl rfl rfl (parse_c (printM f) _ (by omega) (hF.mono le0)) ?_); rintro g1 _ hf1 hp; replace hs := hs.call hf1; have hqe := hf1.le; replace le0 := G.le.trans le0 hqe; replace ep0 := ep0.mono hqe; replace fl0 := fl0.mono hqe
 rw [parse_print hval] at hp
 obtain ⟨_, rfl, a5, n5, c5, a6, n6, c6, rfl, rs4, rs5⟩ := hp
 obtain ⟨_, _, e⟩ := rs4.isSlice; obtain ⟨rfl, rfl, rfl⟩ := Value.slice.inj e; clear e
 have fl1 : RFlow g1 (.agg #[.int .i64 f.moveMin, .int .i64 f.moveMax, .slice a5 f.steps.length c5, .slice a6 n6 c6]) f := ⟨_, _, _, _, _, _, rfl, rs4, rs5⟩
 clear rs4 rs5
 generalize printM f = txt at *
 (iterate 4 refine P1 T.ok rfl rfl rfl ?_)
 refine WL_o rfl rfl (OpR_alloc T.ok rfl hs rfl rfl ?_); clear hs; rintro bg g1 hs hqe; replace le0 := G.le.trans le0 hqe; replace ep0 := ep0.mono hqe; replace fl1 := fl1.mono hqe; replace fl0 := fl0.mono hqe
 skip
 refine WL_n rfl (OpR_storeO T.ok 0 rfl hs rfl rfl rfl rfl rfl rfl rfl rfl rfl ?_); replace hs := hs; rintro g1 hs hqe; replace le0 := G.le.trans le0 hqe; replace ep0 := ep0.mono hqe; replace fl1 := fl1.mono hqe; replace fl0 := fl0.mono hqe
 obtain ⟨g2, hw2, hs2, hqe, hep⟩ := hs.fzObj (i := 0) rfl; replace hs := hs2; clear hs2; rw [← hw2]; replace le0 := G.le.trans le0 hqe; replace ep0 := ep0.mono hqe; replace fl1 := fl1.mono hqe; replace fl0 := fl0.mono hqe
 have ep1 := hep; clear hep
 refine P1 T.ok rfl rfl rfl ?_; refine P1 T.ok rfl rfl rfl ?_; refine WL_nil ?_; (with_reducible refine T_then ?_); refine W_seq ?_; refine W_seq ?_; refine W_region ?_; (iterate 12 refine P1 T.ok rfl rfl rfl ?_); refine WL_o rfl rfl (OpR_loadE T.ok 2 rfl ep1 rfl rfl ?_); refine P1 T.ok rfl rfl rfl ?_; refine P1 T.ok rfl rfl rfl ?_; refine WL_o rfl rfl (OpR_loadE T.ok 2 rfl ep0 rfl rfl ?_); (iterate 3 refine P1 T.ok rfl rfl rfl ?_); refine WL_nil ?_; (with_reducible refine T_then ?_)
 refine W_no (b := _) ?_ rfl ?_
 ·simp
 refine W_skip ?_; (with_reducible refine T_then ?_); refine W_seq ?_; refine W_region ?_; refine P1 T.ok rfl rfl rfl ?_; refine P1 T.ok rfl rfl rfl ?_; refine WL_o rfl rfl (OpR_loadE T.ok 2 rfl ep0 rfl rfl ?_); refine P1 T.ok rfl rfl rfl ?_
 refine WL_o rfl rfl (OpR_ret cl8 allF rfl rfl rfl rfl rfl (pick_c a _ _ ha (by omega)) ?_); rintro g1 _ hf1 rfl; replace hs := hs.call hf1; have hqe := hf1.le; replace le0 := G.le.trans le0 hqe; replace ep0 := ep0.mono hqe; replace ep1 := ep1.mono hqe; replace fl1 := fl1.mono hqe; replace fl0 := fl0.mono hqe
 refine P1 T.ok rfl rfl rfl ?_; refine WL_nil ?_; (with_reducible refine T_then ?_); refine W_seq ?_; refine W_region ?_; refine P1 T.ok rfl rfl rfl ?_; refine P1 T.ok rfl rfl rfl ?_; refine WL_o rfl rfl (OpR_loadE T.ok 2 rfl ep0 rfl rfl ?_); refine P1 T.ok rfl rfl rfl ?_
 refine WL_o rfl rfl (OpR_ret cl8 allF rfl rfl rfl rfl rfl (pick_c b _ _ hb (by omega)) ?_); rintro g1 _ hf1 rfl; replace hs := hs.call hf1; have hqe := hf1.le; replace le0 := G.le.trans le0 hqe; replace ep0 := ep0.mono hqe; replace ep1 := ep1.mono hqe; replace fl1 := fl1.mono hqe; replace fl0 := fl0.mono hqe
 have hsr := hmr a
 have her := hmr b
 clear hmr
 generalize pickM a f.steps.length = s at *
 generalize pickM b f.steps.length = e at *
 refine P1 T.ok rfl rfl rfl ?_; refine WL_nil ?_; (with_reducible refine T_then ?_); refine W_seq ?_; refine W_region ?_; refine WL_o rfl rfl (OpR_loadE T.ok 0 rfl ep0 rfl rfl ?_)
 refine WL_o rfl rfl (OpR_ret cl9 allF rfl rfl rfl rfl rfl (check_c _ f _ fl0) ?_); rintro g1 _ hf1 hp; replace hs := hs.call hf1; have hqe := hf1.le; replace le0 := G.le.trans le0 hqe; replace ep0 := ep0.mono hqe; replace ep1 := ep1.mono hqe; replace fl1 := fl1.mono hqe; replace fl0 := fl0.mono hqe
 obtain ⟨qa, qn, qc, rfl, rs4⟩ := hp
 skip
 refine WL_o rfl rfl (OpR_alloc T.ok rfl hs rfl rfl ?_); clear hs; rintro bp g1 hs hqe; replace le0 := G.le.trans le0 hqe; replace ep0 := ep0.mono hqe; replace ep1 := ep1.mono hqe; replace rs4 := rs4.mono hqe; replace fl1 := fl1.mono hqe; replace fl0 := fl0.mono hqe
 skip
 refine WL_n rfl (OpR_storeO T.ok 0 rfl hs rfl rfl rfl rfl rfl rfl rfl rfl rfl ?_); replace hs := hs; rintro g1 hs hqe; replace le0 := G.le.trans le0 hqe; replace ep0 := ep0.mono hqe; replace ep1 := ep1.mono hqe; replace rs4 := rs4.mono hqe; replace fl1 := fl1.mono hqe; replace fl0 := fl0.mono hqe
 refine WL_nil ?_; (with_reducible refine T_then ?_); refine W_seq ?_; refine W_region ?_; refine WL_o rfl rfl (OpR_loadE T.ok 0 rfl ep1 rfl rfl ?_)
 refine WL_o rfl rfl (OpR_ret cl9 allF rfl rfl rfl rfl rfl (check_c _ f _ fl1) ?_); rintro g1 _ hf1 hp; replace hs := hs.call hf1; have hqe := hf1.le; replace le0 := G.le.trans le0 hqe; replace ep0 := ep0.mono hqe; replace ep1 := ep1.mono hqe; replace rs4 := rs4.mono hqe; replace fl1 := fl1.mono hqe; replace fl0 := fl0.mono hqe
 obtain ⟨qa', qn', qc', rfl, rs5⟩ := hp
 skip
 refine WL_o rfl rfl (OpR_alloc T.ok rfl hs rfl rfl ?_); clear hs; rintro bq g1 hs hqe; replace le0 := G.le.trans le0 hqe; replace ep0 := ep0.mono hqe; replace ep1 := ep1.mono hqe; replace rs4 := rs4.mono hqe; replace rs5 := rs5.mono hqe; replace fl1 := fl1.mono hqe; replace fl0 := fl0.mono hqe
 skip
 refine WL_n rfl (OpR_storeO T.ok 0 rfl hs rfl rfl rfl rfl rfl rfl rfl rfl rfl ?_); replace hs := hs; rintro g1 hs hqe; replace le0 := G.le.trans le0 hqe; replace ep0 := ep0.mono hqe; replace ep1 := ep1.mono hqe; replace rs4 := rs4.mono hqe; replace rs5 := rs5.mono hqe; replace fl1 := fl1.mono hqe; replace fl0 := fl0.mono hqe
 refine WL_nil ?_; (with_reducible refine T_then ?_); refine W_seq ?_; refine W_region ?_; refine WL_o rfl rfl (OpR_loadE T.ok 0 rfl ep0 rfl rfl ?_); refine P1 T.ok rfl rfl rfl ?_; refine P1 T.ok rfl rfl rfl ?_
 refine WL_o rfl rfl (OpR_ret cl10 allF rfl rfl rfl rfl rfl (way_c _ f s e _ fl0) ?_); rintro g1 _ hf1 ⟨u1, rfl, hvo⟩; obtain ⟨gz, hwz, hsz, hqz, rs6⟩ := hs.ownRs hf1 hvo; have hqe := hf1.le.trans hqz; rw [← hwz]; replace hs := hsz; clear hsz hvo; replace le0 := G.le.trans le0 hqe; replace ep0 := ep0.mono hqe; replace ep1 := ep1.mono hqe; replace rs4 := rs4.mono hqe; replace rs5 := rs5.mono hqe; replace fl1 := fl1.mono hqe; replace fl0 := fl0.mono hqe
 (iterate 5 refine P1 T.ok rfl rfl rfl ?_); refine WL_nil ?_; (with_reducible refine T_then ?_); refine W_seq ?_; refine W_region ?_; refine WL_o rfl rfl (OpR_loadE T.ok 0 rfl ep1 rfl rfl ?_); refine P1 T.ok rfl rfl rfl ?_; refine P1 T.ok rfl rfl rfl ?_
 refine WL_o rfl rfl (OpR_ret cl10 allF rfl rfl rfl rfl rfl (way_c _ f s e _ fl1) ?_); rintro g1 _ hf1 ⟨u2, rfl, hvo⟩; obtain ⟨gz, hwz, hsz, hqz, rs7⟩ := hs.ownRs hf1 hvo; have hqe := hf1.le.trans hqz; rw [← hwz]; replace hs := hsz; clear hsz hvo; replace le0 := G.le.trans le0 hqe; replace ep0 := ep0.mono hqe; replace ep1 := ep1.mono hqe; replace rs4 := rs4.mono hqe; replace rs5 := rs5.mono hqe; replace rs6 := rs6.mono hqe; replace fl1 := fl1.mono hqe; replace fl0 := fl0.mono hqe
 (iterate 5 refine P1 T.ok rfl rfl rfl ?_); refine WL_nil ?_; (with_reducible refine T_then ?_); refine W_seq ?_; refine W_region ?_; refine WL_o rfl rfl (OpR_loadE T.ok 0 rfl ep0 rfl rfl ?_); refine P1 T.ok rfl rfl rfl ?_
 refine WL_o rfl rfl (OpR_ret cl11 allF rfl rfl rfl rfl rfl (finish_c _ f s _ fl0) ?_); rintro g1 _ hf1 rfl; replace hs := hs.call hf1; have hqe := hf1.le; replace le0 := G.le.trans le0 hqe; replace ep0 := ep0.mono hqe; replace ep1 := ep1.mono hqe; replace rs4 := rs4.mono hqe; replace rs5 := rs5.mono hqe; replace rs6 := rs6.mono hqe; replace rs7 := rs7.mono hqe; replace fl1 := fl1.mono hqe; replace fl0 := fl0.mono hqe
 (iterate 5 refine P1 T.ok rfl rfl rfl ?_); refine WL_nil ?_; (with_reducible refine T_then ?_); refine W_seq ?_; refine W_region ?_; refine WL_o rfl rfl (OpR_loadE T.ok 0 rfl ep1 rfl rfl ?_); refine P1 T.ok rfl rfl rfl ?_
 refine WL_o rfl rfl (OpR_ret cl11 allF rfl rfl rfl rfl rfl (finish_c _ f s _ fl1) ?_); rintro g1 _ hf1 rfl; replace hs := hs.call hf1; have hqe := hf1.le; replace le0 := G.le.trans le0 hqe; replace ep0 := ep0.mono hqe; replace ep1 := ep1.mono hqe; replace rs4 := rs4.mono hqe; replace rs5 := rs5.mono hqe; replace rs6 := rs6.mono hqe; replace rs7 := rs7.mono hqe; replace fl1 := fl1.mono hqe; replace fl0 := fl0.mono hqe
 (iterate 5 refine P1 T.ok rfl rfl rfl ?_); refine WL_nil ?_; (with_reducible refine T_then ?_); refine W_seq ?_; refine W_region ?_; refine P1 T.ok rfl rfl rfl ?_; refine P1 T.ok rfl rfl rfl ?_; refine WL_o rfl rfl (OpR_loadE T.ok 0 rfl ep0 rfl rfl ?_); refine WL_o rfl rfl (OpR_loadE T.ok 0 rfl ep1 rfl rfl ?_)
 refine WL_o rfl rfl (OpR_ret cl12 allF rfl rfl rfl rfl rfl (rsame_c _ _ f f _ fl0 fl1) ?_); rintro g1 _ hf1 rfl; replace hs := hs.call hf1; have hqe := hf1.le; replace le0 := G.le.trans le0 hqe; replace ep0 := ep0.mono hqe; replace ep1 := ep1.mono hqe; replace rs4 := rs4.mono hqe; replace rs5 := rs5.mono hqe; replace rs6 := rs6.mono hqe; replace rs7 := rs7.mono hqe; replace fl1 := fl1.mono hqe; replace fl0 := fl0.mono hqe
 refine WL_rep (.bool true) (t := 101) rfl (congrArg Value.bool ((sameF_iff f f).2 rfl)) ?_
 (iterate 3 refine P1 T.ok rfl rfl rfl ?_); refine WL_o rfl rfl (OpR_loadO T.ok 1 rfl hs rfl rfl rfl ?_); refine P1 T.ok rfl rfl rfl ?_; refine WL_o rfl rfl (OpR_loadO T.ok 0 rfl hs rfl rfl rfl ?_); (iterate 3 refine P1 T.ok rfl rfl rfl ?_)
 refine WL_rep (.bool true) (t := 110) rfl (congrArg Value.bool (by simp)) ?_
 refine P1 T.ok rfl rfl rfl ?_; refine WL_o rfl rfl (OpR_loadO T.ok 1 rfl hs rfl rfl rfl ?_); refine P1 T.ok rfl rfl rfl ?_; refine WL_o rfl rfl (OpR_loadO T.ok 0 rfl hs rfl rfl rfl ?_)
 refine WL_o rfl rfl (OpR_ret cl13 allF rfl rfl rfl rfl rfl (samei_c _ _ _ _ _ rs4 rs5) ?_); rintro g1 _ hf1 rfl; replace hs := hs.call hf1; have hqe := hf1.le; replace le0 := G.le.trans le0 hqe; replace ep0 := ep0.mono hqe; replace ep1 := ep1.mono hqe; replace rs4 := rs4.mono hqe; replace rs5 := rs5.mono hqe; replace rs6 := rs6.mono hqe; replace rs7 := rs7.mono hqe; replace fl1 := fl1.mono hqe; replace fl0 := fl0.mono hqe
 refine WL_rep (.bool true) (t := 115) rfl (congrArg Value.bool (by simp)) ?_
 (iterate 4 refine P1 T.ok rfl rfl rfl ?_)
 refine WL_o rfl rfl (OpR_eqB T.ok (neg := false) rfl rfl rfl rfl rfl ?_)
 refine P1 T.ok rfl rfl rfl ?_; refine P1 T.ok rfl rfl rfl ?_
 refine WL_rep (.bool true) (t := 122) rfl (congrArg Value.bool (by simp)) ?_
 refine P1 T.ok rfl rfl rfl ?_; refine P1 T.ok rfl rfl rfl ?_
 refine WL_o rfl rfl (OpR_ret cl13 allF rfl rfl rfl rfl rfl (samei_c _ _ _ _ _ rs6 rs7) ?_); rintro g1 _ hf1 rfl; replace hs := hs.call hf1; have hqe := hf1.le; replace le0 := G.le.trans le0 hqe; replace ep0 := ep0.mono hqe; replace ep1 := ep1.mono hqe; replace rs4 := rs4.mono hqe; replace rs5 := rs5.mono hqe; replace rs6 := rs6.mono hqe; replace rs7 := rs7.mono hqe; replace fl1 := fl1.mono hqe; replace fl0 := fl0.mono hqe
 refine WL_rep (.bool true) (t := 125) rfl (congrArg Value.bool (by simp)) ?_
 (iterate 7 refine P1 T.ok rfl rfl rfl ?_); refine WL_nil ?_; (with_reducible refine T_then ?_)
 exact W_ret (ret1 rfl rfl (hs.ret (congrArg Value.bool (by simp))))
end Go.Proofs.YtnggomfbgmlkhaaGreatDoor
