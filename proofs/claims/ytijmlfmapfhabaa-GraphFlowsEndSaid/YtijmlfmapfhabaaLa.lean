/- The walks through the statements. -/
import Derived.Test.YtijmlfmapfhabaaGg
import Derived.Test.YtijmlfmapfhabaaMa

/- The walk through the statement GraphTriangle. -/
namespace Go.Proofs.Ytijmlfmapfhabaa
open Go Go.K
set_option maxRecDepth 10000
attribute [local irreducible] W WL OpR
set_option maxHeartbeats 4000000

theorem made_inR (x : List Y6) {c : Int} : InR (made x) (pickM c (made x).steps.length) := by
  have h := made_len x
  have h2 := madeN_range x
  have := pickM_range (c := c) (n := ((made x).steps.length : Int)) (by omega)
  exact this
theorem step_geti {f : Flow} {j : Int} (hj : InR f j) : geti f.steps j = some (stepD f j) := by
  have h0 := hj.1; have h1 := hj.2
  unfold stepD; rw [geti_of (j := j.toNat) (by omega) (by omega)]
  simp [List.getD_eq_getElem?_getD, show j.toNat < f.steps.length from by omega]



theorem triangle_c (v : Value) (x : List Y6) (a b c : Int) (g : G) (rs0 : Rs g v x) (hx : ∀ y ∈ x, y.fit) (ha : I64 a) (hb : I64 b) (hc : I64 c) :
    CallsIn Wd 0 Try.prog 9 #[v, .int .i64 a, .int .i64 b, .int .i64 c] g.w (Ret g fun _ r => r = .bool true) := by
  have hs := St.start g
  have le0 := G.le.refl g
  refine enter Try.func9 rfl Try.ntmps9 rfl ?_
  refine W_seq ?_; refine W_region ?_; refine P1 T.ok rfl rfl rfl ?_; refine WL_nil ?_; (with_reducible refine T_then ?_); refine W_seq ?_; refine W_region ?_
  refine WL_o rfl rfl (OpR_ret cl12 allF rfl rfl rfl rfl rfl (sane_c _) ?_); rintro g1 _ hf1 rfl; replace hs := hs.call hf1; have hqe := hf1.le; replace le0 := G.le.trans le0 hqe; replace rs0 := rs0.mono hqe
  refine P1 T.ok rfl rfl rfl ?_; refine WL_nil ?_; (with_reducible refine T_then ?_); refine W_seq ?_; refine W_region ?_; refine P1 T.ok rfl rfl rfl ?_
  refine WL_o rfl rfl (OpR_ret cl14 allF rfl rfl rfl rfl rfl (made_c _ x _ rs0 hx) ?_); rintro g1 _ hf1 ⟨sa, sn, sc, wa, wn, wc, cells, rfl, hh, rc0, rs2⟩
  replace hs := hs.getOwn hf1 hh; have hqe := hf1.le
  replace le0 := le0.trans hqe; replace rs0 := rs0.mono hqe; clear hh
  obtain ⟨gz, hwz, hsz, hqz, rs1⟩ := hs.fzRow (α := Step) (i := 0) rfl rc0
  clear hqe; have hqe := hqz; rw [← hwz]; replace hs := hsz; clear hsz rc0; replace le0 := G.le.trans le0 hqe; replace rs0 := rs0.mono hqe; replace rs2 := rs2.mono hqe
  have hval := made_valid x
  have hn40 := valid_n hval
  have hmr : ∀ c, InR (made x) (pickM c (made x).steps.length) := fun c => made_inR x
  generalize hfe : made x = f at *
  obtain ⟨_, _, e⟩ := rs1.isSlice; obtain ⟨rfl, rfl, rfl⟩ := Value.slice.inj e; clear e
  have fl0 : RFlow gz (.agg #[.int .i64 f.moveMin, .int .i64 f.moveMax, .slice sa f.steps.length sc, .slice wa wn wc]) f := ⟨_, _, _, _, _, _, rfl, rs1, rs2⟩
  skip
  refine WL_o rfl rfl (OpR_alloc T.ok rfl hs rfl rfl ?_); clear hs; rintro bf g1 hs hqe; replace le0 := G.le.trans le0 hqe; replace rs0 := rs0.mono hqe; replace rs1 := rs1.mono hqe; replace rs2 := rs2.mono hqe; replace fl0 := fl0.mono hqe
  skip
  refine WL_n rfl (OpR_storeO T.ok 0 rfl hs rfl rfl rfl rfl rfl rfl rfl rfl rfl ?_); replace hs := hs; rintro g1 hs hqe; replace le0 := G.le.trans le0 hqe; replace rs0 := rs0.mono hqe; replace rs1 := rs1.mono hqe; replace rs2 := rs2.mono hqe; replace fl0 := fl0.mono hqe
  obtain ⟨g2, hw2, hs2, hqe, hep⟩ := hs.fzObj (i := 0) rfl; replace hs := hs2; clear hs2; rw [← hw2]; replace le0 := G.le.trans le0 hqe; replace rs0 := rs0.mono hqe; replace rs1 := rs1.mono hqe; replace rs2 := rs2.mono hqe; replace fl0 := fl0.mono hqe
  have ep0 := hep; clear hep
  refine WL_nil ?_; (with_reducible refine T_then ?_); refine W_seq ?_; refine W_region ?_; refine P1 T.ok rfl rfl rfl ?_; refine WL_o rfl rfl (OpR_loadE T.ok 2 rfl ep0 rfl rfl ?_); refine P1 T.ok rfl rfl rfl ?_; refine P1 T.ok rfl rfl rfl ?_; refine WL_nil ?_; (with_reducible refine T_then ?_); refine W_seq ?_; refine W_region ?_; refine P1 T.ok rfl rfl rfl ?_; refine P1 T.ok rfl rfl rfl ?_
  refine WL_o rfl rfl (OpR_ret cl20 allF rfl rfl rfl rfl rfl (pick_c _ _ _ ha (by omega)) ?_); rintro g1 _ hf1 rfl; replace hs := hs.call hf1; have hqe := hf1.le; replace le0 := G.le.trans le0 hqe; replace ep0 := ep0.mono hqe; replace rs0 := rs0.mono hqe; replace rs1 := rs1.mono hqe; replace rs2 := rs2.mono hqe; replace fl0 := fl0.mono hqe
  refine P1 T.ok rfl rfl rfl ?_; refine WL_nil ?_; (with_reducible refine T_then ?_); refine W_seq ?_; refine W_region ?_; refine P1 T.ok rfl rfl rfl ?_; refine P1 T.ok rfl rfl rfl ?_
  refine WL_o rfl rfl (OpR_ret cl20 allF rfl rfl rfl rfl rfl (pick_c _ _ _ hb (by omega)) ?_); rintro g1 _ hf1 rfl; replace hs := hs.call hf1; have hqe := hf1.le; replace le0 := G.le.trans le0 hqe; replace ep0 := ep0.mono hqe; replace rs0 := rs0.mono hqe; replace rs1 := rs1.mono hqe; replace rs2 := rs2.mono hqe; replace fl0 := fl0.mono hqe
  refine P1 T.ok rfl rfl rfl ?_; refine WL_nil ?_; (with_reducible refine T_then ?_); refine W_seq ?_; refine W_region ?_; refine P1 T.ok rfl rfl rfl ?_; refine P1 T.ok rfl rfl rfl ?_
  refine WL_o rfl rfl (OpR_ret cl20 allF rfl rfl rfl rfl rfl (pick_c _ _ _ hc (by omega)) ?_); rintro g1 _ hf1 rfl; replace hs := hs.call hf1; have hqe := hf1.le; replace le0 := G.le.trans le0 hqe; replace ep0 := ep0.mono hqe; replace rs0 := rs0.mono hqe; replace rs1 := rs1.mono hqe; replace rs2 := rs2.mono hqe; replace fl0 := fl0.mono hqe
  refine P1 T.ok rfl rfl rfl ?_; refine WL_nil ?_; (with_reducible refine T_then ?_); refine W_seq ?_; refine W_region ?_; refine WL_o rfl rfl (OpR_loadE T.ok 0 rfl ep0 rfl rfl ?_); refine P1 T.ok rfl rfl rfl ?_; refine P1 T.ok rfl rfl rfl ?_
  have h1 := hmr a; have h2 := hmr b; have h3 := hmr c
  generalize pickM a f.steps.length = p at *
  generalize pickM b f.steps.length = q at *
  generalize pickM c f.steps.length = r at *
  refine WL_o rfl rfl (OpR_ret cl23 allF rfl rfl rfl rfl rfl (quickest_c _ f p q _ fl0) ?_); rintro g1 _ hf1 rfl; replace hs := hs.call hf1; have hqe := hf1.le; replace le0 := G.le.trans le0 hqe; replace ep0 := ep0.mono hqe; replace rs0 := rs0.mono hqe; replace rs1 := rs1.mono hqe; replace rs2 := rs2.mono hqe; replace fl0 := fl0.mono hqe
  (iterate 5 refine P1 T.ok rfl rfl rfl ?_); refine WL_nil ?_; (with_reducible refine T_then ?_); refine W_seq ?_; refine W_region ?_; refine WL_o rfl rfl (OpR_loadE T.ok 0 rfl ep0 rfl rfl ?_); refine P1 T.ok rfl rfl rfl ?_; refine P1 T.ok rfl rfl rfl ?_
  refine WL_o rfl rfl (OpR_ret cl23 allF rfl rfl rfl rfl rfl (quickest_c _ f q r _ fl0) ?_); rintro g1 _ hf1 rfl; replace hs := hs.call hf1; have hqe := hf1.le; replace le0 := G.le.trans le0 hqe; replace ep0 := ep0.mono hqe; replace rs0 := rs0.mono hqe; replace rs1 := rs1.mono hqe; replace rs2 := rs2.mono hqe; replace fl0 := fl0.mono hqe
  (iterate 5 refine P1 T.ok rfl rfl rfl ?_); refine WL_nil ?_; (with_reducible refine T_then ?_); refine W_seq ?_; refine W_region ?_; refine WL_o rfl rfl (OpR_loadE T.ok 0 rfl ep0 rfl rfl ?_); refine P1 T.ok rfl rfl rfl ?_; refine P1 T.ok rfl rfl rfl ?_
  refine WL_o rfl rfl (OpR_ret cl23 allF rfl rfl rfl rfl rfl (quickest_c _ f p r _ fl0) ?_); rintro g1 _ hf1 rfl; replace hs := hs.call hf1; have hqe := hf1.le; replace le0 := G.le.trans le0 hqe; replace ep0 := ep0.mono hqe; replace rs0 := rs0.mono hqe; replace rs1 := rs1.mono hqe; replace rs2 := rs2.mono hqe; replace fl0 := fl0.mono hqe
  (iterate 5 refine P1 T.ok rfl rfl rfl ?_); refine WL_nil ?_; (with_reducible refine T_then ?_); refine W_seq ?_; refine W_region ?_; refine WL_o rfl rfl (OpR_loadE T.ok 0 rfl ep0 rfl rfl ?_); refine P1 T.ok rfl rfl rfl ?_
  refine WL_o rfl rfl (OpR_ret cl27 allF rfl rfl rfl rfl rfl (follow_c _ f p _ fl0) ?_); rintro g1 vo hf1 hvo; obtain ⟨gz, hwz, hsz, hqz, rs3⟩ := hs.ownRs hf1 hvo; have hqe := hf1.le.trans hqz; rw [← hwz]; replace hs := hsz; clear hsz hvo; replace le0 := G.le.trans le0 hqe; replace ep0 := ep0.mono hqe; replace rs0 := rs0.mono hqe; replace rs1 := rs1.mono hqe; replace rs2 := rs2.mono hqe; replace fl0 := fl0.mono hqe
  obtain ⟨al, cl, rfl⟩ := rs3.isSlice
  refine P1 T.ok rfl rfl rfl ?_; refine WL_nil ?_; (with_reducible refine T_then ?_); refine W_seq ?_; refine W_seq ?_; refine W_region ?_; (iterate 3 refine P1 T.ok rfl rfl rfl ?_); refine WL_nil ?_; (with_reducible refine T_then ?_)
  refine W_mid (fun a' w => ∃ g2, w = g2.w ∧ St g g2 [] ∧ G.le gz g2 ∧
    Fr 106 [] [(2, .int .i64 q), (9, .bool true), (10, .pointer (some ⟨bf, 0, none⟩)), (12, .int .i64 (quickest f p q).1), (13, .bool (quickest f p q).2), (14, .int .i64 (quickest f q r).1), (15, .bool (quickest f q r).2), (16, .int .i64 (quickest f p r).1), (17, .bool (quickest f p r).2)] a') ?_ ?_
  · have le8 := G.le.refl gz
    by_cases h0 : 0 < (follow f p).length
    · refine W_yes (b := decide ((0 : Int) < ((follow f p).length : Int))) (decide_eq_true (by omega)) rfl ?_
      have hfi := law_first hval h1 (List.getElem_mem h0)
      generalize hl0 : (follow f p)[0] = l0 at *
      refine W_seq ?_
      apply W_draw allF rfl (Fact.eq _ :: Fact.eq _ :: Fact.eq _ :: (intPtr l0) :: Fact.eq _ :: Fact.eq _ :: Fact.eq _ :: Fact.eq _ :: Fact.eq _ :: Fact.eq _ :: Fact.eq _ :: []) 11 [(9, 19), (10, 20)] rfl rfl
      · refine D_cons (D_step2 (js := []) (by kernel_rfl) fun gd hf => ?_) ?_
        · have hsd := hs.dr.call hf; have hfe := (G.le_dr _).trans hf.le
          refine QA_nil ?_
          (refine D_yes rfl ?_; refine OpR_loadE T.ok 0 rfl (ep0.mono hfe) rfl rfl ?_; refine ⟨_, rfl, Fr0.refl _, ?_⟩; exact rfl)
        refine D_cons (D_step2 (js := []) (by kernel_rfl) fun gd hf => ?_) ?_
        · have hsd := hs.dr.call hf; have hfe := (G.le_dr _).trans hf.le
          refine QA_nil ?_
          (refine D_yes rfl ?_; refine OpR_pure _ T.ok rfl ?_; refine ⟨_, rfl, Fr0.refl _, ?_⟩; exact rfl)
        refine D_cons (D_step2 (js := []) (by kernel_rfl) fun gd hf => ?_) ?_
        · have hsd := hs.dr.call hf; have hfe := (G.le_dr _).trans hf.le
          refine QA_nil ?_
          (refine D_yes rfl ?_; refine OpR_pure _ T.ok rfl ?_; refine ⟨_, rfl, Fr0.refl _, ?_⟩; exact rfl)
        refine D_cons (D_step2 (js := [(2, 66)]) (by kernel_rfl) fun gd hf => ?_) ?_
        · have hsd := hs.dr.call hf; have hfe := (G.le_dr _).trans hf.le
          refine QA_eq rfl ?_
          refine QA_nil ?_
          refine D_yes rfl ?_
          refine OpR_idx T.ok rfl (rs3.mono hfe) (y := l0) (by have h9 := geti_of (xs := follow f p) (n := 0) (j := 0) rfl h0; rw [hl0] at h9; exact h9) rfl rfl rfl rfl rfl rfl ?_
          intro b p ys hep hrc
          exact ⟨_, rfl, Fr0.refl _, b, p, rfl, by rw [← show ys = [Value.int .i64 l0] from hrc]; exact hep⟩
        refine D_cons (D_step2 (js := [(3, 67)]) (by kernel_rfl) fun gd hf => ?_) ?_
        · have hsd := hs.dr.call hf; have hfe := (G.le_dr _).trans hf.le
          refine QA_any fun v3 h3 => ?_
          refine QA_nil ?_
          obtain ⟨b, p, rfl, hep⟩ := h3
          refine D_yes rfl ?_
          refine OpR_loadE T.ok 0 rfl hep rfl rfl ?_
          refine ⟨_, rfl, Fr0.refl _, ?_⟩
          exact rfl
        refine D_cons (D_step2 (js := [(0, 64), (1, 65), (4, 68)]) (by kernel_rfl) fun gd hf => ?_) ?_
        · have hsd := hs.dr.call hf; have hfe := (G.le_dr _).trans hf.le
          refine QA_eq rfl ?_; refine QA_eq rfl ?_; refine QA_eq rfl ?_
          refine QA_nil ?_
          refine D_yes rfl ?_
          refine OpR_ret cl23 allF rfl rfl rfl rfl rfl (quickest_c _ f p l0 _ (fl0.mono hfe)) fun g' v h1 h2 => ⟨g', rfl, h1, ?_⟩
          rw [hfi] at h2
          exact h2
        refine D_cons (D_step2 (js := [(5, 69)]) (by kernel_rfl) fun gd hf => ?_) ?_
        · have hsd := hs.dr.call hf; have hfe := (G.le_dr _).trans hf.le
          refine QA_eq rfl ?_
          refine QA_nil ?_
          (refine D_yes rfl ?_; refine OpR_pure _ T.ok rfl ?_; refine ⟨_, rfl, Fr0.refl _, ?_⟩; exact rfl)
        refine D_cons (D_step2 (js := [(6, 63)]) (by kernel_rfl) fun gd hf => ?_) ?_
        · have hsd := hs.dr.call hf; have hfe := (G.le_dr _).trans hf.le
          refine QA_eq rfl ?_
          refine QA_nil ?_
          (refine D_yes rfl ?_; refine OpR_pure _ T.ok rfl ?_; refine ⟨_, rfl, Fr0.refl _, ?_⟩; exact rfl)
        refine D_cons (D_step2 (js := [(6, 63)]) (by kernel_rfl) fun gd hf => ?_) ?_
        · have hsd := hs.dr.call hf; have hfe := (G.le_dr _).trans hf.le
          refine QA_eq rfl ?_
          refine QA_nil ?_
          (refine D_yes rfl ?_; refine OpR_pure _ T.ok rfl ?_; refine ⟨_, rfl, Fr0.refl _, ?_⟩; exact rfl)
        refine D_cons (D_step2 (js := [(7, 70), (7, 70)]) (by kernel_rfl) fun gd hf => ?_) ?_
        · have hsd := hs.dr.call hf; have hfe := (G.le_dr _).trans hf.le
          refine QA_eq rfl ?_; refine QA_eq rfl ?_
          refine QA_nil ?_
          (refine D_yes rfl ?_; refine OpR_pure _ T.ok rfl ?_; refine ⟨_, rfl, Fr0.refl _, ?_⟩; exact rfl)
        refine D_cons (D_step2 (js := [(8, 71), (8, 71)]) (by kernel_rfl) fun gd hf => ?_) ?_
        · have hsd := hs.dr.call hf; have hfe := (G.le_dr _).trans hf.le
          refine QA_eq rfl ?_; refine QA_eq rfl ?_
          refine QA_nil ?_
          (refine D_yes rfl ?_; refine OpR_pure _ T.ok rfl ?_; refine ⟨_, rfl, Fr0.refl _, ?_⟩; exact rfl)
        exact D_nil
      intro g1 hf1; refine QA_eq rfl ?_; refine QA_eq rfl ?_; refine QA_nil ?_
      replace hs := hs.dr.call hf1; have hqe := (G.le_dr _).trans hf1.le; replace le0 := G.le.trans le0 hqe; replace le8 := G.le.trans le8 hqe; replace ep0 := ep0.mono hqe; replace rs0 := rs0.mono hqe; replace rs1 := rs1.mono hqe; replace rs2 := rs2.mono hqe; replace rs3 := rs3.mono hqe; replace fl0 := fl0.mono hqe
      refine WL_nil ?_; (with_reducible refine T_then ?_); refine W_seq ?_; refine W_region ?_; (iterate 5 refine P1 T.ok rfl rfl rfl ?_); refine WL_o rfl rfl (OpR_loadE T.ok 0 rfl ep0 rfl rfl ?_); refine P1 T.ok rfl rfl rfl ?_; refine P1 T.ok rfl rfl rfl ?_; refine WL_nil ?_; (with_reducible refine T_then ?_)
      refine W_no (b := f.moveMin != f.moveMin) (by simp) rfl ?_
      refine W_skip ?_
      exact fun a ha => T_mid ⟨_, rfl, hs, le8, ha.keep (by (repeat (first | exact trivial | refine ⟨rfl, ?_⟩)))⟩
    · refine W_no (b := decide ((0 : Int) < ((follow f p).length : Int))) (decide_eq_false (by omega)) rfl ?_
      refine W_skip ?_
      exact fun a ha => T_mid ⟨_, rfl, hs, le8, ha.keep (by (repeat (first | exact trivial | refine ⟨rfl, ?_⟩)))⟩
  · rintro a' _ ⟨g2, rfl, hs', hqe, ha'⟩
    replace hs := hs'; clear hs'
    replace le0 := G.le.trans le0 hqe; replace ep0 := ep0.mono hqe; replace rs0 := rs0.mono hqe; replace rs1 := rs1.mono hqe; replace rs2 := rs2.mono hqe; replace rs3 := rs3.mono hqe; replace fl0 := fl0.mono hqe
    revert a'
    have b1 := quickest_bound hval h1 h2; have b2 := quickest_bound hval h2 h3
    have hmn := valid_min hval h2
    have htr := law_triangle hval h1 h2 h3
    (with_reducible refine T_wp ?_); refine W_seq ?_; refine W_region ?_; (iterate 5 refine P1 T.ok rfl rfl rfl ?_)
    cases e1 : (quickest f p q).2 with
    | false =>
      refine S1 allF rfl rfl ?_; refine S1 allF rfl rfl ?_; refine P1 T.ok rfl rfl rfl ?_; refine P1 T.ok rfl rfl rfl ?_; (iterate 15 refine S1 allF rfl rfl ?_); (iterate 3 refine P1 T.ok rfl rfl rfl ?_); refine WL_nil ?_; (with_reducible refine T_then ?_)
      exact W_ret (ret1 rfl rfl (hs.ret rfl))
    | true =>
      cases e2 : (quickest f q r).2 with
      | false =>
        (iterate 4 refine P1 T.ok rfl rfl rfl ?_); (iterate 15 refine S1 allF rfl rfl ?_); (iterate 3 refine P1 T.ok rfl rfl rfl ?_); refine WL_nil ?_; (with_reducible refine T_then ?_)
        exact W_ret (ret1 rfl rfl (hs.ret rfl))
      | true =>
        obtain ⟨e3, e4⟩ := htr e1 e2
        rw [e3]
        (iterate 9 refine P1 T.ok rfl rfl rfl ?_); refine WL_o rfl rfl (OpR_loadE T.ok 2 rfl ep0 rfl rfl ?_); refine P1 T.ok rfl rfl rfl ?_
        refine WL_o rfl rfl (OpR_idx T.ok rfl rs1 (y := stepD f q) (step_geti h2) rfl rfl rfl rfl rfl rfl ?_)
        rintro b p' ys hep ⟨b1, b2, b3, b4, b5, b6, rfl, _, _⟩
        refine WL_o rfl rfl (OpR_pure _ T.ok rfl ?_)
        refine WL_o rfl rfl (OpR_loadE T.ok 2 rfl hep rfl rfl ?_)
        (iterate 8 refine P1 T.ok rfl rfl rfl ?_); refine WL_nil ?_; (with_reducible refine T_then ?_)
        refine W_ret (ret1 rfl rfl (hs.ret ?_))
        rw [wr (n := (quickest f p q).1 + (stepD f q).min) (by omega) (by omega), wr (by omega) (by omega), decide_eq_true e4]
end Go.Proofs.Ytijmlfmapfhabaa

/- The walk through the statement GraphFinish. -/
namespace Go.Proofs.Ytijmlfmapfhabaa
open Go Go.K
set_option maxRecDepth 10000
attribute [local irreducible] W WL OpR
set_option maxHeartbeats 4000000

theorem finish_bound {f : Flow} (hval : valid f = true) {a : Int} (ha : InR f a) : 0 ≤ (finish f a).1 ∧ (finish f a).1 ≤ 1010000 := by
  cases he : isEnd (stepD f a) with
  | true => rw [finish_end hval ha he]; exact ⟨Int.le_refl _, by show (0 : Int) ≤ _; omega⟩
  | false => rw [finish_mid hval ha he]; exact finTo_bound hval ha _ (Nat.le_refl _)



theorem lawfinish_c (v : Value) (x : List Y6) (a : Int) (g : G) (rs0 : Rs g v x) (hx : ∀ y ∈ x, y.fit) (ha : I64 a) :
    CallsIn Wd 0 Try.prog 11 #[v, .int .i64 a] g.w (Ret g fun _ r => r = .bool true) := by
  have hs := St.start g
  have le0 := G.le.refl g
  refine enter Try.func11 rfl Try.ntmps11 rfl ?_
  refine W_seq ?_; refine W_region ?_; refine P1 T.ok rfl rfl rfl ?_; refine WL_nil ?_; (with_reducible refine T_then ?_); refine W_seq ?_; refine W_region ?_
  refine WL_o rfl rfl (OpR_ret cl12 allF rfl rfl rfl rfl rfl (sane_c _) ?_); rintro g1 _ hf1 rfl; replace hs := hs.call hf1; have hqe := hf1.le; replace le0 := G.le.trans le0 hqe; replace rs0 := rs0.mono hqe
  refine P1 T.ok rfl rfl rfl ?_; refine WL_nil ?_; (with_reducible refine T_then ?_); refine W_seq ?_; refine W_region ?_; refine P1 T.ok rfl rfl rfl ?_
  refine WL_o rfl rfl (OpR_ret cl14 allF rfl rfl rfl rfl rfl (made_c _ x _ rs0 hx) ?_); rintro g1 _ hf1 ⟨sa, sn, sc, wa, wn, wc, cells, rfl, hh, rc0, rs2⟩
  replace hs := hs.getOwn hf1 hh; have hqe := hf1.le
  replace le0 := le0.trans hqe; replace rs0 := rs0.mono hqe; clear hh
  obtain ⟨gz, hwz, hsz, hqz, rs1⟩ := hs.fzRow (α := Step) (i := 0) rfl rc0
  clear hqe; have hqe := hqz; rw [← hwz]; replace hs := hsz; clear hsz rc0; replace le0 := G.le.trans le0 hqe; replace rs0 := rs0.mono hqe; replace rs2 := rs2.mono hqe
  have hval := made_valid x
  have hn40 := valid_n hval
  have hmr : ∀ c, InR (made x) (pickM c (made x).steps.length) := fun c => made_inR x
  generalize hfe : made x = f at *
  obtain ⟨_, _, e⟩ := rs1.isSlice; obtain ⟨rfl, rfl, rfl⟩ := Value.slice.inj e; clear e
  have fl0 : RFlow gz (.agg #[.int .i64 f.moveMin, .int .i64 f.moveMax, .slice sa f.steps.length sc, .slice wa wn wc]) f := ⟨_, _, _, _, _, _, rfl, rs1, rs2⟩
  skip
  refine WL_o rfl rfl (OpR_alloc T.ok rfl hs rfl rfl ?_); clear hs; rintro bf g1 hs hqe; replace le0 := G.le.trans le0 hqe; replace rs0 := rs0.mono hqe; replace rs1 := rs1.mono hqe; replace rs2 := rs2.mono hqe; replace fl0 := fl0.mono hqe
  skip
  refine WL_n rfl (OpR_storeO T.ok 0 rfl hs rfl rfl rfl rfl rfl rfl rfl rfl rfl ?_); replace hs := hs; rintro g1 hs hqe; replace le0 := G.le.trans le0 hqe; replace rs0 := rs0.mono hqe; replace rs1 := rs1.mono hqe; replace rs2 := rs2.mono hqe; replace fl0 := fl0.mono hqe
  obtain ⟨g2, hw2, hs2, hqe, hep⟩ := hs.fzObj (i := 0) rfl; replace hs := hs2; clear hs2; rw [← hw2]; replace le0 := G.le.trans le0 hqe; replace rs0 := rs0.mono hqe; replace rs1 := rs1.mono hqe; replace rs2 := rs2.mono hqe; replace fl0 := fl0.mono hqe
  have ep0 := hep; clear hep
  refine WL_nil ?_; (with_reducible refine T_then ?_); refine W_seq ?_; refine W_region ?_; refine P1 T.ok rfl rfl rfl ?_; refine P1 T.ok rfl rfl rfl ?_; refine WL_o rfl rfl (OpR_loadE T.ok 2 rfl ep0 rfl rfl ?_); refine P1 T.ok rfl rfl rfl ?_
  refine WL_o rfl rfl (OpR_ret cl20 allF rfl rfl rfl rfl rfl (pick_c _ _ _ ha (by omega)) ?_); rintro g1 _ hf1 rfl; replace hs := hs.call hf1; have hqe := hf1.le; replace le0 := G.le.trans le0 hqe; replace ep0 := ep0.mono hqe; replace rs0 := rs0.mono hqe; replace rs1 := rs1.mono hqe; replace rs2 := rs2.mono hqe; replace fl0 := fl0.mono hqe
  refine P1 T.ok rfl rfl rfl ?_; refine WL_nil ?_; (with_reducible refine T_then ?_); refine W_seq ?_; refine W_region ?_; refine WL_o rfl rfl (OpR_loadE T.ok 0 rfl ep0 rfl rfl ?_); refine P1 T.ok rfl rfl rfl ?_
  have h1 := hmr a
  generalize pickM a f.steps.length = p at *
  have hmv := valid_mv hval
  refine WL_o rfl rfl (OpR_ret cl25 allF rfl rfl rfl rfl rfl (finish_c _ f p _ fl0) ?_); rintro g1 _ hf1 rfl; replace hs := hs.call hf1; have hqe := hf1.le; replace le0 := G.le.trans le0 hqe; replace ep0 := ep0.mono hqe; replace rs0 := rs0.mono hqe; replace rs1 := rs1.mono hqe; replace rs2 := rs2.mono hqe; replace fl0 := fl0.mono hqe
  (iterate 5 refine P1 T.ok rfl rfl rfl ?_); refine WL_nil ?_; (with_reducible refine T_then ?_); refine W_seq ?_; refine W_seq ?_; refine W_region ?_; refine P1 T.ok rfl rfl rfl ?_; refine WL_o rfl rfl (OpR_loadE T.ok 2 rfl ep0 rfl rfl ?_); refine P1 T.ok rfl rfl rfl ?_
  refine WL_o rfl rfl (OpR_idx T.ok rfl rs1 (y := stepD f p) (step_geti h1) rfl rfl rfl rfl rfl rfl ?_)
  rintro b q ys hep ⟨b1, b2, b3, b4, b5, b6, rfl, _, rs4⟩
  obtain ⟨_, _, e⟩ := rs4.isSlice; obtain ⟨rfl, rfl, rfl⟩ := Value.slice.inj e; clear e
  refine WL_o rfl rfl (OpR_pure _ T.ok rfl ?_)
  refine WL_o rfl rfl (OpR_loadE T.ok 4 rfl hep rfl rfl ?_)
  refine P1 T.ok rfl rfl rfl ?_; refine P1 T.ok rfl rfl rfl ?_; refine WL_nil ?_; (with_reducible refine T_then ?_)
  cases he : isEnd (stepD f p) with
  | true =>
    refine W_yes (b := (((stepD f p).next.length : Nat) : Int) == 0) he rfl ?_
    have hfin := finish_end hval h1 he
    rw [hfin]
    refine W_seq ?_; refine W_region ?_; (iterate 9 refine P1 T.ok rfl rfl rfl ?_); refine WL_nil ?_; (with_reducible refine T_then ?_)
    exact W_ret (ret1 rfl rfl (hs.ret rfl))
  | false =>
    refine W_no (b := (((stepD f p).next.length : Nat) : Int) == 0) he rfl ?_
    have hlaw := law_finish hval h1 he
    have hlaw2 := law_ends hval h1 he
    clear rs4 hep
    refine W_skip ?_; (with_reducible refine T_then ?_); refine W_seq ?_; refine W_region ?_; refine P1 T.ok rfl rfl rfl ?_; refine WL_nil ?_; (with_reducible refine T_then ?_); refine W_seq ?_; refine W_region ?_; refine P1 T.ok rfl rfl rfl ?_; refine WL_nil ?_; (with_reducible refine T_then ?_); refine W_seq ?_; refine W_region ?_; refine WL_o rfl rfl (OpR_loadE T.ok 0 rfl ep0 rfl rfl ?_); refine P1 T.ok rfl rfl rfl ?_
    refine WL_o rfl rfl (OpR_ret cl27 allF rfl rfl rfl rfl rfl (follow_c _ f p _ fl0) ?_); rintro g1 vo hf1 hvo; obtain ⟨gz, hwz, hsz, hqz, rs3⟩ := hs.ownRs hf1 hvo; have hqe := hf1.le.trans hqz; rw [← hwz]; replace hs := hsz; clear hsz hvo; replace le0 := G.le.trans le0 hqe; replace ep0 := ep0.mono hqe; replace rs0 := rs0.mono hqe; replace rs1 := rs1.mono hqe; replace rs2 := rs2.mono hqe; replace fl0 := fl0.mono hqe
    obtain ⟨al, cl, rfl⟩ := rs3.isSlice
    have hlr : ∀ n ∈ follow f p, InR f n := fun n hn => by rw [follow_eq hval h1] at hn; exact after_range hval h1.1 h1.2 n hn
    have hll := rs3.len_le
    unfold maxLen at hll
    generalize hle : follow f p = l at *
    refine P1 T.ok rfl rfl rfl ?_; refine WL_nil ?_; (with_reducible refine T_then ?_); refine W_seq ?_; refine W_seq ?_; refine W_region ?_; refine P1 T.ok rfl rfl rfl ?_; refine WL_nil ?_; (with_reducible refine T_then ?_); refine W_block ?_
    have fl0c := fl0; have ep0c := ep0; have rs1c := rs1; have rs3c := rs3; have le8 := G.le.refl gz
    refine W_loop (fun m a' w => ∃ (i : Nat) (g2 : G), w = g2.w ∧ St g g2 [] ∧ G.le gz g2 ∧ i ≤ l.length ∧ m = l.length - i ∧
        Fr 162 [] [(1, .int .i64 p), (5, .bool true), (6, .pointer (some ⟨bf, 0, none⟩)), (7, .int .i64 (finish f p).1), (8, .bool (finish f p).2), (9, .int .i64 (bestFins f (l.take i)).1), (10, .bool (bestFins f (l.take i)).2), (11, .slice al l.length cl), (12, .int .i64 i)] a') l.length
      (fun a' ha => ⟨0, gz, rfl, hs, le8, Nat.zero_le _, rfl, ha.keep (by (repeat (first | exact trivial | refine ⟨rfl, ?_⟩)))⟩) ?_
    clear hs le8 fl0 ep0 rs1 rs3 rs0 rs2 le0
    rintro m a' _ ⟨i, g2, rfl, hs, le8, hk, rfl, ha'⟩
    have fl0 := fl0c.mono le8; have ep0 := ep0c.mono le8; have rs1 := rs1c.mono le8; have rs3 := rs3c.mono le8
    revert a'
    (with_reducible refine T_wp ?_); refine W_seq ?_; refine W_seq ?_; refine W_region ?_; (iterate 4 refine P1 T.ok rfl rfl rfl ?_); refine WL_nil ?_; (with_reducible refine T_then ?_)
    by_cases hlt : i < l.length
    · refine W_yes (b := decide ((i : Int) < (l.length : Int))) (decide_eq_true (by omega)) rfl ?_
      have hsn := bestFins_snoc f (l.take i) l[i]
      rw [← List.take_succ_eq_append_getElem hlt] at hsn
      have hgi := geti_of (xs := l) (n := (i : Int)) rfl hlt
      have hnr := hlr _ (List.getElem_mem hlt)
      generalize l[i] = n at *
      have hn0 := hnr.1; have hn1 := hnr.2
      have hfb := finish_bound hval hnr
      have hmn := valid_min hval hnr
      refine W_skip ?_; (with_reducible refine T_then ?_); refine W_seq ?_; refine W_block ?_; refine W_seq ?_; refine W_seq ?_
      apply W_draw allF rfl (Fact.eq _ :: Fact.eq _ :: (intPtr n) :: Fact.eq _ :: Fact.eq _ :: Fact.eq _ :: Fact.eq _ :: Fact.eq _ :: (intPtr n) :: Fact.eq _ :: Fact.eq _ :: Fact.eq _ :: Fact.eq _ :: Fact.eq _ :: Fact.eq _ :: []) 15 [(14, 71)] rfl rfl
      · refine D_cons (D_step2 (js := []) (by kernel_rfl) fun gd hf => ?_) ?_
        · have hsd := hs.dr.call hf; have hfe := (G.le_dr _).trans hf.le
          refine QA_nil ?_
          (refine D_yes rfl ?_; refine OpR_pure _ T.ok rfl ?_; refine ⟨_, rfl, Fr0.refl _, ?_⟩; exact rfl)
        refine D_cons (D_step2 (js := []) (by kernel_rfl) fun gd hf => ?_) ?_
        · have hsd := hs.dr.call hf; have hfe := (G.le_dr _).trans hf.le
          refine QA_nil ?_
          (refine D_yes rfl ?_; refine OpR_pure _ T.ok rfl ?_; refine ⟨_, rfl, Fr0.refl _, ?_⟩; exact rfl)
        refine D_cons (D_step2 (js := [(0, 57), (1, 58)]) (by kernel_rfl) fun gd hf => ?_) ?_
        · have hsd := hs.dr.call hf; have hfe := (G.le_dr _).trans hf.le
          refine QA_eq rfl ?_; refine QA_eq rfl ?_
          refine QA_nil ?_
          refine D_yes rfl ?_
          refine OpR_idx T.ok rfl (rs3.mono hfe) (y := n) hgi rfl rfl rfl rfl rfl rfl ?_
          intro b p ys hep hrc
          exact ⟨_, rfl, Fr0.refl _, b, p, rfl, by rw [← show ys = [Value.int .i64 n] from hrc]; exact hep⟩
        refine D_cons (D_step2 (js := [(2, 59)]) (by kernel_rfl) fun gd hf => ?_) ?_
        · have hsd := hs.dr.call hf; have hfe := (G.le_dr _).trans hf.le
          refine QA_any fun v2 h2 => ?_
          refine QA_nil ?_
          obtain ⟨b, p, rfl, hep⟩ := h2
          refine D_yes rfl ?_
          refine OpR_loadE T.ok 0 rfl hep rfl rfl ?_
          refine ⟨_, rfl, Fr0.refl _, ?_⟩
          exact rfl
        refine D_cons (D_step2 (js := [(3, 60)]) (by kernel_rfl) fun gd hf => ?_) ?_
        · have hsd := hs.dr.call hf; have hfe := (G.le_dr _).trans hf.le
          refine QA_eq rfl ?_
          refine QA_nil ?_
          refine D_yes rfl ?_
          refine OpR_pure _ T.ok rfl ?_
          refine ⟨_, rfl, Fr0.refl _, ?_⟩
          exact congrArg Value.bool (decide_eq_false (by omega))
        refine D_cons (D_step2 (js := [(4, 61)]) (by kernel_rfl) fun gd hf => ?_) ?_
        · have hsd := hs.dr.call hf; have hfe := (G.le_dr _).trans hf.le
          refine QA_eq rfl ?_
          refine QA_nil ?_
          (refine D_yes rfl ?_; refine OpR_pure _ T.ok rfl ?_; refine ⟨_, rfl, Fr0.refl _, ?_⟩; exact rfl)
        refine D_cons (D_step2 (js := [(5, 62)]) (by kernel_rfl) fun gd hf => ?_) ?_
        · have hsd := hs.dr.call hf; have hfe := (G.le_dr _).trans hf.le
          refine QA_eq rfl ?_
          refine QA_nil ?_
          (refine D_yes rfl ?_; refine OpR_pure _ T.ok rfl ?_; refine ⟨_, rfl, Fr0.refl _, ?_⟩; exact rfl)
        refine D_cons (D_step2 (js := [(5, 62)]) (by kernel_rfl) fun gd hf => ?_) ?_
        · have hsd := hs.dr.call hf; have hfe := (G.le_dr _).trans hf.le
          refine QA_eq rfl ?_
          refine QA_nil ?_
          (refine D_yes rfl ?_; refine OpR_pure _ T.ok rfl ?_; refine ⟨_, rfl, Fr0.refl _, ?_⟩; exact rfl)
        refine D_cons (D_step2 (js := [(6, 63), (7, 64), (5, 62)]) (by kernel_rfl) fun gd hf => ?_) ?_
        · have hsd := hs.dr.call hf; have hfe := (G.le_dr _).trans hf.le
          refine QA_eq rfl ?_; refine QA_eq rfl ?_; refine QA_eq rfl ?_
          refine QA_nil ?_
          refine D_yes rfl ?_
          refine OpR_idx T.ok rfl (rs3.mono hfe) (y := n) hgi rfl rfl rfl rfl rfl rfl ?_
          intro b p ys hep hrc
          exact ⟨_, rfl, Fr0.refl _, b, p, rfl, by rw [← show ys = [Value.int .i64 n] from hrc]; exact hep⟩
        refine D_cons (D_step2 (js := [(8, 65), (5, 62)]) (by kernel_rfl) fun gd hf => ?_) ?_
        · have hsd := hs.dr.call hf; have hfe := (G.le_dr _).trans hf.le
          refine QA_any fun v8 h8 => ?_; refine QA_eq rfl ?_
          refine QA_nil ?_
          obtain ⟨b, p, rfl, hep⟩ := h8
          refine D_yes rfl ?_
          refine OpR_loadE T.ok 0 rfl hep rfl rfl ?_
          refine ⟨_, rfl, Fr0.refl _, ?_⟩
          exact rfl
        refine D_cons (D_step2 (js := [(5, 62)]) (by kernel_rfl) fun gd hf => ?_) ?_
        · have hsd := hs.dr.call hf; have hfe := (G.le_dr _).trans hf.le
          refine QA_eq rfl ?_
          refine QA_nil ?_
          (refine D_yes rfl ?_; refine OpR_pure _ T.ok rfl ?_; refine ⟨_, rfl, Fr0.refl _, ?_⟩; exact rfl)
        refine D_cons (D_step2 (js := [(10, 67), (5, 62)]) (by kernel_rfl) fun gd hf => ?_) ?_
        · have hsd := hs.dr.call hf; have hfe := (G.le_dr _).trans hf.le
          refine QA_eq rfl ?_; refine QA_eq rfl ?_
          refine QA_nil ?_
          (refine D_yes rfl ?_; refine OpR_loadE T.ok 2 rfl (ep0.mono hfe) rfl rfl ?_; refine ⟨_, rfl, Fr0.refl _, ?_⟩; exact rfl)
        refine D_cons (D_step2 (js := [(11, 68), (5, 62)]) (by kernel_rfl) fun gd hf => ?_) ?_
        · have hsd := hs.dr.call hf; have hfe := (G.le_dr _).trans hf.le
          refine QA_eq rfl ?_; refine QA_eq rfl ?_
          refine QA_nil ?_
          (refine D_yes rfl ?_; refine OpR_pure _ T.ok rfl ?_; refine ⟨_, rfl, Fr0.refl _, ?_⟩; exact rfl)
        refine D_cons (D_step2 (js := [(9, 66), (12, 69), (5, 62)]) (by kernel_rfl) fun gd hf => ?_) ?_
        · have hsd := hs.dr.call hf; have hfe := (G.le_dr _).trans hf.le
          refine QA_eq rfl ?_; refine QA_eq rfl ?_; refine QA_eq rfl ?_
          refine QA_nil ?_
          refine D_yes rfl ?_
          refine OpR_pure _ T.ok rfl ?_
          refine ⟨_, rfl, Fr0.refl _, ?_⟩
          exact congrArg Value.bool (decide_eq_false (by omega))
        refine D_cons (D_step2 (js := [(5, 62), (13, 70)]) (by kernel_rfl) fun gd hf => ?_) ?_
        · have hsd := hs.dr.call hf; have hfe := (G.le_dr _).trans hf.le
          refine QA_eq rfl ?_; refine QA_eq rfl ?_
          refine QA_nil ?_
          (refine D_yes rfl ?_; refine OpR_pure _ T.ok rfl ?_; refine ⟨_, rfl, Fr0.refl _, ?_⟩; exact rfl)
        exact D_nil
      intro g1 hf1; refine QA_eq rfl ?_; refine QA_nil ?_
      replace hs := hs.dr.call hf1; have hqe := (G.le_dr _).trans hf1.le; replace le8 := G.le.trans le8 hqe; replace ep0 := ep0.mono hqe; replace rs1 := rs1.mono hqe; replace rs3 := rs3.mono hqe; replace fl0 := fl0.mono hqe
      refine WL_nil ?_; (with_reducible refine T_then ?_)
      refine W_no rfl rfl ?_
      refine W_skip ?_; (with_reducible refine T_then ?_); refine W_seq ?_
      apply W_draw allF rfl (Fact.eq _ :: Fact.eq _ :: Fact.eq _ :: (intPtr n) :: Fact.eq _ :: Fact.eq _ :: Fact.eq _ :: Fact.eq _ :: Fact.eq _ :: Fact.eq _ :: Fact.eq _ :: []) 11 [(9, 13), (10, 14)] rfl rfl
      · refine D_cons (D_step2 (js := []) (by kernel_rfl) fun gd hf => ?_) ?_
        · have hsd := hs.dr.call hf; have hfe := (G.le_dr _).trans hf.le
          refine QA_nil ?_
          (refine D_yes rfl ?_; refine OpR_loadE T.ok 0 rfl (ep0.mono hfe) rfl rfl ?_; refine ⟨_, rfl, Fr0.refl _, ?_⟩; exact rfl)
        refine D_cons (D_step2 (js := []) (by kernel_rfl) fun gd hf => ?_) ?_
        · have hsd := hs.dr.call hf; have hfe := (G.le_dr _).trans hf.le
          refine QA_nil ?_
          (refine D_yes rfl ?_; refine OpR_pure _ T.ok rfl ?_; refine ⟨_, rfl, Fr0.refl _, ?_⟩; exact rfl)
        refine D_cons (D_step2 (js := []) (by kernel_rfl) fun gd hf => ?_) ?_
        · have hsd := hs.dr.call hf; have hfe := (G.le_dr _).trans hf.le
          refine QA_nil ?_
          (refine D_yes rfl ?_; refine OpR_pure _ T.ok rfl ?_; refine ⟨_, rfl, Fr0.refl _, ?_⟩; exact rfl)
        refine D_cons (D_step2 (js := [(1, 74), (2, 75)]) (by kernel_rfl) fun gd hf => ?_) ?_
        · have hsd := hs.dr.call hf; have hfe := (G.le_dr _).trans hf.le
          refine QA_eq rfl ?_; refine QA_eq rfl ?_
          refine QA_nil ?_
          refine D_yes rfl ?_
          refine OpR_idx T.ok rfl (rs3.mono hfe) (y := n) hgi rfl rfl rfl rfl rfl rfl ?_
          intro b p ys hep hrc
          exact ⟨_, rfl, Fr0.refl _, b, p, rfl, by rw [← show ys = [Value.int .i64 n] from hrc]; exact hep⟩
        refine D_cons (D_step2 (js := [(3, 76)]) (by kernel_rfl) fun gd hf => ?_) ?_
        · have hsd := hs.dr.call hf; have hfe := (G.le_dr _).trans hf.le
          refine QA_any fun v3 h3 => ?_
          refine QA_nil ?_
          obtain ⟨b, p, rfl, hep⟩ := h3
          refine D_yes rfl ?_
          refine OpR_loadE T.ok 0 rfl hep rfl rfl ?_
          refine ⟨_, rfl, Fr0.refl _, ?_⟩
          exact rfl
        refine D_cons (D_step2 (js := [(0, 73), (4, 77)]) (by kernel_rfl) fun gd hf => ?_) ?_
        · have hsd := hs.dr.call hf; have hfe := (G.le_dr _).trans hf.le
          refine QA_eq rfl ?_; refine QA_eq rfl ?_
          refine QA_nil ?_
          refine D_yes rfl ?_
          refine OpR_ret cl25 allF rfl rfl rfl rfl rfl (finish_c _ f n _ (fl0.mono hfe)) fun g' v h1 h2 => ⟨g', rfl, h1, ?_⟩
          exact h2
        refine D_cons (D_step2 (js := [(5, 78)]) (by kernel_rfl) fun gd hf => ?_) ?_
        · have hsd := hs.dr.call hf; have hfe := (G.le_dr _).trans hf.le
          refine QA_eq rfl ?_
          refine QA_nil ?_
          (refine D_yes rfl ?_; refine OpR_pure _ T.ok rfl ?_; refine ⟨_, rfl, Fr0.refl _, ?_⟩; exact rfl)
        refine D_cons (D_step2 (js := [(6, 72)]) (by kernel_rfl) fun gd hf => ?_) ?_
        · have hsd := hs.dr.call hf; have hfe := (G.le_dr _).trans hf.le
          refine QA_eq rfl ?_
          refine QA_nil ?_
          (refine D_yes rfl ?_; refine OpR_pure _ T.ok rfl ?_; refine ⟨_, rfl, Fr0.refl _, ?_⟩; exact rfl)
        refine D_cons (D_step2 (js := [(6, 72)]) (by kernel_rfl) fun gd hf => ?_) ?_
        · have hsd := hs.dr.call hf; have hfe := (G.le_dr _).trans hf.le
          refine QA_eq rfl ?_
          refine QA_nil ?_
          (refine D_yes rfl ?_; refine OpR_pure _ T.ok rfl ?_; refine ⟨_, rfl, Fr0.refl _, ?_⟩; exact rfl)
        refine D_cons (D_step2 (js := [(7, 79), (7, 79)]) (by kernel_rfl) fun gd hf => ?_) ?_
        · have hsd := hs.dr.call hf; have hfe := (G.le_dr _).trans hf.le
          refine QA_eq rfl ?_; refine QA_eq rfl ?_
          refine QA_nil ?_
          (refine D_yes rfl ?_; refine OpR_pure _ T.ok rfl ?_; refine ⟨_, rfl, Fr0.refl _, ?_⟩; exact rfl)
        refine D_cons (D_step2 (js := [(8, 80), (8, 80)]) (by kernel_rfl) fun gd hf => ?_) ?_
        · have hsd := hs.dr.call hf; have hfe := (G.le_dr _).trans hf.le
          refine QA_eq rfl ?_; refine QA_eq rfl ?_
          refine QA_nil ?_
          (refine D_yes rfl ?_; refine OpR_pure _ T.ok rfl ?_; refine ⟨_, rfl, Fr0.refl _, ?_⟩; exact rfl)
        exact D_nil
      intro g1 hf1; refine QA_eq rfl ?_; refine QA_eq rfl ?_; refine QA_nil ?_
      replace hs := hs.dr.call hf1; have hqe := (G.le_dr _).trans hf1.le; replace le8 := G.le.trans le8 hqe; replace ep0 := ep0.mono hqe; replace rs1 := rs1.mono hqe; replace rs3 := rs3.mono hqe; replace fl0 := fl0.mono hqe
      refine WL_nil ?_; (with_reducible refine T_then ?_); refine W_seq ?_
      apply W_draw allF rfl (Fact.eq _ :: Fact.eq _ :: Fact.eq _ :: Fact.eq _ :: Fact.eq _ :: Fact.eq _ :: Fact.eq _ :: Fact.eq _ :: (intPtr n) :: Fact.eq _ :: (stepPtr 0 (stepD f n)) :: (stepPtr 2 (stepD f n)) :: Fact.eq _ :: Fact.eq _ :: []) 14 [(13, 94)] rfl rfl
      · refine D_cons (D_step2 (js := []) (by kernel_rfl) fun gd hf => ?_) ?_
        · have hsd := hs.dr.call hf; have hfe := (G.le_dr _).trans hf.le
          refine QA_nil ?_
          (refine D_yes rfl ?_; refine OpR_pure _ T.ok rfl ?_; refine ⟨_, rfl, Fr0.refl _, ?_⟩; exact rfl)
        refine D_cons (D_step2 (js := []) (by kernel_rfl) fun gd hf => ?_) ?_
        · have hsd := hs.dr.call hf; have hfe := (G.le_dr _).trans hf.le
          refine QA_nil ?_
          (refine D_yes rfl ?_; refine OpR_pure _ T.ok rfl ?_; refine ⟨_, rfl, Fr0.refl _, ?_⟩; exact rfl)
        refine D_cons (D_step2 (js := [(1, 82)]) (by kernel_rfl) fun gd hf => ?_) ?_
        · have hsd := hs.dr.call hf; have hfe := (G.le_dr _).trans hf.le
          refine QA_eq rfl ?_
          refine QA_nil ?_
          (refine D_yes rfl ?_; refine OpR_loadE T.ok 0 rfl (ep0.mono hfe) rfl rfl ?_; refine ⟨_, rfl, Fr0.refl _, ?_⟩; exact rfl)
        refine D_cons (D_step2 (js := [(0, 81), (2, 83)]) (by kernel_rfl) fun gd hf => ?_) ?_
        · have hsd := hs.dr.call hf; have hfe := (G.le_dr _).trans hf.le
          refine QA_eq rfl ?_; refine QA_eq rfl ?_
          refine QA_nil ?_
          refine D_yes rfl ?_
          refine OpR_pure _ T.ok rfl ?_
          refine ⟨_, rfl, Fr0.refl _, ?_⟩
          exact congrArg (Value.int .i64) (show _ = (finish f n).1 + f.moveMin from wr (by omega) (by omega))
        refine D_cons (D_step2 (js := []) (by kernel_rfl) fun gd hf => ?_) ?_
        · have hsd := hs.dr.call hf; have hfe := (G.le_dr _).trans hf.le
          refine QA_nil ?_
          (refine D_yes rfl ?_; refine OpR_pure _ T.ok rfl ?_; refine ⟨_, rfl, Fr0.refl _, ?_⟩; exact rfl)
        refine D_cons (D_step2 (js := [(4, 85)]) (by kernel_rfl) fun gd hf => ?_) ?_
        · have hsd := hs.dr.call hf; have hfe := (G.le_dr _).trans hf.le
          refine QA_eq rfl ?_
          refine QA_nil ?_
          (refine D_yes rfl ?_; refine OpR_loadE T.ok 2 rfl (ep0.mono hfe) rfl rfl ?_; refine ⟨_, rfl, Fr0.refl _, ?_⟩; exact rfl)
        refine D_cons (D_step2 (js := []) (by kernel_rfl) fun gd hf => ?_) ?_
        · have hsd := hs.dr.call hf; have hfe := (G.le_dr _).trans hf.le
          refine QA_nil ?_
          (refine D_yes rfl ?_; refine OpR_pure _ T.ok rfl ?_; refine ⟨_, rfl, Fr0.refl _, ?_⟩; exact rfl)
        refine D_cons (D_step2 (js := []) (by kernel_rfl) fun gd hf => ?_) ?_
        · have hsd := hs.dr.call hf; have hfe := (G.le_dr _).trans hf.le
          refine QA_nil ?_
          (refine D_yes rfl ?_; refine OpR_pure _ T.ok rfl ?_; refine ⟨_, rfl, Fr0.refl _, ?_⟩; exact rfl)
        refine D_cons (D_step2 (js := [(6, 87), (7, 88)]) (by kernel_rfl) fun gd hf => ?_) ?_
        · have hsd := hs.dr.call hf; have hfe := (G.le_dr _).trans hf.le
          refine QA_eq rfl ?_; refine QA_eq rfl ?_
          refine QA_nil ?_
          refine D_yes rfl ?_
          refine OpR_idx T.ok rfl (rs3.mono hfe) (y := n) hgi rfl rfl rfl rfl rfl rfl ?_
          intro b p ys hep hrc
          exact ⟨_, rfl, Fr0.refl _, b, p, rfl, by rw [← show ys = [Value.int .i64 n] from hrc]; exact hep⟩
        refine D_cons (D_step2 (js := [(8, 89)]) (by kernel_rfl) fun gd hf => ?_) ?_
        · have hsd := hs.dr.call hf; have hfe := (G.le_dr _).trans hf.le
          refine QA_any fun v8 h8 => ?_
          refine QA_nil ?_
          obtain ⟨b, p, rfl, hep⟩ := h8
          refine D_yes rfl ?_
          refine OpR_loadE T.ok 0 rfl hep rfl rfl ?_
          refine ⟨_, rfl, Fr0.refl _, ?_⟩
          exact rfl
        refine D_cons (D_step2 (js := [(5, 86), (9, 90)]) (by kernel_rfl) fun gd hf => ?_) ?_
        · have hsd := hs.dr.call hf; have hfe := (G.le_dr _).trans hf.le
          refine QA_eq rfl ?_; refine QA_eq rfl ?_
          refine QA_nil ?_
          refine D_yes rfl ?_
          refine OpR_idx T.ok rfl (rs1.mono hfe) (y := stepD f n) (step_geti hnr) rfl rfl rfl rfl rfl rfl ?_
          intro b p ys hep hrc
          exact ⟨_, rfl, Fr0.refl _, b, p, ys, rfl, hep, hrc⟩
        refine D_cons (D_step2 (js := [(10, 91)]) (by kernel_rfl) fun gd hf => ?_) ?_
        · have hsd := hs.dr.call hf; have hfe := (G.le_dr _).trans hf.le
          refine QA_any fun v10 h10 => ?_
          refine QA_nil ?_
          obtain ⟨b, p, ys, rfl, hep, hrc⟩ := h10
          refine D_yes rfl ?_
          refine OpR_pure _ T.ok rfl ?_
          exact ⟨_, rfl, Fr0.refl _, b, p, ys, rfl, hep, hrc⟩
        refine D_cons (D_step2 (js := [(11, 92)]) (by kernel_rfl) fun gd hf => ?_) ?_
        · have hsd := hs.dr.call hf; have hfe := (G.le_dr _).trans hf.le
          refine QA_any fun v11 h11 => ?_
          refine QA_nil ?_
          obtain ⟨b, p, ys, rfl, hep, hrc⟩ := h11
          obtain ⟨b1, b2, b3, b4, b5, b6, rfl, hx1, hx2⟩ := hrc
          refine D_yes rfl ?_
          refine OpR_loadE T.ok 2 rfl hep rfl rfl ?_
          refine ⟨_, rfl, Fr0.refl _, ?_⟩
          exact rfl
        refine D_cons (D_step2 (js := [(3, 84), (12, 93)]) (by kernel_rfl) fun gd hf => ?_) ?_
        · have hsd := hs.dr.call hf; have hfe := (G.le_dr _).trans hf.le
          refine QA_eq rfl ?_; refine QA_eq rfl ?_
          refine QA_nil ?_
          refine D_yes rfl ?_
          refine OpR_pure _ T.ok rfl ?_
          refine ⟨_, rfl, Fr0.refl _, ?_⟩
          exact congrArg (Value.int .i64) (show _ = fsum f n from by unfold fsum; exact wr (by omega) (by omega))
        exact D_nil
      intro g1 hf1; refine QA_eq rfl ?_; refine QA_nil ?_
      replace hs := hs.dr.call hf1; have hqe := (G.le_dr _).trans hf1.le; replace le8 := G.le.trans le8 hqe; replace ep0 := ep0.mono hqe; replace rs1 := rs1.mono hqe; replace rs3 := rs3.mono hqe; replace fl0 := fl0.mono hqe
      refine P1 T.ok rfl rfl rfl ?_; refine WL_nil ?_; (with_reducible refine T_then ?_); refine W_seq ?_; refine W_region ?_; refine P1 T.ok rfl rfl rfl ?_; refine P1 T.ok rfl rfl rfl ?_
      unfold bestFin at hsn
      generalize hacc : bestFins f (l.take i) = acc at *
      obtain ⟨bst, fnd⟩ := acc
      simp only at hsn
      cases hal : (finish f n).2 with
      | false =>
        rw [hal, if_neg (by simp)] at hsn
        (iterate 7 refine S1 allF rfl rfl ?_); refine P1 T.ok rfl rfl rfl ?_; refine WL_nil ?_; (with_reducible refine T_then ?_)
        refine W_no rfl rfl ?_
        refine W_skip ?_; (with_reducible refine T_bn ?_); (with_reducible refine T_then ?_); refine W_region ?_; (iterate 3 refine P1 T.ok rfl rfl rfl ?_); refine WL_nil ?_
        exact fun a ha => ⟨l.length - (i + 1), by omega, i + 1, _, rfl, hs, le8, by omega, rfl, ha.keep ⟨rfl, rfl, rfl, rfl, rfl, by rw [hsn]; rfl, by rw [hsn]; rfl, rfl, kI rfl (by rw [wr (by omega) (by omega)]; omega), trivial⟩⟩
      | true =>
        cases fnd with
        | false =>
          rw [if_pos ⟨hal, .inl rfl⟩] at hsn
          (iterate 3 refine P1 T.ok rfl rfl rfl ?_); (iterate 3 refine S1 allF rfl rfl ?_); refine P1 T.ok rfl rfl rfl ?_; refine P1 T.ok rfl rfl rfl ?_; refine WL_nil ?_; (with_reducible refine T_then ?_)
          refine W_yes rfl rfl ?_
          refine W_seq ?_; refine W_region ?_; refine P1 T.ok rfl rfl rfl ?_; refine P1 T.ok rfl rfl rfl ?_; refine WL_nil ?_; (with_reducible refine T_then ?_); refine W_region ?_; refine P1 T.ok rfl rfl rfl ?_; refine WL_nil ?_; (with_reducible refine T_bn ?_); (with_reducible refine T_then ?_); refine W_region ?_; (iterate 3 refine P1 T.ok rfl rfl rfl ?_); refine WL_nil ?_
          exact fun a ha => ⟨l.length - (i + 1), by omega, i + 1, _, rfl, hs, le8, by omega, rfl, ha.keep ⟨rfl, rfl, rfl, rfl, rfl, by rw [hsn]; rfl, by rw [hsn]; rfl, rfl, kI rfl (by rw [wr (by omega) (by omega)]; omega), trivial⟩⟩
        | true =>
          (iterate 8 refine P1 T.ok rfl rfl rfl ?_); refine WL_nil ?_; (with_reducible refine T_then ?_)
          by_cases hc : fsum f n < bst
          · rw [if_pos ⟨hal, .inr hc⟩] at hsn
            refine W_yes (b := decide (fsum f n < bst)) (decide_eq_true hc) rfl ?_
            refine W_seq ?_; refine W_region ?_; refine P1 T.ok rfl rfl rfl ?_; refine P1 T.ok rfl rfl rfl ?_; refine WL_nil ?_; (with_reducible refine T_then ?_); refine W_region ?_; refine P1 T.ok rfl rfl rfl ?_; refine WL_nil ?_; (with_reducible refine T_bn ?_); (with_reducible refine T_then ?_); refine W_region ?_; (iterate 3 refine P1 T.ok rfl rfl rfl ?_); refine WL_nil ?_
            exact fun a ha => ⟨l.length - (i + 1), by omega, i + 1, _, rfl, hs, le8, by omega, rfl, ha.keep ⟨rfl, rfl, rfl, rfl, rfl, by rw [hsn]; rfl, by rw [hsn]; rfl, rfl, kI rfl (by rw [wr (by omega) (by omega)]; omega), trivial⟩⟩
          · rw [if_neg (fun h => h.2.elim (fun h => by cases h) hc)] at hsn
            refine W_no (b := decide (fsum f n < bst)) (decide_eq_false hc) rfl ?_
            refine W_skip ?_; (with_reducible refine T_bn ?_); (with_reducible refine T_then ?_); refine W_region ?_; (iterate 3 refine P1 T.ok rfl rfl rfl ?_); refine WL_nil ?_
            exact fun a ha => ⟨l.length - (i + 1), by omega, i + 1, _, rfl, hs, le8, by omega, rfl, ha.keep ⟨rfl, rfl, rfl, rfl, rfl, by rw [hsn]; rfl, by rw [hsn]; rfl, rfl, kI rfl (by rw [wr (by omega) (by omega)]; omega), trivial⟩⟩
    · refine W_no (b := decide ((i : Int) < (l.length : Int))) (decide_eq_false (by omega)) rfl ?_
      rw [List.take_of_length_le (by omega), hlaw]
      refine W_exit ?_; (with_reducible refine T_tx ?_; with_reducible refine T_tx ?_); (with_reducible refine T_bx ?_); (with_reducible refine T_then ?_); refine W_seq ?_; refine W_region ?_; refine P1 T.ok rfl rfl rfl ?_; refine WL_nil ?_; (with_reducible refine T_then ?_); refine W_seq ?_; refine W_region ?_; refine WL_o rfl rfl (OpR_loadE T.ok 0 rfl ep0 rfl rfl ?_); refine P1 T.ok rfl rfl rfl ?_
      refine WL_o rfl rfl (OpR_ret cl29 allF rfl rfl rfl rfl rfl (reach_c _ f p _ fl0) ?_); rintro g1 vo hf1 hvo; obtain ⟨gz, hwz, hsz, hqz, rs4⟩ := hs.ownRs hf1 hvo; have hqe := hf1.le.trans hqz; rw [← hwz]; replace hs := hsz; clear hsz hvo; replace le8 := G.le.trans le8 hqe; replace ep0 := ep0.mono hqe; replace rs1 := rs1.mono hqe; replace rs3 := rs3.mono hqe; replace fl0 := fl0.mono hqe
      obtain ⟨ar, cr, rfl⟩ := rs4.isSlice
      have hrr : ∀ n ∈ reach f p, InR f n := fun n hn => reach_range hn
      have hrl := reach_len f p
      generalize hre : reach f p = r at *
      refine P1 T.ok rfl rfl rfl ?_; refine WL_nil ?_; (with_reducible refine T_then ?_); refine W_seq ?_; refine W_seq ?_; refine W_region ?_; refine P1 T.ok rfl rfl rfl ?_; refine WL_nil ?_; (with_reducible refine T_then ?_); refine W_block ?_
      have ep0d := ep0; have rs1d := rs1; have rs4d := rs4; have le9 := G.le.refl gz
      refine W_loop (fun m a' w => ∃ (j : Nat) (g2 : G), w = g2.w ∧ St g g2 [] ∧ G.le gz g2 ∧ j ≤ r.length ∧ m = r.length - j ∧
          Fr 162 [] [(5, .bool true), (6, .pointer (some ⟨bf, 0, none⟩)), (7, .int .i64 (finish f p).1), (8, .bool (finish f p).2), (9, .int .i64 (finish f p).1), (10, .bool (finish f p).2), (15, .bool ((r.take j).any fun m => isEnd (stepD f m))), (16, .slice ar r.length cr), (17, .int .i64 j)] a') r.length
        (fun a' ha => ⟨0, gz, rfl, hs, le9, Nat.zero_le _, rfl, ha.keep (by (repeat (first | exact trivial | refine ⟨rfl, ?_⟩)))⟩) ?_
      clear hs le9 fl0 ep0 rs1 rs3 rs4 le8
      rintro m a' _ ⟨j, g3, rfl, hs, le9, hj, rfl, ha'⟩
      have ep0 := ep0d.mono le9; have rs1 := rs1d.mono le9; have rs4 := rs4d.mono le9
      revert a'
      (with_reducible refine T_wp ?_); refine W_seq ?_; refine W_seq ?_; refine W_region ?_; (iterate 4 refine P1 T.ok rfl rfl rfl ?_); refine WL_nil ?_; (with_reducible refine T_then ?_)
      by_cases hlj : j < r.length
      · refine W_yes (b := decide ((j : Int) < (r.length : Int))) (decide_eq_true (by omega)) rfl ?_
        have hgi := geti_of (xs := r) (n := (j : Int)) rfl hlj
        have hnr := hrr _ (List.getElem_mem hlj)
        have hsn : (r.take (j + 1)).any (fun m => isEnd (stepD f m)) = ((r.take j).any (fun m => isEnd (stepD f m)) || isEnd (stepD f r[j])) := by
          rw [List.take_succ_eq_append_getElem hlj, List.any_append]; simp
        generalize r[j] = n at *
        have hn0 := hnr.1; have hn1 := hnr.2
        generalize (r.take j).any (fun m => isEnd (stepD f m)) = acc at *
        refine W_skip ?_; (with_reducible refine T_then ?_); refine W_seq ?_; refine W_block ?_
        cases acc with
        | true =>
          apply W_draw allF rfl (Fact.eq _ :: Fact.eq _ :: Fact.eq _ :: Fact.eq _ :: Fact.eq _ :: Fact.eq _ :: Fact.eq _ :: Fact.eq _ :: Fact.eq _ :: Fact.eq _ :: Fact.eq _ :: Fact.eq _ :: Fact.eq _ :: Fact.eq _ :: Fact.eq _ :: Fact.eq _ :: Fact.eq _ :: Fact.eq _ :: Fact.eq _ :: Fact.eq _ :: Fact.eq _ :: Fact.eq _ :: Fact.eq _ :: Fact.eq _ :: Fact.eq _ :: Fact.eq _ :: Fact.eq _ :: Fact.eq _ :: Fact.eq _ :: Fact.eq _ :: Fact.eq _ :: []) 31 [(30, 145)] rfl rfl
          · refine D_cons (D_step2 (js := []) (by kernel_rfl) fun gd hf => ?_) ?_
            · have hsd := hs.dr.call hf; have hfe := (G.le_dr _).trans hf.le
              refine QA_nil ?_
              (refine D_yes rfl ?_; refine OpR_pure _ T.ok rfl ?_; refine ⟨_, rfl, Fr0.refl _, ?_⟩; exact rfl)
            refine D_cons (D_step2 (js := [(0, 115)]) (by kernel_rfl) fun gd hf => ?_) ?_
            · have hsd := hs.dr.call hf; have hfe := (G.le_dr _).trans hf.le
              refine QA_eq rfl ?_
              refine QA_nil ?_
              (refine D_yes rfl ?_; refine OpR_pure _ T.ok rfl ?_; refine ⟨_, rfl, Fr0.refl _, ?_⟩; exact rfl)
            refine D_cons (D_step2 (js := [(1, 116)]) (by kernel_rfl) fun gd hf => ?_) ?_
            · have hsd := hs.dr.call hf; have hfe := (G.le_dr _).trans hf.le
              refine QA_eq rfl ?_
              refine QA_nil ?_
              (refine D_no rfl ?_; exact rfl)
            refine D_cons (D_step2 (js := [(1, 116)]) (by kernel_rfl) fun gd hf => ?_) ?_
            · have hsd := hs.dr.call hf; have hfe := (G.le_dr _).trans hf.le
              refine QA_eq rfl ?_
              refine QA_nil ?_
              (refine D_no rfl ?_; exact rfl)
            refine D_cons (D_step2 (js := [(2, 117), (3, 118), (1, 116)]) (by kernel_rfl) fun gd hf => ?_) ?_
            · have hsd := hs.dr.call hf; have hfe := (G.le_dr _).trans hf.le
              refine QA_eq rfl ?_; refine QA_eq rfl ?_; refine QA_eq rfl ?_
              refine QA_nil ?_
              (refine D_no rfl ?_; exact rfl)
            refine D_cons (D_step2 (js := [(4, 119), (1, 116)]) (by kernel_rfl) fun gd hf => ?_) ?_
            · have hsd := hs.dr.call hf; have hfe := (G.le_dr _).trans hf.le
              refine QA_eq rfl ?_; refine QA_eq rfl ?_
              refine QA_nil ?_
              (refine D_no rfl ?_; exact rfl)
            refine D_cons (D_step2 (js := [(5, 120), (1, 116)]) (by kernel_rfl) fun gd hf => ?_) ?_
            · have hsd := hs.dr.call hf; have hfe := (G.le_dr _).trans hf.le
              refine QA_eq rfl ?_; refine QA_eq rfl ?_
              refine QA_nil ?_
              (refine D_no rfl ?_; exact rfl)
            refine D_cons (D_step2 (js := [(6, 121), (1, 116), (1, 116)]) (by kernel_rfl) fun gd hf => ?_) ?_
            · have hsd := hs.dr.call hf; have hfe := (G.le_dr _).trans hf.le
              refine QA_eq rfl ?_; refine QA_eq rfl ?_; refine QA_eq rfl ?_
              refine QA_nil ?_
              (refine D_no rfl ?_; exact rfl)
            refine D_cons (D_step2 (js := [(7, 122)]) (by kernel_rfl) fun gd hf => ?_) ?_
            · have hsd := hs.dr.call hf; have hfe := (G.le_dr _).trans hf.le
              refine QA_eq rfl ?_
              refine QA_nil ?_
              (refine D_no rfl ?_; exact rfl)
            refine D_cons (D_step2 (js := [(7, 122)]) (by kernel_rfl) fun gd hf => ?_) ?_
            · have hsd := hs.dr.call hf; have hfe := (G.le_dr _).trans hf.le
              refine QA_eq rfl ?_
              refine QA_nil ?_
              (refine D_no rfl ?_; exact rfl)
            refine D_cons (D_step2 (js := [(8, 123), (9, 124), (7, 122)]) (by kernel_rfl) fun gd hf => ?_) ?_
            · have hsd := hs.dr.call hf; have hfe := (G.le_dr _).trans hf.le
              refine QA_eq rfl ?_; refine QA_eq rfl ?_; refine QA_eq rfl ?_
              refine QA_nil ?_
              (refine D_no rfl ?_; exact rfl)
            refine D_cons (D_step2 (js := [(10, 125), (7, 122)]) (by kernel_rfl) fun gd hf => ?_) ?_
            · have hsd := hs.dr.call hf; have hfe := (G.le_dr _).trans hf.le
              refine QA_eq rfl ?_; refine QA_eq rfl ?_
              refine QA_nil ?_
              (refine D_no rfl ?_; exact rfl)
            refine D_cons (D_step2 (js := [(7, 122)]) (by kernel_rfl) fun gd hf => ?_) ?_
            · have hsd := hs.dr.call hf; have hfe := (G.le_dr _).trans hf.le
              refine QA_eq rfl ?_
              refine QA_nil ?_
              (refine D_no rfl ?_; exact rfl)
            refine D_cons (D_step2 (js := [(12, 127), (7, 122)]) (by kernel_rfl) fun gd hf => ?_) ?_
            · have hsd := hs.dr.call hf; have hfe := (G.le_dr _).trans hf.le
              refine QA_eq rfl ?_; refine QA_eq rfl ?_
              refine QA_nil ?_
              (refine D_no rfl ?_; exact rfl)
            refine D_cons (D_step2 (js := [(13, 128), (7, 122)]) (by kernel_rfl) fun gd hf => ?_) ?_
            · have hsd := hs.dr.call hf; have hfe := (G.le_dr _).trans hf.le
              refine QA_eq rfl ?_; refine QA_eq rfl ?_
              refine QA_nil ?_
              (refine D_no rfl ?_; exact rfl)
            refine D_cons (D_step2 (js := [(11, 126), (14, 129), (7, 122)]) (by kernel_rfl) fun gd hf => ?_) ?_
            · have hsd := hs.dr.call hf; have hfe := (G.le_dr _).trans hf.le
              refine QA_eq rfl ?_; refine QA_eq rfl ?_; refine QA_eq rfl ?_
              refine QA_nil ?_
              (refine D_no rfl ?_; exact rfl)
            refine D_cons (D_step2 (js := [(7, 122), (15, 130), (1, 116)]) (by kernel_rfl) fun gd hf => ?_) ?_
            · have hsd := hs.dr.call hf; have hfe := (G.le_dr _).trans hf.le
              refine QA_eq rfl ?_; refine QA_eq rfl ?_; refine QA_eq rfl ?_
              refine QA_nil ?_
              (refine D_no rfl ?_; exact rfl)
            refine D_cons (D_step2 (js := [(16, 131), (1, 116)]) (by kernel_rfl) fun gd hf => ?_) ?_
            · have hsd := hs.dr.call hf; have hfe := (G.le_dr _).trans hf.le
              refine QA_eq rfl ?_; refine QA_eq rfl ?_
              refine QA_nil ?_
              (refine D_no rfl ?_; exact rfl)
            refine D_cons (D_step2 (js := [(17, 132)]) (by kernel_rfl) fun gd hf => ?_) ?_
            · have hsd := hs.dr.call hf; have hfe := (G.le_dr _).trans hf.le
              refine QA_eq rfl ?_
              refine QA_nil ?_
              (refine D_no rfl ?_; exact rfl)
            refine D_cons (D_step2 (js := [(18, 133), (17, 132)]) (by kernel_rfl) fun gd hf => ?_) ?_
            · have hsd := hs.dr.call hf; have hfe := (G.le_dr _).trans hf.le
              refine QA_eq rfl ?_; refine QA_eq rfl ?_
              refine QA_nil ?_
              (refine D_no rfl ?_; exact rfl)
            refine D_cons (D_step2 (js := [(17, 132)]) (by kernel_rfl) fun gd hf => ?_) ?_
            · have hsd := hs.dr.call hf; have hfe := (G.le_dr _).trans hf.le
              refine QA_eq rfl ?_
              refine QA_nil ?_
              (refine D_no rfl ?_; exact rfl)
            refine D_cons (D_step2 (js := [(17, 132)]) (by kernel_rfl) fun gd hf => ?_) ?_
            · have hsd := hs.dr.call hf; have hfe := (G.le_dr _).trans hf.le
              refine QA_eq rfl ?_
              refine QA_nil ?_
              (refine D_no rfl ?_; exact rfl)
            refine D_cons (D_step2 (js := [(20, 135), (21, 136), (17, 132)]) (by kernel_rfl) fun gd hf => ?_) ?_
            · have hsd := hs.dr.call hf; have hfe := (G.le_dr _).trans hf.le
              refine QA_eq rfl ?_; refine QA_eq rfl ?_; refine QA_eq rfl ?_
              refine QA_nil ?_
              (refine D_no rfl ?_; exact rfl)
            refine D_cons (D_step2 (js := [(22, 137), (17, 132)]) (by kernel_rfl) fun gd hf => ?_) ?_
            · have hsd := hs.dr.call hf; have hfe := (G.le_dr _).trans hf.le
              refine QA_eq rfl ?_; refine QA_eq rfl ?_
              refine QA_nil ?_
              (refine D_no rfl ?_; exact rfl)
            refine D_cons (D_step2 (js := [(19, 134), (23, 138), (17, 132)]) (by kernel_rfl) fun gd hf => ?_) ?_
            · have hsd := hs.dr.call hf; have hfe := (G.le_dr _).trans hf.le
              refine QA_eq rfl ?_; refine QA_eq rfl ?_; refine QA_eq rfl ?_
              refine QA_nil ?_
              (refine D_no rfl ?_; exact rfl)
            refine D_cons (D_step2 (js := [(24, 139), (17, 132)]) (by kernel_rfl) fun gd hf => ?_) ?_
            · have hsd := hs.dr.call hf; have hfe := (G.le_dr _).trans hf.le
              refine QA_eq rfl ?_; refine QA_eq rfl ?_
              refine QA_nil ?_
              (refine D_no rfl ?_; exact rfl)
            refine D_cons (D_step2 (js := [(25, 140), (17, 132)]) (by kernel_rfl) fun gd hf => ?_) ?_
            · have hsd := hs.dr.call hf; have hfe := (G.le_dr _).trans hf.le
              refine QA_eq rfl ?_; refine QA_eq rfl ?_
              refine QA_nil ?_
              (refine D_no rfl ?_; exact rfl)
            refine D_cons (D_step2 (js := [(26, 141), (17, 132)]) (by kernel_rfl) fun gd hf => ?_) ?_
            · have hsd := hs.dr.call hf; have hfe := (G.le_dr _).trans hf.le
              refine QA_eq rfl ?_; refine QA_eq rfl ?_
              refine QA_nil ?_
              (refine D_no rfl ?_; exact rfl)
            refine D_cons (D_step2 (js := [(27, 142), (17, 132)]) (by kernel_rfl) fun gd hf => ?_) ?_
            · have hsd := hs.dr.call hf; have hfe := (G.le_dr _).trans hf.le
              refine QA_eq rfl ?_; refine QA_eq rfl ?_
              refine QA_nil ?_
              (refine D_no rfl ?_; exact rfl)
            refine D_cons (D_step2 (js := [(17, 132), (28, 143), (1, 116)]) (by kernel_rfl) fun gd hf => ?_) ?_
            · have hsd := hs.dr.call hf; have hfe := (G.le_dr _).trans hf.le
              refine QA_eq rfl ?_; refine QA_eq rfl ?_; refine QA_eq rfl ?_
              refine QA_nil ?_
              (refine D_no rfl ?_; exact rfl)
            refine D_cons (D_step2 (js := [(1, 116), (29, 144)]) (by kernel_rfl) fun gd hf => ?_) ?_
            · have hsd := hs.dr.call hf; have hfe := (G.le_dr _).trans hf.le
              refine QA_eq rfl ?_; refine QA_eq rfl ?_
              refine QA_nil ?_
              (refine D_yes rfl ?_; refine OpR_pure _ T.ok rfl ?_; refine ⟨_, rfl, Fr0.refl _, ?_⟩; exact rfl)
            exact D_nil
          intro g1 hf1; refine QA_eq rfl ?_; refine QA_nil ?_
          replace hs := hs.dr.call hf1; have hqe := (G.le_dr _).trans hf1.le; replace le9 := G.le.trans le9 hqe; replace ep0 := ep0.mono hqe; replace rs1 := rs1.mono hqe; replace rs4 := rs4.mono hqe
          refine P1 T.ok rfl rfl rfl ?_; refine WL_nil ?_; (with_reducible refine T_bn ?_); (with_reducible refine T_then ?_); refine W_region ?_; (iterate 3 refine P1 T.ok rfl rfl rfl ?_); refine WL_nil ?_
          exact fun a ha => ⟨r.length - (j + 1), by omega, j + 1, _, rfl, hs, le9, by omega, rfl, ha.keep ⟨rfl, rfl, rfl, rfl, rfl, rfl, by rw [hsn]; rfl, rfl, kI rfl (by rw [wr (by omega) (by omega)]; omega), trivial⟩⟩
        | false =>
          apply W_draw allF rfl (Fact.eq _ :: Fact.eq _ :: Fact.eq _ :: Fact.eq _ :: (intPtr n) :: Fact.eq _ :: Fact.eq _ :: Fact.eq _ :: Fact.eq _ :: Fact.eq _ :: (intPtr n) :: Fact.eq _ :: Fact.eq _ :: Fact.eq _ :: Fact.eq _ :: Fact.eq _ :: Fact.eq _ :: Fact.eq _ :: Fact.eq _ :: Fact.eq _ :: Fact.eq _ :: Fact.eq _ :: (intPtr n) :: Fact.eq _ :: (stepPtr 0 (stepD f n)) :: (stepPtr 4 (stepD f n)) :: (Fact.rs (stepD f n).next) :: Fact.eq _ :: Fact.eq _ :: Fact.eq _ :: Fact.eq _ :: []) 31 [(30, 145)] rfl rfl
          · refine D_cons (D_step2 (js := []) (by kernel_rfl) fun gd hf => ?_) ?_
            · have hsd := hs.dr.call hf; have hfe := (G.le_dr _).trans hf.le
              refine QA_nil ?_
              (refine D_yes rfl ?_; refine OpR_pure _ T.ok rfl ?_; refine ⟨_, rfl, Fr0.refl _, ?_⟩; exact rfl)
            refine D_cons (D_step2 (js := [(0, 115)]) (by kernel_rfl) fun gd hf => ?_) ?_
            · have hsd := hs.dr.call hf; have hfe := (G.le_dr _).trans hf.le
              refine QA_eq rfl ?_
              refine QA_nil ?_
              (refine D_yes rfl ?_; refine OpR_pure _ T.ok rfl ?_; refine ⟨_, rfl, Fr0.refl _, ?_⟩; exact rfl)
            refine D_cons (D_step2 (js := [(1, 116)]) (by kernel_rfl) fun gd hf => ?_) ?_
            · have hsd := hs.dr.call hf; have hfe := (G.le_dr _).trans hf.le
              refine QA_eq rfl ?_
              refine QA_nil ?_
              (refine D_yes rfl ?_; refine OpR_pure _ T.ok rfl ?_; refine ⟨_, rfl, Fr0.refl _, ?_⟩; exact rfl)
            refine D_cons (D_step2 (js := [(1, 116)]) (by kernel_rfl) fun gd hf => ?_) ?_
            · have hsd := hs.dr.call hf; have hfe := (G.le_dr _).trans hf.le
              refine QA_eq rfl ?_
              refine QA_nil ?_
              (refine D_yes rfl ?_; refine OpR_pure _ T.ok rfl ?_; refine ⟨_, rfl, Fr0.refl _, ?_⟩; exact rfl)
            refine D_cons (D_step2 (js := [(2, 117), (3, 118), (1, 116)]) (by kernel_rfl) fun gd hf => ?_) ?_
            · have hsd := hs.dr.call hf; have hfe := (G.le_dr _).trans hf.le
              refine QA_eq rfl ?_; refine QA_eq rfl ?_; refine QA_eq rfl ?_
              refine QA_nil ?_
              refine D_yes rfl ?_
              refine OpR_idx T.ok rfl (rs4.mono hfe) (y := n) hgi rfl rfl rfl rfl rfl rfl ?_
              intro b p ys hep hrc
              exact ⟨_, rfl, Fr0.refl _, b, p, rfl, by rw [← show ys = [Value.int .i64 n] from hrc]; exact hep⟩
            refine D_cons (D_step2 (js := [(4, 119), (1, 116)]) (by kernel_rfl) fun gd hf => ?_) ?_
            · have hsd := hs.dr.call hf; have hfe := (G.le_dr _).trans hf.le
              refine QA_any fun v4 h4 => ?_; refine QA_eq rfl ?_
              refine QA_nil ?_
              obtain ⟨b, p, rfl, hep⟩ := h4
              refine D_yes rfl ?_
              refine OpR_loadE T.ok 0 rfl hep rfl rfl ?_
              refine ⟨_, rfl, Fr0.refl _, ?_⟩
              exact rfl
            refine D_cons (D_step2 (js := [(5, 120), (1, 116)]) (by kernel_rfl) fun gd hf => ?_) ?_
            · have hsd := hs.dr.call hf; have hfe := (G.le_dr _).trans hf.le
              refine QA_eq rfl ?_; refine QA_eq rfl ?_
              refine QA_nil ?_
              refine D_yes rfl ?_
              refine OpR_pure _ T.ok rfl ?_
              refine ⟨_, rfl, Fr0.refl _, ?_⟩
              exact congrArg Value.bool (decide_eq_true (by omega))
            refine D_cons (D_step2 (js := [(6, 121), (1, 116), (1, 116)]) (by kernel_rfl) fun gd hf => ?_) ?_
            · have hsd := hs.dr.call hf; have hfe := (G.le_dr _).trans hf.le
              refine QA_eq rfl ?_; refine QA_eq rfl ?_; refine QA_eq rfl ?_
              refine QA_nil ?_
              (refine D_yes rfl ?_; refine OpR_pure _ T.ok rfl ?_; refine ⟨_, rfl, Fr0.refl _, ?_⟩; exact rfl)
            refine D_cons (D_step2 (js := [(7, 122)]) (by kernel_rfl) fun gd hf => ?_) ?_
            · have hsd := hs.dr.call hf; have hfe := (G.le_dr _).trans hf.le
              refine QA_eq rfl ?_
              refine QA_nil ?_
              (refine D_yes rfl ?_; refine OpR_pure _ T.ok rfl ?_; refine ⟨_, rfl, Fr0.refl _, ?_⟩; exact rfl)
            refine D_cons (D_step2 (js := [(7, 122)]) (by kernel_rfl) fun gd hf => ?_) ?_
            · have hsd := hs.dr.call hf; have hfe := (G.le_dr _).trans hf.le
              refine QA_eq rfl ?_
              refine QA_nil ?_
              (refine D_yes rfl ?_; refine OpR_pure _ T.ok rfl ?_; refine ⟨_, rfl, Fr0.refl _, ?_⟩; exact rfl)
            refine D_cons (D_step2 (js := [(8, 123), (9, 124), (7, 122)]) (by kernel_rfl) fun gd hf => ?_) ?_
            · have hsd := hs.dr.call hf; have hfe := (G.le_dr _).trans hf.le
              refine QA_eq rfl ?_; refine QA_eq rfl ?_; refine QA_eq rfl ?_
              refine QA_nil ?_
              refine D_yes rfl ?_
              refine OpR_idx T.ok rfl (rs4.mono hfe) (y := n) hgi rfl rfl rfl rfl rfl rfl ?_
              intro b p ys hep hrc
              exact ⟨_, rfl, Fr0.refl _, b, p, rfl, by rw [← show ys = [Value.int .i64 n] from hrc]; exact hep⟩
            refine D_cons (D_step2 (js := [(10, 125), (7, 122)]) (by kernel_rfl) fun gd hf => ?_) ?_
            · have hsd := hs.dr.call hf; have hfe := (G.le_dr _).trans hf.le
              refine QA_any fun v10 h10 => ?_; refine QA_eq rfl ?_
              refine QA_nil ?_
              obtain ⟨b, p, rfl, hep⟩ := h10
              refine D_yes rfl ?_
              refine OpR_loadE T.ok 0 rfl hep rfl rfl ?_
              refine ⟨_, rfl, Fr0.refl _, ?_⟩
              exact rfl
            refine D_cons (D_step2 (js := [(7, 122)]) (by kernel_rfl) fun gd hf => ?_) ?_
            · have hsd := hs.dr.call hf; have hfe := (G.le_dr _).trans hf.le
              refine QA_eq rfl ?_
              refine QA_nil ?_
              (refine D_yes rfl ?_; refine OpR_pure _ T.ok rfl ?_; refine ⟨_, rfl, Fr0.refl _, ?_⟩; exact rfl)
            refine D_cons (D_step2 (js := [(12, 127), (7, 122)]) (by kernel_rfl) fun gd hf => ?_) ?_
            · have hsd := hs.dr.call hf; have hfe := (G.le_dr _).trans hf.le
              refine QA_eq rfl ?_; refine QA_eq rfl ?_
              refine QA_nil ?_
              (refine D_yes rfl ?_; refine OpR_loadE T.ok 2 rfl (ep0.mono hfe) rfl rfl ?_; refine ⟨_, rfl, Fr0.refl _, ?_⟩; exact rfl)
            refine D_cons (D_step2 (js := [(13, 128), (7, 122)]) (by kernel_rfl) fun gd hf => ?_) ?_
            · have hsd := hs.dr.call hf; have hfe := (G.le_dr _).trans hf.le
              refine QA_eq rfl ?_; refine QA_eq rfl ?_
              refine QA_nil ?_
              (refine D_yes rfl ?_; refine OpR_pure _ T.ok rfl ?_; refine ⟨_, rfl, Fr0.refl _, ?_⟩; exact rfl)
            refine D_cons (D_step2 (js := [(11, 126), (14, 129), (7, 122)]) (by kernel_rfl) fun gd hf => ?_) ?_
            · have hsd := hs.dr.call hf; have hfe := (G.le_dr _).trans hf.le
              refine QA_eq rfl ?_; refine QA_eq rfl ?_; refine QA_eq rfl ?_
              refine QA_nil ?_
              refine D_yes rfl ?_
              refine OpR_pure _ T.ok rfl ?_
              refine ⟨_, rfl, Fr0.refl _, ?_⟩
              exact congrArg Value.bool (decide_eq_true (by omega))
            refine D_cons (D_step2 (js := [(7, 122), (15, 130), (1, 116)]) (by kernel_rfl) fun gd hf => ?_) ?_
            · have hsd := hs.dr.call hf; have hfe := (G.le_dr _).trans hf.le
              refine QA_eq rfl ?_; refine QA_eq rfl ?_; refine QA_eq rfl ?_
              refine QA_nil ?_
              (refine D_yes rfl ?_; refine OpR_pure _ T.ok rfl ?_; refine ⟨_, rfl, Fr0.refl _, ?_⟩; exact rfl)
            refine D_cons (D_step2 (js := [(16, 131), (1, 116)]) (by kernel_rfl) fun gd hf => ?_) ?_
            · have hsd := hs.dr.call hf; have hfe := (G.le_dr _).trans hf.le
              refine QA_eq rfl ?_; refine QA_eq rfl ?_
              refine QA_nil ?_
              (refine D_yes rfl ?_; refine OpR_pure _ T.ok rfl ?_; refine ⟨_, rfl, Fr0.refl _, ?_⟩; exact rfl)
            refine D_cons (D_step2 (js := [(17, 132)]) (by kernel_rfl) fun gd hf => ?_) ?_
            · have hsd := hs.dr.call hf; have hfe := (G.le_dr _).trans hf.le
              refine QA_eq rfl ?_
              refine QA_nil ?_
              (refine D_yes rfl ?_; refine OpR_pure _ T.ok rfl ?_; refine ⟨_, rfl, Fr0.refl _, ?_⟩; exact rfl)
            refine D_cons (D_step2 (js := [(18, 133), (17, 132)]) (by kernel_rfl) fun gd hf => ?_) ?_
            · have hsd := hs.dr.call hf; have hfe := (G.le_dr _).trans hf.le
              refine QA_eq rfl ?_; refine QA_eq rfl ?_
              refine QA_nil ?_
              (refine D_yes rfl ?_; refine OpR_loadE T.ok 2 rfl (ep0.mono hfe) rfl rfl ?_; refine ⟨_, rfl, Fr0.refl _, ?_⟩; exact rfl)
            refine D_cons (D_step2 (js := [(17, 132)]) (by kernel_rfl) fun gd hf => ?_) ?_
            · have hsd := hs.dr.call hf; have hfe := (G.le_dr _).trans hf.le
              refine QA_eq rfl ?_
              refine QA_nil ?_
              (refine D_yes rfl ?_; refine OpR_pure _ T.ok rfl ?_; refine ⟨_, rfl, Fr0.refl _, ?_⟩; exact rfl)
            refine D_cons (D_step2 (js := [(17, 132)]) (by kernel_rfl) fun gd hf => ?_) ?_
            · have hsd := hs.dr.call hf; have hfe := (G.le_dr _).trans hf.le
              refine QA_eq rfl ?_
              refine QA_nil ?_
              (refine D_yes rfl ?_; refine OpR_pure _ T.ok rfl ?_; refine ⟨_, rfl, Fr0.refl _, ?_⟩; exact rfl)
            refine D_cons (D_step2 (js := [(20, 135), (21, 136), (17, 132)]) (by kernel_rfl) fun gd hf => ?_) ?_
            · have hsd := hs.dr.call hf; have hfe := (G.le_dr _).trans hf.le
              refine QA_eq rfl ?_; refine QA_eq rfl ?_; refine QA_eq rfl ?_
              refine QA_nil ?_
              refine D_yes rfl ?_
              refine OpR_idx T.ok rfl (rs4.mono hfe) (y := n) hgi rfl rfl rfl rfl rfl rfl ?_
              intro b p ys hep hrc
              exact ⟨_, rfl, Fr0.refl _, b, p, rfl, by rw [← show ys = [Value.int .i64 n] from hrc]; exact hep⟩
            refine D_cons (D_step2 (js := [(22, 137), (17, 132)]) (by kernel_rfl) fun gd hf => ?_) ?_
            · have hsd := hs.dr.call hf; have hfe := (G.le_dr _).trans hf.le
              refine QA_any fun v22 h22 => ?_; refine QA_eq rfl ?_
              refine QA_nil ?_
              obtain ⟨b, p, rfl, hep⟩ := h22
              refine D_yes rfl ?_
              refine OpR_loadE T.ok 0 rfl hep rfl rfl ?_
              refine ⟨_, rfl, Fr0.refl _, ?_⟩
              exact rfl
            refine D_cons (D_step2 (js := [(19, 134), (23, 138), (17, 132)]) (by kernel_rfl) fun gd hf => ?_) ?_
            · have hsd := hs.dr.call hf; have hfe := (G.le_dr _).trans hf.le
              refine QA_eq rfl ?_; refine QA_eq rfl ?_; refine QA_eq rfl ?_
              refine QA_nil ?_
              refine D_yes rfl ?_
              refine OpR_idx T.ok rfl (rs1.mono hfe) (y := stepD f n) (step_geti hnr) rfl rfl rfl rfl rfl rfl ?_
              intro b p ys hep hrc
              exact ⟨_, rfl, Fr0.refl _, b, p, ys, rfl, hep, hrc⟩
            refine D_cons (D_step2 (js := [(24, 139), (17, 132)]) (by kernel_rfl) fun gd hf => ?_) ?_
            · have hsd := hs.dr.call hf; have hfe := (G.le_dr _).trans hf.le
              refine QA_any fun v24 h24 => ?_; refine QA_eq rfl ?_
              refine QA_nil ?_
              obtain ⟨b, p, ys, rfl, hep, hrc⟩ := h24
              refine D_yes rfl ?_
              refine OpR_pure _ T.ok rfl ?_
              exact ⟨_, rfl, Fr0.refl _, b, p, ys, rfl, hep, hrc⟩
            refine D_cons (D_step2 (js := [(25, 140), (17, 132)]) (by kernel_rfl) fun gd hf => ?_) ?_
            · have hsd := hs.dr.call hf; have hfe := (G.le_dr _).trans hf.le
              refine QA_any fun v25 h25 => ?_; refine QA_eq rfl ?_
              refine QA_nil ?_
              obtain ⟨b, p, ys, rfl, hep, hrc⟩ := h25
              obtain ⟨b1, b2, b3, b4, b5, b6, rfl, hx1, hx2⟩ := hrc
              refine D_yes rfl ?_
              refine OpR_loadE T.ok 4 rfl hep rfl rfl ?_
              exact ⟨_, rfl, Fr0.refl _, hx2⟩
            refine D_cons (D_step2 (js := [(26, 141), (17, 132)]) (by kernel_rfl) fun gd hf => ?_) ?_
            · have hsd := hs.dr.call hf; have hfe := (G.le_dr _).trans hf.le
              refine QA_any fun v26 h26 => ?_; refine QA_eq rfl ?_
              refine QA_nil ?_
              obtain ⟨a5, c5, rfl⟩ := Rs.isSlice h26
              refine D_yes rfl ?_
              refine OpR_pure _ T.ok rfl ?_
              refine ⟨_, rfl, Fr0.refl _, ?_⟩
              exact rfl
            refine D_cons (D_step2 (js := [(27, 142), (17, 132)]) (by kernel_rfl) fun gd hf => ?_) ?_
            · have hsd := hs.dr.call hf; have hfe := (G.le_dr _).trans hf.le
              refine QA_eq rfl ?_; refine QA_eq rfl ?_
              refine QA_nil ?_
              (refine D_yes rfl ?_; refine OpR_pure _ T.ok rfl ?_; refine ⟨_, rfl, Fr0.refl _, ?_⟩; exact rfl)
            refine D_cons (D_step2 (js := [(17, 132), (28, 143), (1, 116)]) (by kernel_rfl) fun gd hf => ?_) ?_
            · have hsd := hs.dr.call hf; have hfe := (G.le_dr _).trans hf.le
              refine QA_eq rfl ?_; refine QA_eq rfl ?_; refine QA_eq rfl ?_
              refine QA_nil ?_
              (refine D_yes rfl ?_; refine OpR_pure _ T.ok rfl ?_; refine ⟨_, rfl, Fr0.refl _, ?_⟩; exact rfl)
            refine D_cons (D_step2 (js := [(1, 116), (29, 144)]) (by kernel_rfl) fun gd hf => ?_) ?_
            · have hsd := hs.dr.call hf; have hfe := (G.le_dr _).trans hf.le
              refine QA_eq rfl ?_; refine QA_eq rfl ?_
              refine QA_nil ?_
              (refine D_yes rfl ?_; refine OpR_pure _ T.ok rfl ?_; refine ⟨_, rfl, Fr0.refl _, ?_⟩; exact rfl)
            exact D_nil
          intro g1 hf1; refine QA_eq rfl ?_; refine QA_nil ?_
          replace hs := hs.dr.call hf1; have hqe := (G.le_dr _).trans hf1.le; replace le9 := G.le.trans le9 hqe; replace ep0 := ep0.mono hqe; replace rs1 := rs1.mono hqe; replace rs4 := rs4.mono hqe
          refine P1 T.ok rfl rfl rfl ?_; refine WL_nil ?_; (with_reducible refine T_bn ?_); (with_reducible refine T_then ?_); refine W_region ?_; (iterate 3 refine P1 T.ok rfl rfl rfl ?_); refine WL_nil ?_
          exact fun a ha => ⟨r.length - (j + 1), by omega, j + 1, _, rfl, hs, le9, by omega, rfl, ha.keep ⟨rfl, rfl, rfl, rfl, rfl, rfl, by rw [hsn]; rfl, rfl, kI rfl (by rw [wr (by omega) (by omega)]; omega), trivial⟩⟩
      · refine W_no (b := decide ((j : Int) < (r.length : Int))) (decide_eq_false (by omega)) rfl ?_
        rw [List.take_of_length_le (by omega), hlaw2]
        refine W_exit ?_; (with_reducible refine T_tx ?_; with_reducible refine T_tx ?_); (with_reducible refine T_bx ?_); (with_reducible refine T_then ?_); refine W_seq ?_; refine W_region ?_; (iterate 4 refine P1 T.ok rfl rfl rfl ?_)
        refine WL_o rfl rfl (OpR_eqB T.ok (neg := false) rfl rfl rfl rfl rfl ?_)
        refine WL_know 150 (b' := true) (by simp) rfl ?_
        (iterate 4 refine P1 T.ok rfl rfl rfl ?_)
        refine WL_o rfl rfl (OpR_eqB T.ok (neg := false) rfl rfl rfl rfl rfl ?_)
        refine WL_know 155 (b' := true) (by simp) rfl ?_
        (iterate 7 refine P1 T.ok rfl rfl rfl ?_); refine WL_nil ?_; (with_reducible refine T_then ?_)
        refine W_ret (ret1 rfl rfl (hs.ret ?_))
        simp
end Go.Proofs.Ytijmlfmapfhabaa

/- The walk through the statement GraphReached. -/
namespace Go.Proofs.Ytijmlfmapfhabaa
open Go Go.K
set_option maxRecDepth 10000
attribute [local irreducible] W WL OpR
set_option maxHeartbeats 4000000





theorem set_spl {α : Type} (o : List α) (i : Nat) (c : α → Value) (x : α) (h : i < o.length) : spl (o.map c) (i * 1) [c x] = (o.set i x).map c := by
  rw [Nat.mul_one, List.map_set]
  unfold spl
  rw [List.set_eq_take_append_cons_drop]
  simp [h]





theorem lawreached_c (v : Value) (x : List Y6) (a : Int) (g : G) (rs0 : Rs g v x) (hx : ∀ y ∈ x, y.fit) (ha : I64 a) :
    CallsIn Wd 0 Try.prog 4 #[v, .int .i64 a] g.w (Ret g fun _ r => r = .bool true) := by
  have hs := St.start g
  have le0 := G.le.refl g
  refine enter Try.func4 rfl Try.ntmps4 rfl ?_
  refine W_seq ?_; refine W_region ?_; refine P1 T.ok rfl rfl rfl ?_; refine WL_nil ?_; (with_reducible refine T_then ?_); refine W_seq ?_; refine W_region ?_
  refine WL_o rfl rfl (OpR_ret cl12 allF rfl rfl rfl rfl rfl (sane_c _) ?_); rintro g1 _ hf1 rfl; replace hs := hs.call hf1; have hqe := hf1.le; replace le0 := G.le.trans le0 hqe; replace rs0 := rs0.mono hqe
  refine P1 T.ok rfl rfl rfl ?_; refine WL_nil ?_; (with_reducible refine T_then ?_); refine W_seq ?_; refine W_region ?_; refine P1 T.ok rfl rfl rfl ?_
  refine WL_o rfl rfl (OpR_ret cl14 allF rfl rfl rfl rfl rfl (made_c _ x _ rs0 hx) ?_); rintro g1 _ hf1 ⟨sa, sn, sc, wa, wn, wc, cells, rfl, hh, rc0, rs2⟩
  replace hs := hs.getOwn hf1 hh; have hqe := hf1.le
  replace le0 := le0.trans hqe; replace rs0 := rs0.mono hqe; clear hh
  obtain ⟨gz, hwz, hsz, hqz, rs1⟩ := hs.fzRow (α := Step) (i := 0) rfl rc0
  clear hqe; have hqe := hqz; rw [← hwz]; replace hs := hsz; clear hsz rc0; replace le0 := G.le.trans le0 hqe; replace rs0 := rs0.mono hqe; replace rs2 := rs2.mono hqe
  have hval := made_valid x
  have hn40 := valid_n hval
  have hmr : ∀ c, InR (made x) (pickM c (made x).steps.length) := fun c => made_inR x
  generalize hfe : made x = f at *
  obtain ⟨_, _, e⟩ := rs1.isSlice; obtain ⟨rfl, rfl, rfl⟩ := Value.slice.inj e; clear e
  have fl0 : RFlow gz (.agg #[.int .i64 f.moveMin, .int .i64 f.moveMax, .slice sa f.steps.length sc, .slice wa wn wc]) f := ⟨_, _, _, _, _, _, rfl, rs1, rs2⟩
  skip
  refine WL_o rfl rfl (OpR_alloc T.ok rfl hs rfl rfl ?_); clear hs; rintro bf g1 hs hqe; replace le0 := G.le.trans le0 hqe; replace rs0 := rs0.mono hqe; replace rs1 := rs1.mono hqe; replace rs2 := rs2.mono hqe; replace fl0 := fl0.mono hqe
  skip
  refine WL_n rfl (OpR_storeO T.ok 0 rfl hs rfl rfl rfl rfl rfl rfl rfl rfl rfl ?_); replace hs := hs; rintro g1 hs hqe; replace le0 := G.le.trans le0 hqe; replace rs0 := rs0.mono hqe; replace rs1 := rs1.mono hqe; replace rs2 := rs2.mono hqe; replace fl0 := fl0.mono hqe
  obtain ⟨g2, hw2, hs2, hqe, hep⟩ := hs.fzObj (i := 0) rfl; replace hs := hs2; clear hs2; rw [← hw2]; replace le0 := G.le.trans le0 hqe; replace rs0 := rs0.mono hqe; replace rs1 := rs1.mono hqe; replace rs2 := rs2.mono hqe; replace fl0 := fl0.mono hqe
  have ep0 := hep; clear hep
  refine WL_nil ?_; (with_reducible refine T_then ?_); refine W_seq ?_; refine W_region ?_; refine P1 T.ok rfl rfl rfl ?_; refine WL_o rfl rfl (OpR_loadE T.ok 2 rfl ep0 rfl rfl ?_); refine P1 T.ok rfl rfl rfl ?_; refine P1 T.ok rfl rfl rfl ?_; refine WL_nil ?_; (with_reducible refine T_then ?_); refine W_seq ?_; refine W_region ?_; refine P1 T.ok rfl rfl rfl ?_; refine P1 T.ok rfl rfl rfl ?_
  refine WL_o rfl rfl (OpR_ret cl20 allF rfl rfl rfl rfl rfl (pick_c _ _ _ ha (by omega)) ?_); rintro g1 _ hf1 rfl; replace hs := hs.call hf1; have hqe := hf1.le; replace le0 := G.le.trans le0 hqe; replace ep0 := ep0.mono hqe; replace rs0 := rs0.mono hqe; replace rs1 := rs1.mono hqe; replace rs2 := rs2.mono hqe; replace fl0 := fl0.mono hqe
  refine P1 T.ok rfl rfl rfl ?_; refine WL_nil ?_; (with_reducible refine T_then ?_); refine W_seq ?_; refine W_region ?_; refine P1 T.ok rfl rfl rfl ?_
  have h1 := hmr a
  generalize pickM a f.steps.length = p at *
  have hp0 := h1.1; have hp1 := h1.2
  refine WL_o rfl rfl (OpR_make T.ok rfl hs rfl rfl rfl rfl rfl rfl (by decide) rfl (by show 1 * f.steps.length ≤ _; omega) (by unfold maxLen; omega) ?_); rintro ob gm hs hqe; replace le0 := G.le.trans le0 hqe; replace ep0 := ep0.mono hqe; replace rs0 := rs0.mono hqe; replace rs1 := rs1.mono hqe; replace rs2 := rs2.mono hqe; replace fl0 := fl0.mono hqe
  refine P1 T.ok rfl rfl rfl ?_; refine WL_nil ?_; (with_reducible refine T_then ?_); refine W_seq ?_; refine W_region ?_; refine P1 T.ok rfl rfl rfl ?_; refine P1 T.ok rfl rfl rfl ?_
  have hfl : (List.replicate f.steps.length [Value.bool false]).flatten = (List.replicate f.steps.length false).map Value.bool := by simp
  have hst : St g gm [rowB ob f.steps.length (List.replicate f.steps.length false)] := by
    unfold rowB; rw [← hfl]; exact hs
  replace hs := hst; clear hst
  refine WL_o rfl rfl (OpR_idxR T.ok rfl (hs.own 0 _ rfl).1 hp0 (by omega) rfl rfl rfl rfl rfl rfl ?_)
  rintro b q hh; obtain ⟨rfl, rfl⟩ : ob = b ∧ 0 = q := by simpa using hh
  refine WL_n rfl (OpR_storeR T.ok 0 (p.toNat * 1) (us := [.bool true]) rfl hs rfl rfl rfl rfl rfl rfl rfl (by decide) (by simp; omega) (set_spl _ _ Value.bool true (by simp; omega)) ?_)
  rintro gm2 hs hqe; replace le0 := G.le.trans le0 hqe; replace ep0 := ep0.mono hqe; replace rs0 := rs0.mono hqe; replace rs1 := rs1.mono hqe; replace rs2 := rs2.mono hqe; replace fl0 := fl0.mono hqe
  refine WL_nil ?_; (with_reducible refine T_then ?_); refine W_seq ?_; refine W_seq ?_; refine W_region ?_; refine P1 T.ok rfl rfl rfl ?_; refine WL_nil ?_; (with_reducible refine T_then ?_); refine W_block ?_
  have hlaw := law_reached hval h1
  generalize hst : (List.replicate f.steps.length false).set p.toNat true = o0 at *
  have ho0 : o0.length = f.steps.length := by rw [← hst]; simp
  have hrl : ∀ r, (roundsTo f o0 r).length = f.steps.length := fun r => by rw [roundsTo_len, ho0]
  have fl0c := fl0; have ep0c := ep0; have le8 := G.le.refl gm2
  refine W_loop (fun m a' w => ∃ (r : Nat) (g2 : G), w = g2.w ∧ St g g2 [rowB ob f.steps.length (roundsTo f o0 r)] ∧ G.le gm2 g2 ∧ r ≤ f.steps.length ∧ m = f.steps.length - r ∧
      Fr 110 [] [(1, .int .i64 p), (5, .bool true), (6, .pointer (some ⟨bf, 0, none⟩)), (7, .int .i64 f.steps.length), (8, .slice (some ⟨ob, 0, none⟩) f.steps.length f.steps.length), (9, .int .i64 r)] a') f.steps.length
    (fun a' ha => ⟨0, gm2, rfl, hs, le8, Nat.zero_le _, rfl, ha.keep (by (repeat (first | exact trivial | refine ⟨rfl, ?_⟩)))⟩) ?_
  clear hs le8 fl0 ep0 rs1 rs0 rs2 le0
  rintro m a' _ ⟨r, g2, rfl, hs, le8, hr, rfl, ha'⟩
  revert a'
  (with_reducible refine T_wp ?_); refine W_seq ?_; refine W_seq ?_; refine W_region ?_; (iterate 3 refine P1 T.ok rfl rfl rfl ?_); refine WL_nil ?_; (with_reducible refine T_then ?_)
  by_cases hlr : r < f.steps.length
  · refine W_yes (b := decide ((r : Int) < (f.steps.length : Int))) (decide_eq_true (by omega)) rfl ?_
    have hro := hrl r
    have hrs : roundsTo f o0 (r + 1) = roundTo f (roundsTo f o0 r) f.steps.length := rfl
    generalize roundsTo f o0 r = o1 at *
    have hrt : ∀ k, (roundTo f o1 k).length = f.steps.length := fun k => by rw [roundTo_len, hro]
    refine W_skip ?_; (with_reducible refine T_then ?_); refine W_seq ?_; refine W_block ?_; refine W_seq ?_; refine W_region ?_; refine P1 T.ok rfl rfl rfl ?_; refine WL_nil ?_; (with_reducible refine T_then ?_); refine W_block ?_
    have le9 := G.le.refl g2; have le8c := le8
    refine W_loop (fun m a' w => ∃ (k : Nat) (g3 : G), w = g3.w ∧ St g g3 [rowB ob f.steps.length (roundTo f o1 k)] ∧ G.le g2 g3 ∧ k ≤ f.steps.length ∧ m = f.steps.length - k ∧
        Fr 110 [] [(1, .int .i64 p), (5, .bool true), (6, .pointer (some ⟨bf, 0, none⟩)), (7, .int .i64 f.steps.length), (8, .slice (some ⟨ob, 0, none⟩) f.steps.length f.steps.length), (9, .int .i64 r), (10, .int .i64 k)] a') f.steps.length
      (fun a' ha => ⟨0, g2, rfl, hs, le9, Nat.zero_le _, rfl, ha.keep (by (repeat (first | exact trivial | refine ⟨rfl, ?_⟩)))⟩) ?_
    clear hs le9 le8
    rintro m a' _ ⟨k, g3, rfl, hs, le9, hk, rfl, ha'⟩
    have le8 := le8c.trans le9
    have fl0 := fl0c.mono le8; have ep0 := ep0c.mono le8
    revert a'
    (with_reducible refine T_wp ?_); refine W_seq ?_; refine W_seq ?_; refine W_region ?_; (iterate 3 refine P1 T.ok rfl rfl rfl ?_); refine WL_nil ?_; (with_reducible refine T_then ?_)
    by_cases hlk : k < f.steps.length
    · refine W_yes (b := decide ((k : Int) < (f.steps.length : Int))) (decide_eq_true (by omega)) rfl ?_
      have hks := roundTo_succ f o1 k
      unfold roundStep at hks
      have hko := hrt k
      generalize roundTo f o1 k = o2 at *
      have hkr : InR f (k : Int) := ⟨by omega, by omega⟩
      refine W_skip ?_; (with_reducible refine T_then ?_); refine W_seq ?_; refine W_block ?_; refine W_seq ?_; refine W_region ?_; refine WL_o rfl rfl (OpR_loadE T.ok 0 rfl ep0 rfl rfl ?_); refine P1 T.ok rfl rfl rfl ?_
      refine WL_o rfl rfl (OpR_ret cl27 allF rfl rfl rfl rfl rfl (follow_c _ f k _ fl0) ?_); rintro g1 vo hf1 hvo; obtain ⟨gz, hwz, hsz, hqz, rs3⟩ := hs.ownRs hf1 hvo; have hqe := hf1.le.trans hqz; rw [← hwz]; replace hs := hsz; clear hsz hvo; replace le8 := G.le.trans le8 hqe; replace le9 := G.le.trans le9 hqe; replace ep0 := ep0.mono hqe; replace fl0 := fl0.mono hqe
      obtain ⟨al, cl, rfl⟩ := rs3.isSlice
      have hln := follow_inR hval hkr
      have hlo := follow_sorted f k
      have hll := rs3.len_le
      unfold maxLen at hll
      generalize follow f (k : Int) = l at *
      refine P1 T.ok rfl rfl rfl ?_; refine WL_nil ?_; (with_reducible refine T_then ?_); refine W_seq ?_; refine W_region ?_; refine P1 T.ok rfl rfl rfl ?_; refine WL_nil ?_; (with_reducible refine T_then ?_); refine W_block ?_
      have hkg : o2.getD (k : Int).toNat false = o2[k] := by rw [List.getD_eq_getElem?_getD, Int.toNat_natCast, List.getElem?_eq_getElem (by omega)]; rfl
      rw [hkg] at hks
      have le3 := G.le.refl gz; have le9c := le9; have ep0d := ep0; have rs3d := rs3
      refine W_loop (fun m a' w => ∃ (i : Nat) (g4 : G), w = g4.w ∧ St g g4 [rowB ob f.steps.length (setAll (l.take i) o2)] ∧ G.le gz g4 ∧ i ≤ l.length ∧ m = l.length - i ∧ (i = 0 ∨ o2[k] = true) ∧
          Fr 110 [] [(1, .int .i64 p), (5, .bool true), (6, .pointer (some ⟨bf, 0, none⟩)), (7, .int .i64 f.steps.length), (8, .slice (some ⟨ob, 0, none⟩) f.steps.length f.steps.length), (9, .int .i64 r), (10, .int .i64 k), (11, .slice al l.length cl), (12, .int .i64 i)] a') l.length
        (fun a' ha => ⟨0, gz, rfl, hs, le3, Nat.zero_le _, rfl, .inl rfl, ha.keep (by (repeat (first | exact trivial | refine ⟨rfl, ?_⟩)))⟩) ?_
      clear hs le3 le9 le8 ep0 rs3 fl0
      rintro m a' _ ⟨i, g4, rfl, hs, le3, hi, rfl, hno, ha'⟩
      have le9 := le9c.trans le3; have ep0 := ep0d.mono le3; have rs3 := rs3d.mono le3
      revert a'
      have hol : (setAll (l.take i) o2).length = f.steps.length := by rw [setAll_len, hko]
      (with_reducible refine T_wp ?_); refine W_seq ?_; refine W_seq ?_; refine W_region ?_; (iterate 5 refine P1 T.ok rfl rfl rfl ?_)
      by_cases hli : i < l.length
      · refine WL_know 46 (b' := true) (decide_eq_true (by omega)) rfl ?_
        have hset : (setAll (l.take i) o2)[k]'(by omega) = o2[k] := by
          rcases hno with rfl | h
          · rfl
          · rw [h]
            have h2 := (isIn_setAll (l := l.take i) (fun m hm => hln m (List.mem_of_mem_take hm)) hko hkr).2 (.inr (show isIn o2 (k : Int) from by unfold isIn; rw [hkg, h]))
            unfold isIn at h2
            rw [List.getD_eq_getElem?_getD, Int.toNat_natCast, List.getElem?_eq_getElem (by omega)] at h2
            exact h2
        refine P1 T.ok rfl rfl rfl ?_; refine P1 T.ok rfl rfl rfl ?_
        refine WL_o rfl rfl (OpR_idxR T.ok rfl (hs.own 0 _ rfl).1 (by omega) (by omega) rfl rfl rfl rfl rfl rfl ?_)
        rintro b q hh; obtain ⟨rfl, rfl⟩ : ob = b ∧ 0 = q := by simpa using hh
        refine WL_o rfl rfl (OpR_loadR T.ok ((k : Int).toNat * 1) rfl (hs.own 0 _ rfl).1 rfl (v := .bool o2[k]) (by show (List.map Value.bool _)[(k : Int).toNat * 1]? = _; rw [Nat.mul_one, List.getElem?_map, Int.toNat_natCast, List.getElem?_eq_getElem (by omega), hset]; rfl) ?_)
        refine P1 T.ok rfl rfl rfl ?_; refine WL_nil ?_; (with_reducible refine T_then ?_)
        cases hkb : o2[k] with
        | false =>
          obtain rfl : i = 0 := hno.resolve_right (by rw [hkb]; simp)
          rw [hkb, if_neg (by simp)] at hks
          refine W_no rfl rfl ?_
          refine W_exit ?_; (with_reducible refine T_tx ?_; with_reducible refine T_tx ?_); (with_reducible refine T_bx ?_); (with_reducible refine T_bn ?_); (with_reducible refine T_then ?_); refine W_region ?_; (iterate 3 refine P1 T.ok rfl rfl rfl ?_); refine WL_nil ?_
          exact fun a ha => ⟨f.steps.length - (k + 1), by omega, k + 1, _, rfl, by rw [hks]; exact hs, le9, by omega, rfl, ha.keep ⟨rfl, rfl, rfl, rfl, rfl, rfl, kI rfl (by rw [wr (by omega) (by omega)]; omega), trivial⟩⟩
        | true =>
          refine W_yes rfl rfl ?_
          have hsn : setAll (l.take (i + 1)) o2 = (setAll (l.take i) o2).set l[i].toNat true := by rw [List.take_succ_eq_append_getElem hli, setAll_snoc]
          have hgi := geti_of (xs := l) (n := (i : Int)) rfl hli
          have hnr := hln _ (List.getElem_mem hli)
          have hsort : ∀ (h : i - 1 < l.length), 0 < i → l[i - 1] < l[i] := fun h h0 => sorted_lt hlo hli (by omega)
          generalize hne : l[i] = n at *
          have hn0 := hnr.1; have hn1 := hnr.2
          refine W_skip ?_; (with_reducible refine T_then ?_); refine W_seq ?_; refine W_block ?_; refine W_seq ?_; refine W_seq ?_
          by_cases hi0 : i = 0
          · apply W_draw allF rfl (Fact.eq _ :: Fact.eq _ :: (intPtr n) :: Fact.eq _ :: Fact.eq _ :: Fact.eq _ :: Fact.eq _ :: Fact.eq _ :: (intPtr n) :: Fact.eq _ :: Fact.eq _ :: Fact.eq _ :: Fact.eq _ :: Fact.eq _ :: Fact.eq _ :: Fact.eq _ :: Fact.eq _ :: Fact.eq _ :: Fact.eq _ :: Fact.eq _ :: Fact.eq _ :: Fact.eq _ :: Fact.eq _ :: Fact.eq _ :: Fact.eq _ :: Fact.eq _ :: Fact.eq _ :: Fact.eq _ :: Fact.eq _ :: []) 29 [(28, 82)] rfl rfl
            · refine D_cons (D_step2 (js := []) (by kernel_rfl) fun gd hf => ?_) ?_
              · have hsd := hs.dr.call hf; have hfe := (G.le_dr _).trans hf.le
                refine QA_nil ?_
                (refine D_yes rfl ?_; refine OpR_pure _ T.ok rfl ?_; refine ⟨_, rfl, Fr0.refl _, ?_⟩; exact rfl)
              refine D_cons (D_step2 (js := []) (by kernel_rfl) fun gd hf => ?_) ?_
              · have hsd := hs.dr.call hf; have hfe := (G.le_dr _).trans hf.le
                refine QA_nil ?_
                (refine D_yes rfl ?_; refine OpR_pure _ T.ok rfl ?_; refine ⟨_, rfl, Fr0.refl _, ?_⟩; exact rfl)
              refine D_cons (D_step2 (js := [(0, 54), (1, 55)]) (by kernel_rfl) fun gd hf => ?_) ?_
              · have hsd := hs.dr.call hf; have hfe := (G.le_dr _).trans hf.le
                refine QA_eq rfl ?_; refine QA_eq rfl ?_
                refine QA_nil ?_
                refine D_yes rfl ?_
                refine OpR_idx T.ok rfl (rs3.mono hfe) (y := n) hgi rfl rfl rfl rfl rfl rfl ?_
                intro b p ys hep hrc
                exact ⟨_, rfl, Fr0.refl _, b, p, rfl, by rw [← show ys = [Value.int .i64 n] from hrc]; exact hep⟩
              refine D_cons (D_step2 (js := [(2, 56)]) (by kernel_rfl) fun gd hf => ?_) ?_
              · have hsd := hs.dr.call hf; have hfe := (G.le_dr _).trans hf.le
                refine QA_any fun v2 h2 => ?_
                refine QA_nil ?_
                obtain ⟨b, p, rfl, hep⟩ := h2
                refine D_yes rfl ?_
                refine OpR_loadE T.ok 0 rfl hep rfl rfl ?_
                refine ⟨_, rfl, Fr0.refl _, ?_⟩
                exact rfl
              refine D_cons (D_step2 (js := [(3, 57)]) (by kernel_rfl) fun gd hf => ?_) ?_
              · have hsd := hs.dr.call hf; have hfe := (G.le_dr _).trans hf.le
                refine QA_eq rfl ?_
                refine QA_nil ?_
                refine D_yes rfl ?_
                refine OpR_pure _ T.ok rfl ?_
                refine ⟨_, rfl, Fr0.refl _, ?_⟩
                exact congrArg Value.bool (decide_eq_false (by omega))
              refine D_cons (D_step2 (js := [(4, 58)]) (by kernel_rfl) fun gd hf => ?_) ?_
              · have hsd := hs.dr.call hf; have hfe := (G.le_dr _).trans hf.le
                refine QA_eq rfl ?_
                refine QA_nil ?_
                (refine D_yes rfl ?_; refine OpR_pure _ T.ok rfl ?_; refine ⟨_, rfl, Fr0.refl _, ?_⟩; exact rfl)
              refine D_cons (D_step2 (js := [(5, 59)]) (by kernel_rfl) fun gd hf => ?_) ?_
              · have hsd := hs.dr.call hf; have hfe := (G.le_dr _).trans hf.le
                refine QA_eq rfl ?_
                refine QA_nil ?_
                (refine D_yes rfl ?_; refine OpR_pure _ T.ok rfl ?_; refine ⟨_, rfl, Fr0.refl _, ?_⟩; exact rfl)
              refine D_cons (D_step2 (js := [(5, 59)]) (by kernel_rfl) fun gd hf => ?_) ?_
              · have hsd := hs.dr.call hf; have hfe := (G.le_dr _).trans hf.le
                refine QA_eq rfl ?_
                refine QA_nil ?_
                (refine D_yes rfl ?_; refine OpR_pure _ T.ok rfl ?_; refine ⟨_, rfl, Fr0.refl _, ?_⟩; exact rfl)
              refine D_cons (D_step2 (js := [(6, 60), (7, 61), (5, 59)]) (by kernel_rfl) fun gd hf => ?_) ?_
              · have hsd := hs.dr.call hf; have hfe := (G.le_dr _).trans hf.le
                refine QA_eq rfl ?_; refine QA_eq rfl ?_; refine QA_eq rfl ?_
                refine QA_nil ?_
                refine D_yes rfl ?_
                refine OpR_idx T.ok rfl (rs3.mono hfe) (y := n) hgi rfl rfl rfl rfl rfl rfl ?_
                intro b p ys hep hrc
                exact ⟨_, rfl, Fr0.refl _, b, p, rfl, by rw [← show ys = [Value.int .i64 n] from hrc]; exact hep⟩
              refine D_cons (D_step2 (js := [(8, 62), (5, 59)]) (by kernel_rfl) fun gd hf => ?_) ?_
              · have hsd := hs.dr.call hf; have hfe := (G.le_dr _).trans hf.le
                refine QA_any fun v8 h8 => ?_; refine QA_eq rfl ?_
                refine QA_nil ?_
                obtain ⟨b, p, rfl, hep⟩ := h8
                refine D_yes rfl ?_
                refine OpR_loadE T.ok 0 rfl hep rfl rfl ?_
                refine ⟨_, rfl, Fr0.refl _, ?_⟩
                exact rfl
              refine D_cons (D_step2 (js := [(5, 59)]) (by kernel_rfl) fun gd hf => ?_) ?_
              · have hsd := hs.dr.call hf; have hfe := (G.le_dr _).trans hf.le
                refine QA_eq rfl ?_
                refine QA_nil ?_
                (refine D_yes rfl ?_; refine OpR_pure _ T.ok rfl ?_; refine ⟨_, rfl, Fr0.refl _, ?_⟩; exact rfl)
              refine D_cons (D_step2 (js := [(9, 63), (10, 64), (5, 59)]) (by kernel_rfl) fun gd hf => ?_) ?_
              · have hsd := hs.dr.call hf; have hfe := (G.le_dr _).trans hf.le
                refine QA_eq rfl ?_; refine QA_eq rfl ?_; refine QA_eq rfl ?_
                refine QA_nil ?_
                refine D_yes rfl ?_
                refine OpR_pure _ T.ok rfl ?_
                refine ⟨_, rfl, Fr0.refl _, ?_⟩
                exact congrArg Value.bool (decide_eq_false (by omega))
              refine D_cons (D_step2 (js := [(5, 59), (11, 65)]) (by kernel_rfl) fun gd hf => ?_) ?_
              · have hsd := hs.dr.call hf; have hfe := (G.le_dr _).trans hf.le
                refine QA_eq rfl ?_; refine QA_eq rfl ?_
                refine QA_nil ?_
                (refine D_yes rfl ?_; refine OpR_pure _ T.ok rfl ?_; refine ⟨_, rfl, Fr0.refl _, ?_⟩; exact rfl)
              refine D_cons (D_step2 (js := [(12, 66)]) (by kernel_rfl) fun gd hf => ?_) ?_
              · have hsd := hs.dr.call hf; have hfe := (G.le_dr _).trans hf.le
                refine QA_eq rfl ?_
                refine QA_nil ?_
                (refine D_yes rfl ?_; refine OpR_pure _ T.ok rfl ?_; refine ⟨_, rfl, Fr0.refl _, ?_⟩; exact rfl)
              refine D_cons (D_step2 (js := [(13, 67)]) (by kernel_rfl) fun gd hf => ?_) ?_
              · have hsd := hs.dr.call hf; have hfe := (G.le_dr _).trans hf.le
                refine QA_eq rfl ?_
                refine QA_nil ?_
                (refine D_yes rfl ?_; refine OpR_pure _ T.ok rfl ?_; refine ⟨_, rfl, Fr0.refl _, ?_⟩; exact rfl)
              refine D_cons (D_step2 (js := [(14, 68), (13, 67)]) (by kernel_rfl) fun gd hf => ?_) ?_
              · have hsd := hs.dr.call hf; have hfe := (G.le_dr _).trans hf.le
                refine QA_eq rfl ?_; refine QA_eq rfl ?_
                refine QA_nil ?_
                refine D_yes rfl ?_
                refine OpR_pure _ T.ok rfl ?_
                refine ⟨_, rfl, Fr0.refl _, ?_⟩
                exact congrArg Value.bool (decide_eq_false (by omega))
              refine D_cons (D_step2 (js := [(15, 69), (13, 67), (13, 67)]) (by kernel_rfl) fun gd hf => ?_) ?_
              · have hsd := hs.dr.call hf; have hfe := (G.le_dr _).trans hf.le
                refine QA_eq rfl ?_; refine QA_eq rfl ?_; refine QA_eq rfl ?_
                refine QA_nil ?_
                (refine D_yes rfl ?_; refine OpR_pure _ T.ok rfl ?_; refine ⟨_, rfl, Fr0.refl _, ?_⟩; exact rfl)
              refine D_cons (D_step2 (js := [(16, 70)]) (by kernel_rfl) fun gd hf => ?_) ?_
              · have hsd := hs.dr.call hf; have hfe := (G.le_dr _).trans hf.le
                refine QA_eq rfl ?_
                refine QA_nil ?_
                (refine D_no rfl ?_; exact rfl)
              refine D_cons (D_step2 (js := [(16, 70)]) (by kernel_rfl) fun gd hf => ?_) ?_
              · have hsd := hs.dr.call hf; have hfe := (G.le_dr _).trans hf.le
                refine QA_eq rfl ?_
                refine QA_nil ?_
                (refine D_no rfl ?_; exact rfl)
              refine D_cons (D_step2 (js := [(17, 71), (18, 72), (16, 70)]) (by kernel_rfl) fun gd hf => ?_) ?_
              · have hsd := hs.dr.call hf; have hfe := (G.le_dr _).trans hf.le
                refine QA_eq rfl ?_; refine QA_eq rfl ?_; refine QA_eq rfl ?_
                refine QA_nil ?_
                (refine D_no rfl ?_; exact rfl)
              refine D_cons (D_step2 (js := [(19, 73), (16, 70)]) (by kernel_rfl) fun gd hf => ?_) ?_
              · have hsd := hs.dr.call hf; have hfe := (G.le_dr _).trans hf.le
                refine QA_eq rfl ?_; refine QA_eq rfl ?_
                refine QA_nil ?_
                (refine D_no rfl ?_; exact rfl)
              refine D_cons (D_step2 (js := [(16, 70)]) (by kernel_rfl) fun gd hf => ?_) ?_
              · have hsd := hs.dr.call hf; have hfe := (G.le_dr _).trans hf.le
                refine QA_eq rfl ?_
                refine QA_nil ?_
                (refine D_no rfl ?_; exact rfl)
              refine D_cons (D_step2 (js := [(16, 70)]) (by kernel_rfl) fun gd hf => ?_) ?_
              · have hsd := hs.dr.call hf; have hfe := (G.le_dr _).trans hf.le
                refine QA_eq rfl ?_
                refine QA_nil ?_
                (refine D_no rfl ?_; exact rfl)
              refine D_cons (D_step2 (js := [(22, 76), (16, 70)]) (by kernel_rfl) fun gd hf => ?_) ?_
              · have hsd := hs.dr.call hf; have hfe := (G.le_dr _).trans hf.le
                refine QA_eq rfl ?_; refine QA_eq rfl ?_
                refine QA_nil ?_
                (refine D_no rfl ?_; exact rfl)
              refine D_cons (D_step2 (js := [(21, 75), (23, 77), (16, 70)]) (by kernel_rfl) fun gd hf => ?_) ?_
              · have hsd := hs.dr.call hf; have hfe := (G.le_dr _).trans hf.le
                refine QA_eq rfl ?_; refine QA_eq rfl ?_; refine QA_eq rfl ?_
                refine QA_nil ?_
                (refine D_no rfl ?_; exact rfl)
              refine D_cons (D_step2 (js := [(24, 78), (16, 70)]) (by kernel_rfl) fun gd hf => ?_) ?_
              · have hsd := hs.dr.call hf; have hfe := (G.le_dr _).trans hf.le
                refine QA_eq rfl ?_; refine QA_eq rfl ?_
                refine QA_nil ?_
                (refine D_no rfl ?_; exact rfl)
              refine D_cons (D_step2 (js := [(20, 74), (25, 79), (16, 70)]) (by kernel_rfl) fun gd hf => ?_) ?_
              · have hsd := hs.dr.call hf; have hfe := (G.le_dr _).trans hf.le
                refine QA_eq rfl ?_; refine QA_eq rfl ?_; refine QA_eq rfl ?_
                refine QA_nil ?_
                (refine D_no rfl ?_; exact rfl)
              refine D_cons (D_step2 (js := [(16, 70), (26, 80), (13, 67)]) (by kernel_rfl) fun gd hf => ?_) ?_
              · have hsd := hs.dr.call hf; have hfe := (G.le_dr _).trans hf.le
                refine QA_eq rfl ?_; refine QA_eq rfl ?_; refine QA_eq rfl ?_
                refine QA_nil ?_
                (refine D_yes rfl ?_; refine OpR_pure _ T.ok rfl ?_; refine ⟨_, rfl, Fr0.refl _, ?_⟩; exact rfl)
              refine D_cons (D_step2 (js := [(13, 67), (27, 81)]) (by kernel_rfl) fun gd hf => ?_) ?_
              · have hsd := hs.dr.call hf; have hfe := (G.le_dr _).trans hf.le
                refine QA_eq rfl ?_; refine QA_eq rfl ?_
                refine QA_nil ?_
                (refine D_yes rfl ?_; refine OpR_pure _ T.ok rfl ?_; refine ⟨_, rfl, Fr0.refl _, ?_⟩; exact rfl)
              exact D_nil
            intro g1 hf1; refine QA_eq rfl ?_; refine QA_nil ?_
            replace hs := hs.dr.call hf1; have hqe := (G.le_dr _).trans hf1.le; replace le3 := G.le.trans le3 hqe; replace le9 := G.le.trans le9 hqe; replace ep0 := ep0.mono hqe; replace rs3 := rs3.mono hqe
            refine WL_nil ?_; (with_reducible refine T_then ?_)
            refine W_no rfl rfl ?_
            refine W_skip ?_; (with_reducible refine T_then ?_); refine W_region ?_; (iterate 3 refine P1 T.ok rfl rfl rfl ?_)
            refine WL_o rfl rfl (OpR_idx T.ok rfl rs3 (y := n) hgi rfl rfl rfl rfl rfl rfl ?_)
            rintro b q ys hep rfl
            refine WL_o rfl rfl (OpR_loadE T.ok 0 rfl hep rfl rfl ?_)
            skip
            refine WL_o rfl rfl (OpR_idxR T.ok rfl (hs.own 0 _ rfl).1 hn0 (by omega) rfl rfl rfl rfl rfl rfl ?_)
            rintro b q hh; obtain ⟨rfl, rfl⟩ : ob = b ∧ 0 = q := by simpa using hh
            refine WL_n rfl (OpR_storeR T.ok 0 (n.toNat * 1) (us := [.bool true]) rfl hs rfl rfl rfl rfl rfl rfl rfl (by decide) (by simp; omega) (set_spl _ _ Value.bool true (by omega)) ?_)
            rintro g9 hs hqe; replace le3 := G.le.trans le3 hqe; replace le9 := G.le.trans le9 hqe; replace ep0 := ep0.mono hqe; replace rs3 := rs3.mono hqe
            refine WL_nil ?_; (with_reducible refine T_bn ?_); (with_reducible refine T_then ?_); refine W_region ?_; (iterate 3 refine P1 T.ok rfl rfl rfl ?_); refine WL_nil ?_
            exact fun a ha => ⟨l.length - (i + 1), by omega, i + 1, _, rfl, by rw [hsn]; exact hs, le3, by omega, rfl, .inr rfl, ha.keep ⟨rfl, rfl, rfl, rfl, rfl, rfl, rfl, rfl, kI rfl (by rw [wr (by omega) (by omega)]; omega), trivial⟩⟩
          · have hi1 : i - 1 < l.length := by omega
            have hlt1 := hsort hi1 (by omega)
            have hgi1 := geti_of (xs := l) (n := ((i - 1 : Nat) : Int)) rfl hi1
            generalize hne1 : l[i - 1] = n1 at *
            apply W_draw allF rfl (Fact.eq _ :: Fact.eq _ :: (intPtr n) :: Fact.eq _ :: Fact.eq _ :: Fact.eq _ :: Fact.eq _ :: Fact.eq _ :: (intPtr n) :: Fact.eq _ :: Fact.eq _ :: Fact.eq _ :: Fact.eq _ :: Fact.eq _ :: Fact.eq _ :: Fact.eq _ :: Fact.eq _ :: Fact.eq _ :: Fact.eq _ :: (intPtr n) :: Fact.eq _ :: Fact.eq _ :: Fact.eq _ :: Fact.eq _ :: (intPtr n1) :: Fact.eq _ :: Fact.eq _ :: Fact.eq _ :: Fact.eq _ :: []) 29 [(28, 82)] rfl rfl
            · refine D_cons (D_step2 (js := []) (by kernel_rfl) fun gd hf => ?_) ?_
              · have hsd := hs.dr.call hf; have hfe := (G.le_dr _).trans hf.le
                refine QA_nil ?_
                (refine D_yes rfl ?_; refine OpR_pure _ T.ok rfl ?_; refine ⟨_, rfl, Fr0.refl _, ?_⟩; exact rfl)
              refine D_cons (D_step2 (js := []) (by kernel_rfl) fun gd hf => ?_) ?_
              · have hsd := hs.dr.call hf; have hfe := (G.le_dr _).trans hf.le
                refine QA_nil ?_
                (refine D_yes rfl ?_; refine OpR_pure _ T.ok rfl ?_; refine ⟨_, rfl, Fr0.refl _, ?_⟩; exact rfl)
              refine D_cons (D_step2 (js := [(0, 54), (1, 55)]) (by kernel_rfl) fun gd hf => ?_) ?_
              · have hsd := hs.dr.call hf; have hfe := (G.le_dr _).trans hf.le
                refine QA_eq rfl ?_; refine QA_eq rfl ?_
                refine QA_nil ?_
                refine D_yes rfl ?_
                refine OpR_idx T.ok rfl (rs3.mono hfe) (y := n) hgi rfl rfl rfl rfl rfl rfl ?_
                intro b p ys hep hrc
                exact ⟨_, rfl, Fr0.refl _, b, p, rfl, by rw [← show ys = [Value.int .i64 n] from hrc]; exact hep⟩
              refine D_cons (D_step2 (js := [(2, 56)]) (by kernel_rfl) fun gd hf => ?_) ?_
              · have hsd := hs.dr.call hf; have hfe := (G.le_dr _).trans hf.le
                refine QA_any fun v2 h2 => ?_
                refine QA_nil ?_
                obtain ⟨b, p, rfl, hep⟩ := h2
                refine D_yes rfl ?_
                refine OpR_loadE T.ok 0 rfl hep rfl rfl ?_
                refine ⟨_, rfl, Fr0.refl _, ?_⟩
                exact rfl
              refine D_cons (D_step2 (js := [(3, 57)]) (by kernel_rfl) fun gd hf => ?_) ?_
              · have hsd := hs.dr.call hf; have hfe := (G.le_dr _).trans hf.le
                refine QA_eq rfl ?_
                refine QA_nil ?_
                refine D_yes rfl ?_
                refine OpR_pure _ T.ok rfl ?_
                refine ⟨_, rfl, Fr0.refl _, ?_⟩
                exact congrArg Value.bool (decide_eq_false (by omega))
              refine D_cons (D_step2 (js := [(4, 58)]) (by kernel_rfl) fun gd hf => ?_) ?_
              · have hsd := hs.dr.call hf; have hfe := (G.le_dr _).trans hf.le
                refine QA_eq rfl ?_
                refine QA_nil ?_
                (refine D_yes rfl ?_; refine OpR_pure _ T.ok rfl ?_; refine ⟨_, rfl, Fr0.refl _, ?_⟩; exact rfl)
              refine D_cons (D_step2 (js := [(5, 59)]) (by kernel_rfl) fun gd hf => ?_) ?_
              · have hsd := hs.dr.call hf; have hfe := (G.le_dr _).trans hf.le
                refine QA_eq rfl ?_
                refine QA_nil ?_
                (refine D_yes rfl ?_; refine OpR_pure _ T.ok rfl ?_; refine ⟨_, rfl, Fr0.refl _, ?_⟩; exact rfl)
              refine D_cons (D_step2 (js := [(5, 59)]) (by kernel_rfl) fun gd hf => ?_) ?_
              · have hsd := hs.dr.call hf; have hfe := (G.le_dr _).trans hf.le
                refine QA_eq rfl ?_
                refine QA_nil ?_
                (refine D_yes rfl ?_; refine OpR_pure _ T.ok rfl ?_; refine ⟨_, rfl, Fr0.refl _, ?_⟩; exact rfl)
              refine D_cons (D_step2 (js := [(6, 60), (7, 61), (5, 59)]) (by kernel_rfl) fun gd hf => ?_) ?_
              · have hsd := hs.dr.call hf; have hfe := (G.le_dr _).trans hf.le
                refine QA_eq rfl ?_; refine QA_eq rfl ?_; refine QA_eq rfl ?_
                refine QA_nil ?_
                refine D_yes rfl ?_
                refine OpR_idx T.ok rfl (rs3.mono hfe) (y := n) hgi rfl rfl rfl rfl rfl rfl ?_
                intro b p ys hep hrc
                exact ⟨_, rfl, Fr0.refl _, b, p, rfl, by rw [← show ys = [Value.int .i64 n] from hrc]; exact hep⟩
              refine D_cons (D_step2 (js := [(8, 62), (5, 59)]) (by kernel_rfl) fun gd hf => ?_) ?_
              · have hsd := hs.dr.call hf; have hfe := (G.le_dr _).trans hf.le
                refine QA_any fun v8 h8 => ?_; refine QA_eq rfl ?_
                refine QA_nil ?_
                obtain ⟨b, p, rfl, hep⟩ := h8
                refine D_yes rfl ?_
                refine OpR_loadE T.ok 0 rfl hep rfl rfl ?_
                refine ⟨_, rfl, Fr0.refl _, ?_⟩
                exact rfl
              refine D_cons (D_step2 (js := [(5, 59)]) (by kernel_rfl) fun gd hf => ?_) ?_
              · have hsd := hs.dr.call hf; have hfe := (G.le_dr _).trans hf.le
                refine QA_eq rfl ?_
                refine QA_nil ?_
                (refine D_yes rfl ?_; refine OpR_pure _ T.ok rfl ?_; refine ⟨_, rfl, Fr0.refl _, ?_⟩; exact rfl)
              refine D_cons (D_step2 (js := [(9, 63), (10, 64), (5, 59)]) (by kernel_rfl) fun gd hf => ?_) ?_
              · have hsd := hs.dr.call hf; have hfe := (G.le_dr _).trans hf.le
                refine QA_eq rfl ?_; refine QA_eq rfl ?_; refine QA_eq rfl ?_
                refine QA_nil ?_
                refine D_yes rfl ?_
                refine OpR_pure _ T.ok rfl ?_
                refine ⟨_, rfl, Fr0.refl _, ?_⟩
                exact congrArg Value.bool (decide_eq_false (by omega))
              refine D_cons (D_step2 (js := [(5, 59), (11, 65)]) (by kernel_rfl) fun gd hf => ?_) ?_
              · have hsd := hs.dr.call hf; have hfe := (G.le_dr _).trans hf.le
                refine QA_eq rfl ?_; refine QA_eq rfl ?_
                refine QA_nil ?_
                (refine D_yes rfl ?_; refine OpR_pure _ T.ok rfl ?_; refine ⟨_, rfl, Fr0.refl _, ?_⟩; exact rfl)
              refine D_cons (D_step2 (js := [(12, 66)]) (by kernel_rfl) fun gd hf => ?_) ?_
              · have hsd := hs.dr.call hf; have hfe := (G.le_dr _).trans hf.le
                refine QA_eq rfl ?_
                refine QA_nil ?_
                (refine D_yes rfl ?_; refine OpR_pure _ T.ok rfl ?_; refine ⟨_, rfl, Fr0.refl _, ?_⟩; exact rfl)
              refine D_cons (D_step2 (js := [(13, 67)]) (by kernel_rfl) fun gd hf => ?_) ?_
              · have hsd := hs.dr.call hf; have hfe := (G.le_dr _).trans hf.le
                refine QA_eq rfl ?_
                refine QA_nil ?_
                (refine D_yes rfl ?_; refine OpR_pure _ T.ok rfl ?_; refine ⟨_, rfl, Fr0.refl _, ?_⟩; exact rfl)
              refine D_cons (D_step2 (js := [(14, 68), (13, 67)]) (by kernel_rfl) fun gd hf => ?_) ?_
              · have hsd := hs.dr.call hf; have hfe := (G.le_dr _).trans hf.le
                refine QA_eq rfl ?_; refine QA_eq rfl ?_
                refine QA_nil ?_
                refine D_yes rfl ?_
                refine OpR_pure _ T.ok rfl ?_
                refine ⟨_, rfl, Fr0.refl _, ?_⟩
                exact congrArg Value.bool (decide_eq_true (by omega))
              refine D_cons (D_step2 (js := [(15, 69), (13, 67), (13, 67)]) (by kernel_rfl) fun gd hf => ?_) ?_
              · have hsd := hs.dr.call hf; have hfe := (G.le_dr _).trans hf.le
                refine QA_eq rfl ?_; refine QA_eq rfl ?_; refine QA_eq rfl ?_
                refine QA_nil ?_
                (refine D_yes rfl ?_; refine OpR_pure _ T.ok rfl ?_; refine ⟨_, rfl, Fr0.refl _, ?_⟩; exact rfl)
              refine D_cons (D_step2 (js := [(16, 70)]) (by kernel_rfl) fun gd hf => ?_) ?_
              · have hsd := hs.dr.call hf; have hfe := (G.le_dr _).trans hf.le
                refine QA_eq rfl ?_
                refine QA_nil ?_
                (refine D_yes rfl ?_; refine OpR_pure _ T.ok rfl ?_; refine ⟨_, rfl, Fr0.refl _, ?_⟩; exact rfl)
              refine D_cons (D_step2 (js := [(16, 70)]) (by kernel_rfl) fun gd hf => ?_) ?_
              · have hsd := hs.dr.call hf; have hfe := (G.le_dr _).trans hf.le
                refine QA_eq rfl ?_
                refine QA_nil ?_
                (refine D_yes rfl ?_; refine OpR_pure _ T.ok rfl ?_; refine ⟨_, rfl, Fr0.refl _, ?_⟩; exact rfl)
              refine D_cons (D_step2 (js := [(17, 71), (18, 72), (16, 70)]) (by kernel_rfl) fun gd hf => ?_) ?_
              · have hsd := hs.dr.call hf; have hfe := (G.le_dr _).trans hf.le
                refine QA_eq rfl ?_; refine QA_eq rfl ?_; refine QA_eq rfl ?_
                refine QA_nil ?_
                refine D_yes rfl ?_
                refine OpR_idx T.ok rfl (rs3.mono hfe) (y := n) hgi rfl rfl rfl rfl rfl rfl ?_
                intro b p ys hep hrc
                exact ⟨_, rfl, Fr0.refl _, b, p, rfl, by rw [← show ys = [Value.int .i64 n] from hrc]; exact hep⟩
              refine D_cons (D_step2 (js := [(19, 73), (16, 70)]) (by kernel_rfl) fun gd hf => ?_) ?_
              · have hsd := hs.dr.call hf; have hfe := (G.le_dr _).trans hf.le
                refine QA_any fun v19 h19 => ?_; refine QA_eq rfl ?_
                refine QA_nil ?_
                obtain ⟨b, p, rfl, hep⟩ := h19
                refine D_yes rfl ?_
                refine OpR_loadE T.ok 0 rfl hep rfl rfl ?_
                refine ⟨_, rfl, Fr0.refl _, ?_⟩
                exact rfl
              refine D_cons (D_step2 (js := [(16, 70)]) (by kernel_rfl) fun gd hf => ?_) ?_
              · have hsd := hs.dr.call hf; have hfe := (G.le_dr _).trans hf.le
                refine QA_eq rfl ?_
                refine QA_nil ?_
                (refine D_yes rfl ?_; refine OpR_pure _ T.ok rfl ?_; refine ⟨_, rfl, Fr0.refl _, ?_⟩; exact rfl)
              refine D_cons (D_step2 (js := [(16, 70)]) (by kernel_rfl) fun gd hf => ?_) ?_
              · have hsd := hs.dr.call hf; have hfe := (G.le_dr _).trans hf.le
                refine QA_eq rfl ?_
                refine QA_nil ?_
                (refine D_yes rfl ?_; refine OpR_pure _ T.ok rfl ?_; refine ⟨_, rfl, Fr0.refl _, ?_⟩; exact rfl)
              refine D_cons (D_step2 (js := [(22, 76), (16, 70)]) (by kernel_rfl) fun gd hf => ?_) ?_
              · have hsd := hs.dr.call hf; have hfe := (G.le_dr _).trans hf.le
                refine QA_eq rfl ?_; refine QA_eq rfl ?_
                refine QA_nil ?_
                refine D_yes rfl ?_
                refine OpR_pure _ T.ok rfl ?_
                refine ⟨_, rfl, Fr0.refl _, ?_⟩
                exact congrArg (Value.int .i64) (show _ = ((i - 1 : Nat) : Int) from by rw [wr (by omega) (by omega)]; omega)
              refine D_cons (D_step2 (js := [(21, 75), (23, 77), (16, 70)]) (by kernel_rfl) fun gd hf => ?_) ?_
              · have hsd := hs.dr.call hf; have hfe := (G.le_dr _).trans hf.le
                refine QA_eq rfl ?_; refine QA_eq rfl ?_; refine QA_eq rfl ?_
                refine QA_nil ?_
                refine D_yes rfl ?_
                refine OpR_idx T.ok rfl (rs3.mono hfe) (y := n1) hgi1 rfl rfl rfl rfl rfl rfl ?_
                intro b p ys hep hrc
                exact ⟨_, rfl, Fr0.refl _, b, p, rfl, by rw [← show ys = [Value.int .i64 n1] from hrc]; exact hep⟩
              refine D_cons (D_step2 (js := [(24, 78), (16, 70)]) (by kernel_rfl) fun gd hf => ?_) ?_
              · have hsd := hs.dr.call hf; have hfe := (G.le_dr _).trans hf.le
                refine QA_any fun v24 h24 => ?_; refine QA_eq rfl ?_
                refine QA_nil ?_
                obtain ⟨b, p, rfl, hep⟩ := h24
                refine D_yes rfl ?_
                refine OpR_loadE T.ok 0 rfl hep rfl rfl ?_
                refine ⟨_, rfl, Fr0.refl _, ?_⟩
                exact rfl
              refine D_cons (D_step2 (js := [(20, 74), (25, 79), (16, 70)]) (by kernel_rfl) fun gd hf => ?_) ?_
              · have hsd := hs.dr.call hf; have hfe := (G.le_dr _).trans hf.le
                refine QA_eq rfl ?_; refine QA_eq rfl ?_; refine QA_eq rfl ?_
                refine QA_nil ?_
                refine D_yes rfl ?_
                refine OpR_pure _ T.ok rfl ?_
                refine ⟨_, rfl, Fr0.refl _, ?_⟩
                exact congrArg Value.bool (decide_eq_false (by omega))
              refine D_cons (D_step2 (js := [(16, 70), (26, 80), (13, 67)]) (by kernel_rfl) fun gd hf => ?_) ?_
              · have hsd := hs.dr.call hf; have hfe := (G.le_dr _).trans hf.le
                refine QA_eq rfl ?_; refine QA_eq rfl ?_; refine QA_eq rfl ?_
                refine QA_nil ?_
                (refine D_yes rfl ?_; refine OpR_pure _ T.ok rfl ?_; refine ⟨_, rfl, Fr0.refl _, ?_⟩; exact rfl)
              refine D_cons (D_step2 (js := [(13, 67), (27, 81)]) (by kernel_rfl) fun gd hf => ?_) ?_
              · have hsd := hs.dr.call hf; have hfe := (G.le_dr _).trans hf.le
                refine QA_eq rfl ?_; refine QA_eq rfl ?_
                refine QA_nil ?_
                (refine D_yes rfl ?_; refine OpR_pure _ T.ok rfl ?_; refine ⟨_, rfl, Fr0.refl _, ?_⟩; exact rfl)
              exact D_nil
            intro g1 hf1; refine QA_eq rfl ?_; refine QA_nil ?_
            replace hs := hs.dr.call hf1; have hqe := (G.le_dr _).trans hf1.le; replace le3 := G.le.trans le3 hqe; replace le9 := G.le.trans le9 hqe; replace ep0 := ep0.mono hqe; replace rs3 := rs3.mono hqe
            refine WL_nil ?_; (with_reducible refine T_then ?_)
            refine W_no rfl rfl ?_
            refine W_skip ?_; (with_reducible refine T_then ?_); refine W_region ?_; (iterate 3 refine P1 T.ok rfl rfl rfl ?_)
            refine WL_o rfl rfl (OpR_idx T.ok rfl rs3 (y := n) hgi rfl rfl rfl rfl rfl rfl ?_)
            rintro b q ys hep rfl
            refine WL_o rfl rfl (OpR_loadE T.ok 0 rfl hep rfl rfl ?_)
            skip
            refine WL_o rfl rfl (OpR_idxR T.ok rfl (hs.own 0 _ rfl).1 hn0 (by omega) rfl rfl rfl rfl rfl rfl ?_)
            rintro b q hh; obtain ⟨rfl, rfl⟩ : ob = b ∧ 0 = q := by simpa using hh
            refine WL_n rfl (OpR_storeR T.ok 0 (n.toNat * 1) (us := [.bool true]) rfl hs rfl rfl rfl rfl rfl rfl rfl (by decide) (by simp; omega) (set_spl _ _ Value.bool true (by omega)) ?_)
            rintro g9 hs hqe; replace le3 := G.le.trans le3 hqe; replace le9 := G.le.trans le9 hqe; replace ep0 := ep0.mono hqe; replace rs3 := rs3.mono hqe
            refine WL_nil ?_; (with_reducible refine T_bn ?_); (with_reducible refine T_then ?_); refine W_region ?_; (iterate 3 refine P1 T.ok rfl rfl rfl ?_); refine WL_nil ?_
            exact fun a ha => ⟨l.length - (i + 1), by omega, i + 1, _, rfl, by rw [hsn]; exact hs, le3, by omega, rfl, .inr rfl, ha.keep ⟨rfl, rfl, rfl, rfl, rfl, rfl, rfl, rfl, kI rfl (by rw [wr (by omega) (by omega)]; omega), trivial⟩⟩
      · refine WL_know 46 (b' := false) (decide_eq_false (by omega)) rfl ?_
        rw [List.take_of_length_le (by omega)] at hs
        have hks2 : roundTo f o1 (k + 1) = setAll l o2 := by
          rw [hks]
          split
          · rfl
          · rename_i h
            have : i = 0 := hno.resolve_right h
            have : l = [] := List.eq_nil_of_length_eq_zero (by omega)
            subst this; rfl
        (iterate 4 refine S1 allF rfl rfl ?_); refine P1 T.ok rfl rfl rfl ?_; refine WL_nil ?_; (with_reducible refine T_then ?_)
        refine W_no rfl rfl ?_
        refine W_exit ?_; (with_reducible refine T_tx ?_; with_reducible refine T_tx ?_); (with_reducible refine T_bx ?_); (with_reducible refine T_bn ?_); (with_reducible refine T_then ?_); refine W_region ?_; (iterate 3 refine P1 T.ok rfl rfl rfl ?_); refine WL_nil ?_
        exact fun a ha => ⟨f.steps.length - (k + 1), by omega, k + 1, _, rfl, by rw [hks2]; exact hs, le9, by omega, rfl, ha.keep ⟨rfl, rfl, rfl, rfl, rfl, rfl, kI rfl (by rw [wr (by omega) (by omega)]; omega), trivial⟩⟩
    · refine W_no (b := decide ((k : Int) < (f.steps.length : Int))) (decide_eq_false (by omega)) rfl ?_
      obtain rfl : k = f.steps.length := by omega
      refine W_exit ?_; (with_reducible refine T_tx ?_; with_reducible refine T_tx ?_); (with_reducible refine T_bx ?_); (with_reducible refine T_bn ?_); (with_reducible refine T_then ?_); refine W_region ?_; (iterate 3 refine P1 T.ok rfl rfl rfl ?_); refine WL_nil ?_
      exact fun a ha => ⟨f.steps.length - (r + 1), by omega, r + 1, _, rfl, by rw [hrs]; exact hs, le8, by omega, rfl, ha.keep ⟨rfl, rfl, rfl, rfl, rfl, kI rfl (by rw [wr (by omega) (by omega)]; omega), trivial⟩⟩
  · refine W_no (b := decide ((r : Int) < (f.steps.length : Int))) (decide_eq_false (by omega)) rfl ?_
    obtain rfl : r = f.steps.length := by omega
    rw [hlaw] at hs
    have hrel := reached_len f p
    have hreach : reach f p = trues 0 (reached f p) := by unfold reach; rw [if_pos (given_one.2 ⟨hval, h1⟩)]
    generalize hree : reached f p = re at *
    have fl0 := fl0c.mono le8; have ep0 := ep0c.mono le8
    refine W_exit ?_; (with_reducible refine T_tx ?_; with_reducible refine T_tx ?_); (with_reducible refine T_bx ?_); (with_reducible refine T_then ?_); refine W_seq ?_; refine W_region ?_; refine P1 T.ok rfl rfl rfl ?_; refine WL_nil ?_; (with_reducible refine T_then ?_); refine W_seq ?_; refine W_seq ?_; refine W_region ?_; refine P1 T.ok rfl rfl rfl ?_; refine WL_nil ?_; (with_reducible refine T_then ?_); refine W_block ?_
    replace hs := hs.nilrow 3 1 none
    have le9 := G.le.refl g2; have fl0d := fl0; have ep0d := ep0
    refine W_loop (fun m a' w => ∃ (k : Nat) (nv : Value) (g3 : G), w = g3.w ∧ St g g3 [.row 3 1 nv (trues 0 (re.take k)).length (ints (trues 0 (re.take k))), rowB ob f.steps.length re] ∧ G.le g2 g3 ∧ k ≤ f.steps.length ∧ m = f.steps.length - k ∧
        Fr 110 [] [(1, .int .i64 p), (5, .bool true), (6, .pointer (some ⟨bf, 0, none⟩)), (7, .int .i64 f.steps.length), (8, .slice (some ⟨ob, 0, none⟩) f.steps.length f.steps.length), (13, nv), (14, .int .i64 k)] a') f.steps.length
      (fun a' ha => ⟨0, _, g2, rfl, hs, le9, Nat.zero_le _, rfl, ha.keep (by (repeat (first | exact trivial | refine ⟨rfl, ?_⟩)))⟩) ?_
    clear hs le9 fl0 ep0 le8
    rintro m a' _ ⟨k, nv, g3, rfl, hs, le9, hk, rfl, ha'⟩
    have fl0 := fl0d.mono le9; have ep0 := ep0d.mono le9
    obtain ⟨na, nc, rfl⟩ := (hs.own 0 _ rfl).1.form
    revert a'
    (with_reducible refine T_wp ?_); refine W_seq ?_; refine W_seq ?_; refine W_region ?_; (iterate 3 refine P1 T.ok rfl rfl rfl ?_); refine WL_nil ?_; (with_reducible refine T_then ?_)
    by_cases hlk : k < f.steps.length
    · refine W_yes (b := decide ((k : Int) < (f.steps.length : Int))) (decide_eq_true (by omega)) rfl ?_
      have hkr : k < re.length := by omega
      have hts := trues_snoc re k hkr
      have htl := trues_len (re.take k) 0
      rw [List.length_take] at htl
      refine W_skip ?_; (with_reducible refine T_then ?_); refine W_seq ?_; refine W_block ?_; refine W_seq ?_; refine W_region ?_; refine P1 T.ok rfl rfl rfl ?_; refine P1 T.ok rfl rfl rfl ?_
      refine WL_o rfl rfl (OpR_idxR T.ok rfl (hs.own 1 _ rfl).1 (by omega) (by omega) rfl rfl rfl rfl rfl rfl ?_)
      rintro b q hh; obtain ⟨rfl, rfl⟩ : ob = b ∧ 0 = q := by simpa using hh
      refine WL_o rfl rfl (OpR_loadR T.ok ((k : Int).toNat * 1) rfl (hs.own 1 _ rfl).1 rfl (v := .bool re[k]) (by show (List.map Value.bool _)[(k : Int).toNat * 1]? = _; rw [Nat.mul_one, List.getElem?_map, Int.toNat_natCast, List.getElem?_eq_getElem hkr]; rfl) ?_)
      refine WL_nil ?_; (with_reducible refine T_then ?_)
      cases hb : re[k] with
      | false =>
        rw [hb] at hts
        simp only [Bool.false_eq_true, if_false, List.append_nil] at hts
        refine W_no rfl rfl ?_
        refine W_skip ?_; (with_reducible refine T_bn ?_); (with_reducible refine T_then ?_); refine W_region ?_; (iterate 3 refine P1 T.ok rfl rfl rfl ?_); refine WL_nil ?_
        exact fun a ha => ⟨f.steps.length - (k + 1), by omega, k + 1, .slice na (trues 0 (re.take k)).length nc, _, rfl, by rw [hts]; exact hs, le9, by omega, rfl, ha.keep ⟨rfl, rfl, rfl, rfl, rfl, rfl, kI rfl (by rw [wr (by omega) (by omega)]; omega), trivial⟩⟩
      | true =>
        rw [hb] at hts
        simp only [if_true] at hts
        refine W_yes rfl rfl ?_
        refine W_region ?_; refine P1 T.ok rfl rfl rfl ?_; refine P1 T.ok rfl rfl rfl ?_
        refine WL_o rfl rfl (OpR_lit T.ok rfl hs (vs := [(0, .int .i64 (k : Int))]) (cells := [.int .i64 (k : Int)]) rfl rfl rfl rfl rfl rfl (by decide) (by decide) (by kernel_rfl) rfl ?_); rintro b2 g4 hs hqe; replace le9 := G.le.trans le9 hqe; replace ep0 := ep0.mono hqe; replace fl0 := fl0.mono hqe
        skip
        refine WL_o rfl rfl (OpR_append T.ok 1 rfl hs rfl rfl rfl rfl rfl rfl rfl (by decide) rfl (Src.of_row (hs.own 0 _ rfl).1).2 (by simp [Value.oneCell']) (by show ((trues 0 (re.take k)).length + 1) * 8 ≤ _; omega) (by unfold maxLen; omega) ?_); rintro a9 c9 g8 hs hqe; replace le9 := G.le.trans le9 hqe; replace ep0 := ep0.mono hqe; replace fl0 := fl0.mono hqe
        refine P1 T.ok rfl rfl rfl ?_; refine WL_nil ?_; (with_reducible refine T_bn ?_); (with_reducible refine T_then ?_); refine W_region ?_; (iterate 3 refine P1 T.ok rfl rfl rfl ?_); refine WL_nil ?_
        have hs2 : St g _ [.row 3 1 (.slice a9 ((trues 0 (re.take k)).length + 1) c9) ((trues 0 (re.take k)).length + 1) (ints (trues 0 (re.take k)) ++ [Value.int .i64 (k : Int)]), rowB ob f.steps.length re] := hs.re [1, 2] (by decide) rfl
        have hln : (trues 0 (re.take (k + 1))).length = (trues 0 (re.take k)).length + 1 := by rw [hts]; simp
        have hin : ints (trues 0 (re.take (k + 1))) = ints (trues 0 (re.take k)) ++ [Value.int .i64 (k : Int)] := by rw [hts]; simp [ints]
        exact fun a ha => ⟨f.steps.length - (k + 1), by omega, k + 1, .slice a9 ((trues 0 (re.take k)).length + 1) c9, _, rfl, by rw [hln, hin]; exact hs2, le9, by omega, rfl, ha.keep ⟨rfl, rfl, rfl, rfl, rfl, rfl, kI rfl (by rw [wr (by omega) (by omega)]; omega), trivial⟩⟩
    · refine W_no (b := decide ((k : Int) < (f.steps.length : Int))) (decide_eq_false (by omega)) rfl ?_
      rw [List.take_of_length_le (by omega)] at *
      obtain ⟨gy, hwy, hsy, hqy, rs4⟩ := hs.fzRow (α := Int) (xs := trues 0 re) (i := 0) rfl (RcL.ints _ _)
      have hqe := hqy; rw [← hwy]; replace hs := hsy; clear hsy; replace le9 := G.le.trans le9 hqe; replace ep0 := ep0.mono hqe; replace fl0 := fl0.mono hqe
      refine W_exit ?_; (with_reducible refine T_tx ?_; with_reducible refine T_tx ?_); (with_reducible refine T_bx ?_); (with_reducible refine T_then ?_); refine W_seq ?_; refine W_region ?_; refine P1 T.ok rfl rfl rfl ?_; refine P1 T.ok rfl rfl rfl ?_; refine WL_o rfl rfl (OpR_loadE T.ok 0 rfl ep0 rfl rfl ?_); refine P1 T.ok rfl rfl rfl ?_
      refine WL_o rfl rfl (OpR_ret cl29 allF rfl rfl rfl rfl rfl (reach_c _ f p _ fl0) ?_); rintro g1 vo hf1 hvo; obtain ⟨gz, hwz, hsz, hqz, rs3⟩ := hs.ownRs hf1 hvo; have hqe := hf1.le.trans hqz; rw [← hwz]; replace hs := hsz; clear hsz hvo; replace le9 := G.le.trans le9 hqe; replace ep0 := ep0.mono hqe; replace rs4 := rs4.mono hqe; replace fl0 := fl0.mono hqe
      refine P1 T.ok rfl rfl rfl ?_
      refine WL_o rfl rfl (OpR_ret cl17 allF rfl rfl rfl rfl rfl (same_c _ _ _ _ _ rs3 rs4) ?_); rintro g1 _ hf1 rfl; replace hs := hs.call hf1; have hqe := hf1.le; replace le9 := G.le.trans le9 hqe; replace ep0 := ep0.mono hqe; replace rs3 := rs3.mono hqe; replace rs4 := rs4.mono hqe; replace fl0 := fl0.mono hqe
      refine WL_rep (.bool true) (t := 108) rfl (congrArg Value.bool (decide_eq_true hreach)) ?_
      refine P1 T.ok rfl rfl rfl ?_; refine P1 T.ok rfl rfl rfl ?_; refine WL_nil ?_; (with_reducible refine T_then ?_)
      exact W_ret (ret1 rfl rfl (hs.ret rfl))
end Go.Proofs.Ytijmlfmapfhabaa

/- The walk through the statement GraphAdded. -/
namespace Go.Proofs.Ytijmlfmapfhabaa
open Go Go.K
set_option maxRecDepth 10000
attribute [local irreducible] W WL OpR
set_option maxHeartbeats 4000000









theorem lawadded_c (v : Value) (x : List Y6) (a1 a2 a3 a4 : Int) (g : G) (rs0 : Rs g v x) (hx : ∀ y ∈ x, y.fit) (ha1 : I64 a1) (ha2 : I64 a2) (ha3 : I64 a3) (ha4 : I64 a4) :
    CallsIn Wd 0 Try.prog 10 #[v, .int .i64 a1, .int .i64 a2, .int .i64 a3, .int .i64 a4] g.w (Ret g fun _ r => r = .bool true) := by
  have hs := St.start g
  have le0 := G.le.refl g
  refine enter Try.func10 rfl Try.ntmps10 rfl ?_
  refine W_seq ?_; refine W_region ?_; refine P1 T.ok rfl rfl rfl ?_; refine WL_nil ?_; (with_reducible refine T_then ?_); refine W_seq ?_; refine W_region ?_
  refine WL_o rfl rfl (OpR_ret cl12 allF rfl rfl rfl rfl rfl (sane_c _) ?_); rintro g1 _ hf1 rfl; replace hs := hs.call hf1; have hqe := hf1.le; replace le0 := G.le.trans le0 hqe; replace rs0 := rs0.mono hqe
  refine P1 T.ok rfl rfl rfl ?_; refine WL_nil ?_; (with_reducible refine T_then ?_); refine W_seq ?_; refine W_region ?_; refine P1 T.ok rfl rfl rfl ?_
  refine WL_o rfl rfl (OpR_ret cl14 allF rfl rfl rfl rfl rfl (made_c _ x _ rs0 hx) ?_); rintro g1 _ hf1 ⟨sa, sn, sc, wa, wn, wc, cells, rfl, hh, rc0, rs2⟩
  replace hs := hs.getOwn hf1 hh; have hqe := hf1.le
  replace le0 := le0.trans hqe; replace rs0 := rs0.mono hqe; clear hh
  obtain ⟨gz, hwz, hsz, hqz, rs1⟩ := hs.fzRow (α := Step) (i := 0) rfl rc0
  clear hqe; have hqe := hqz; rw [← hwz]; replace hs := hsz; clear hsz rc0; replace le0 := G.le.trans le0 hqe; replace rs0 := rs0.mono hqe; replace rs2 := rs2.mono hqe
  have hval := made_valid x
  have hn40 := valid_n hval
  have hmr : ∀ c, InR (made x) (pickM c (made x).steps.length) := fun c => made_inR x
  generalize hfe : made x = f at *
  obtain ⟨_, _, e⟩ := rs1.isSlice; obtain ⟨rfl, rfl, rfl⟩ := Value.slice.inj e; clear e
  have fl0 : RFlow gz (.agg #[.int .i64 f.moveMin, .int .i64 f.moveMax, .slice sa f.steps.length sc, .slice wa wn wc]) f := ⟨_, _, _, _, _, _, rfl, rs1, rs2⟩
  skip
  refine WL_o rfl rfl (OpR_alloc T.ok rfl hs rfl rfl ?_); clear hs; rintro bf g1 hs hqe; replace le0 := G.le.trans le0 hqe; replace rs0 := rs0.mono hqe; replace rs1 := rs1.mono hqe; replace rs2 := rs2.mono hqe; replace fl0 := fl0.mono hqe
  skip
  refine WL_n rfl (OpR_storeO T.ok 0 rfl hs rfl rfl rfl rfl rfl rfl rfl rfl rfl ?_); replace hs := hs; rintro g1 hs hqe; replace le0 := G.le.trans le0 hqe; replace rs0 := rs0.mono hqe; replace rs1 := rs1.mono hqe; replace rs2 := rs2.mono hqe; replace fl0 := fl0.mono hqe
  obtain ⟨g2, hw2, hs2, hqe, hep⟩ := hs.fzObj (i := 0) rfl; replace hs := hs2; clear hs2; rw [← hw2]; replace le0 := G.le.trans le0 hqe; replace rs0 := rs0.mono hqe; replace rs1 := rs1.mono hqe; replace rs2 := rs2.mono hqe; replace fl0 := fl0.mono hqe
  have ep0 := hep; clear hep
  refine WL_nil ?_; (with_reducible refine T_then ?_); refine W_seq ?_; refine W_region ?_; refine P1 T.ok rfl rfl rfl ?_
  have hmade := fun g (rs0 : Rs g v x) => made_c v x g rs0 hx
  rw [hfe] at hmade
  refine WL_o rfl rfl (OpR_ret cl14 allF rfl rfl rfl rfl rfl (hmade _ rs0) ?_); rintro g1 _ hf1 ⟨sa2, sn2, sc2, wa2, wn2, wc2, cells2, rfl, hh, rc0, rw2⟩
  replace hs := hs.getOwn hf1 hh; have hqe := hf1.le
  obtain ⟨rfl, _⟩ := Src.of_row hh.1
  replace le0 := le0.trans hqe; replace rs0 := rs0.mono hqe; replace fl0 := fl0.mono hqe; replace ep0 := ep0.mono hqe; replace rs1 := rs1.mono hqe; replace rs2 := rs2.mono hqe; clear hh
  skip
  refine WL_o rfl rfl (OpR_alloc T.ok rfl hs rfl rfl ?_); clear hs; rintro bg g1 hs hqe; replace le0 := G.le.trans le0 hqe; replace ep0 := ep0.mono hqe; replace rs0 := rs0.mono hqe; replace rs1 := rs1.mono hqe; replace rs2 := rs2.mono hqe; replace rc0 := rc0.mono hqe; replace fl0 := fl0.mono hqe
  replace rw2 := rw2.mono hqe
  skip
  refine WL_n rfl (OpR_storeO T.ok 0 rfl hs rfl rfl rfl rfl rfl rfl rfl rfl rfl ?_); replace hs := hs; rintro g1 hs hqe; replace le0 := G.le.trans le0 hqe; replace ep0 := ep0.mono hqe; replace rs0 := rs0.mono hqe; replace rs1 := rs1.mono hqe; replace rs2 := rs2.mono hqe; replace rc0 := rc0.mono hqe; replace fl0 := fl0.mono hqe
  replace rw2 := rw2.mono hqe
  refine WL_nil ?_; (with_reducible refine T_then ?_); refine W_seq ?_; refine W_region ?_; refine P1 T.ok rfl rfl rfl ?_; refine WL_o rfl rfl (OpR_loadE T.ok 2 rfl ep0 rfl rfl ?_); refine P1 T.ok rfl rfl rfl ?_; refine P1 T.ok rfl rfl rfl ?_; refine WL_nil ?_; (with_reducible refine T_then ?_); refine W_seq ?_; refine W_region ?_; refine P1 T.ok rfl rfl rfl ?_; refine P1 T.ok rfl rfl rfl ?_
  refine WL_o rfl rfl (OpR_ret cl20 allF rfl rfl rfl rfl rfl (pick_c _ _ _ ha1 (by omega)) ?_); rintro g1 _ hf1 rfl; replace hs := hs.call hf1; have hqe := hf1.le; replace le0 := G.le.trans le0 hqe; replace ep0 := ep0.mono hqe; replace rs0 := rs0.mono hqe; replace rs1 := rs1.mono hqe; replace rs2 := rs2.mono hqe; replace rc0 := rc0.mono hqe; replace fl0 := fl0.mono hqe
  replace rw2 := rw2.mono hqe
  refine P1 T.ok rfl rfl rfl ?_; refine WL_nil ?_; (with_reducible refine T_then ?_); refine W_seq ?_; refine W_region ?_; refine P1 T.ok rfl rfl rfl ?_; refine P1 T.ok rfl rfl rfl ?_
  refine WL_o rfl rfl (OpR_ret cl20 allF rfl rfl rfl rfl rfl (pick_c _ _ _ ha2 (by omega)) ?_); rintro g1 _ hf1 rfl; replace hs := hs.call hf1; have hqe := hf1.le; replace le0 := G.le.trans le0 hqe; replace ep0 := ep0.mono hqe; replace rs0 := rs0.mono hqe; replace rs1 := rs1.mono hqe; replace rs2 := rs2.mono hqe; replace rc0 := rc0.mono hqe; replace fl0 := fl0.mono hqe
  replace rw2 := rw2.mono hqe
  refine P1 T.ok rfl rfl rfl ?_; refine WL_nil ?_; (with_reducible refine T_then ?_); refine W_seq ?_; refine W_region ?_; refine P1 T.ok rfl rfl rfl ?_; refine P1 T.ok rfl rfl rfl ?_
  refine WL_o rfl rfl (OpR_ret cl20 allF rfl rfl rfl rfl rfl (pick_c _ _ _ ha3 (by omega)) ?_); rintro g1 _ hf1 rfl; replace hs := hs.call hf1; have hqe := hf1.le; replace le0 := G.le.trans le0 hqe; replace ep0 := ep0.mono hqe; replace rs0 := rs0.mono hqe; replace rs1 := rs1.mono hqe; replace rs2 := rs2.mono hqe; replace rc0 := rc0.mono hqe; replace fl0 := fl0.mono hqe
  replace rw2 := rw2.mono hqe
  refine P1 T.ok rfl rfl rfl ?_; refine WL_nil ?_; (with_reducible refine T_then ?_); refine W_seq ?_; refine W_region ?_; refine P1 T.ok rfl rfl rfl ?_; refine P1 T.ok rfl rfl rfl ?_
  refine WL_o rfl rfl (OpR_ret cl20 allF rfl rfl rfl rfl rfl (pick_c _ _ _ ha4 (by omega)) ?_); rintro g1 _ hf1 rfl; replace hs := hs.call hf1; have hqe := hf1.le; replace le0 := G.le.trans le0 hqe; replace ep0 := ep0.mono hqe; replace rs0 := rs0.mono hqe; replace rs1 := rs1.mono hqe; replace rs2 := rs2.mono hqe; replace rc0 := rc0.mono hqe; replace fl0 := fl0.mono hqe
  replace rw2 := rw2.mono hqe
  refine P1 T.ok rfl rfl rfl ?_; refine WL_nil ?_; (with_reducible refine T_then ?_); refine W_seq ?_; refine W_region ?_; refine P1 T.ok rfl rfl rfl ?_; refine WL_nil ?_; (with_reducible refine T_then ?_); refine W_seq ?_; refine W_seq ?_; refine W_region ?_; refine P1 T.ok rfl rfl rfl ?_; refine WL_nil ?_; (with_reducible refine T_then ?_); refine W_block ?_
  have h1 := hmr a1; have h2 := hmr a2; have h3 := hmr a3; have h4 := hmr a4
  generalize pickM a1 f.steps.length = p at *
  generalize pickM a2 f.steps.length = q at *
  generalize pickM a3 f.steps.length = r at *
  generalize pickM a4 f.steps.length = t at *
  replace hs := hs.nilrow 3 1 none
  have fl0c := fl0; have ep0c := ep0; have rs1c := rs1; have rc0c := rc0; have rw2c := rw2; have le9 := G.le.refl g1
  refine W_loop (fun m a' w => ∃ (k : Nat) (nv : Value) (g3 : G), w = g3.w ∧ St g g3 [.row 3 1 nv (addNext f p q k).length (ints (addNext f p q k)), .obj bg (.cells [.int .i64 f.moveMin, .int .i64 f.moveMax, .slice sa2 f.steps.length sc2, .slice wa2 wn2 wc2].toArray 25 (0, 0)), .row 50 7 (.slice sa2 f.steps.length sc2) f.steps.length cells2] ∧ G.le g1 g3 ∧ k ≤ f.steps.length ∧ m = f.steps.length - k ∧
      Fr 160 [] [(1, .int .i64 p), (2, .int .i64 q), (3, .int .i64 r), (4, .int .i64 t), (11, .bool true), (12, .pointer (some ⟨bf, 0, none⟩)), (13, .pointer (some ⟨bg, 0, none⟩)), (14, .int .i64 f.steps.length), (15, nv), (16, .int .i64 k)] a') f.steps.length
    (fun a' ha => ⟨0, _, g1, rfl, hs, le9, Nat.zero_le _, rfl, ha.keep (by (repeat (first | exact trivial | refine ⟨rfl, ?_⟩)))⟩) ?_
  clear hs le9 fl0 ep0 rs0 rs1 rs2 rc0 rw2 le0
  rintro m a' _ ⟨k, nv, g3, rfl, hs, le9, hk, rfl, ha'⟩
  have fl0 := fl0c.mono le9; have ep0 := ep0c.mono le9; have rs1 := rs1c.mono le9; have rc0 := rc0c.mono le9; have rw2 := rw2c.mono le9
  obtain ⟨na, nc, rfl⟩ := (hs.own 0 _ rfl).1.form
  have hal := addNext_len f p q k
  revert a'
  (with_reducible refine T_wp ?_); refine W_seq ?_; refine W_seq ?_; refine W_region ?_; (iterate 3 refine P1 T.ok rfl rfl rfl ?_); refine WL_nil ?_; (with_reducible refine T_then ?_)
  by_cases hlk : k < f.steps.length
  · refine W_yes (b := decide ((k : Int) < (f.steps.length : Int))) (decide_eq_true (by omega)) rfl ?_
    have hns := addNext_succ f p q k
    refine W_skip ?_; (with_reducible refine T_then ?_); refine W_seq ?_; refine W_block ?_; refine W_seq ?_; refine W_region ?_; (iterate 4 refine P1 T.ok rfl rfl rfl ?_)
    by_cases hkq : (k : Int) = q
    · refine WL_know 56 (b' := true) (beq_iff_eq.2 hkq) rfl ?_
      rw [if_pos (.inl hkq)] at hns
      (iterate 8 refine S1 allF rfl rfl ?_); refine P1 T.ok rfl rfl rfl ?_; refine WL_nil ?_; (with_reducible refine T_then ?_)
      refine W_yes rfl rfl ?_
      refine W_region ?_; refine P1 T.ok rfl rfl rfl ?_; refine P1 T.ok rfl rfl rfl ?_
      refine WL_o rfl rfl (OpR_lit T.ok rfl hs (vs := [(0, .int .i64 (k : Int))]) (cells := [.int .i64 (k : Int)]) rfl rfl rfl rfl rfl rfl (by decide) (by decide) (by kernel_rfl) rfl ?_); rintro b2 g4 hs hqe; replace le9 := G.le.trans le9 hqe; replace ep0 := ep0.mono hqe; replace rs1 := rs1.mono hqe; replace rc0 := rc0.mono hqe; replace fl0 := fl0.mono hqe
      replace rw2 := rw2.mono hqe
      skip
      refine WL_o rfl rfl (OpR_append T.ok 1 rfl hs rfl rfl rfl rfl rfl rfl rfl (by decide) rfl (Src.of_row (hs.own 0 _ rfl).1).2 (by simp [Value.oneCell']) (by show ((addNext f p q k).length + 1) * 8 ≤ _; omega) (by unfold maxLen; omega) ?_); rintro a9 c9 g8 hs hqe; replace le9 := G.le.trans le9 hqe; replace ep0 := ep0.mono hqe; replace rs1 := rs1.mono hqe; replace rc0 := rc0.mono hqe; replace fl0 := fl0.mono hqe
      replace rw2 := rw2.mono hqe
      refine P1 T.ok rfl rfl rfl ?_; refine WL_nil ?_; (with_reducible refine T_bn ?_); (with_reducible refine T_then ?_); refine W_region ?_; (iterate 3 refine P1 T.ok rfl rfl rfl ?_); refine WL_nil ?_
      have hs2 : St g _ [.row 3 1 (.slice a9 ((addNext f p q k).length + 1) c9) ((addNext f p q k).length + 1) (ints (addNext f p q k) ++ [Value.int .i64 (k : Int)]), .obj bg (.cells [.int .i64 f.moveMin, .int .i64 f.moveMax, .slice sa2 f.steps.length sc2, .slice wa2 wn2 wc2].toArray 25 (0, 0)), .row 50 7 (.slice sa2 f.steps.length sc2) f.steps.length cells2] := hs.re [1, 2, 3] (by decide) rfl
      have hln : (addNext f p q (k + 1)).length = (addNext f p q k).length + 1 := by rw [hns]; simp
      have hin : ints (addNext f p q (k + 1)) = ints (addNext f p q k) ++ [Value.int .i64 (k : Int)] := by rw [hns]; simp [ints]
      exact fun a ha => ⟨f.steps.length - (k + 1), by omega, k + 1, .slice a9 ((addNext f p q k).length + 1) c9, _, rfl, by rw [hln, hin]; exact hs2, le9, by omega, rfl, ha.keep ⟨rfl, rfl, rfl, rfl, rfl, rfl, rfl, rfl, rfl, kI rfl (by rw [wr (by omega) (by omega)]; omega), trivial⟩⟩
    · refine WL_know 56 (b' := false) (beq_eq_false_iff_ne.2 hkq) rfl ?_
      refine P1 T.ok rfl rfl rfl ?_; refine WL_o rfl rfl (OpR_loadE T.ok 2 rfl ep0 rfl rfl ?_); refine P1 T.ok rfl rfl rfl ?_
      refine WL_o rfl rfl (OpR_idx T.ok rfl rs1 (y := stepD f p) (step_geti h1) rfl rfl rfl rfl rfl rfl ?_)
      rintro b qo ys hep ⟨b1, b2, b3, b4, b5, b6, rfl, _, rs4⟩
      obtain ⟨_, _, e⟩ := rs4.isSlice; obtain ⟨rfl, rfl, rfl⟩ := Value.slice.inj e; clear e
      refine WL_o rfl rfl (OpR_pure _ T.ok rfl ?_)
      refine WL_o rfl rfl (OpR_loadE T.ok 4 rfl hep rfl rfl ?_)
      refine P1 T.ok rfl rfl rfl ?_
      refine WL_o rfl rfl (OpR_ret cl31 allF rfl rfl rfl rfl rfl (has_c _ (stepD f p).next k _ rs4) ?_); rintro g1 _ hf1 rfl; replace hs := hs.call hf1; have hqe := hf1.le; replace le9 := G.le.trans le9 hqe; replace ep0 := ep0.mono hqe; replace rs1 := rs1.mono hqe; replace rs4 := rs4.mono hqe; replace rc0 := rc0.mono hqe; replace fl0 := fl0.mono hqe
      replace rw2 := rw2.mono hqe
      refine P1 T.ok rfl rfl rfl ?_; refine WL_nil ?_; (with_reducible refine T_then ?_)
      by_cases hin : (k : Int) ∈ (stepD f p).next
      · rw [if_pos (.inr hin)] at hns
        refine W_yes (b := decide ((k : Int) ∈ (stepD f p).next)) (decide_eq_true hin) rfl ?_
        clear rs4
        refine W_region ?_; refine P1 T.ok rfl rfl rfl ?_; refine P1 T.ok rfl rfl rfl ?_
        refine WL_o rfl rfl (OpR_lit T.ok rfl hs (vs := [(0, .int .i64 (k : Int))]) (cells := [.int .i64 (k : Int)]) rfl rfl rfl rfl rfl rfl (by decide) (by decide) (by kernel_rfl) rfl ?_); rintro b2 g4 hs hqe; replace le9 := G.le.trans le9 hqe; replace ep0 := ep0.mono hqe; replace rs1 := rs1.mono hqe; replace rc0 := rc0.mono hqe; replace fl0 := fl0.mono hqe
        replace rw2 := rw2.mono hqe
        skip
        refine WL_o rfl rfl (OpR_append T.ok 1 rfl hs rfl rfl rfl rfl rfl rfl rfl (by decide) rfl (Src.of_row (hs.own 0 _ rfl).1).2 (by simp [Value.oneCell']) (by show ((addNext f p q k).length + 1) * 8 ≤ _; omega) (by unfold maxLen; omega) ?_); rintro a9 c9 g8 hs hqe; replace le9 := G.le.trans le9 hqe; replace ep0 := ep0.mono hqe; replace rs1 := rs1.mono hqe; replace rc0 := rc0.mono hqe; replace fl0 := fl0.mono hqe
        replace rw2 := rw2.mono hqe
        refine P1 T.ok rfl rfl rfl ?_; refine WL_nil ?_; (with_reducible refine T_bn ?_); (with_reducible refine T_then ?_); refine W_region ?_; (iterate 3 refine P1 T.ok rfl rfl rfl ?_); refine WL_nil ?_
        have hs2 : St g _ [.row 3 1 (.slice a9 ((addNext f p q k).length + 1) c9) ((addNext f p q k).length + 1) (ints (addNext f p q k) ++ [Value.int .i64 (k : Int)]), .obj bg (.cells [.int .i64 f.moveMin, .int .i64 f.moveMax, .slice sa2 f.steps.length sc2, .slice wa2 wn2 wc2].toArray 25 (0, 0)), .row 50 7 (.slice sa2 f.steps.length sc2) f.steps.length cells2] := hs.re [1, 2, 3] (by decide) rfl
        have hln : (addNext f p q (k + 1)).length = (addNext f p q k).length + 1 := by rw [hns]; simp
        have hin : ints (addNext f p q (k + 1)) = ints (addNext f p q k) ++ [Value.int .i64 (k : Int)] := by rw [hns]; simp [ints]
        exact fun a ha => ⟨f.steps.length - (k + 1), by omega, k + 1, .slice a9 ((addNext f p q k).length + 1) c9, _, rfl, by rw [hln, hin]; exact hs2, le9, by omega, rfl, ha.keep ⟨rfl, rfl, rfl, rfl, rfl, rfl, rfl, rfl, rfl, kI rfl (by rw [wr (by omega) (by omega)]; omega), trivial⟩⟩
      · rw [if_neg (fun h => h.elim hkq hin), List.append_nil] at hns
        refine W_no (b := decide ((k : Int) ∈ (stepD f p).next)) (decide_eq_false hin) rfl ?_
        refine W_skip ?_; (with_reducible refine T_bn ?_); (with_reducible refine T_then ?_); refine W_region ?_; (iterate 3 refine P1 T.ok rfl rfl rfl ?_); refine WL_nil ?_
        exact fun a ha => ⟨f.steps.length - (k + 1), by omega, k + 1, .slice na (addNext f p q k).length nc, _, rfl, by rw [hns]; exact hs, le9, by omega, rfl, ha.keep ⟨rfl, rfl, rfl, rfl, rfl, rfl, rfl, rfl, rfl, kI rfl (by rw [wr (by omega) (by omega)]; omega), trivial⟩⟩
  · refine W_no (b := decide ((k : Int) < (f.steps.length : Int))) (decide_eq_false (by omega)) rfl ?_
    obtain rfl : k = f.steps.length := by omega
    have hmem := @mem_addNext f p q f.steps.length
    have hsrt := addNext_sorted f p q f.steps.length
    generalize addNext f p q f.steps.length = nl at *
    refine W_exit ?_; (with_reducible refine T_tx ?_; with_reducible refine T_tx ?_); (with_reducible refine T_bx ?_); (with_reducible refine T_then ?_); refine W_seq ?_; refine W_seq ?_; refine W_region ?_; (iterate 4 refine P1 T.ok rfl rfl rfl ?_)
    by_cases h4l : 4 < nl.length
    · refine WL_know 73 (b' := true) (decide_eq_true (by omega)) rfl ?_
      (iterate 8 refine S1 allF rfl rfl ?_); refine P1 T.ok rfl rfl rfl ?_; refine WL_nil ?_; (with_reducible refine T_then ?_)
      refine W_yes rfl rfl ?_
      refine W_seq ?_; refine W_region ?_; refine P1 T.ok rfl rfl rfl ?_; refine P1 T.ok rfl rfl rfl ?_; refine WL_nil ?_; (with_reducible refine T_then ?_)
      exact W_ret (ret1 rfl rfl (hs.ret rfl))
    · refine WL_know 73 (b' := false) (decide_eq_false (by omega)) rfl ?_
      refine P1 T.ok rfl rfl rfl ?_; refine WL_o rfl rfl (OpR_loadE T.ok 2 rfl ep0 rfl rfl ?_); refine P1 T.ok rfl rfl rfl ?_
      refine WL_o rfl rfl (OpR_idx T.ok rfl rs1 (y := stepD f p) (step_geti h1) rfl rfl rfl rfl rfl rfl ?_)
      rintro b qo ys hep ⟨b1, b2, b3, b4, b5, b6, rfl, _, rs4⟩
      obtain ⟨_, _, e⟩ := rs4.isSlice; obtain ⟨rfl, rfl, rfl⟩ := Value.slice.inj e; clear e
      refine WL_o rfl rfl (OpR_pure _ T.ok rfl ?_)
      refine WL_o rfl rfl (OpR_loadE T.ok 4 rfl hep rfl rfl ?_)
      (iterate 3 refine P1 T.ok rfl rfl rfl ?_); refine WL_nil ?_; (with_reducible refine T_then ?_)
      by_cases he : isEnd (stepD f p) = true
      · refine W_yes (b := (((stepD f p).next.length : Nat) : Int) == 0) he rfl ?_
        refine W_seq ?_; refine W_region ?_; refine P1 T.ok rfl rfl rfl ?_; refine P1 T.ok rfl rfl rfl ?_; refine WL_nil ?_; (with_reducible refine T_then ?_)
        exact W_ret (ret1 rfl rfl (hs.ret rfl))
      · refine W_no (b := (((stepD f p).next.length : Nat) : Int) == 0) (Bool.eq_false_iff.2 he) rfl ?_
        have hnn : (stepD f p).next ≠ [] := fun e => he (by unfold isEnd; rw [e]; rfl)
        have hvg := setNext_valid hval h1 (l := nl) (by omega) (fun m hm => (hmem.1 hm).1) hsrt
        have hnx := right_next (valid_step hval h1.1 h1.2)
        have hmo := setNext_more h1 (l := nl) (fun m hm => hmem.2 ⟨hnx m hm, .inr hm⟩) hnn
        have hlaw := law_added hval hvg hmo h3 h4
        clear rs4 hep
        -- the list is let go, then laid into the step
        obtain ⟨gz, hwz, hsz, hqz, rs4⟩ := hs.fzRow (α := Int) (xs := nl) (i := 0) rfl (RcL.ints _ _)
        have hqe := hqz; rw [← hwz]; replace hs := hsz; clear hsz; replace le9 := G.le.trans le9 hqe; replace ep0 := ep0.mono hqe; replace rs1 := rs1.mono hqe; replace rc0 := rc0.mono hqe; replace fl0 := fl0.mono hqe
        replace rw2 := rw2.mono hqe
        refine W_skip ?_; (with_reducible refine T_then ?_); refine W_seq ?_; refine W_region ?_; refine P1 T.ok rfl rfl rfl ?_; refine WL_o rfl rfl (OpR_loadO T.ok 0 rfl hs rfl rfl rfl ?_); refine P1 T.ok rfl rfl rfl ?_; refine P1 T.ok rfl rfl rfl ?_
        have hp0 := h1.1; have hp1 := h1.2
        refine WL_o rfl rfl (OpR_idxR T.ok rfl (hs.own 1 _ rfl).1 hp0 (by omega) rfl rfl rfl rfl rfl rfl ?_)
        rintro b q' rfl
        refine P1 T.ok rfl rfl rfl ?_
        have hcl : cells2.length = f.steps.length * 7 := rc0.len
        refine WL_n rfl (OpR_storeR T.ok 1 (p.toNat * 7 + 4) rfl hs rfl rfl rfl rfl rfl rfl rfl (by simp) (by rw [hcl]; show p.toNat * 7 + 4 + 1 ≤ _; omega) rfl ?_)
        rintro g5 hs hqe; replace le9 := G.le.trans le9 hqe; replace ep0 := ep0.mono hqe; replace rs1 := rs1.mono hqe; replace rs4 := rs4.mono hqe; replace rc0 := rc0.mono hqe; replace fl0 := fl0.mono hqe
        replace rw2 := rw2.mono hqe
        have hgi : f.steps[p.toNat]? = some (stepD f p) := by unfold stepD; rw [List.getD_eq_getElem?_getD, List.getElem?_eq_getElem (by omega)]; rfl
        have hr5 : RcL g5 (spl cells2 (p.toNat * 7 + 4) [_]) (setNext f p nl).steps := RcL.upd (α := Step) (x' := { stepD f p with next := nl }) (by show 4 + 1 ≤ 7; decide) rc0 p.toNat (stepD f p) hgi (by
          rintro ys ⟨b1, b2, b3, b4, b5, b6, rfl, hx1, hx2⟩
          exact ⟨b1, b2, b3, _, _, _, rfl, hx1, rs4⟩)
        obtain ⟨gz2, hwz2, hsz2, hqz2, rs5⟩ := hs.fzRow (α := Step) (i := 1) rfl hr5
        clear hqe; have hqe := hqz2; rw [← hwz2]; replace hs := hsz2; clear hsz2 rc0 hr5; replace le9 := G.le.trans le9 hqe; replace ep0 := ep0.mono hqe; replace rs1 := rs1.mono hqe; replace rs4 := rs4.mono hqe; replace fl0 := fl0.mono hqe
        replace rw2 := rw2.mono hqe
        have fl1 : RFlow gz2 (.agg #[.int .i64 f.moveMin, .int .i64 f.moveMax, .slice (some ⟨b, q', none⟩) f.steps.length sc2, .slice wa2 wn2 wc2]) (setNext f p nl) := ⟨_, _, _, _, _, _, rfl, rs5, rw2⟩
        generalize setNext f p nl = fg at *
        obtain ⟨g2, hw2, hs2, hqe, hep⟩ := hs.fzObj (i := 0) rfl; replace hs := hs2; clear hs2; rw [← hw2]; replace le9 := G.le.trans le9 hqe; replace ep0 := ep0.mono hqe; replace rs1 := rs1.mono hqe; replace rs4 := rs4.mono hqe; replace rs5 := rs5.mono hqe; replace fl1 := fl1.mono hqe; replace fl0 := fl0.mono hqe
        have ep1 := hep; clear hep
        refine WL_nil ?_; (with_reducible refine T_then ?_); refine W_seq ?_; refine W_region ?_; refine WL_o rfl rfl (OpR_loadE T.ok 0 rfl ep0 rfl rfl ?_); refine P1 T.ok rfl rfl rfl ?_; refine P1 T.ok rfl rfl rfl ?_
        refine WL_o rfl rfl (OpR_ret cl23 allF rfl rfl rfl rfl rfl (quickest_c _ f r t _ fl0) ?_); rintro g1 _ hf1 rfl; replace hs := hs.call hf1; have hqe := hf1.le; replace le9 := G.le.trans le9 hqe; replace ep0 := ep0.mono hqe; replace ep1 := ep1.mono hqe; replace rs1 := rs1.mono hqe; replace rs4 := rs4.mono hqe; replace rs5 := rs5.mono hqe; replace fl1 := fl1.mono hqe; replace fl0 := fl0.mono hqe
        (iterate 5 refine P1 T.ok rfl rfl rfl ?_); refine WL_nil ?_; (with_reducible refine T_then ?_); refine W_seq ?_; refine W_region ?_; refine WL_o rfl rfl (OpR_loadE T.ok 0 rfl ep1 rfl rfl ?_); refine P1 T.ok rfl rfl rfl ?_; refine P1 T.ok rfl rfl rfl ?_
        refine WL_o rfl rfl (OpR_ret cl23 allF rfl rfl rfl rfl rfl (quickest_c _ fg r t _ fl1) ?_); rintro g1 _ hf1 rfl; replace hs := hs.call hf1; have hqe := hf1.le; replace le9 := G.le.trans le9 hqe; replace ep0 := ep0.mono hqe; replace ep1 := ep1.mono hqe; replace rs1 := rs1.mono hqe; replace rs4 := rs4.mono hqe; replace rs5 := rs5.mono hqe; replace fl1 := fl1.mono hqe; replace fl0 := fl0.mono hqe
        (iterate 5 refine P1 T.ok rfl rfl rfl ?_); refine WL_nil ?_; (with_reducible refine T_then ?_); refine W_seq ?_; refine W_region ?_; refine WL_o rfl rfl (OpR_loadE T.ok 0 rfl ep0 rfl rfl ?_); refine P1 T.ok rfl rfl rfl ?_
        refine WL_o rfl rfl (OpR_ret cl25 allF rfl rfl rfl rfl rfl (finish_c _ f r _ fl0) ?_); rintro g1 _ hf1 rfl; replace hs := hs.call hf1; have hqe := hf1.le; replace le9 := G.le.trans le9 hqe; replace ep0 := ep0.mono hqe; replace ep1 := ep1.mono hqe; replace rs1 := rs1.mono hqe; replace rs4 := rs4.mono hqe; replace rs5 := rs5.mono hqe; replace fl1 := fl1.mono hqe; replace fl0 := fl0.mono hqe
        (iterate 5 refine P1 T.ok rfl rfl rfl ?_); refine WL_nil ?_; (with_reducible refine T_then ?_); refine W_seq ?_; refine W_region ?_; refine WL_o rfl rfl (OpR_loadE T.ok 0 rfl ep1 rfl rfl ?_); refine P1 T.ok rfl rfl rfl ?_
        refine WL_o rfl rfl (OpR_ret cl25 allF rfl rfl rfl rfl rfl (finish_c _ fg r _ fl1) ?_); rintro g1 _ hf1 rfl; replace hs := hs.call hf1; have hqe := hf1.le; replace le9 := G.le.trans le9 hqe; replace ep0 := ep0.mono hqe; replace ep1 := ep1.mono hqe; replace rs1 := rs1.mono hqe; replace rs4 := rs4.mono hqe; replace rs5 := rs5.mono hqe; replace fl1 := fl1.mono hqe; replace fl0 := fl0.mono hqe
        (iterate 5 refine P1 T.ok rfl rfl rfl ?_); refine WL_nil ?_; (with_reducible refine T_then ?_); refine W_seq ?_; refine W_region ?_; refine WL_o rfl rfl (OpR_loadE T.ok 0 rfl ep0 rfl rfl ?_); refine P1 T.ok rfl rfl rfl ?_
        refine WL_o rfl rfl (OpR_ret cl29 allF rfl rfl rfl rfl rfl (reach_c _ f r _ fl0) ?_); rintro g1 vo hf1 hvo; obtain ⟨gz, hwz, hsz, hqz, rs6⟩ := hs.ownRs hf1 hvo; have hqe := hf1.le.trans hqz; rw [← hwz]; replace hs := hsz; clear hsz hvo; replace le9 := G.le.trans le9 hqe; replace ep0 := ep0.mono hqe; replace ep1 := ep1.mono hqe; replace rs1 := rs1.mono hqe; replace rs4 := rs4.mono hqe; replace rs5 := rs5.mono hqe; replace fl1 := fl1.mono hqe; replace fl0 := fl0.mono hqe
        refine P1 T.ok rfl rfl rfl ?_; refine WL_nil ?_; (with_reducible refine T_then ?_); refine W_seq ?_; refine W_region ?_; refine WL_o rfl rfl (OpR_loadE T.ok 0 rfl ep1 rfl rfl ?_); refine P1 T.ok rfl rfl rfl ?_
        refine WL_o rfl rfl (OpR_ret cl29 allF rfl rfl rfl rfl rfl (reach_c _ fg r _ fl1) ?_); rintro g1 vo hf1 hvo; obtain ⟨gz, hwz, hsz, hqz, rs7⟩ := hs.ownRs hf1 hvo; have hqe := hf1.le.trans hqz; rw [← hwz]; replace hs := hsz; clear hsz hvo; replace le9 := G.le.trans le9 hqe; replace ep0 := ep0.mono hqe; replace ep1 := ep1.mono hqe; replace rs1 := rs1.mono hqe; replace rs4 := rs4.mono hqe; replace rs5 := rs5.mono hqe; replace rs6 := rs6.mono hqe; replace fl1 := fl1.mono hqe; replace fl0 := fl0.mono hqe
        obtain ⟨ra, rc, rfl⟩ := rs6.isSlice
        obtain ⟨ua, uc, rfl⟩ := rs7.isSlice
        have hrl := reach_len f r
        refine P1 T.ok rfl rfl rfl ?_; refine WL_nil ?_; (with_reducible refine T_then ?_); refine W_seq ?_; refine W_seq ?_; refine W_region ?_; refine P1 T.ok rfl rfl rfl ?_; refine WL_nil ?_; (with_reducible refine T_then ?_); refine W_block ?_
        have rs6c := rs6; have rs7c := rs7; have le8 := G.le.refl gz
        refine W_loop (fun m a' w => ∃ (i : Nat) (g3 : G), w = g3.w ∧ St g g3 [] ∧ G.le gz g3 ∧ i ≤ (reach f r).length ∧ m = (reach f r).length - i ∧
            Fr 160 [] [(11, .bool true), (17, .int .i64 (quickest f r t).1), (18, .bool (quickest f r t).2), (19, .int .i64 (quickest fg r t).1), (20, .bool (quickest fg r t).2), (21, .int .i64 (finish f r).1), (22, .bool (finish f r).2), (23, .int .i64 (finish fg r).1), (24, .bool (finish fg r).2),
              (25, .slice ra (reach f r).length rc), (26, .slice ua (reach fg r).length uc), (27, .int .i64 i)] a') (reach f r).length
          (fun a' ha => ⟨0, gz, rfl, hs, le8, Nat.zero_le _, rfl, ha.keep (by (repeat (first | exact trivial | refine ⟨rfl, ?_⟩)))⟩) ?_
        clear hs le8 rs6 rs7 ep0 ep1 fl0 fl1 rs1 rs4 rs5
        rintro m a' _ ⟨i, g6, rfl, hs, le8, hi, rfl, ha'⟩
        have rs6 := rs6c.mono le8; have rs7 := rs7c.mono le8
        revert a'
        (with_reducible refine T_wp ?_); refine W_seq ?_; refine W_seq ?_; refine W_region ?_; (iterate 4 refine P1 T.ok rfl rfl rfl ?_); refine WL_nil ?_; (with_reducible refine T_then ?_)
        by_cases hli : i < (reach f r).length
        · refine W_yes (b := decide ((i : Int) < ((reach f r).length : Int))) (decide_eq_true (by omega)) rfl ?_
          have hgi2 := geti_of (xs := reach f r) (n := (i : Int)) rfl hli
          have hmm := hlaw.2.2 _ (List.getElem_mem hli)
          generalize (reach f r)[i] = n at *
          refine W_skip ?_; (with_reducible refine T_then ?_); refine W_seq ?_; refine W_block ?_; refine W_seq ?_; refine W_region ?_; (iterate 3 refine P1 T.ok rfl rfl rfl ?_)
          refine WL_o rfl rfl (OpR_idx T.ok rfl rs6 (y := n) hgi2 rfl rfl rfl rfl rfl rfl ?_)
          rintro b q ys hep rfl
          refine WL_o rfl rfl (OpR_loadE T.ok 0 rfl hep rfl rfl ?_)
          refine WL_o rfl rfl (OpR_ret cl31 allF rfl rfl rfl rfl rfl (has_c _ (reach fg r) n _ rs7) ?_); rintro g1 _ hf1 rfl; replace hs := hs.call hf1; have hqe := hf1.le; replace le8 := G.le.trans le8 hqe; replace rs6 := rs6.mono hqe; replace rs7 := rs7.mono hqe
          refine P1 T.ok rfl rfl rfl ?_; refine WL_nil ?_; (with_reducible refine T_then ?_)
          refine W_no (b := !decide (n ∈ reach fg r)) (by simp [hmm]) rfl ?_
          refine W_skip ?_; (with_reducible refine T_bn ?_); (with_reducible refine T_then ?_); refine W_region ?_; (iterate 3 refine P1 T.ok rfl rfl rfl ?_); refine WL_nil ?_
          exact fun a ha => ⟨(reach f r).length - (i + 1), by omega, i + 1, _, rfl, hs, le8, by omega, rfl, ha.keep ⟨rfl, rfl, rfl, rfl, rfl, rfl, rfl, rfl, rfl, rfl, rfl, kI rfl (by rw [wr (by omega) (by omega)]; omega), trivial⟩⟩
        · refine W_no (b := decide ((i : Int) < ((reach f r).length : Int))) (decide_eq_false (by omega)) rfl ?_
          refine W_exit ?_; (with_reducible refine T_tx ?_; with_reducible refine T_tx ?_); (with_reducible refine T_bx ?_); (with_reducible refine T_then ?_); refine W_seq ?_; refine W_region ?_; (iterate 5 refine P1 T.ok rfl rfl rfl ?_)
          cases e1 : (quickest f r t).2 with
          | false =>
            (iterate 6 refine S1 allF rfl rfl ?_); (iterate 6 refine P1 T.ok rfl rfl rfl ?_)
            cases e4 : (finish f r).2 with
            | false =>
              (iterate 6 refine S1 allF rfl rfl ?_); (iterate 3 refine P1 T.ok rfl rfl rfl ?_); refine WL_nil ?_; (with_reducible refine T_then ?_)
              exact W_ret (ret1 rfl rfl (hs.ret rfl))
            | true =>
              obtain ⟨e5, e6⟩ := hlaw.2.1 e4
              rw [e5]
              (iterate 9 refine P1 T.ok rfl rfl rfl ?_); refine WL_nil ?_; (with_reducible refine T_then ?_)
              refine W_ret (ret1 rfl rfl (hs.ret ?_))
              rw [decide_eq_true e6]
          | true =>
            obtain ⟨e2, e3⟩ := hlaw.1 e1
            rw [e2]
            (iterate 9 refine P1 T.ok rfl rfl rfl ?_)
            refine WL_know 148 (b' := true) (decide_eq_true e3) rfl ?_
            (iterate 3 refine P1 T.ok rfl rfl rfl ?_)
            cases e4 : (finish f r).2 with
            | false =>
              (iterate 6 refine S1 allF rfl rfl ?_); (iterate 3 refine P1 T.ok rfl rfl rfl ?_); refine WL_nil ?_; (with_reducible refine T_then ?_)
              exact W_ret (ret1 rfl rfl (hs.ret rfl))
            | true =>
              obtain ⟨e5, e6⟩ := hlaw.2.1 e4
              rw [e5]
              (iterate 9 refine P1 T.ok rfl rfl rfl ?_); refine WL_nil ?_; (with_reducible refine T_then ?_)
              refine W_ret (ret1 rfl rfl (hs.ret ?_))
              rw [decide_eq_true e6]
end Go.Proofs.Ytijmlfmapfhabaa

/- The walk through the statement GraphWays. -/
namespace Go.Proofs.Ytijmlfmapfhabaa
open Go Go.K
set_option maxRecDepth 10000
attribute [local irreducible] W WL OpR
set_option maxHeartbeats 4000000







theorem lawways_c (v : Value) (x : List Y6) (a : Int) (cv : Value) (ch : List Int) (g : G) (rs0 : Rs g v x) (hx : ∀ y ∈ x, y.fit) (ha : I64 a) (rs6 : Rs g cv ch) (hch : ∀ c ∈ ch, I64 c) :
    CallsIn Wd 0 Try.prog 8 #[v, .int .i64 a, cv] g.w (Ret g fun _ r => r = .bool true) := by
  obtain ⟨ca, cc, rfl⟩ := rs6.isSlice
  have hcl := rs6.len_le
  unfold maxLen at hcl
  have rsC := rs6; clear rs6
  have hs := St.start g
  have le0 := G.le.refl g
  refine enter Try.func8 rfl Try.ntmps8 rfl ?_
  refine W_seq ?_; refine W_region ?_; refine P1 T.ok rfl rfl rfl ?_; refine WL_nil ?_; (with_reducible refine T_then ?_); refine W_seq ?_; refine W_region ?_
  refine WL_o rfl rfl (OpR_ret cl12 allF rfl rfl rfl rfl rfl (sane_c _) ?_); rintro g1 _ hf1 rfl; replace hs := hs.call hf1; have hqe := hf1.le; replace le0 := G.le.trans le0 hqe; replace rs0 := rs0.mono hqe
  refine P1 T.ok rfl rfl rfl ?_; refine WL_nil ?_; (with_reducible refine T_then ?_); refine W_seq ?_; refine W_region ?_; refine P1 T.ok rfl rfl rfl ?_
  refine WL_o rfl rfl (OpR_ret cl14 allF rfl rfl rfl rfl rfl (made_c _ x _ rs0 hx) ?_); rintro g1 _ hf1 ⟨sa, sn, sc, wa, wn, wc, cells, rfl, hh, rc0, rs2⟩
  replace hs := hs.getOwn hf1 hh; have hqe := hf1.le
  replace le0 := le0.trans hqe; replace rs0 := rs0.mono hqe; clear hh
  obtain ⟨gz, hwz, hsz, hqz, rs1⟩ := hs.fzRow (α := Step) (i := 0) rfl rc0
  clear hqe; have hqe := hqz; rw [← hwz]; replace hs := hsz; clear hsz rc0; replace le0 := G.le.trans le0 hqe; replace rs0 := rs0.mono hqe; replace rs2 := rs2.mono hqe
  have hval := made_valid x
  have hn40 := valid_n hval
  have hmr : ∀ c, InR (made x) (pickM c (made x).steps.length) := fun c => made_inR x
  generalize hfe : made x = f at *
  obtain ⟨_, _, e⟩ := rs1.isSlice; obtain ⟨rfl, rfl, rfl⟩ := Value.slice.inj e; clear e
  have fl0 : RFlow gz (.agg #[.int .i64 f.moveMin, .int .i64 f.moveMax, .slice sa f.steps.length sc, .slice wa wn wc]) f := ⟨_, _, _, _, _, _, rfl, rs1, rs2⟩
  skip
  refine WL_o rfl rfl (OpR_alloc T.ok rfl hs rfl rfl ?_); clear hs; rintro bf g1 hs hqe; replace le0 := G.le.trans le0 hqe; replace rs0 := rs0.mono hqe; replace rs1 := rs1.mono hqe; replace rs2 := rs2.mono hqe; replace fl0 := fl0.mono hqe
  skip
  refine WL_n rfl (OpR_storeO T.ok 0 rfl hs rfl rfl rfl rfl rfl rfl rfl rfl rfl ?_); replace hs := hs; rintro g1 hs hqe; replace le0 := G.le.trans le0 hqe; replace rs0 := rs0.mono hqe; replace rs1 := rs1.mono hqe; replace rs2 := rs2.mono hqe; replace fl0 := fl0.mono hqe
  obtain ⟨g2, hw2, hs2, hqe, hep⟩ := hs.fzObj (i := 0) rfl; replace hs := hs2; clear hs2; rw [← hw2]; replace le0 := G.le.trans le0 hqe; replace rs0 := rs0.mono hqe; replace rs1 := rs1.mono hqe; replace rs2 := rs2.mono hqe; replace fl0 := fl0.mono hqe
  have ep0 := hep; clear hep
  refine WL_nil ?_; (with_reducible refine T_then ?_); refine W_seq ?_; refine W_region ?_; refine P1 T.ok rfl rfl rfl ?_; refine P1 T.ok rfl rfl rfl ?_; refine WL_o rfl rfl (OpR_loadE T.ok 2 rfl ep0 rfl rfl ?_); refine P1 T.ok rfl rfl rfl ?_
  have rs6 := rsC.mono le0
  refine WL_o rfl rfl (OpR_ret cl20 allF rfl rfl rfl rfl rfl (pick_c _ _ _ ha (by omega)) ?_); rintro g1 _ hf1 rfl; replace hs := hs.call hf1; have hqe := hf1.le; replace le0 := G.le.trans le0 hqe; replace ep0 := ep0.mono hqe; replace rs0 := rs0.mono hqe; replace rs1 := rs1.mono hqe; replace rs2 := rs2.mono hqe; replace rs6 := rs6.mono hqe; replace fl0 := fl0.mono hqe
  refine P1 T.ok rfl rfl rfl ?_; refine WL_nil ?_; (with_reducible refine T_then ?_); refine W_seq ?_; refine W_region ?_; refine P1 T.ok rfl rfl rfl ?_; refine P1 T.ok rfl rfl rfl ?_; refine WL_nil ?_; (with_reducible refine T_then ?_); refine W_seq ?_; refine W_region ?_; refine P1 T.ok rfl rfl rfl ?_; refine WL_o rfl rfl (OpR_loadE T.ok 0 rfl ep0 rfl rfl ?_); refine P1 T.ok rfl rfl rfl ?_; refine WL_nil ?_; (with_reducible refine T_then ?_); refine W_seq ?_; refine W_seq ?_; refine W_region ?_; refine P1 T.ok rfl rfl rfl ?_; refine WL_nil ?_; (with_reducible refine T_then ?_); refine W_block ?_
  have h1 := hmr a
  generalize pickM a f.steps.length = p at *
  have hmv := valid_mv hval
  have hsl := rs1.len_le
  have fl0c := fl0; have ep0c := ep0; have rs1c := rs1; have rs6c := rs6; have le8 := G.le.refl g1
  refine W_loop (fun m a' w => ∃ (i : Nat) (cur t : Int) (g2 : G), w = g2.w ∧ St g g2 [] ∧ G.le g1 g2 ∧ i ≤ ch.length ∧ m = ch.length - i ∧ i ≤ 20 ∧ OnWay f p cur t ∧ (0 ≤ t ∧ t ≤ 20000 * ((i : Int) + 1)) ∧
      Fr 152 [] [(1, .int .i64 p), (2, .slice ca ch.length cc), (7, .bool true), (8, .pointer (some ⟨bf, 0, none⟩)), (9, .int .i64 cur), (10, .int .i64 t), (11, .int .i64 i)] a') ch.length
    (fun a' ha => ⟨0, p, f.moveMin, g1, rfl, hs, le8, Nat.zero_le _, rfl, Nat.zero_le _, .start h1, by omega, ha.keep (by (repeat (first | exact trivial | refine ⟨rfl, ?_⟩)))⟩) ?_
  clear hs le8 fl0 ep0 rs1 rs0 rs2 le0 rs6
  rintro m a' _ ⟨i, cur, t, g2, rfl, hs, le8, hi, rfl, hi20, hon, htb, ha'⟩
  have fl0 := fl0c.mono le8; have ep0 := ep0c.mono le8; have rs1 := rs1c.mono le8; have rs6 := rs6c.mono le8
  revert a'
  (with_reducible refine T_wp ?_); refine W_seq ?_; refine W_seq ?_; refine W_region ?_; (iterate 5 refine P1 T.ok rfl rfl rfl ?_)
  by_cases hlt : i < ch.length
  · refine WL_know 36 (b' := true) (decide_eq_true (by omega)) rfl ?_
    (iterate 3 refine P1 T.ok rfl rfl rfl ?_); refine WL_nil ?_; (with_reducible refine T_then ?_)
    by_cases hl20 : i < 20
    · refine W_yes (b := decide ((i : Int) < 20)) (decide_eq_true (by omega)) rfl ?_
      have hcr := hon.1
      refine W_skip ?_; (with_reducible refine T_then ?_); refine W_seq ?_; refine W_block ?_; refine W_seq ?_; refine W_region ?_; refine WL_o rfl rfl (OpR_loadE T.ok 0 rfl ep0 rfl rfl ?_); refine P1 T.ok rfl rfl rfl ?_
      refine WL_o rfl rfl (OpR_ret cl27 allF rfl rfl rfl rfl rfl (follow_c _ f cur _ fl0) ?_); rintro g1 vo hf1 hvo; obtain ⟨gz, hwz, hsz, hqz, rs3⟩ := hs.ownRs hf1 hvo; have hqe := hf1.le.trans hqz; rw [← hwz]; replace hs := hsz; clear hsz hvo; replace le8 := G.le.trans le8 hqe; replace ep0 := ep0.mono hqe; replace rs1 := rs1.mono hqe; replace rs6 := rs6.mono hqe; replace fl0 := fl0.mono hqe
      obtain ⟨al, cl, rfl⟩ := rs3.isSlice
      have hln := follow_inR hval hcr
      have hll := rs3.len_le
      unfold maxLen at hll
      have hfo := follow_eq hval hcr
      generalize follow f cur = l at *
      refine P1 T.ok rfl rfl rfl ?_; refine WL_nil ?_; (with_reducible refine T_then ?_); refine W_seq ?_; refine W_seq ?_; refine W_region ?_; (iterate 3 refine P1 T.ok rfl rfl rfl ?_); refine WL_nil ?_; (with_reducible refine T_then ?_)
      by_cases hl0 : l.length = 0
      · refine W_yes (b := ((l.length : Nat) : Int) == 0) (beq_iff_eq.2 (by omega)) rfl ?_
        refine W_exit ?_; (with_reducible refine T_tx ?_); ((with_reducible refine T_by ?_ ?_); exact rfl); (with_reducible refine T_tx ?_; with_reducible refine T_tx ?_); (with_reducible refine T_bx ?_); (with_reducible refine T_then ?_); refine W_seq ?_; refine W_region ?_; refine P1 T.ok rfl rfl rfl ?_; refine P1 T.ok rfl rfl rfl ?_; refine WL_nil ?_; (with_reducible refine T_then ?_)
        exact W_ret (ret1 rfl rfl (hs.ret rfl))
      · refine W_no (b := ((l.length : Nat) : Int) == 0) (beq_eq_false_iff_ne.2 (by omega)) rfl ?_
        have hgc := geti_of (xs := ch) (n := (i : Int)) rfl hlt
        have hcf := hch _ (List.getElem_mem hlt)
        generalize ch[i] = c at *
        have hpk := pickM_range (c := c) (n := (l.length : Int)) (by omega)
        refine W_skip ?_; (with_reducible refine T_then ?_); refine W_seq ?_; refine W_region ?_; (iterate 3 refine P1 T.ok rfl rfl rfl ?_)
        refine WL_o rfl rfl (OpR_idx T.ok rfl rs6 (y := c) hgc rfl rfl rfl rfl rfl rfl ?_)
        rintro b q ys hep rfl
        refine WL_o rfl rfl (OpR_loadE T.ok 0 rfl hep rfl rfl ?_)
        refine P1 T.ok rfl rfl rfl ?_; refine P1 T.ok rfl rfl rfl ?_
        refine WL_o rfl rfl (OpR_ret cl20 allF rfl rfl rfl rfl rfl (pick_c _ _ _ hcf (by omega)) ?_); rintro g1 _ hf1 rfl; replace hs := hs.call hf1; have hqe := hf1.le; replace le8 := G.le.trans le8 hqe; replace ep0 := ep0.mono hqe; replace rs1 := rs1.mono hqe; replace rs3 := rs3.mono hqe; replace rs6 := rs6.mono hqe; replace fl0 := fl0.mono hqe
        obtain ⟨n, hgn, hnl⟩ : ∃ n, geti l (pickM c l.length) = some n ∧ n ∈ l := by
          have hj : (pickM c l.length).toNat < l.length := by omega
          exact ⟨l[(pickM c l.length).toNat], geti_of (by omega) hj, List.getElem_mem hj⟩
        generalize pickM c l.length = pk at *
        refine WL_o rfl rfl (OpR_idx T.ok rfl rs3 (y := n) hgn rfl rfl rfl rfl rfl rfl ?_)
        rintro b q ys hep rfl
        refine WL_o rfl rfl (OpR_loadE T.ok 0 rfl hep rfl rfl ?_)
        have hnr := hln n hnl
        have hn0 := hnr.1; have hn1 := hnr.2
        rw [hfo] at hnl
        obtain ⟨w, hq, hwm, hway, htw, hwl⟩ := hon.some hval h1 hnl
        obtain ⟨hc1, hc2, hc3⟩ := hway.chain hval h1
        have hon2 := hon.next hval hnl
        have hnm := valid_min hval hnr
        clear rs3
        refine P1 T.ok rfl rfl rfl ?_; refine WL_nil ?_; (with_reducible refine T_then ?_); refine W_seq ?_; refine W_seq ?_; refine W_region ?_; (iterate 3 refine P1 T.ok rfl rfl rfl ?_)
        refine WL_know 60 (b' := false) (decide_eq_false (by omega)) rfl ?_
        refine P1 T.ok rfl rfl rfl ?_; refine P1 T.ok rfl rfl rfl ?_; refine WL_o rfl rfl (OpR_loadE T.ok 2 rfl ep0 rfl rfl ?_); (iterate 3 refine P1 T.ok rfl rfl rfl ?_); refine WL_nil ?_; (with_reducible refine T_then ?_)
        refine W_no (b := decide ((f.steps.length : Int) ≤ n)) (decide_eq_false (by omega)) rfl ?_
        refine W_skip ?_; (with_reducible refine T_then ?_); refine W_seq ?_; refine W_region ?_; refine WL_o rfl rfl (OpR_loadE T.ok 0 rfl ep0 rfl rfl ?_); refine P1 T.ok rfl rfl rfl ?_; refine P1 T.ok rfl rfl rfl ?_
        refine WL_o rfl rfl (OpR_ret cl23 allF rfl rfl rfl rfl rfl (quickest_c _ f p n _ fl0) ?_); rintro g1 _ hf1 rfl; replace hs := hs.call hf1; have hqe := hf1.le; replace le8 := G.le.trans le8 hqe; replace ep0 := ep0.mono hqe; replace rs1 := rs1.mono hqe; replace rs6 := rs6.mono hqe; replace fl0 := fl0.mono hqe
        rw [hq]
        (iterate 5 refine P1 T.ok rfl rfl rfl ?_); refine WL_nil ?_; (with_reducible refine T_then ?_); refine W_seq ?_; refine W_region ?_; refine WL_o rfl rfl (OpR_loadE T.ok 0 rfl ep0 rfl rfl ?_); refine P1 T.ok rfl rfl rfl ?_; refine P1 T.ok rfl rfl rfl ?_
        refine WL_o rfl rfl (OpR_ret cl21 allF rfl rfl rfl rfl rfl (way_c _ f p n _ fl0) ?_); rintro g1 _ hf1 ⟨u, rfl, hvo⟩
        obtain ⟨gz, hwz, hsz, hqz, rs3⟩ := hs.ownRs hf1 hvo
        have hqe := hf1.le.trans hqz; rw [← hwz]; replace hs := hsz; clear hsz hvo; replace le8 := G.le.trans le8 hqe; replace ep0 := ep0.mono hqe; replace rs1 := rs1.mono hqe; replace rs6 := rs6.mono hqe; replace fl0 := fl0.mono hqe
        rw [hwm] at rs3
        rw [hwm]
        obtain ⟨wa, wc, rfl⟩ := rs3.isSlice
        (iterate 5 refine P1 T.ok rfl rfl rfl ?_); refine WL_nil ?_; (with_reducible refine T_then ?_); refine W_seq ?_; refine W_seq ?_; refine W_region ?_; (iterate 11 refine P1 T.ok rfl rfl rfl ?_); refine WL_nil ?_; (with_reducible refine T_then ?_)
        refine W_no (b := decide (t < w.time)) (decide_eq_false (by omega)) rfl ?_
        refine W_skip ?_; (with_reducible refine T_then ?_); refine W_seq ?_; refine W_region ?_; refine P1 T.ok rfl rfl rfl ?_; refine WL_o rfl rfl (OpR_loadE T.ok 0 rfl ep0 rfl rfl ?_); refine P1 T.ok rfl rfl rfl ?_; refine WL_nil ?_; (with_reducible refine T_then ?_); refine W_seq ?_; refine W_region ?_; refine P1 T.ok rfl rfl rfl ?_; refine P1 T.ok rfl rfl rfl ?_; refine WL_nil ?_; (with_reducible refine T_then ?_); refine W_seq ?_; refine W_seq ?_; refine W_region ?_; refine P1 T.ok rfl rfl rfl ?_; refine WL_nil ?_; (with_reducible refine T_then ?_); refine W_block ?_
        have fl0d := fl0; have ep0d := ep0; have rs1d := rs1; have rs3d := rs3; have le9 := G.le.refl gz
        refine W_loop (fun m a' w' => ∃ (k : Nat) (lv : Int) (g3 : G), w' = g3.w ∧ St g g3 [] ∧ G.le gz g3 ∧ k ≤ w.steps.length + 1 ∧ m = w.steps.length + 1 - k ∧ (k ≤ w.steps.length → lv = (w.steps.take k).getLastD p) ∧
            Fr 152 [] [(1, .int .i64 p), (2, .slice ca ch.length cc), (7, .bool true), (8, .pointer (some ⟨bf, 0, none⟩)), (9, .int .i64 n), (10, .int .i64 t), (11, .int .i64 i), (13, .int .i64 w.time), (15, .slice wa w.steps.length wc), (17, .int .i64 (wtime f (w.steps.take k))), (18, .int .i64 lv), (19, .int .i64 k)] a') (w.steps.length + 1)
          (fun a' ha => ⟨0, p, gz, rfl, hs, le9, Nat.zero_le _, rfl, fun _ => rfl, ha.keep (by (repeat (first | exact trivial | refine ⟨rfl, ?_⟩)))⟩) ?_
        clear hs le9 fl0 ep0 rs1 rs3
        rintro m a' _ ⟨k, lv, g3, rfl, hs, le9, hk, rfl, hlv, ha'⟩
        have fl0 := fl0d.mono le9; have ep0 := ep0d.mono le9; have rs1 := rs1d.mono le9; have rs3 := rs3d.mono le9
        revert a'
        (with_reducible refine T_wp ?_); refine W_seq ?_; refine W_seq ?_; refine W_region ?_; (iterate 4 refine P1 T.ok rfl rfl rfl ?_); refine WL_nil ?_; (with_reducible refine T_then ?_)
        by_cases hkl : k ≤ w.steps.length
        · refine W_yes (b := decide ((k : Int) ≤ (w.steps.length : Int))) (decide_eq_true (by omega)) rfl ?_
          obtain rfl := hlv hkl
          have hmem := hc3 k hkl
          have hlr : InR f ((w.steps.take k).getLastD p) := by
            rcases List.eq_nil_or_concat (w.steps.take k) with h | ⟨l', z, h⟩
            · rw [h]; exact h1
            · rw [h]
              have : z ∈ w.steps := List.mem_of_mem_take (i := k) (by rw [h]; simp)
              simpa using hc1 z this
          have hsb := wtime_bound hval (w.steps.take k) (fun s hs => hc1 s (List.mem_of_mem_take hs))
          rw [List.length_take] at hsb
          generalize hlve : (w.steps.take k).getLastD p = last at *
          refine W_skip ?_; (with_reducible refine T_then ?_); refine W_seq ?_; refine W_block ?_; refine W_seq ?_; refine W_region ?_; refine P1 T.ok rfl rfl rfl ?_; refine P1 T.ok rfl rfl rfl ?_; refine WL_nil ?_; (with_reducible refine T_then ?_); refine W_seq ?_; refine W_seq ?_; refine W_region ?_; (iterate 4 refine P1 T.ok rfl rfl rfl ?_); refine WL_nil ?_; (with_reducible refine T_then ?_)
          refine W_mid (fun a' w' => ∃ g4, w' = g4.w ∧ St g g4 [] ∧ G.le g3 g4 ∧
            Fr 152 [] [(1, .int .i64 p), (2, .slice ca ch.length cc), (7, .bool true), (8, .pointer (some ⟨bf, 0, none⟩)), (9, .int .i64 n), (10, .int .i64 t), (11, .int .i64 i), (13, .int .i64 w.time), (15, .slice wa w.steps.length wc), (17, .int .i64 (wtime f (w.steps.take (k + 1)))), (18, .int .i64 last), (19, .int .i64 k), (20, .int .i64 (w.steps.getD k n))] a') ?_ ?_
          · have le2 := G.le.refl g3
            by_cases hkk : k < w.steps.length
            · refine W_yes (b := decide ((k : Int) < (w.steps.length : Int))) (decide_eq_true (by omega)) rfl ?_
              have hts := take_snoc_getD w.steps k hkk n
              have hgk : geti w.steps (k : Int) = some (w.steps.getD k n) := by rw [geti_of (j := k) rfl hkk, List.getD_eq_getElem?_getD, List.getElem?_eq_getElem hkk]; rfl
              have hnx := hc1 (w.steps.getD k n) (by rw [List.getD_eq_getElem?_getD, List.getElem?_eq_getElem hkk]; exact List.getElem_mem hkk)
              generalize w.steps.getD k n = nx at *
              have hx0 := hnx.1; have hx1 := hnx.2
              have hxm := valid_min hval hnx
              rw [hts, wtime_snoc]
              generalize wtime f (w.steps.take k) = s at *
              refine W_seq ?_; refine W_region ?_; refine P1 T.ok rfl rfl rfl ?_; refine P1 T.ok rfl rfl rfl ?_
              refine WL_o rfl rfl (OpR_idx T.ok rfl rs3 (y := nx) hgk rfl rfl rfl rfl rfl rfl ?_)
              rintro b q ys hep rfl
              refine WL_o rfl rfl (OpR_loadE T.ok 0 rfl hep rfl rfl ?_)
              refine P1 T.ok rfl rfl rfl ?_; refine WL_nil ?_; (with_reducible refine T_then ?_); refine W_seq ?_; refine W_seq ?_; refine W_region ?_; (iterate 3 refine P1 T.ok rfl rfl rfl ?_)
              refine WL_know 112 (b' := false) (decide_eq_false (by omega)) rfl ?_
              refine P1 T.ok rfl rfl rfl ?_; refine P1 T.ok rfl rfl rfl ?_; refine WL_o rfl rfl (OpR_loadE T.ok 2 rfl ep0 rfl rfl ?_); (iterate 3 refine P1 T.ok rfl rfl rfl ?_); refine WL_nil ?_; (with_reducible refine T_then ?_)
              refine W_no (b := decide ((f.steps.length : Int) ≤ nx)) (decide_eq_false (by omega)) rfl ?_
              refine W_skip ?_; (with_reducible refine T_then ?_)
              apply W_draw allF rfl (Fact.eq _ :: Fact.eq _ :: Fact.eq _ :: Fact.eq _ :: Fact.eq _ :: Fact.eq _ :: Fact.eq _ :: (stepPtr 0 (stepD f nx)) :: (stepPtr 2 (stepD f nx)) :: Fact.eq _ :: Fact.eq _ :: []) 11 [(10, 129)] rfl rfl
              · refine D_cons (D_step2 (js := []) (by kernel_rfl) fun gd hf => ?_) ?_
                · have hsd := hs.dr.call hf; have hfe := (G.le_dr _).trans hf.le
                  refine QA_nil ?_
                  (refine D_yes rfl ?_; refine OpR_pure _ T.ok rfl ?_; refine ⟨_, rfl, Fr0.refl _, ?_⟩; exact rfl)
                refine D_cons (D_step2 (js := []) (by kernel_rfl) fun gd hf => ?_) ?_
                · have hsd := hs.dr.call hf; have hfe := (G.le_dr _).trans hf.le
                  refine QA_nil ?_
                  (refine D_yes rfl ?_; refine OpR_pure _ T.ok rfl ?_; refine ⟨_, rfl, Fr0.refl _, ?_⟩; exact rfl)
                refine D_cons (D_step2 (js := [(1, 120)]) (by kernel_rfl) fun gd hf => ?_) ?_
                · have hsd := hs.dr.call hf; have hfe := (G.le_dr _).trans hf.le
                  refine QA_eq rfl ?_
                  refine QA_nil ?_
                  (refine D_yes rfl ?_; refine OpR_loadE T.ok 0 rfl (ep0.mono hfe) rfl rfl ?_; refine ⟨_, rfl, Fr0.refl _, ?_⟩; exact rfl)
                refine D_cons (D_step2 (js := [(0, 119), (2, 121)]) (by kernel_rfl) fun gd hf => ?_) ?_
                · have hsd := hs.dr.call hf; have hfe := (G.le_dr _).trans hf.le
                  refine QA_eq rfl ?_; refine QA_eq rfl ?_
                  refine QA_nil ?_
                  refine D_yes rfl ?_
                  refine OpR_pure _ T.ok rfl ?_
                  refine ⟨_, rfl, Fr0.refl _, ?_⟩
                  exact congrArg (Value.int .i64) (show _ = s + f.moveMin from wr (by omega) (by omega))
                refine D_cons (D_step2 (js := []) (by kernel_rfl) fun gd hf => ?_) ?_
                · have hsd := hs.dr.call hf; have hfe := (G.le_dr _).trans hf.le
                  refine QA_nil ?_
                  (refine D_yes rfl ?_; refine OpR_pure _ T.ok rfl ?_; refine ⟨_, rfl, Fr0.refl _, ?_⟩; exact rfl)
                refine D_cons (D_step2 (js := [(4, 123)]) (by kernel_rfl) fun gd hf => ?_) ?_
                · have hsd := hs.dr.call hf; have hfe := (G.le_dr _).trans hf.le
                  refine QA_eq rfl ?_
                  refine QA_nil ?_
                  (refine D_yes rfl ?_; refine OpR_loadE T.ok 2 rfl (ep0.mono hfe) rfl rfl ?_; refine ⟨_, rfl, Fr0.refl _, ?_⟩; exact rfl)
                refine D_cons (D_step2 (js := []) (by kernel_rfl) fun gd hf => ?_) ?_
                · have hsd := hs.dr.call hf; have hfe := (G.le_dr _).trans hf.le
                  refine QA_nil ?_
                  (refine D_yes rfl ?_; refine OpR_pure _ T.ok rfl ?_; refine ⟨_, rfl, Fr0.refl _, ?_⟩; exact rfl)
                refine D_cons (D_step2 (js := [(5, 124), (6, 125)]) (by kernel_rfl) fun gd hf => ?_) ?_
                · have hsd := hs.dr.call hf; have hfe := (G.le_dr _).trans hf.le
                  refine QA_eq rfl ?_; refine QA_eq rfl ?_
                  refine QA_nil ?_
                  refine D_yes rfl ?_
                  refine OpR_idx T.ok rfl (rs1.mono hfe) (y := stepD f nx) (step_geti hnx) rfl rfl rfl rfl rfl rfl ?_
                  intro b p ys hep hrc
                  exact ⟨_, rfl, Fr0.refl _, b, p, ys, rfl, hep, hrc⟩
                refine D_cons (D_step2 (js := [(7, 126)]) (by kernel_rfl) fun gd hf => ?_) ?_
                · have hsd := hs.dr.call hf; have hfe := (G.le_dr _).trans hf.le
                  refine QA_any fun v7 h7 => ?_
                  refine QA_nil ?_
                  obtain ⟨b, p, ys, rfl, hep, hrc⟩ := h7
                  refine D_yes rfl ?_
                  refine OpR_pure _ T.ok rfl ?_
                  exact ⟨_, rfl, Fr0.refl _, b, p, ys, rfl, hep, hrc⟩
                refine D_cons (D_step2 (js := [(8, 127)]) (by kernel_rfl) fun gd hf => ?_) ?_
                · have hsd := hs.dr.call hf; have hfe := (G.le_dr _).trans hf.le
                  refine QA_any fun v8 h8 => ?_
                  refine QA_nil ?_
                  obtain ⟨b, p, ys, rfl, hep, hrc⟩ := h8
                  obtain ⟨b1, b2, b3, b4, b5, b6, rfl, hx1, hx2⟩ := hrc
                  refine D_yes rfl ?_
                  refine OpR_loadE T.ok 2 rfl hep rfl rfl ?_
                  refine ⟨_, rfl, Fr0.refl _, ?_⟩
                  exact rfl
                refine D_cons (D_step2 (js := [(3, 122), (9, 128)]) (by kernel_rfl) fun gd hf => ?_) ?_
                · have hsd := hs.dr.call hf; have hfe := (G.le_dr _).trans hf.le
                  refine QA_eq rfl ?_; refine QA_eq rfl ?_
                  refine QA_nil ?_
                  refine D_yes rfl ?_
                  refine OpR_pure _ T.ok rfl ?_
                  refine ⟨_, rfl, Fr0.refl _, ?_⟩
                  exact congrArg (Value.int .i64) (show _ = s + f.moveMin + (stepD f nx).min from wr (by omega) (by omega))
                exact D_nil
              intro g1 hf1; refine QA_eq rfl ?_; refine QA_nil ?_
              replace hs := hs.dr.call hf1; have hqe := (G.le_dr _).trans hf1.le; replace le2 := G.le.trans le2 hqe; replace le9 := G.le.trans le9 hqe; replace ep0 := ep0.mono hqe; replace rs1 := rs1.mono hqe; replace rs3 := rs3.mono hqe; replace fl0 := fl0.mono hqe
              refine P1 T.ok rfl rfl rfl ?_; refine WL_nil ?_
              exact fun a ha => T_mid ⟨_, rfl, hs, le2, ha.keep (by (repeat (first | exact trivial | refine ⟨rfl, ?_⟩)))⟩
            · refine W_no (b := decide ((k : Int) < (w.steps.length : Int))) (decide_eq_false (by omega)) rfl ?_
              have e1 : w.steps.getD k n = n := by rw [List.getD_eq_getElem?_getD, List.getElem?_eq_none (by omega)]; rfl
              have e2 : w.steps.take (k + 1) = w.steps.take k := by rw [List.take_of_length_le (by omega), List.take_of_length_le (by omega)]
              rw [e1, e2]
              refine W_skip ?_
              exact fun a ha => T_mid ⟨_, rfl, hs, le2, ha.keep (by (repeat (first | exact trivial | refine ⟨rfl, ?_⟩)))⟩
          · rintro a' _ ⟨g4, rfl, hs', hqe, ha'⟩
            replace hs := hs'; clear hs'
            replace le9 := G.le.trans le9 hqe; replace ep0 := ep0.mono hqe; replace rs1 := rs1.mono hqe; replace rs3 := rs3.mono hqe; replace fl0 := fl0.mono hqe
            revert a'
            have hlast2 : k + 1 ≤ w.steps.length → w.steps.getD k n = (w.steps.take (k + 1)).getLastD p := fun h => by
              rw [take_snoc_getD w.steps k (by omega) n]; simp
            generalize w.steps.getD k n = nx at *
            (with_reducible refine T_wp ?_); refine W_seq ?_; refine W_seq ?_; refine W_region ?_; refine WL_o rfl rfl (OpR_loadE T.ok 0 rfl ep0 rfl rfl ?_); refine P1 T.ok rfl rfl rfl ?_
            refine WL_o rfl rfl (OpR_ret cl27 allF rfl rfl rfl rfl rfl (follow_c _ f last _ fl0) ?_); rintro g1 vo hf1 hvo; obtain ⟨gz, hwz, hsz, hqz, rs4⟩ := hs.ownRs hf1 hvo; have hqe := hf1.le.trans hqz; rw [← hwz]; replace hs := hsz; clear hsz hvo; replace le9 := G.le.trans le9 hqe; replace ep0 := ep0.mono hqe; replace rs1 := rs1.mono hqe; replace rs3 := rs3.mono hqe; replace fl0 := fl0.mono hqe
            rw [follow_eq hval hlr] at rs4
            refine P1 T.ok rfl rfl rfl ?_
            refine WL_o rfl rfl (OpR_ret cl31 allF rfl rfl rfl rfl rfl (has_c _ _ nx _ rs4) ?_); rintro g1 _ hf1 rfl; replace hs := hs.call hf1; have hqe := hf1.le; replace le9 := G.le.trans le9 hqe; replace ep0 := ep0.mono hqe; replace rs1 := rs1.mono hqe; replace rs3 := rs3.mono hqe; replace rs4 := rs4.mono hqe; replace fl0 := fl0.mono hqe
            refine P1 T.ok rfl rfl rfl ?_; refine WL_nil ?_; (with_reducible refine T_then ?_)
            refine W_no (b := !decide (nx ∈ afterL (stepD f last))) (by simp [hmem]) rfl ?_
            refine W_skip ?_; (with_reducible refine T_then ?_); refine W_region ?_; refine P1 T.ok rfl rfl rfl ?_; refine P1 T.ok rfl rfl rfl ?_; refine WL_nil ?_; (with_reducible refine T_bn ?_); (with_reducible refine T_then ?_); refine W_region ?_; (iterate 3 refine P1 T.ok rfl rfl rfl ?_); refine WL_nil ?_
            exact fun a ha => ⟨w.steps.length + 1 - (k + 1), by omega, k + 1, nx, _, rfl, hs, le9, by omega, rfl, hlast2, ha.keep ⟨rfl, rfl, rfl, rfl, rfl, rfl, rfl, rfl, rfl, rfl, rfl, kI rfl (by rw [wr (by omega) (by omega)]; omega), trivial⟩⟩
        · refine W_no (b := decide ((k : Int) ≤ (w.steps.length : Int))) (decide_eq_false (by omega)) rfl ?_
          rw [List.take_of_length_le (by omega), ← hc2]
          refine W_exit ?_; (with_reducible refine T_tx ?_; with_reducible refine T_tx ?_); (with_reducible refine T_bx ?_); (with_reducible refine T_then ?_); refine W_seq ?_; refine W_seq ?_; refine W_region ?_; (iterate 3 refine P1 T.ok rfl rfl rfl ?_); refine WL_nil ?_; (with_reducible refine T_then ?_)
          refine W_no (b := w.time != w.time) (by simp) rfl ?_
          refine W_skip ?_; (with_reducible refine T_then ?_)
          apply W_draw allF rfl (Fact.eq _ :: Fact.eq _ :: Fact.eq _ :: Fact.eq _ :: Fact.eq _ :: Fact.eq _ :: Fact.eq _ :: (stepPtr 0 (stepD f n)) :: (stepPtr 2 (stepD f n)) :: Fact.eq _ :: Fact.eq _ :: []) 11 [(10, 150)] rfl rfl
          · refine D_cons (D_step2 (js := []) (by kernel_rfl) fun gd hf => ?_) ?_
            · have hsd := hs.dr.call hf; have hfe := (G.le_dr _).trans hf.le
              refine QA_nil ?_
              (refine D_yes rfl ?_; refine OpR_pure _ T.ok rfl ?_; refine ⟨_, rfl, Fr0.refl _, ?_⟩; exact rfl)
            refine D_cons (D_step2 (js := []) (by kernel_rfl) fun gd hf => ?_) ?_
            · have hsd := hs.dr.call hf; have hfe := (G.le_dr _).trans hf.le
              refine QA_nil ?_
              (refine D_yes rfl ?_; refine OpR_pure _ T.ok rfl ?_; refine ⟨_, rfl, Fr0.refl _, ?_⟩; exact rfl)
            refine D_cons (D_step2 (js := [(1, 141)]) (by kernel_rfl) fun gd hf => ?_) ?_
            · have hsd := hs.dr.call hf; have hfe := (G.le_dr _).trans hf.le
              refine QA_eq rfl ?_
              refine QA_nil ?_
              (refine D_yes rfl ?_; refine OpR_loadE T.ok 0 rfl (ep0.mono hfe) rfl rfl ?_; refine ⟨_, rfl, Fr0.refl _, ?_⟩; exact rfl)
            refine D_cons (D_step2 (js := [(0, 140), (2, 142)]) (by kernel_rfl) fun gd hf => ?_) ?_
            · have hsd := hs.dr.call hf; have hfe := (G.le_dr _).trans hf.le
              refine QA_eq rfl ?_; refine QA_eq rfl ?_
              refine QA_nil ?_
              refine D_yes rfl ?_
              refine OpR_pure _ T.ok rfl ?_
              refine ⟨_, rfl, Fr0.refl _, ?_⟩
              exact congrArg (Value.int .i64) (show _ = t + f.moveMin from wr (by omega) (by omega))
            refine D_cons (D_step2 (js := []) (by kernel_rfl) fun gd hf => ?_) ?_
            · have hsd := hs.dr.call hf; have hfe := (G.le_dr _).trans hf.le
              refine QA_nil ?_
              (refine D_yes rfl ?_; refine OpR_pure _ T.ok rfl ?_; refine ⟨_, rfl, Fr0.refl _, ?_⟩; exact rfl)
            refine D_cons (D_step2 (js := [(4, 144)]) (by kernel_rfl) fun gd hf => ?_) ?_
            · have hsd := hs.dr.call hf; have hfe := (G.le_dr _).trans hf.le
              refine QA_eq rfl ?_
              refine QA_nil ?_
              (refine D_yes rfl ?_; refine OpR_loadE T.ok 2 rfl (ep0.mono hfe) rfl rfl ?_; refine ⟨_, rfl, Fr0.refl _, ?_⟩; exact rfl)
            refine D_cons (D_step2 (js := []) (by kernel_rfl) fun gd hf => ?_) ?_
            · have hsd := hs.dr.call hf; have hfe := (G.le_dr _).trans hf.le
              refine QA_nil ?_
              (refine D_yes rfl ?_; refine OpR_pure _ T.ok rfl ?_; refine ⟨_, rfl, Fr0.refl _, ?_⟩; exact rfl)
            refine D_cons (D_step2 (js := [(5, 145), (6, 146)]) (by kernel_rfl) fun gd hf => ?_) ?_
            · have hsd := hs.dr.call hf; have hfe := (G.le_dr _).trans hf.le
              refine QA_eq rfl ?_; refine QA_eq rfl ?_
              refine QA_nil ?_
              refine D_yes rfl ?_
              refine OpR_idx T.ok rfl (rs1.mono hfe) (y := stepD f n) (step_geti hnr) rfl rfl rfl rfl rfl rfl ?_
              intro b p ys hep hrc
              exact ⟨_, rfl, Fr0.refl _, b, p, ys, rfl, hep, hrc⟩
            refine D_cons (D_step2 (js := [(7, 147)]) (by kernel_rfl) fun gd hf => ?_) ?_
            · have hsd := hs.dr.call hf; have hfe := (G.le_dr _).trans hf.le
              refine QA_any fun v7 h7 => ?_
              refine QA_nil ?_
              obtain ⟨b, p, ys, rfl, hep, hrc⟩ := h7
              refine D_yes rfl ?_
              refine OpR_pure _ T.ok rfl ?_
              exact ⟨_, rfl, Fr0.refl _, b, p, ys, rfl, hep, hrc⟩
            refine D_cons (D_step2 (js := [(8, 148)]) (by kernel_rfl) fun gd hf => ?_) ?_
            · have hsd := hs.dr.call hf; have hfe := (G.le_dr _).trans hf.le
              refine QA_any fun v8 h8 => ?_
              refine QA_nil ?_
              obtain ⟨b, p, ys, rfl, hep, hrc⟩ := h8
              obtain ⟨b1, b2, b3, b4, b5, b6, rfl, hx1, hx2⟩ := hrc
              refine D_yes rfl ?_
              refine OpR_loadE T.ok 2 rfl hep rfl rfl ?_
              refine ⟨_, rfl, Fr0.refl _, ?_⟩
              exact rfl
            refine D_cons (D_step2 (js := [(3, 143), (9, 149)]) (by kernel_rfl) fun gd hf => ?_) ?_
            · have hsd := hs.dr.call hf; have hfe := (G.le_dr _).trans hf.le
              refine QA_eq rfl ?_; refine QA_eq rfl ?_
              refine QA_nil ?_
              refine D_yes rfl ?_
              refine OpR_pure _ T.ok rfl ?_
              refine ⟨_, rfl, Fr0.refl _, ?_⟩
              exact congrArg (Value.int .i64) (show _ = t + f.moveMin + (stepD f n).min from wr (by omega) (by omega))
            exact D_nil
          intro g1 hf1; refine QA_eq rfl ?_; refine QA_nil ?_
          replace hs := hs.dr.call hf1; have hqe := (G.le_dr _).trans hf1.le; replace le9 := G.le.trans le9 hqe; replace ep0 := ep0.mono hqe; replace rs1 := rs1.mono hqe; replace rs3 := rs3.mono hqe; replace fl0 := fl0.mono hqe
          refine P1 T.ok rfl rfl rfl ?_; refine WL_nil ?_; (with_reducible refine T_bn ?_); (with_reducible refine T_then ?_); refine W_region ?_; (iterate 3 refine P1 T.ok rfl rfl rfl ?_); refine WL_nil ?_
          exact fun a ha => ⟨ch.length - (i + 1), by omega, i + 1, n, _, _, rfl, hs, (le8.trans le9), by omega, rfl, by omega, hon2, by omega, ha.keep ⟨rfl, rfl, rfl, rfl, rfl, rfl, kI rfl (by rw [wr (by omega) (by omega)]; omega), trivial⟩⟩
    · refine W_no (b := decide ((i : Int) < 20)) (decide_eq_false (by omega)) rfl ?_
      refine W_exit ?_; (with_reducible refine T_tx ?_; with_reducible refine T_tx ?_); (with_reducible refine T_bx ?_); (with_reducible refine T_then ?_); refine W_seq ?_; refine W_region ?_; refine P1 T.ok rfl rfl rfl ?_; refine P1 T.ok rfl rfl rfl ?_; refine WL_nil ?_; (with_reducible refine T_then ?_)
      exact W_ret (ret1 rfl rfl (hs.ret rfl))
  · refine WL_know 36 (b' := false) (decide_eq_false (by omega)) rfl ?_
    refine S1 allF rfl rfl ?_; refine S1 allF rfl rfl ?_; refine P1 T.ok rfl rfl rfl ?_; refine WL_nil ?_; (with_reducible refine T_then ?_)
    refine W_no rfl rfl ?_
    refine W_exit ?_; (with_reducible refine T_tx ?_; with_reducible refine T_tx ?_); (with_reducible refine T_bx ?_); (with_reducible refine T_then ?_); refine W_seq ?_; refine W_region ?_; refine P1 T.ok rfl rfl rfl ?_; refine P1 T.ok rfl rfl rfl ?_; refine WL_nil ?_; (with_reducible refine T_then ?_)
    exact W_ret (ret1 rfl rfl (hs.ret rfl))
end Go.Proofs.Ytijmlfmapfhabaa
