/- GraphTriangle: the quickest way from one step to another one is not longer than the one by a third step; if both parts are there, so is the whole: for every input. No condition. -/
import Derived.Test.YtijmlfmapfhabaaGg
import Derived.Test.YtijmlfmapfhabaaMa
import Derived.Test.YtijmlfmapfhabaaZ

/- The walk through the statement GraphTriangle. -/
namespace Go.Proofs.Ytijmlfmapfhabaa
open Go Go.K
set_option maxRecDepth 10000
attribute [local irreducible] W WL OpR
set_option maxHeartbeats 4000000

theorem made_inR (x : List Y6) {c : Int} : InR (made x) (pickM c (made x).steps.length) := by
  have h := made_len x
  have h2 := madeN_range x
  have := pickM_range (c := c) (n := ((made x).steps.length : Int)) (by omega)
  exact this
theorem step_geti {f : Flow} {j : Int} (hj : InR f j) : geti f.steps j = some (stepD f j) := by
  have h0 := hj.1; have h1 := hj.2
  unfold stepD; rw [geti_of (j := j.toNat) (by omega) (by omega)]
  simp [List.getD_eq_getElem?_getD, show j.toNat < f.steps.length from by omega]



theorem triangle_c (v : Value) (x : List Y6) (a b c : Int) (g : G) (rs0 : Rs g v x) (hx : ∀ y ∈ x, y.fit) (ha : I64 a) (hb : I64 b) (hc : I64 c) :
    CallsIn Wd 0 Try.prog 9 #[v, .int .i64 a, .int .i64 b, .int .i64 c] g.w (Ret g fun _ r => r = .bool true) := by
  have hs := St.start g
  have le0 := G.le.refl g
  refine enter Try.func9 rfl Try.ntmps9 rfl ?_
  refine W_seq ?_; refine W_region ?_; refine P1 T.ok rfl rfl rfl ?_; refine WL_nil ?_; (with_reducible refine T_then ?_); refine W_seq ?_; refine W_region ?_
  refine WL_o rfl rfl (OpR_ret cl12 allF rfl rfl rfl rfl rfl (sane_c _) ?_); rintro g1 _ hf1 rfl; replace hs := hs.call hf1; have hqe := hf1.le; replace le0 := G.le.trans le0 hqe; replace rs0 := rs0.mono hqe
  refine P1 T.ok rfl rfl rfl ?_; refine WL_nil ?_; (with_reducible refine T_then ?_); refine W_seq ?_; refine W_region ?_; refine P1 T.ok rfl rfl rfl ?_
  refine WL_o rfl rfl (OpR_ret cl14 allF rfl rfl rfl rfl rfl (made_c _ x _ rs0 hx) ?_); rintro g1 _ hf1 ⟨sa, sn, sc, wa, wn, wc, cells, rfl, hh, rc0, rs2⟩
  replace hs := hs.getOwn hf1 hh; have hqe := hf1.le
  replace le0 := le0.trans hqe; replace rs0 := rs0.mono hqe; clear hh
  obtain ⟨gz, hwz, hsz, hqz, rs1⟩ := hs.fzRow (α := Step) (i := 0) rfl rc0
  clear hqe; have hqe := hqz; rw [← hwz]; replace hs := hsz; clear hsz rc0; replace le0 := G.le.trans le0 hqe; replace rs0 := rs0.mono hqe; replace rs2 := rs2.mono hqe
  have hval := made_valid x
  have hn40 := valid_n hval
  have hmr : ∀ c, InR (made x) (pickM c (made x).steps.length) := fun c => made_inR x
  generalize hfe : made x = f at *
  obtain ⟨_, _, e⟩ := rs1.isSlice; obtain ⟨rfl, rfl, rfl⟩ := Value.slice.inj e; clear e
  have fl0 : RFlow gz (.agg #[.int .i64 f.moveMin, .int .i64 f.moveMax, .slice sa f.steps.length sc, .slice wa wn wc]) f := ⟨_, _, _, _, _, _, rfl, rs1, rs2⟩
  skip
  refine WL_o rfl rfl (OpR_alloc T.ok rfl hs rfl rfl ?_); clear hs; rintro bf g1 hs hqe; replace le0 := G.le.trans le0 hqe; replace rs0 := rs0.mono hqe; replace rs1 := rs1.mono hqe; replace rs2 := rs2.mono hqe; replace fl0 := fl0.mono hqe
  skip
  refine WL_n rfl (OpR_storeO T.ok 0 rfl hs rfl rfl rfl rfl rfl rfl rfl rfl rfl ?_); replace hs := hs; rintro g1 hs hqe; replace le0 := G.le.trans le0 hqe; replace rs0 := rs0.mono hqe; replace rs1 := rs1.mono hqe; replace rs2 := rs2.mono hqe; replace fl0 := fl0.mono hqe
  obtain ⟨g2, hw2, hs2, hqe, hep⟩ := hs.fzObj (i := 0) rfl; replace hs := hs2; clear hs2; rw [← hw2]; replace le0 := G.le.trans le0 hqe; replace rs0 := rs0.mono hqe; replace rs1 := rs1.mono hqe; replace rs2 := rs2.mono hqe; replace fl0 := fl0.mono hqe
  have ep0 := hep; clear hep
  refine WL_nil ?_; (with_reducible refine T_then ?_); refine W_seq ?_; refine W_region ?_; refine P1 T.ok rfl rfl rfl ?_; refine WL_o rfl rfl (OpR_loadE T.ok 2 rfl ep0 rfl rfl ?_); refine P1 T.ok rfl rfl rfl ?_; refine P1 T.ok rfl rfl rfl ?_; refine WL_nil ?_; (with_reducible refine T_then ?_); refine W_seq ?_; refine W_region ?_; refine P1 T.ok rfl rfl rfl ?_; refine P1 T.ok rfl rfl rfl ?_
  refine WL_o rfl rfl (OpR_ret cl20 allF rfl rfl rfl rfl rfl (pick_c _ _ _ ha (by omega)) ?_); rintro g1 _ hf1 rfl; replace hs := hs.call hf1; have hqe := hf1.le; replace le0 := G.le.trans le0 hqe; replace ep0 := ep0.mono hqe; replace rs0 := rs0.mono hqe; replace rs1 := rs1.mono hqe; replace rs2 := rs2.mono hqe; replace fl0 := fl0.mono hqe
  refine P1 T.ok rfl rfl rfl ?_; refine WL_nil ?_; (with_reducible refine T_then ?_); refine W_seq ?_; refine W_region ?_; refine P1 T.ok rfl rfl rfl ?_; refine P1 T.ok rfl rfl rfl ?_
  refine WL_o rfl rfl (OpR_ret cl20 allF rfl rfl rfl rfl rfl (pick_c _ _ _ hb (by omega)) ?_); rintro g1 _ hf1 rfl; replace hs := hs.call hf1; have hqe := hf1.le; replace le0 := G.le.trans le0 hqe; replace ep0 := ep0.mono hqe; replace rs0 := rs0.mono hqe; replace rs1 := rs1.mono hqe; replace rs2 := rs2.mono hqe; replace fl0 := fl0.mono hqe
  refine P1 T.ok rfl rfl rfl ?_; refine WL_nil ?_; (with_reducible refine T_then ?_); refine W_seq ?_; refine W_region ?_; refine P1 T.ok rfl rfl rfl ?_; refine P1 T.ok rfl rfl rfl ?_
  refine WL_o rfl rfl (OpR_ret cl20 allF rfl rfl rfl rfl rfl (pick_c _ _ _ hc (by omega)) ?_); rintro g1 _ hf1 rfl; replace hs := hs.call hf1; have hqe := hf1.le; replace le0 := G.le.trans le0 hqe; replace ep0 := ep0.mono hqe; replace rs0 := rs0.mono hqe; replace rs1 := rs1.mono hqe; replace rs2 := rs2.mono hqe; replace fl0 := fl0.mono hqe
  refine P1 T.ok rfl rfl rfl ?_; refine WL_nil ?_; (with_reducible refine T_then ?_); refine W_seq ?_; refine W_region ?_; refine WL_o rfl rfl (OpR_loadE T.ok 0 rfl ep0 rfl rfl ?_); refine P1 T.ok rfl rfl rfl ?_; refine P1 T.ok rfl rfl rfl ?_
  have h1 := hmr a; have h2 := hmr b; have h3 := hmr c
  generalize pickM a f.steps.length = p at *
  generalize pickM b f.steps.length = q at *
  generalize pickM c f.steps.length = r at *
  refine WL_o rfl rfl (OpR_ret cl23 allF rfl rfl rfl rfl rfl (quickest_c _ f p q _ fl0) ?_); rintro g1 _ hf1 rfl; replace hs := hs.call hf1; have hqe := hf1.le; replace le0 := G.le.trans le0 hqe; replace ep0 := ep0.mono hqe; replace rs0 := rs0.mono hqe; replace rs1 := rs1.mono hqe; replace rs2 := rs2.mono hqe; replace fl0 := fl0.mono hqe
  (iterate 5 refine P1 T.ok rfl rfl rfl ?_); refine WL_nil ?_; (with_reducible refine T_then ?_); refine W_seq ?_; refine W_region ?_; refine WL_o rfl rfl (OpR_loadE T.ok 0 rfl ep0 rfl rfl ?_); refine P1 T.ok rfl rfl rfl ?_; refine P1 T.ok rfl rfl rfl ?_
  refine WL_o rfl rfl (OpR_ret cl23 allF rfl rfl rfl rfl rfl (quickest_c _ f q r _ fl0) ?_); rintro g1 _ hf1 rfl; replace hs := hs.call hf1; have hqe := hf1.le; replace le0 := G.le.trans le0 hqe; replace ep0 := ep0.mono hqe; replace rs0 := rs0.mono hqe; replace rs1 := rs1.mono hqe; replace rs2 := rs2.mono hqe; replace fl0 := fl0.mono hqe
  (iterate 5 refine P1 T.ok rfl rfl rfl ?_); refine WL_nil ?_; (with_reducible refine T_then ?_); refine W_seq ?_; refine W_region ?_; refine WL_o rfl rfl (OpR_loadE T.ok 0 rfl ep0 rfl rfl ?_); refine P1 T.ok rfl rfl rfl ?_; refine P1 T.ok rfl rfl rfl ?_
  refine WL_o rfl rfl (OpR_ret cl23 allF rfl rfl rfl rfl rfl (quickest_c _ f p r _ fl0) ?_); rintro g1 _ hf1 rfl; replace hs := hs.call hf1; have hqe := hf1.le; replace le0 := G.le.trans le0 hqe; replace ep0 := ep0.mono hqe; replace rs0 := rs0.mono hqe; replace rs1 := rs1.mono hqe; replace rs2 := rs2.mono hqe; replace fl0 := fl0.mono hqe
  (iterate 5 refine P1 T.ok rfl rfl rfl ?_); refine WL_nil ?_; (with_reducible refine T_then ?_); refine W_seq ?_; refine W_region ?_; refine WL_o rfl rfl (OpR_loadE T.ok 0 rfl ep0 rfl rfl ?_); refine P1 T.ok rfl rfl rfl ?_
  refine WL_o rfl rfl (OpR_ret cl27 allF rfl rfl rfl rfl rfl (follow_c _ f p _ fl0) ?_); rintro g1 vo hf1 hvo; obtain ⟨gz, hwz, hsz, hqz, rs3⟩ := hs.ownRs hf1 hvo; have hqe := hf1.le.trans hqz; rw [← hwz]; replace hs := hsz; clear hsz hvo; replace le0 := G.le.trans le0 hqe; replace ep0 := ep0.mono hqe; replace rs0 := rs0.mono hqe; replace rs1 := rs1.mono hqe; replace rs2 := rs2.mono hqe; replace fl0 := fl0.mono hqe
  obtain ⟨al, cl, rfl⟩ := rs3.isSlice
  refine P1 T.ok rfl rfl rfl ?_; refine WL_nil ?_; (with_reducible refine T_then ?_); refine W_seq ?_; refine W_seq ?_; refine W_region ?_; (iterate 3 refine P1 T.ok rfl rfl rfl ?_); refine WL_nil ?_; (with_reducible refine T_then ?_)
  refine W_mid (fun a' w => ∃ g2, w = g2.w ∧ St g g2 [] ∧ G.le gz g2 ∧
    Fr 106 [] [(2, .int .i64 q), (9, .bool true), (10, .pointer (some ⟨bf, 0, none⟩)), (12, .int .i64 (quickest f p q).1), (13, .bool (quickest f p q).2), (14, .int .i64 (quickest f q r).1), (15, .bool (quickest f q r).2), (16, .int .i64 (quickest f p r).1), (17, .bool (quickest f p r).2)] a') ?_ ?_
  · have le8 := G.le.refl gz
    by_cases h0 : 0 < (follow f p).length
    · refine W_yes (b := decide ((0 : Int) < ((follow f p).length : Int))) (decide_eq_true (by omega)) rfl ?_
      have hfi := law_first hval h1 (List.getElem_mem h0)
      generalize hl0 : (follow f p)[0] = l0 at *
      refine W_seq ?_
      apply W_draw allF rfl (Fact.eq _ :: Fact.eq _ :: Fact.eq _ :: (intPtr l0) :: Fact.eq _ :: Fact.eq _ :: Fact.eq _ :: Fact.eq _ :: Fact.eq _ :: Fact.eq _ :: Fact.eq _ :: []) 11 [(9, 19), (10, 20)] rfl rfl
      · refine D_cons (D_step2 (js := []) (by kernel_rfl) fun gd hf => ?_) ?_
        · have hsd := hs.dr.call hf; have hfe := (G.le_dr _).trans hf.le
          refine QA_nil ?_
          (refine D_yes rfl ?_; refine OpR_loadE T.ok 0 rfl (ep0.mono hfe) rfl rfl ?_; refine ⟨_, rfl, Fr0.refl _, ?_⟩; exact rfl)
        refine D_cons (D_step2 (js := []) (by kernel_rfl) fun gd hf => ?_) ?_
        · have hsd := hs.dr.call hf; have hfe := (G.le_dr _).trans hf.le
          refine QA_nil ?_
          (refine D_yes rfl ?_; refine OpR_pure _ T.ok rfl ?_; refine ⟨_, rfl, Fr0.refl _, ?_⟩; exact rfl)
        refine D_cons (D_step2 (js := []) (by kernel_rfl) fun gd hf => ?_) ?_
        · have hsd := hs.dr.call hf; have hfe := (G.le_dr _).trans hf.le
          refine QA_nil ?_
          (refine D_yes rfl ?_; refine OpR_pure _ T.ok rfl ?_; refine ⟨_, rfl, Fr0.refl _, ?_⟩; exact rfl)
        refine D_cons (D_step2 (js := [(2, 66)]) (by kernel_rfl) fun gd hf => ?_) ?_
        · have hsd := hs.dr.call hf; have hfe := (G.le_dr _).trans hf.le
          refine QA_eq rfl ?_
          refine QA_nil ?_
          refine D_yes rfl ?_
          refine OpR_idx T.ok rfl (rs3.mono hfe) (y := l0) (by have h9 := geti_of (xs := follow f p) (n := 0) (j := 0) rfl h0; rw [hl0] at h9; exact h9) rfl rfl rfl rfl rfl rfl ?_
          intro b p ys hep hrc
          exact ⟨_, rfl, Fr0.refl _, b, p, rfl, by rw [← show ys = [Value.int .i64 l0] from hrc]; exact hep⟩
        refine D_cons (D_step2 (js := [(3, 67)]) (by kernel_rfl) fun gd hf => ?_) ?_
        · have hsd := hs.dr.call hf; have hfe := (G.le_dr _).trans hf.le
          refine QA_any fun v3 h3 => ?_
          refine QA_nil ?_
          obtain ⟨b, p, rfl, hep⟩ := h3
          refine D_yes rfl ?_
          refine OpR_loadE T.ok 0 rfl hep rfl rfl ?_
          refine ⟨_, rfl, Fr0.refl _, ?_⟩
          exact rfl
        refine D_cons (D_step2 (js := [(0, 64), (1, 65), (4, 68)]) (by kernel_rfl) fun gd hf => ?_) ?_
        · have hsd := hs.dr.call hf; have hfe := (G.le_dr _).trans hf.le
          refine QA_eq rfl ?_; refine QA_eq rfl ?_; refine QA_eq rfl ?_
          refine QA_nil ?_
          refine D_yes rfl ?_
          refine OpR_ret cl23 allF rfl rfl rfl rfl rfl (quickest_c _ f p l0 _ (fl0.mono hfe)) fun g' v h1 h2 => ⟨g', rfl, h1, ?_⟩
          rw [hfi] at h2
          exact h2
        refine D_cons (D_step2 (js := [(5, 69)]) (by kernel_rfl) fun gd hf => ?_) ?_
        · have hsd := hs.dr.call hf; have hfe := (G.le_dr _).trans hf.le
          refine QA_eq rfl ?_
          refine QA_nil ?_
          (refine D_yes rfl ?_; refine OpR_pure _ T.ok rfl ?_; refine ⟨_, rfl, Fr0.refl _, ?_⟩; exact rfl)
        refine D_cons (D_step2 (js := [(6, 63)]) (by kernel_rfl) fun gd hf => ?_) ?_
        · have hsd := hs.dr.call hf; have hfe := (G.le_dr _).trans hf.le
          refine QA_eq rfl ?_
          refine QA_nil ?_
          (refine D_yes rfl ?_; refine OpR_pure _ T.ok rfl ?_; refine ⟨_, rfl, Fr0.refl _, ?_⟩; exact rfl)
        refine D_cons (D_step2 (js := [(6, 63)]) (by kernel_rfl) fun gd hf => ?_) ?_
        · have hsd := hs.dr.call hf; have hfe := (G.le_dr _).trans hf.le
          refine QA_eq rfl ?_
          refine QA_nil ?_
          (refine D_yes rfl ?_; refine OpR_pure _ T.ok rfl ?_; refine ⟨_, rfl, Fr0.refl _, ?_⟩; exact rfl)
        refine D_cons (D_step2 (js := [(7, 70), (7, 70)]) (by kernel_rfl) fun gd hf => ?_) ?_
        · have hsd := hs.dr.call hf; have hfe := (G.le_dr _).trans hf.le
          refine QA_eq rfl ?_; refine QA_eq rfl ?_
          refine QA_nil ?_
          (refine D_yes rfl ?_; refine OpR_pure _ T.ok rfl ?_; refine ⟨_, rfl, Fr0.refl _, ?_⟩; exact rfl)
        refine D_cons (D_step2 (js := [(8, 71), (8, 71)]) (by kernel_rfl) fun gd hf => ?_) ?_
        · have hsd := hs.dr.call hf; have hfe := (G.le_dr _).trans hf.le
          refine QA_eq rfl ?_; refine QA_eq rfl ?_
          refine QA_nil ?_
          (refine D_yes rfl ?_; refine OpR_pure _ T.ok rfl ?_; refine ⟨_, rfl, Fr0.refl _, ?_⟩; exact rfl)
        exact D_nil
      intro g1 hf1; refine QA_eq rfl ?_; refine QA_eq rfl ?_; refine QA_nil ?_
      replace hs := hs.dr.call hf1; have hqe := (G.le_dr _).trans hf1.le; replace le0 := G.le.trans le0 hqe; replace le8 := G.le.trans le8 hqe; replace ep0 := ep0.mono hqe; replace rs0 := rs0.mono hqe; replace rs1 := rs1.mono hqe; replace rs2 := rs2.mono hqe; replace rs3 := rs3.mono hqe; replace fl0 := fl0.mono hqe
      refine WL_nil ?_; (with_reducible refine T_then ?_); refine W_seq ?_; refine W_region ?_; (iterate 5 refine P1 T.ok rfl rfl rfl ?_); refine WL_o rfl rfl (OpR_loadE T.ok 0 rfl ep0 rfl rfl ?_); refine P1 T.ok rfl rfl rfl ?_; refine P1 T.ok rfl rfl rfl ?_; refine WL_nil ?_; (with_reducible refine T_then ?_)
      refine W_no (b := f.moveMin != f.moveMin) (by simp) rfl ?_
      refine W_skip ?_
      exact fun a ha => T_mid ⟨_, rfl, hs, le8, ha.keep (by (repeat (first | exact trivial | refine ⟨rfl, ?_⟩)))⟩
    · refine W_no (b := decide ((0 : Int) < ((follow f p).length : Int))) (decide_eq_false (by omega)) rfl ?_
      refine W_skip ?_
      exact fun a ha => T_mid ⟨_, rfl, hs, le8, ha.keep (by (repeat (first | exact trivial | refine ⟨rfl, ?_⟩)))⟩
  · rintro a' _ ⟨g2, rfl, hs', hqe, ha'⟩
    replace hs := hs'; clear hs'
    replace le0 := G.le.trans le0 hqe; replace ep0 := ep0.mono hqe; replace rs0 := rs0.mono hqe; replace rs1 := rs1.mono hqe; replace rs2 := rs2.mono hqe; replace rs3 := rs3.mono hqe; replace fl0 := fl0.mono hqe
    revert a'
    have b1 := quickest_bound hval h1 h2; have b2 := quickest_bound hval h2 h3
    have hmn := valid_min hval h2
    have htr := law_triangle hval h1 h2 h3
    (with_reducible refine T_wp ?_); refine W_seq ?_; refine W_region ?_; (iterate 5 refine P1 T.ok rfl rfl rfl ?_)
    cases e1 : (quickest f p q).2 with
    | false =>
      refine S1 allF rfl rfl ?_; refine S1 allF rfl rfl ?_; refine P1 T.ok rfl rfl rfl ?_; refine P1 T.ok rfl rfl rfl ?_; (iterate 15 refine S1 allF rfl rfl ?_); (iterate 3 refine P1 T.ok rfl rfl rfl ?_); refine WL_nil ?_; (with_reducible refine T_then ?_)
      exact W_ret (ret1 rfl rfl (hs.ret rfl))
    | true =>
      cases e2 : (quickest f q r).2 with
      | false =>
        (iterate 4 refine P1 T.ok rfl rfl rfl ?_); (iterate 15 refine S1 allF rfl rfl ?_); (iterate 3 refine P1 T.ok rfl rfl rfl ?_); refine WL_nil ?_; (with_reducible refine T_then ?_)
        exact W_ret (ret1 rfl rfl (hs.ret rfl))
      | true =>
        obtain ⟨e3, e4⟩ := htr e1 e2
        rw [e3]
        (iterate 9 refine P1 T.ok rfl rfl rfl ?_); refine WL_o rfl rfl (OpR_loadE T.ok 2 rfl ep0 rfl rfl ?_); refine P1 T.ok rfl rfl rfl ?_
        refine WL_o rfl rfl (OpR_idx T.ok rfl rs1 (y := stepD f q) (step_geti h2) rfl rfl rfl rfl rfl rfl ?_)
        rintro b p' ys hep ⟨b1, b2, b3, b4, b5, b6, rfl, _, _⟩
        refine WL_o rfl rfl (OpR_pure _ T.ok rfl ?_)
        refine WL_o rfl rfl (OpR_loadE T.ok 2 rfl hep rfl rfl ?_)
        (iterate 8 refine P1 T.ok rfl rfl rfl ?_); refine WL_nil ?_; (with_reducible refine T_then ?_)
        refine W_ret (ret1 rfl rfl (hs.ret ?_))
        rw [wr (n := (quickest f p q).1 + (stepD f q).min) (by omega) (by omega), wr (by omega) (by omega), decide_eq_true e4]
end Go.Proofs.Ytijmlfmapfhabaa

/- GraphTriangle: the quickest way from one step to another one is not longer than the one by a third step; if both parts are there, so is the whole: for every input. No condition. -/
namespace Go.Proofs.Ytijmlfmapfhabaa
open Go Go.K Go.RowKit Go.ChangeShapes Go.WideShapes
set_option maxRecDepth 100000

theorem triangle_lifted (os : Os) (started : os.Started) (H : Type) (enc : TypeId × Value → H) :
    ReturnsInHanded {} Try.checked os 9 .any (Rows.graphTriangleSpec.pre6 enc Try.prog Try.f9 Rows.graphTriangleRow.domain false) (Rows.graphTriangleSpec.post enc Try.prog Try.f9 false true false false) := by
  refine returnsInHanded_of_change (C := Try.checked) ownKnob_none started (by kernel_rfl) Try.func9
    (ChangeSpec.witness6 (enc := enc) (C := Try.checked) false ⟨#[], #[.slice none 0 0, .int .i64 0, .int .i64 0, .int .i64 0], []⟩ 8 (by kernel_rfl) (by kernel_rfl) (by kernel_rfl) (by kernel_rfl)) ?_
  intro W base args ds gs before hval0 hW hcnd _
  have hval : ∀ (j : Nat) t v, Try.f9.params[j]? = some t → args[j]? = some v → Value.okWide Try.prog W .any base t v := hval0
  have hW' := hW
  obtain ⟨p, q, hA0, hV, rfl, hfz, hnd⟩ := hW
  have hA : DataW.TrodAll enc Try.prog W 0 (fun _ => true) true Try.f9.params.toList args.toList ds p := hA0
  rw [Try.params9] at hA hval
  obtain ⟨v0, v1, v2, v3, d0, d1, d2, d3, p0, p1, p2, p3, rfl, rfl, rfl, h0, h1, h2, h3⟩ := trodAll_four hA
  obtain ⟨rfl, rfl⟩ := trodVars_none hV
  obtain ⟨x, rs0, hx⟩ := open_y6s (hval 0 26 v0 rfl rfl) h0
  obtain ⟨a, rfl, ha⟩ := open_i64 (hval 1 3 v1 rfl rfl) h1
  obtain ⟨b, rfl, hb⟩ := open_i64 (hval 2 3 v2 rfl rfl) h2
  obtain ⟨c, rfl, hc⟩ := open_i64 (hval 3 3 v3 rfl rfl) h3
  exact finish_law (by kernel_rfl) rfl rfl (by kernel_rfl) hW' (triangle_c v0 x a b c (gAll W) rs0 hx ha hb hc)

theorem triangle_holds : Rows.GraphTriangleSaid :=
  OpenClaim.holds_of_wide 9 Try.f9 rfl rfl rfl rfl rfl rfl rfl ⟨rfl, rfl, rfl, rfl, rfl⟩ rfl rfl rfl rfl rfl (by kernel_rfl) Try.func9 (by kernel_rfl)
    (of_decide_eq_true (by kernel_rfl)) (by unfold Func.isWrapper; first | (rw [if_pos (by decide +kernel)]; kernel_rfl) | (rw [if_neg (by decide +kernel)]; exact ⟨rfl, rfl⟩))
    (fun os started H enc _ => triangle_lifted os started H enc)
end Go.Proofs.Ytijmlfmapfhabaa
