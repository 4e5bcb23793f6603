/- The walks through the reference's Way, Quickest and Finish. -/
import Derived.Test.YtijmlfmapfhabaaRc

/- The walks through the reference: Way and Quickest. -/
namespace Go.Proofs.Ytijmlfmapfhabaa
open Go Go.K
set_option maxRecDepth 10000
attribute [local irreducible] W WL OpR
set_option maxHeartbeats 2000000

theorem given_pair (f : Flow) (a b : Int) : given f [a, b] = true ↔ given f [a] = true ∧ given f [b] = true := by
  rw [given_two, given_one, given_one]
  exact ⟨fun ⟨h1, h2, h3⟩ => ⟨⟨h1, h2⟩, h1, h3⟩, fun ⟨⟨h1, h2⟩, _, h3⟩ => ⟨h1, h2, h3⟩⟩
theorem pws_geti {f : Flow} {out : List (Option Wy)} (hl : out.length = f.steps.length) {v : Int} (hv : InR f v) : geti (pws out) v = some ⟨og out v⟩ := by
  have h := pws_get (out := out) hv.1 (by have := hv.2; have := hv.1; omega)
  have hlt : v.toNat < (pws out).length := (List.getElem?_eq_some_iff.1 h).1
  rw [geti_of (j := v.toNat) (by have := hv.1; omega) hlt]
  rw [List.getElem?_eq_getElem hlt] at h
  exact h



theorem rWay_c (v : Value) (f : Flow) (a b : Int) (g : G) (fl0 : RFlow g v f) :
    CallsIn Wd 0 Try.prog 22 #[v, .int .i64 a, .int .i64 b] g.w (Ret g fun g' r => ∃ u, r = .tuple #[u, .bool (wayM f a b).2] ∧ Rs g' u (wayM f a b).1) := by
  obtain ⟨a1, n1, c1, a2, n2, c2, rfl, rs0, rs1⟩ := id fl0
  obtain ⟨_, _, e⟩ := rs0.isSlice; obtain ⟨rfl, rfl, rfl⟩ := Value.slice.inj e; clear e
  have hs := St.start g
  have le0 := G.le.refl g
  refine enter Try.func22 rfl Try.ntmps22 rfl ?_
  refine W_seq ?_; refine W_region ?_
  refine WL_o rfl rfl (OpR_box rfl hs rfl rfl ?_); clear hs; rintro bf g1 hs hqe; replace le0 := G.le.trans le0 hqe; replace rs0 := rs0.mono hqe; replace rs1 := rs1.mono hqe; replace fl0 := fl0.mono hqe
  refine P1 T.ok rfl rfl rfl ?_; refine P1 T.ok rfl rfl rfl ?_; refine WL_nil ?_; (with_reducible refine T_then ?_); refine W_seq ?_; refine W_seq ?_; refine W_region ?_; refine WL_o rfl rfl (OpR_loadO T.ok 0 rfl hs rfl rfl rfl ?_); refine P1 T.ok rfl rfl rfl ?_
  obtain ⟨g2, hw2, hs2, hqe, hep⟩ := hs.fzObj (i := 0) rfl; replace hs := hs2; clear hs2; rw [← hw2]; replace le0 := G.le.trans le0 hqe; replace rs0 := rs0.mono hqe; replace rs1 := rs1.mono hqe; replace fl0 := fl0.mono hqe
  have ep0 := hep; clear hep
  skip
  refine WL_o rfl rfl (OpR_ret cl44 allF rfl rfl rfl rfl rfl (rGiven_c _ f a _ fl0) ?_); rintro g1 _ hf1 rfl; replace hs := hs.call hf1; have hqe := hf1.le; replace le0 := G.le.trans le0 hqe; replace ep0 := ep0.mono hqe; replace rs0 := rs0.mono hqe; replace rs1 := rs1.mono hqe; replace fl0 := fl0.mono hqe
  refine P1 T.ok rfl rfl rfl ?_; refine P1 T.ok rfl rfl rfl ?_
  refine WL_seg (want := false) (x := !given f [b]) 4 allF rfl rfl rfl rfl (.inr ⟨rfl, rfl, rfl⟩) rfl rfl rfl rfl (fun hb Q' hQ' => ?_) (fun g' hf => ?_)
  · refine WL_o rfl rfl (OpR_loadE T.ok 0 rfl ep0 rfl rfl ?_); refine P1 T.ok rfl rfl rfl ?_
    refine WL_o rfl rfl (OpR_ret cl44 allF rfl rfl rfl rfl rfl (rGiven_c _ f b _ fl0) ?_); rintro g1 _ hf1 rfl; replace hs := hs.call hf1; have hqe := hf1.le; replace le0 := G.le.trans le0 hqe; replace ep0 := ep0.mono hqe; replace rs0 := rs0.mono hqe; replace rs1 := rs1.mono hqe; replace fl0 := fl0.mono hqe
    refine P1 T.ok rfl rfl rfl ?_; refine WL_nil ?_
    exact fun a ha => hQ' _ a hf1 (ha.keep (by (repeat (first | exact trivial | refine ⟨rfl, ?_⟩))))
  replace hs := hs.call hf; have hqe := hf.le; replace le0 := G.le.trans le0 hqe; replace ep0 := ep0.mono hqe; replace rs0 := rs0.mono hqe; replace rs1 := rs1.mono hqe; replace fl0 := fl0.mono hqe
  refine WL_nil ?_; (with_reducible refine T_then ?_)
  unfold wayM
  by_cases hg : given f [a, b] = true
  · rw [if_pos hg]
    obtain ⟨hval, ha, hb⟩ := given_two.1 hg
    obtain ⟨hga, hgb⟩ := (given_pair f a b).1 hg
    refine W_no (b := !given f [a] || !given f [b]) (by rw [hga, hgb]; rfl) rfl ?_
    refine W_skip ?_; (with_reducible refine T_then ?_); refine W_seq ?_; refine W_region ?_; refine WL_o rfl rfl (OpR_loadE T.ok 0 rfl ep0 rfl rfl ?_); refine P1 T.ok rfl rfl rfl ?_
    refine WL_o rfl rfl (OpR_ret cl45 allF rfl rfl rfl rfl rfl (rPaths_c _ f a _ fl0 hval ha) ?_); rintro g1 _ hf1 hrw; replace hs := hs.call hf1; have hqe := hf1.le; replace le0 := G.le.trans le0 hqe; replace ep0 := ep0.mono hqe; replace rs0 := rs0.mono hqe; replace rs1 := rs1.mono hqe; replace fl0 := fl0.mono hqe
    have hwl := ways_length hval ha
    obtain ⟨aw, cw, rfl⟩ := hrw.isSlice
    refine WL_o rfl rfl (OpR_pure _ T.ok rfl ?_)
    refine WL_o rfl rfl (OpR_idx T.ok rfl hrw (y := ⟨og (ways f a) b⟩) (pws_geti hwl hb) rfl rfl rfl rfl rfl rfl ?_)
    rintro b' p ys hep hrc
    cases ho : og (ways f a) b with
    | none =>
      rw [ho] at hrc
      obtain rfl : ys = [.int .i64 0, .slice none 0 0, .bool false] := hrc
      refine WL_o rfl rfl (OpR_loadE T.ok 0 rfl hep rfl rfl ?_)
      clear hep hrw
      skip
      refine WL_o rfl rfl (OpR_alloc T.ok rfl hs rfl rfl ?_); clear hs; rintro bx g1 hs hqe; replace le0 := G.le.trans le0 hqe; replace ep0 := ep0.mono hqe; replace rs0 := rs0.mono hqe; replace rs1 := rs1.mono hqe; replace fl0 := fl0.mono hqe
      skip
      refine WL_n rfl (OpR_storeO T.ok 0 rfl hs rfl rfl rfl rfl rfl rfl rfl rfl rfl ?_); replace hs := hs; rintro g1 hs hqe; replace le0 := G.le.trans le0 hqe; replace ep0 := ep0.mono hqe; replace rs0 := rs0.mono hqe; replace rs1 := rs1.mono hqe; replace fl0 := fl0.mono hqe
      obtain ⟨g2, hw2, hs2, hqe, hep⟩ := hs.fzObj (i := 0) rfl; replace hs := hs2; clear hs2; rw [← hw2]; replace le0 := G.le.trans le0 hqe; replace ep0 := ep0.mono hqe; replace rs0 := rs0.mono hqe; replace rs1 := rs1.mono hqe; replace fl0 := fl0.mono hqe
      have ep1 := hep; clear hep
      refine WL_nil ?_; (with_reducible refine T_then ?_); refine W_seq ?_
      refine W_keep (l' := [(8, .pointer (some ⟨bx, 0, none⟩))]) (by (repeat (first | exact trivial | refine ⟨rfl, ?_⟩))) ?_
      apply W_draw allF rfl (Fact.eq _ :: Fact.eq _ :: Fact.eq _ :: Fact.eq _ :: Fact.eq _ :: Fact.eq _ :: []) 6 [(4, 6), (5, 7)] rfl rfl
      · refine D_cons (D_step2 (js := []) (by kernel_rfl) fun gd hf => ?_) ?_
        · have hsd := hs.dr.call hf; have hfe := (G.le_dr _).trans hf.le
          refine QA_nil ?_
          (refine D_yes rfl ?_; refine OpR_pure _ T.ok rfl ?_; refine ⟨_, rfl, Fr0.refl _, ?_⟩; exact rfl)
        refine D_cons (D_step2 (js := [(0, 25)]) (by kernel_rfl) fun gd hf => ?_) ?_
        · have hsd := hs.dr.call hf; have hfe := (G.le_dr _).trans hf.le
          refine QA_eq rfl ?_
          refine QA_nil ?_
          (refine D_yes rfl ?_; refine OpR_loadE T.ok 1 rfl (ep1.mono hfe) rfl rfl ?_; refine ⟨_, rfl, Fr0.refl _, ?_⟩; exact rfl)
        refine D_cons (D_step2 (js := []) (by kernel_rfl) fun gd hf => ?_) ?_
        · have hsd := hs.dr.call hf; have hfe := (G.le_dr _).trans hf.le
          refine QA_nil ?_
          (refine D_yes rfl ?_; refine OpR_pure _ T.ok rfl ?_; refine ⟨_, rfl, Fr0.refl _, ?_⟩; exact rfl)
        refine D_cons (D_step2 (js := [(2, 27)]) (by kernel_rfl) fun gd hf => ?_) ?_
        · have hsd := hs.dr.call hf; have hfe := (G.le_dr _).trans hf.le
          refine QA_eq rfl ?_
          refine QA_nil ?_
          (refine D_yes rfl ?_; refine OpR_loadE T.ok 2 rfl (ep1.mono hfe) rfl rfl ?_; refine ⟨_, rfl, Fr0.refl _, ?_⟩; exact rfl)
        refine D_cons (D_step2 (js := [(1, 26), (1, 26)]) (by kernel_rfl) fun gd hf => ?_) ?_
        · have hsd := hs.dr.call hf; have hfe := (G.le_dr _).trans hf.le
          refine QA_eq rfl ?_; refine QA_eq rfl ?_
          refine QA_nil ?_
          (refine D_yes rfl ?_; refine OpR_pure _ T.ok rfl ?_; refine ⟨_, rfl, Fr0.refl _, ?_⟩; exact rfl)
        refine D_cons (D_step2 (js := [(3, 28), (3, 28)]) (by kernel_rfl) fun gd hf => ?_) ?_
        · have hsd := hs.dr.call hf; have hfe := (G.le_dr _).trans hf.le
          refine QA_eq rfl ?_; refine QA_eq rfl ?_
          refine QA_nil ?_
          (refine D_yes rfl ?_; refine OpR_pure _ T.ok rfl ?_; refine ⟨_, rfl, Fr0.refl _, ?_⟩; exact rfl)
        exact D_nil
      intro g1 hf1; refine QA_eq rfl ?_; refine QA_eq rfl ?_; refine QA_nil ?_
      replace hs := hs.dr.call hf1; have hqe := (G.le_dr _).trans hf1.le; replace le0 := G.le.trans le0 hqe; replace ep0 := ep0.mono hqe; replace ep1 := ep1.mono hqe; replace rs0 := rs0.mono hqe; replace rs1 := rs1.mono hqe; replace fl0 := fl0.mono hqe
      refine WL_nil ?_; (with_reducible refine T_then ?_)
      exact W_ret (ret2 rfl rfl rfl (hs.ret ⟨_, rfl, Rs.nil _⟩))
    | some w =>
      rw [ho] at hrc
      obtain ⟨wa, wn, wc, rfl, rs7⟩ := hrc
      obtain ⟨_, _, e⟩ := rs7.isSlice; obtain ⟨rfl, rfl, rfl⟩ := Value.slice.inj e; clear e
      refine WL_o rfl rfl (OpR_loadE T.ok 0 rfl hep rfl rfl ?_)
      clear hep hrw
      skip
      refine WL_o rfl rfl (OpR_alloc T.ok rfl hs rfl rfl ?_); clear hs; rintro bx g1 hs hqe; replace le0 := G.le.trans le0 hqe; replace ep0 := ep0.mono hqe; replace rs0 := rs0.mono hqe; replace rs1 := rs1.mono hqe; replace rs7 := rs7.mono hqe; replace fl0 := fl0.mono hqe
      skip
      refine WL_n rfl (OpR_storeO T.ok 0 rfl hs rfl rfl rfl rfl rfl rfl rfl rfl rfl ?_); replace hs := hs; rintro g1 hs hqe; replace le0 := G.le.trans le0 hqe; replace ep0 := ep0.mono hqe; replace rs0 := rs0.mono hqe; replace rs1 := rs1.mono hqe; replace rs7 := rs7.mono hqe; replace fl0 := fl0.mono hqe
      obtain ⟨g2, hw2, hs2, hqe, hep⟩ := hs.fzObj (i := 0) rfl; replace hs := hs2; clear hs2; rw [← hw2]; replace le0 := G.le.trans le0 hqe; replace ep0 := ep0.mono hqe; replace rs0 := rs0.mono hqe; replace rs1 := rs1.mono hqe; replace rs7 := rs7.mono hqe; replace fl0 := fl0.mono hqe
      have ep1 := hep; clear hep
      refine WL_nil ?_; (with_reducible refine T_then ?_); refine W_seq ?_
      refine W_keep (l' := [(8, .pointer (some ⟨bx, 0, none⟩))]) (by (repeat (first | exact trivial | refine ⟨rfl, ?_⟩))) ?_
      apply W_draw allF rfl (Fact.eq _ :: Fact.eq _ :: Fact.eq _ :: Fact.eq _ :: Fact.eq _ :: Fact.eq _ :: []) 6 [(4, 6), (5, 7)] rfl rfl
      · refine D_cons (D_step2 (js := []) (by kernel_rfl) fun gd hf => ?_) ?_
        · have hsd := hs.dr.call hf; have hfe := (G.le_dr _).trans hf.le
          refine QA_nil ?_
          (refine D_yes rfl ?_; refine OpR_pure _ T.ok rfl ?_; refine ⟨_, rfl, Fr0.refl _, ?_⟩; exact rfl)
        refine D_cons (D_step2 (js := [(0, 25)]) (by kernel_rfl) fun gd hf => ?_) ?_
        · have hsd := hs.dr.call hf; have hfe := (G.le_dr _).trans hf.le
          refine QA_eq rfl ?_
          refine QA_nil ?_
          (refine D_yes rfl ?_; refine OpR_loadE T.ok 1 rfl (ep1.mono hfe) rfl rfl ?_; refine ⟨_, rfl, Fr0.refl _, ?_⟩; exact rfl)
        refine D_cons (D_step2 (js := []) (by kernel_rfl) fun gd hf => ?_) ?_
        · have hsd := hs.dr.call hf; have hfe := (G.le_dr _).trans hf.le
          refine QA_nil ?_
          (refine D_yes rfl ?_; refine OpR_pure _ T.ok rfl ?_; refine ⟨_, rfl, Fr0.refl _, ?_⟩; exact rfl)
        refine D_cons (D_step2 (js := [(2, 27)]) (by kernel_rfl) fun gd hf => ?_) ?_
        · have hsd := hs.dr.call hf; have hfe := (G.le_dr _).trans hf.le
          refine QA_eq rfl ?_
          refine QA_nil ?_
          (refine D_yes rfl ?_; refine OpR_loadE T.ok 2 rfl (ep1.mono hfe) rfl rfl ?_; refine ⟨_, rfl, Fr0.refl _, ?_⟩; exact rfl)
        refine D_cons (D_step2 (js := [(1, 26), (1, 26)]) (by kernel_rfl) fun gd hf => ?_) ?_
        · have hsd := hs.dr.call hf; have hfe := (G.le_dr _).trans hf.le
          refine QA_eq rfl ?_; refine QA_eq rfl ?_
          refine QA_nil ?_
          (refine D_yes rfl ?_; refine OpR_pure _ T.ok rfl ?_; refine ⟨_, rfl, Fr0.refl _, ?_⟩; exact rfl)
        refine D_cons (D_step2 (js := [(3, 28), (3, 28)]) (by kernel_rfl) fun gd hf => ?_) ?_
        · have hsd := hs.dr.call hf; have hfe := (G.le_dr _).trans hf.le
          refine QA_eq rfl ?_; refine QA_eq rfl ?_
          refine QA_nil ?_
          (refine D_yes rfl ?_; refine OpR_pure _ T.ok rfl ?_; refine ⟨_, rfl, Fr0.refl _, ?_⟩; exact rfl)
        exact D_nil
      intro g1 hf1; refine QA_eq rfl ?_; refine QA_eq rfl ?_; refine QA_nil ?_
      replace hs := hs.dr.call hf1; have hqe := (G.le_dr _).trans hf1.le; replace le0 := G.le.trans le0 hqe; replace ep0 := ep0.mono hqe; replace ep1 := ep1.mono hqe; replace rs0 := rs0.mono hqe; replace rs1 := rs1.mono hqe; replace rs7 := rs7.mono hqe; replace fl0 := fl0.mono hqe
      refine WL_nil ?_; (with_reducible refine T_then ?_)
      exact W_ret (ret2 rfl rfl rfl (hs.ret ⟨_, rfl, rs7⟩))
  · rw [if_neg hg]
    refine W_yes (b := !given f [a] || !given f [b]) (by
      by_cases h : given f [a] = true
      · by_cases h2 : given f [b] = true
        · exact absurd ((given_pair f a b).2 ⟨h, h2⟩) hg
        · simp [h2]
      · simp [h]) rfl ?_
    refine W_seq ?_; refine W_region ?_; refine P1 T.ok rfl rfl rfl ?_; refine P1 T.ok rfl rfl rfl ?_; refine WL_nil ?_; (with_reducible refine T_then ?_)
    exact W_ret (ret2 rfl rfl rfl (hs.ret ⟨_, rfl, Rs.nil _⟩))

theorem rQuickest_c (v : Value) (f : Flow) (a b : Int) (g : G) (fl0 : RFlow g v f) :
    CallsIn Wd 0 Try.prog 24 #[v, .int .i64 a, .int .i64 b] g.w (Ret g fun _ r => r = .tuple #[.int .i64 (quickest f a b).1, .bool (quickest f a b).2]) := by
  obtain ⟨a1, n1, c1, a2, n2, c2, rfl, rs0, rs1⟩ := id fl0
  obtain ⟨_, _, e⟩ := rs0.isSlice; obtain ⟨rfl, rfl, rfl⟩ := Value.slice.inj e; clear e
  have hs := St.start g
  have le0 := G.le.refl g
  refine enter Try.func24 rfl Try.ntmps24 rfl ?_
  refine W_seq ?_; refine W_region ?_
  refine WL_o rfl rfl (OpR_box rfl hs rfl rfl ?_); clear hs; rintro bf g1 hs hqe; replace le0 := G.le.trans le0 hqe; replace rs0 := rs0.mono hqe; replace rs1 := rs1.mono hqe; replace fl0 := fl0.mono hqe
  refine P1 T.ok rfl rfl rfl ?_; refine P1 T.ok rfl rfl rfl ?_; refine WL_nil ?_; (with_reducible refine T_then ?_); refine W_seq ?_; refine W_seq ?_; refine W_region ?_; refine WL_o rfl rfl (OpR_loadO T.ok 0 rfl hs rfl rfl rfl ?_); refine P1 T.ok rfl rfl rfl ?_
  obtain ⟨g2, hw2, hs2, hqe, hep⟩ := hs.fzObj (i := 0) rfl; replace hs := hs2; clear hs2; rw [← hw2]; replace le0 := G.le.trans le0 hqe; replace rs0 := rs0.mono hqe; replace rs1 := rs1.mono hqe; replace fl0 := fl0.mono hqe
  have ep0 := hep; clear hep
  skip
  refine WL_o rfl rfl (OpR_ret cl44 allF rfl rfl rfl rfl rfl (rGiven_c _ f a _ fl0) ?_); rintro g1 _ hf1 rfl; replace hs := hs.call hf1; have hqe := hf1.le; replace le0 := G.le.trans le0 hqe; replace ep0 := ep0.mono hqe; replace rs0 := rs0.mono hqe; replace rs1 := rs1.mono hqe; replace fl0 := fl0.mono hqe
  refine P1 T.ok rfl rfl rfl ?_; refine P1 T.ok rfl rfl rfl ?_
  refine WL_seg (want := false) (x := !given f [b]) 4 allF rfl rfl rfl rfl (.inr ⟨rfl, rfl, rfl⟩) rfl rfl rfl rfl (fun hb Q' hQ' => ?_) (fun g' hf => ?_)
  · refine WL_o rfl rfl (OpR_loadE T.ok 0 rfl ep0 rfl rfl ?_); refine P1 T.ok rfl rfl rfl ?_
    refine WL_o rfl rfl (OpR_ret cl44 allF rfl rfl rfl rfl rfl (rGiven_c _ f b _ fl0) ?_); rintro g1 _ hf1 rfl; replace hs := hs.call hf1; have hqe := hf1.le; replace le0 := G.le.trans le0 hqe; replace ep0 := ep0.mono hqe; replace rs0 := rs0.mono hqe; replace rs1 := rs1.mono hqe; replace fl0 := fl0.mono hqe
    refine P1 T.ok rfl rfl rfl ?_; refine WL_nil ?_
    exact fun a ha => hQ' _ a hf1 (ha.keep (by (repeat (first | exact trivial | refine ⟨rfl, ?_⟩))))
  replace hs := hs.call hf; have hqe := hf.le; replace le0 := G.le.trans le0 hqe; replace ep0 := ep0.mono hqe; replace rs0 := rs0.mono hqe; replace rs1 := rs1.mono hqe; replace fl0 := fl0.mono hqe
  refine WL_nil ?_; (with_reducible refine T_then ?_)
  unfold quickest
  by_cases hg : given f [a, b] = true
  · rw [if_pos hg]
    obtain ⟨hval, ha, hb⟩ := given_two.1 hg
    obtain ⟨hga, hgb⟩ := (given_pair f a b).1 hg
    refine W_no (b := !given f [a] || !given f [b]) (by rw [hga, hgb]; rfl) rfl ?_
    refine W_skip ?_; (with_reducible refine T_then ?_); refine W_seq ?_; refine W_region ?_; refine WL_o rfl rfl (OpR_loadE T.ok 0 rfl ep0 rfl rfl ?_); refine P1 T.ok rfl rfl rfl ?_
    refine WL_o rfl rfl (OpR_ret cl45 allF rfl rfl rfl rfl rfl (rPaths_c _ f a _ fl0 hval ha) ?_); rintro g1 _ hf1 hrw; replace hs := hs.call hf1; have hqe := hf1.le; replace le0 := G.le.trans le0 hqe; replace ep0 := ep0.mono hqe; replace rs0 := rs0.mono hqe; replace rs1 := rs1.mono hqe; replace fl0 := fl0.mono hqe
    have hwl := ways_length hval ha
    obtain ⟨aw, cw, rfl⟩ := hrw.isSlice
    refine WL_o rfl rfl (OpR_pure _ T.ok rfl ?_)
    refine WL_o rfl rfl (OpR_idx T.ok rfl hrw (y := ⟨og (ways f a) b⟩) (pws_geti hwl hb) rfl rfl rfl rfl rfl rfl ?_)
    rintro b' p ys hep hrc
    cases ho : og (ways f a) b with
    | none =>
      rw [ho] at hrc
      obtain rfl : ys = [.int .i64 0, .slice none 0 0, .bool false] := hrc
      refine WL_o rfl rfl (OpR_loadE T.ok 0 rfl hep rfl rfl ?_)
      clear hep hrw
      skip
      refine WL_o rfl rfl (OpR_alloc T.ok rfl hs rfl rfl ?_); clear hs; rintro bx g1 hs hqe; replace le0 := G.le.trans le0 hqe; replace ep0 := ep0.mono hqe; replace rs0 := rs0.mono hqe; replace rs1 := rs1.mono hqe; replace fl0 := fl0.mono hqe
      skip
      refine WL_n rfl (OpR_storeO T.ok 0 rfl hs rfl rfl rfl rfl rfl rfl rfl rfl rfl ?_); replace hs := hs; rintro g1 hs hqe; replace le0 := G.le.trans le0 hqe; replace ep0 := ep0.mono hqe; replace rs0 := rs0.mono hqe; replace rs1 := rs1.mono hqe; replace fl0 := fl0.mono hqe
      obtain ⟨g2, hw2, hs2, hqe, hep⟩ := hs.fzObj (i := 0) rfl; replace hs := hs2; clear hs2; rw [← hw2]; replace le0 := G.le.trans le0 hqe; replace ep0 := ep0.mono hqe; replace rs0 := rs0.mono hqe; replace rs1 := rs1.mono hqe; replace fl0 := fl0.mono hqe
      have ep1 := hep; clear hep
      refine WL_nil ?_; (with_reducible refine T_then ?_); refine W_seq ?_
      refine W_keep (l' := [(8, .pointer (some ⟨bx, 0, none⟩))]) (by (repeat (first | exact trivial | refine ⟨rfl, ?_⟩))) ?_
      apply W_draw allF rfl (Fact.eq _ :: Fact.eq _ :: Fact.eq _ :: Fact.eq _ :: Fact.eq _ :: Fact.eq _ :: []) 6 [(4, 6), (5, 7)] rfl rfl
      · refine D_cons (D_step2 (js := []) (by kernel_rfl) fun gd hf => ?_) ?_
        · have hsd := hs.dr.call hf; have hfe := (G.le_dr _).trans hf.le
          refine QA_nil ?_
          (refine D_yes rfl ?_; refine OpR_pure _ T.ok rfl ?_; refine ⟨_, rfl, Fr0.refl _, ?_⟩; exact rfl)
        refine D_cons (D_step2 (js := [(0, 25)]) (by kernel_rfl) fun gd hf => ?_) ?_
        · have hsd := hs.dr.call hf; have hfe := (G.le_dr _).trans hf.le
          refine QA_eq rfl ?_
          refine QA_nil ?_
          (refine D_yes rfl ?_; refine OpR_loadE T.ok 0 rfl (ep1.mono hfe) rfl rfl ?_; refine ⟨_, rfl, Fr0.refl _, ?_⟩; exact rfl)
        refine D_cons (D_step2 (js := []) (by kernel_rfl) fun gd hf => ?_) ?_
        · have hsd := hs.dr.call hf; have hfe := (G.le_dr _).trans hf.le
          refine QA_nil ?_
          (refine D_yes rfl ?_; refine OpR_pure _ T.ok rfl ?_; refine ⟨_, rfl, Fr0.refl _, ?_⟩; exact rfl)
        refine D_cons (D_step2 (js := [(2, 27)]) (by kernel_rfl) fun gd hf => ?_) ?_
        · have hsd := hs.dr.call hf; have hfe := (G.le_dr _).trans hf.le
          refine QA_eq rfl ?_
          refine QA_nil ?_
          (refine D_yes rfl ?_; refine OpR_loadE T.ok 2 rfl (ep1.mono hfe) rfl rfl ?_; refine ⟨_, rfl, Fr0.refl _, ?_⟩; exact rfl)
        refine D_cons (D_step2 (js := [(1, 26), (1, 26)]) (by kernel_rfl) fun gd hf => ?_) ?_
        · have hsd := hs.dr.call hf; have hfe := (G.le_dr _).trans hf.le
          refine QA_eq rfl ?_; refine QA_eq rfl ?_
          refine QA_nil ?_
          (refine D_yes rfl ?_; refine OpR_pure _ T.ok rfl ?_; refine ⟨_, rfl, Fr0.refl _, ?_⟩; exact rfl)
        refine D_cons (D_step2 (js := [(3, 28), (3, 28)]) (by kernel_rfl) fun gd hf => ?_) ?_
        · have hsd := hs.dr.call hf; have hfe := (G.le_dr _).trans hf.le
          refine QA_eq rfl ?_; refine QA_eq rfl ?_
          refine QA_nil ?_
          (refine D_yes rfl ?_; refine OpR_pure _ T.ok rfl ?_; refine ⟨_, rfl, Fr0.refl _, ?_⟩; exact rfl)
        exact D_nil
      intro g1 hf1; refine QA_eq rfl ?_; refine QA_eq rfl ?_; refine QA_nil ?_
      replace hs := hs.dr.call hf1; have hqe := (G.le_dr _).trans hf1.le; replace le0 := G.le.trans le0 hqe; replace ep0 := ep0.mono hqe; replace ep1 := ep1.mono hqe; replace rs0 := rs0.mono hqe; replace rs1 := rs1.mono hqe; replace fl0 := fl0.mono hqe
      refine WL_nil ?_; (with_reducible refine T_then ?_)
      exact W_ret (ret2 rfl rfl rfl (hs.ret rfl))
    | some w =>
      rw [ho] at hrc
      obtain ⟨wa, wn, wc, rfl, rs7⟩ := hrc
      obtain ⟨_, _, e⟩ := rs7.isSlice; obtain ⟨rfl, rfl, rfl⟩ := Value.slice.inj e; clear e
      refine WL_o rfl rfl (OpR_loadE T.ok 0 rfl hep rfl rfl ?_)
      clear hep hrw
      skip
      refine WL_o rfl rfl (OpR_alloc T.ok rfl hs rfl rfl ?_); clear hs; rintro bx g1 hs hqe; replace le0 := G.le.trans le0 hqe; replace ep0 := ep0.mono hqe; replace rs0 := rs0.mono hqe; replace rs1 := rs1.mono hqe; replace rs7 := rs7.mono hqe; replace fl0 := fl0.mono hqe
      skip
      refine WL_n rfl (OpR_storeO T.ok 0 rfl hs rfl rfl rfl rfl rfl rfl rfl rfl rfl ?_); replace hs := hs; rintro g1 hs hqe; replace le0 := G.le.trans le0 hqe; replace ep0 := ep0.mono hqe; replace rs0 := rs0.mono hqe; replace rs1 := rs1.mono hqe; replace rs7 := rs7.mono hqe; replace fl0 := fl0.mono hqe
      obtain ⟨g2, hw2, hs2, hqe, hep⟩ := hs.fzObj (i := 0) rfl; replace hs := hs2; clear hs2; rw [← hw2]; replace le0 := G.le.trans le0 hqe; replace ep0 := ep0.mono hqe; replace rs0 := rs0.mono hqe; replace rs1 := rs1.mono hqe; replace rs7 := rs7.mono hqe; replace fl0 := fl0.mono hqe
      have ep1 := hep; clear hep
      refine WL_nil ?_; (with_reducible refine T_then ?_); refine W_seq ?_
      refine W_keep (l' := [(8, .pointer (some ⟨bx, 0, none⟩))]) (by (repeat (first | exact trivial | refine ⟨rfl, ?_⟩))) ?_
      apply W_draw allF rfl (Fact.eq _ :: Fact.eq _ :: Fact.eq _ :: Fact.eq _ :: Fact.eq _ :: Fact.eq _ :: []) 6 [(4, 6), (5, 7)] rfl rfl
      · refine D_cons (D_step2 (js := []) (by kernel_rfl) fun gd hf => ?_) ?_
        · have hsd := hs.dr.call hf; have hfe := (G.le_dr _).trans hf.le
          refine QA_nil ?_
          (refine D_yes rfl ?_; refine OpR_pure _ T.ok rfl ?_; refine ⟨_, rfl, Fr0.refl _, ?_⟩; exact rfl)
        refine D_cons (D_step2 (js := [(0, 25)]) (by kernel_rfl) fun gd hf => ?_) ?_
        · have hsd := hs.dr.call hf; have hfe := (G.le_dr _).trans hf.le
          refine QA_eq rfl ?_
          refine QA_nil ?_
          (refine D_yes rfl ?_; refine OpR_loadE T.ok 0 rfl (ep1.mono hfe) rfl rfl ?_; refine ⟨_, rfl, Fr0.refl _, ?_⟩; exact rfl)
        refine D_cons (D_step2 (js := []) (by kernel_rfl) fun gd hf => ?_) ?_
        · have hsd := hs.dr.call hf; have hfe := (G.le_dr _).trans hf.le
          refine QA_nil ?_
          (refine D_yes rfl ?_; refine OpR_pure _ T.ok rfl ?_; refine ⟨_, rfl, Fr0.refl _, ?_⟩; exact rfl)
        refine D_cons (D_step2 (js := [(2, 27)]) (by kernel_rfl) fun gd hf => ?_) ?_
        · have hsd := hs.dr.call hf; have hfe := (G.le_dr _).trans hf.le
          refine QA_eq rfl ?_
          refine QA_nil ?_
          (refine D_yes rfl ?_; refine OpR_loadE T.ok 2 rfl (ep1.mono hfe) rfl rfl ?_; refine ⟨_, rfl, Fr0.refl _, ?_⟩; exact rfl)
        refine D_cons (D_step2 (js := [(1, 26), (1, 26)]) (by kernel_rfl) fun gd hf => ?_) ?_
        · have hsd := hs.dr.call hf; have hfe := (G.le_dr _).trans hf.le
          refine QA_eq rfl ?_; refine QA_eq rfl ?_
          refine QA_nil ?_
          (refine D_yes rfl ?_; refine OpR_pure _ T.ok rfl ?_; refine ⟨_, rfl, Fr0.refl _, ?_⟩; exact rfl)
        refine D_cons (D_step2 (js := [(3, 28), (3, 28)]) (by kernel_rfl) fun gd hf => ?_) ?_
        · have hsd := hs.dr.call hf; have hfe := (G.le_dr _).trans hf.le
          refine QA_eq rfl ?_; refine QA_eq rfl ?_
          refine QA_nil ?_
          (refine D_yes rfl ?_; refine OpR_pure _ T.ok rfl ?_; refine ⟨_, rfl, Fr0.refl _, ?_⟩; exact rfl)
        exact D_nil
      intro g1 hf1; refine QA_eq rfl ?_; refine QA_eq rfl ?_; refine QA_nil ?_
      replace hs := hs.dr.call hf1; have hqe := (G.le_dr _).trans hf1.le; replace le0 := G.le.trans le0 hqe; replace ep0 := ep0.mono hqe; replace ep1 := ep1.mono hqe; replace rs0 := rs0.mono hqe; replace rs1 := rs1.mono hqe; replace rs7 := rs7.mono hqe; replace fl0 := fl0.mono hqe
      refine WL_nil ?_; (with_reducible refine T_then ?_)
      exact W_ret (ret2 rfl rfl rfl (hs.ret rfl))
  · rw [if_neg hg]
    refine W_yes (b := !given f [a] || !given f [b]) (by
      by_cases h : given f [a] = true
      · by_cases h2 : given f [b] = true
        · exact absurd ((given_pair f a b).2 ⟨h, h2⟩) hg
        · simp [h2]
      · simp [h]) rfl ?_
    refine W_seq ?_; refine W_region ?_; refine P1 T.ok rfl rfl rfl ?_; refine P1 T.ok rfl rfl rfl ?_; refine WL_nil ?_; (with_reducible refine T_then ?_)
    exact W_ret (ret2 rfl rfl rfl (hs.ret rfl))
end Go.Proofs.Ytijmlfmapfhabaa

/- The walk through the reference's Finish. -/
namespace Go.Proofs.Ytijmlfmapfhabaa
open Go Go.K
set_option maxRecDepth 10000
attribute [local irreducible] W WL OpR
set_option maxHeartbeats 2000000

def pwNil (off : Nat) : Fact :=
  ⟨fun v g => ∃ b p, v = .pointer (some ⟨b, p + off, none⟩) ∧ EP g b p [.int .i64 0, .slice none 0 0, .bool false], fun _ _ _ hf ⟨b, p, e, h1⟩ => ⟨b, p, e, h1.mono hf.le⟩⟩
def pwPtr (off : Nat) (t : Int) : Fact :=
  ⟨fun v g => ∃ b p a n c, v = .pointer (some ⟨b, p + off, none⟩) ∧ EP g b p [.int .i64 t, .slice a n c, .bool true], fun _ _ _ hf ⟨b, p, a, n, c, e, h1⟩ => ⟨b, p, a, n, c, e, h1.mono hf.le⟩⟩









theorem rFinish_c (v : Value) (f : Flow) (a : Int) (g : G) (fl0 : RFlow g v f) :
    CallsIn Wd 0 Try.prog 26 #[v, .int .i64 a] g.w (Ret g fun _ r => r = .tuple #[.int .i64 (finish f a).1, .bool (finish f a).2]) := by
  obtain ⟨a1, n1, c1, a2, n2, c2, rfl, rs0, rs1⟩ := id fl0
  obtain ⟨_, _, e⟩ := rs0.isSlice; obtain ⟨rfl, rfl, rfl⟩ := Value.slice.inj e; clear e
  have hs := St.start g
  have le0 := G.le.refl g
  refine enter Try.func26 rfl Try.ntmps26 rfl ?_
  refine W_seq ?_; refine W_region ?_
  refine WL_o rfl rfl (OpR_box rfl hs rfl rfl ?_); clear hs; rintro bf g1 hs hqe; replace le0 := G.le.trans le0 hqe; replace rs0 := rs0.mono hqe; replace rs1 := rs1.mono hqe; replace fl0 := fl0.mono hqe
  refine P1 T.ok rfl rfl rfl ?_; refine P1 T.ok rfl rfl rfl ?_; refine WL_nil ?_; (with_reducible refine T_then ?_); refine W_seq ?_; refine W_seq ?_; refine W_region ?_; refine WL_o rfl rfl (OpR_loadO T.ok 0 rfl hs rfl rfl rfl ?_); refine P1 T.ok rfl rfl rfl ?_
  obtain ⟨g2, hw2, hs2, hqe, hep⟩ := hs.fzObj (i := 0) rfl; replace hs := hs2; clear hs2; rw [← hw2]; replace le0 := G.le.trans le0 hqe; replace rs0 := rs0.mono hqe; replace rs1 := rs1.mono hqe; replace fl0 := fl0.mono hqe
  have ep0 := hep; clear hep
  skip
  refine WL_o rfl rfl (OpR_ret cl44 allF rfl rfl rfl rfl rfl (rGiven_c _ f a _ fl0) ?_); rintro g1 _ hf1 rfl; replace hs := hs.call hf1; have hqe := hf1.le; replace le0 := G.le.trans le0 hqe; replace ep0 := ep0.mono hqe; replace rs0 := rs0.mono hqe; replace rs1 := rs1.mono hqe; replace fl0 := fl0.mono hqe
  refine P1 T.ok rfl rfl rfl ?_; refine WL_nil ?_; (with_reducible refine T_then ?_)
  unfold finish
  by_cases hg : given f [a] = true
  · rw [if_pos hg]
    obtain ⟨hval, ha⟩ := given_one.1 hg
    refine W_no (b := !given f [a]) (by rw [hg]; rfl) rfl ?_
    refine W_skip ?_; (with_reducible refine T_then ?_); refine W_seq ?_; refine W_seq ?_; refine W_region ?_; refine P1 T.ok rfl rfl rfl ?_; refine WL_o rfl rfl (OpR_loadE T.ok 2 rfl ep0 rfl rfl ?_); refine P1 T.ok rfl rfl rfl ?_
    refine WL_o rfl rfl (OpR_idx T.ok rfl rs0 (y := stepD f a) (step_geti ha) rfl rfl rfl rfl rfl rfl ?_)
    rintro b q ys hep ⟨b1, b2, b3, b4, b5, b6, rfl, _, rs4⟩
    obtain ⟨_, _, e⟩ := rs4.isSlice; obtain ⟨rfl, rfl, rfl⟩ := Value.slice.inj e; clear e
    refine WL_o rfl rfl (OpR_pure _ T.ok rfl ?_)
    refine WL_o rfl rfl (OpR_loadE T.ok 4 rfl hep rfl rfl ?_)
    clear hep rs4
    refine P1 T.ok rfl rfl rfl ?_; refine P1 T.ok rfl rfl rfl ?_; refine WL_nil ?_; (with_reducible refine T_then ?_)
    cases he : isEnd (stepD f a) with
    | true =>
      refine W_yes (b := (((stepD f a).next.length : Nat) : Int) == 0) he rfl ?_
      refine W_seq ?_; refine W_region ?_; refine P1 T.ok rfl rfl rfl ?_; refine P1 T.ok rfl rfl rfl ?_; refine WL_nil ?_; (with_reducible refine T_then ?_)
      exact W_ret (ret2 rfl rfl rfl (hs.ret rfl))
    | false =>
      refine W_no (b := (((stepD f a).next.length : Nat) : Int) == 0) he rfl ?_
      clear he
      refine W_skip ?_; (with_reducible refine T_then ?_); refine W_seq ?_; refine W_region ?_; refine WL_o rfl rfl (OpR_loadE T.ok 0 rfl ep0 rfl rfl ?_); refine P1 T.ok rfl rfl rfl ?_
      refine WL_o rfl rfl (OpR_ret cl45 allF rfl rfl rfl rfl rfl (rPaths_c _ f a _ fl0 hval ha) ?_); rintro g1 _ hf1 rs5; replace hs := hs.call hf1; have hqe := hf1.le; replace le0 := G.le.trans le0 hqe; replace ep0 := ep0.mono hqe; replace rs0 := rs0.mono hqe; replace rs1 := rs1.mono hqe; replace fl0 := fl0.mono hqe
      have hwl := ways_length hval ha
      obtain ⟨aw, cw, rfl⟩ := rs5.isSlice
      have hpl : (pws (ways f a)).length = f.steps.length := by unfold pws; rw [List.length_map, hwl]
      rw [hpl] at rs5
      rw [hpl]
      have hn40 := valid_n hval
      refine P1 T.ok rfl rfl rfl ?_; refine WL_nil ?_; (with_reducible refine T_then ?_); refine W_seq ?_; refine W_region ?_; refine P1 T.ok rfl rfl rfl ?_; refine WL_nil ?_; (with_reducible refine T_then ?_); refine W_seq ?_; refine W_region ?_; refine P1 T.ok rfl rfl rfl ?_; refine WL_nil ?_; (with_reducible refine T_then ?_); refine W_seq ?_; refine W_seq ?_; refine W_region ?_; refine P1 T.ok rfl rfl rfl ?_; refine WL_nil ?_; (with_reducible refine T_then ?_); refine W_block ?_
      have ep0c := ep0; have rs0c := rs0; have rs5c := rs5; have le8 := G.le.refl g1
      refine W_loop (fun m a' w => ∃ (k : Nat) (g2 : G), w = g2.w ∧ St g g2 [] ∧ G.le g1 g2 ∧ k ≤ f.steps.length ∧ m = f.steps.length - k ∧
          Fr 80 [] [(2, .pointer (some ⟨bf, 0, none⟩)), (6, .slice aw f.steps.length cw), (7, .int .i64 (finTo f (ways f a) k).1), (8, .bool (finTo f (ways f a) k).2), (9, .int .i64 k)] a') f.steps.length
        (fun a' ha => ⟨0, g1, rfl, hs, le8, Nat.zero_le _, rfl, ha.keep (by (repeat (first | exact trivial | refine ⟨rfl, ?_⟩)))⟩) ?_
      clear hs le8 ep0 rs0 rs5 rs1 fl0
      rintro m a' _ ⟨k, g2, rfl, hs, le8, hk, rfl, ha'⟩
      have ep0 := ep0c.mono le8; have rs0 := rs0c.mono le8; have rs5 := rs5c.mono le8
      revert a'
      (with_reducible refine T_wp ?_); refine W_seq ?_; refine W_seq ?_; refine W_region ?_; (iterate 4 refine P1 T.ok rfl rfl rfl ?_); refine WL_nil ?_; (with_reducible refine T_then ?_)
      by_cases hlt : k < f.steps.length
      · refine W_yes (b := decide ((k : Int) < (f.steps.length : Int))) (decide_eq_true (by omega)) rfl ?_
        have hkr : InR f (k : Int) := ⟨by omega, by omega⟩
        have hps := finTo_succ f (ways f a) k
        unfold finStep at hps
        have hogk : (ways f a).getD k none = og (ways f a) (k : Int) := by unfold og; simp
        rw [hogk] at hps
        have hgw := pws_geti hwl hkr
        have hfb := finTo_bound hval ha k hk
        generalize finTo f (ways f a) k = acc at *
        cases ho : og (ways f a) (k : Int) with
        | none =>
          rw [ho] at hps hgw
          refine W_skip ?_; (with_reducible refine T_then ?_); refine W_seq ?_; refine W_block ?_; refine W_seq ?_
          apply W_draw allF rfl (Fact.eq _ :: Fact.eq _ :: (pwNil 0) :: (pwNil 2) :: Fact.eq _ :: Fact.eq _ :: Fact.eq _ :: Fact.eq _ :: Fact.eq _ :: Fact.eq _ :: Fact.eq _ :: Fact.eq _ :: Fact.eq _ :: Fact.eq _ :: Fact.eq _ :: Fact.eq _ :: Fact.eq _ :: Fact.eq _ :: Fact.eq _ :: Fact.eq _ :: Fact.eq _ :: Fact.eq _ :: Fact.eq _ :: Fact.eq _ :: Fact.eq _ :: Fact.eq _ :: Fact.eq _ :: Fact.eq _ :: Fact.eq _ :: Fact.eq _ :: Fact.eq _ :: Fact.eq _ :: Fact.eq _ :: Fact.eq _ :: Fact.eq _ :: []) 35 [(34, 65)] rfl rfl
          · refine D_cons (D_step2 (js := []) (by kernel_rfl) fun gd hf => ?_) ?_
            · have hsd := hs.dr.call hf; have hfe := (G.le_dr _).trans hf.le
              refine QA_nil ?_
              (refine D_yes rfl ?_; refine OpR_pure _ T.ok rfl ?_; refine ⟨_, rfl, Fr0.refl _, ?_⟩; exact rfl)
            refine D_cons (D_step2 (js := []) (by kernel_rfl) fun gd hf => ?_) ?_
            · have hsd := hs.dr.call hf; have hfe := (G.le_dr _).trans hf.le
              refine QA_nil ?_
              (refine D_yes rfl ?_; refine OpR_pure _ T.ok rfl ?_; refine ⟨_, rfl, Fr0.refl _, ?_⟩; exact rfl)
            refine D_cons (D_step2 (js := [(0, 31), (1, 32)]) (by kernel_rfl) fun gd hf => ?_) ?_
            · have hsd := hs.dr.call hf; have hfe := (G.le_dr _).trans hf.le
              refine QA_eq rfl ?_; refine QA_eq rfl ?_
              refine QA_nil ?_
              refine D_yes rfl ?_
              refine OpR_idx T.ok rfl (rs5.mono hfe) (y := ⟨none⟩) hgw rfl rfl rfl rfl rfl rfl ?_
              intro b p ys hep hrc
              exact ⟨_, rfl, Fr0.refl _, b, p, rfl, by rw [← show ys = [.int .i64 0, .slice none 0 0, .bool false] from hrc]; exact hep⟩
            refine D_cons (D_step2 (js := [(2, 33)]) (by kernel_rfl) fun gd hf => ?_) ?_
            · have hsd := hs.dr.call hf; have hfe := (G.le_dr _).trans hf.le
              refine QA_any fun v2 h2 => ?_
              refine QA_nil ?_
              obtain ⟨b, p, rfl, hep⟩ := h2
              refine D_yes rfl ?_
              refine OpR_pure _ T.ok rfl ?_
              exact ⟨_, rfl, Fr0.refl _, b, p, rfl, hep⟩
            refine D_cons (D_step2 (js := [(3, 34)]) (by kernel_rfl) fun gd hf => ?_) ?_
            · have hsd := hs.dr.call hf; have hfe := (G.le_dr _).trans hf.le
              refine QA_any fun v3 h3 => ?_
              refine QA_nil ?_
              obtain ⟨b, p, rfl, hep⟩ := h3
              refine D_yes rfl ?_
              refine OpR_loadE T.ok 2 rfl hep rfl rfl ?_
              exact ⟨_, rfl, Fr0.refl _, rfl⟩
            refine D_cons (D_step2 (js := [(4, 35)]) (by kernel_rfl) fun gd hf => ?_) ?_
            · have hsd := hs.dr.call hf; have hfe := (G.le_dr _).trans hf.le
              refine QA_eq rfl ?_
              refine QA_nil ?_
              (refine D_yes rfl ?_; refine OpR_pure _ T.ok rfl ?_; refine ⟨_, rfl, Fr0.refl _, ?_⟩; exact rfl)
            refine D_cons (D_step2 (js := [(5, 36)]) (by kernel_rfl) fun gd hf => ?_) ?_
            · have hsd := hs.dr.call hf; have hfe := (G.le_dr _).trans hf.le
              refine QA_eq rfl ?_
              refine QA_nil ?_
              (refine D_no rfl ?_; exact rfl)
            refine D_cons (D_step2 (js := [(6, 37), (5, 36)]) (by kernel_rfl) fun gd hf => ?_) ?_
            · have hsd := hs.dr.call hf; have hfe := (G.le_dr _).trans hf.le
              refine QA_eq rfl ?_; refine QA_eq rfl ?_
              refine QA_nil ?_
              (refine D_no rfl ?_; exact rfl)
            refine D_cons (D_step2 (js := [(5, 36)]) (by kernel_rfl) fun gd hf => ?_) ?_
            · have hsd := hs.dr.call hf; have hfe := (G.le_dr _).trans hf.le
              refine QA_eq rfl ?_
              refine QA_nil ?_
              (refine D_no rfl ?_; exact rfl)
            refine D_cons (D_step2 (js := [(7, 38), (8, 39), (5, 36)]) (by kernel_rfl) fun gd hf => ?_) ?_
            · have hsd := hs.dr.call hf; have hfe := (G.le_dr _).trans hf.le
              refine QA_eq rfl ?_; refine QA_eq rfl ?_; refine QA_eq rfl ?_
              refine QA_nil ?_
              (refine D_no rfl ?_; exact rfl)
            refine D_cons (D_step2 (js := [(9, 40), (5, 36)]) (by kernel_rfl) fun gd hf => ?_) ?_
            · have hsd := hs.dr.call hf; have hfe := (G.le_dr _).trans hf.le
              refine QA_eq rfl ?_; refine QA_eq rfl ?_
              refine QA_nil ?_
              (refine D_no rfl ?_; exact rfl)
            refine D_cons (D_step2 (js := [(10, 41), (5, 36)]) (by kernel_rfl) fun gd hf => ?_) ?_
            · have hsd := hs.dr.call hf; have hfe := (G.le_dr _).trans hf.le
              refine QA_eq rfl ?_; refine QA_eq rfl ?_
              refine QA_nil ?_
              (refine D_no rfl ?_; exact rfl)
            refine D_cons (D_step2 (js := [(11, 42), (5, 36)]) (by kernel_rfl) fun gd hf => ?_) ?_
            · have hsd := hs.dr.call hf; have hfe := (G.le_dr _).trans hf.le
              refine QA_eq rfl ?_; refine QA_eq rfl ?_
              refine QA_nil ?_
              (refine D_no rfl ?_; exact rfl)
            refine D_cons (D_step2 (js := [(12, 43), (5, 36)]) (by kernel_rfl) fun gd hf => ?_) ?_
            · have hsd := hs.dr.call hf; have hfe := (G.le_dr _).trans hf.le
              refine QA_eq rfl ?_; refine QA_eq rfl ?_
              refine QA_nil ?_
              (refine D_no rfl ?_; exact rfl)
            refine D_cons (D_step2 (js := [(5, 36), (13, 44)]) (by kernel_rfl) fun gd hf => ?_) ?_
            · have hsd := hs.dr.call hf; have hfe := (G.le_dr _).trans hf.le
              refine QA_eq rfl ?_; refine QA_eq rfl ?_
              refine QA_nil ?_
              (refine D_yes rfl ?_; refine OpR_pure _ T.ok rfl ?_; refine ⟨_, rfl, Fr0.refl _, ?_⟩; exact rfl)
            refine D_cons (D_step2 (js := [(14, 45)]) (by kernel_rfl) fun gd hf => ?_) ?_
            · have hsd := hs.dr.call hf; have hfe := (G.le_dr _).trans hf.le
              refine QA_eq rfl ?_
              refine QA_nil ?_
              (refine D_yes rfl ?_; refine OpR_pure _ T.ok rfl ?_; refine ⟨_, rfl, Fr0.refl _, ?_⟩; exact rfl)
            refine D_cons (D_step2 (js := [(15, 46)]) (by kernel_rfl) fun gd hf => ?_) ?_
            · have hsd := hs.dr.call hf; have hfe := (G.le_dr _).trans hf.le
              refine QA_eq rfl ?_
              refine QA_nil ?_
              (refine D_no rfl ?_; exact rfl)
            refine D_cons (D_step2 (js := [(16, 47), (15, 46)]) (by kernel_rfl) fun gd hf => ?_) ?_
            · have hsd := hs.dr.call hf; have hfe := (G.le_dr _).trans hf.le
              refine QA_eq rfl ?_; refine QA_eq rfl ?_
              refine QA_nil ?_
              (refine D_no rfl ?_; exact rfl)
            refine D_cons (D_step2 (js := [(17, 48), (15, 46), (15, 46)]) (by kernel_rfl) fun gd hf => ?_) ?_
            · have hsd := hs.dr.call hf; have hfe := (G.le_dr _).trans hf.le
              refine QA_eq rfl ?_; refine QA_eq rfl ?_; refine QA_eq rfl ?_
              refine QA_nil ?_
              (refine D_no rfl ?_; exact rfl)
            refine D_cons (D_step2 (js := [(18, 49)]) (by kernel_rfl) fun gd hf => ?_) ?_
            · have hsd := hs.dr.call hf; have hfe := (G.le_dr _).trans hf.le
              refine QA_eq rfl ?_
              refine QA_nil ?_
              (refine D_no rfl ?_; exact rfl)
            refine D_cons (D_step2 (js := [(18, 49)]) (by kernel_rfl) fun gd hf => ?_) ?_
            · have hsd := hs.dr.call hf; have hfe := (G.le_dr _).trans hf.le
              refine QA_eq rfl ?_
              refine QA_nil ?_
              (refine D_no rfl ?_; exact rfl)
            refine D_cons (D_step2 (js := [(19, 50), (20, 51), (18, 49)]) (by kernel_rfl) fun gd hf => ?_) ?_
            · have hsd := hs.dr.call hf; have hfe := (G.le_dr _).trans hf.le
              refine QA_eq rfl ?_; refine QA_eq rfl ?_; refine QA_eq rfl ?_
              refine QA_nil ?_
              (refine D_no rfl ?_; exact rfl)
            refine D_cons (D_step2 (js := [(21, 52), (18, 49)]) (by kernel_rfl) fun gd hf => ?_) ?_
            · have hsd := hs.dr.call hf; have hfe := (G.le_dr _).trans hf.le
              refine QA_eq rfl ?_; refine QA_eq rfl ?_
              refine QA_nil ?_
              (refine D_no rfl ?_; exact rfl)
            refine D_cons (D_step2 (js := [(22, 53), (18, 49)]) (by kernel_rfl) fun gd hf => ?_) ?_
            · have hsd := hs.dr.call hf; have hfe := (G.le_dr _).trans hf.le
              refine QA_eq rfl ?_; refine QA_eq rfl ?_
              refine QA_nil ?_
              (refine D_no rfl ?_; exact rfl)
            refine D_cons (D_step2 (js := [(18, 49)]) (by kernel_rfl) fun gd hf => ?_) ?_
            · have hsd := hs.dr.call hf; have hfe := (G.le_dr _).trans hf.le
              refine QA_eq rfl ?_
              refine QA_nil ?_
              (refine D_no rfl ?_; exact rfl)
            refine D_cons (D_step2 (js := [(24, 55), (18, 49)]) (by kernel_rfl) fun gd hf => ?_) ?_
            · have hsd := hs.dr.call hf; have hfe := (G.le_dr _).trans hf.le
              refine QA_eq rfl ?_; refine QA_eq rfl ?_
              refine QA_nil ?_
              (refine D_no rfl ?_; exact rfl)
            refine D_cons (D_step2 (js := [(18, 49)]) (by kernel_rfl) fun gd hf => ?_) ?_
            · have hsd := hs.dr.call hf; have hfe := (G.le_dr _).trans hf.le
              refine QA_eq rfl ?_
              refine QA_nil ?_
              (refine D_no rfl ?_; exact rfl)
            refine D_cons (D_step2 (js := [(25, 56), (26, 57), (18, 49)]) (by kernel_rfl) fun gd hf => ?_) ?_
            · have hsd := hs.dr.call hf; have hfe := (G.le_dr _).trans hf.le
              refine QA_eq rfl ?_; refine QA_eq rfl ?_; refine QA_eq rfl ?_
              refine QA_nil ?_
              (refine D_no rfl ?_; exact rfl)
            refine D_cons (D_step2 (js := [(27, 58), (18, 49)]) (by kernel_rfl) fun gd hf => ?_) ?_
            · have hsd := hs.dr.call hf; have hfe := (G.le_dr _).trans hf.le
              refine QA_eq rfl ?_; refine QA_eq rfl ?_
              refine QA_nil ?_
              (refine D_no rfl ?_; exact rfl)
            refine D_cons (D_step2 (js := [(28, 59), (18, 49)]) (by kernel_rfl) fun gd hf => ?_) ?_
            · have hsd := hs.dr.call hf; have hfe := (G.le_dr _).trans hf.le
              refine QA_eq rfl ?_; refine QA_eq rfl ?_
              refine QA_nil ?_
              (refine D_no rfl ?_; exact rfl)
            refine D_cons (D_step2 (js := [(23, 54), (29, 60), (18, 49)]) (by kernel_rfl) fun gd hf => ?_) ?_
            · have hsd := hs.dr.call hf; have hfe := (G.le_dr _).trans hf.le
              refine QA_eq rfl ?_; refine QA_eq rfl ?_; refine QA_eq rfl ?_
              refine QA_nil ?_
              (refine D_no rfl ?_; exact rfl)
            refine D_cons (D_step2 (js := [(18, 49)]) (by kernel_rfl) fun gd hf => ?_) ?_
            · have hsd := hs.dr.call hf; have hfe := (G.le_dr _).trans hf.le
              refine QA_eq rfl ?_
              refine QA_nil ?_
              (refine D_no rfl ?_; exact rfl)
            refine D_cons (D_step2 (js := [(30, 61), (31, 62), (18, 49)]) (by kernel_rfl) fun gd hf => ?_) ?_
            · have hsd := hs.dr.call hf; have hfe := (G.le_dr _).trans hf.le
              refine QA_eq rfl ?_; refine QA_eq rfl ?_; refine QA_eq rfl ?_
              refine QA_nil ?_
              (refine D_no rfl ?_; exact rfl)
            refine D_cons (D_step2 (js := [(18, 49), (32, 63), (15, 46)]) (by kernel_rfl) fun gd hf => ?_) ?_
            · have hsd := hs.dr.call hf; have hfe := (G.le_dr _).trans hf.le
              refine QA_eq rfl ?_; refine QA_eq rfl ?_; refine QA_eq rfl ?_
              refine QA_nil ?_
              (refine D_no rfl ?_; exact rfl)
            refine D_cons (D_step2 (js := [(15, 46), (33, 64)]) (by kernel_rfl) fun gd hf => ?_) ?_
            · have hsd := hs.dr.call hf; have hfe := (G.le_dr _).trans hf.le
              refine QA_eq rfl ?_; refine QA_eq rfl ?_
              refine QA_nil ?_
              (refine D_yes rfl ?_; refine OpR_pure _ T.ok rfl ?_; refine ⟨_, rfl, Fr0.refl _, ?_⟩; exact rfl)
            exact D_nil
          intro g1 hf1; refine QA_eq rfl ?_; refine QA_nil ?_
          replace hs := hs.dr.call hf1; have hqe := (G.le_dr _).trans hf1.le; replace le8 := G.le.trans le8 hqe; replace ep0 := ep0.mono hqe; replace rs0 := rs0.mono hqe; replace rs5 := rs5.mono hqe
          refine WL_nil ?_; (with_reducible refine T_then ?_)
          refine W_no rfl rfl ?_
          refine W_skip ?_; (with_reducible refine T_bn ?_); (with_reducible refine T_then ?_); refine W_region ?_; (iterate 3 refine P1 T.ok rfl rfl rfl ?_); refine WL_nil ?_
          exact fun a ha => ⟨f.steps.length - (k + 1), by omega, k + 1, _, rfl, hs, le8, by omega, rfl, ha.keep ⟨rfl, rfl, by rw [hps]; rfl, by rw [hps]; rfl, kI rfl (by rw [wr (by omega) (by omega)]; omega), trivial⟩⟩
        | some w =>
          have hbd := ways_bound hval ha hkr ho
          have hmn := valid_min hval hkr
          rw [ho] at hps hgw
          simp only at hps
          cases he : isEnd (stepD f k) with
          | false =>
            rw [he, if_neg (by simp)] at hps
            refine W_skip ?_; (with_reducible refine T_then ?_); refine W_seq ?_; refine W_block ?_; refine W_seq ?_
            apply W_draw allF rfl (Fact.eq _ :: Fact.eq _ :: (pwPtr 0 w.time) :: (pwPtr 2 w.time) :: Fact.eq _ :: Fact.eq _ :: Fact.eq _ :: Fact.eq _ :: Fact.eq _ :: (stepPtr 0 (stepD f k)) :: (stepPtr 4 (stepD f k)) :: (Fact.rs (stepD f k).next) :: Fact.eq _ :: Fact.eq _ :: Fact.eq _ :: Fact.eq _ :: Fact.eq _ :: Fact.eq _ :: Fact.eq _ :: Fact.eq _ :: Fact.eq _ :: Fact.eq _ :: Fact.eq _ :: Fact.eq _ :: Fact.eq _ :: Fact.eq _ :: Fact.eq _ :: Fact.eq _ :: Fact.eq _ :: Fact.eq _ :: Fact.eq _ :: Fact.eq _ :: Fact.eq _ :: Fact.eq _ :: Fact.eq _ :: []) 35 [(34, 65)] rfl rfl
            · refine D_cons (D_step2 (js := []) (by kernel_rfl) fun gd hf => ?_) ?_
              · have hsd := hs.dr.call hf; have hfe := (G.le_dr _).trans hf.le
                refine QA_nil ?_
                (refine D_yes rfl ?_; refine OpR_pure _ T.ok rfl ?_; refine ⟨_, rfl, Fr0.refl _, ?_⟩; exact rfl)
              refine D_cons (D_step2 (js := []) (by kernel_rfl) fun gd hf => ?_) ?_
              · have hsd := hs.dr.call hf; have hfe := (G.le_dr _).trans hf.le
                refine QA_nil ?_
                (refine D_yes rfl ?_; refine OpR_pure _ T.ok rfl ?_; refine ⟨_, rfl, Fr0.refl _, ?_⟩; exact rfl)
              refine D_cons (D_step2 (js := [(0, 31), (1, 32)]) (by kernel_rfl) fun gd hf => ?_) ?_
              · have hsd := hs.dr.call hf; have hfe := (G.le_dr _).trans hf.le
                refine QA_eq rfl ?_; refine QA_eq rfl ?_
                refine QA_nil ?_
                refine D_yes rfl ?_
                refine OpR_idx T.ok rfl (rs5.mono hfe) (y := ⟨some w⟩) hgw rfl rfl rfl rfl rfl rfl ?_
                rintro b p ys hep ⟨a, n, c, rfl, _⟩
                exact ⟨_, rfl, Fr0.refl _, b, p, a, n, c, rfl, hep⟩
              refine D_cons (D_step2 (js := [(2, 33)]) (by kernel_rfl) fun gd hf => ?_) ?_
              · have hsd := hs.dr.call hf; have hfe := (G.le_dr _).trans hf.le
                refine QA_any fun v2 h2 => ?_
                refine QA_nil ?_
                obtain ⟨b, p, a, n, c, rfl, hep⟩ := h2
                refine D_yes rfl ?_
                refine OpR_pure _ T.ok rfl ?_
                exact ⟨_, rfl, Fr0.refl _, b, p, a, n, c, rfl, hep⟩
              refine D_cons (D_step2 (js := [(3, 34)]) (by kernel_rfl) fun gd hf => ?_) ?_
              · have hsd := hs.dr.call hf; have hfe := (G.le_dr _).trans hf.le
                refine QA_any fun v3 h3 => ?_
                refine QA_nil ?_
                obtain ⟨b, p, a, n, c, rfl, hep⟩ := h3
                refine D_yes rfl ?_
                refine OpR_loadE T.ok 2 rfl hep rfl rfl ?_
                exact ⟨_, rfl, Fr0.refl _, rfl⟩
              refine D_cons (D_step2 (js := [(4, 35)]) (by kernel_rfl) fun gd hf => ?_) ?_
              · have hsd := hs.dr.call hf; have hfe := (G.le_dr _).trans hf.le
                refine QA_eq rfl ?_
                refine QA_nil ?_
                (refine D_yes rfl ?_; refine OpR_pure _ T.ok rfl ?_; refine ⟨_, rfl, Fr0.refl _, ?_⟩; exact rfl)
              refine D_cons (D_step2 (js := [(5, 36)]) (by kernel_rfl) fun gd hf => ?_) ?_
              · have hsd := hs.dr.call hf; have hfe := (G.le_dr _).trans hf.le
                refine QA_eq rfl ?_
                refine QA_nil ?_
                (refine D_yes rfl ?_; refine OpR_pure _ T.ok rfl ?_; refine ⟨_, rfl, Fr0.refl _, ?_⟩; exact rfl)
              refine D_cons (D_step2 (js := [(6, 37), (5, 36)]) (by kernel_rfl) fun gd hf => ?_) ?_
              · have hsd := hs.dr.call hf; have hfe := (G.le_dr _).trans hf.le
                refine QA_eq rfl ?_; refine QA_eq rfl ?_
                refine QA_nil ?_
                (refine D_yes rfl ?_; refine OpR_loadE T.ok 2 rfl (ep0.mono hfe) rfl rfl ?_; refine ⟨_, rfl, Fr0.refl _, ?_⟩; exact rfl)
              refine D_cons (D_step2 (js := [(5, 36)]) (by kernel_rfl) fun gd hf => ?_) ?_
              · have hsd := hs.dr.call hf; have hfe := (G.le_dr _).trans hf.le
                refine QA_eq rfl ?_
                refine QA_nil ?_
                (refine D_yes rfl ?_; refine OpR_pure _ T.ok rfl ?_; refine ⟨_, rfl, Fr0.refl _, ?_⟩; exact rfl)
              refine D_cons (D_step2 (js := [(7, 38), (8, 39), (5, 36)]) (by kernel_rfl) fun gd hf => ?_) ?_
              · have hsd := hs.dr.call hf; have hfe := (G.le_dr _).trans hf.le
                refine QA_eq rfl ?_; refine QA_eq rfl ?_; refine QA_eq rfl ?_
                refine QA_nil ?_
                refine D_yes rfl ?_
                refine OpR_idx T.ok rfl (rs0.mono hfe) (y := stepD f k) (step_geti hkr) rfl rfl rfl rfl rfl rfl ?_
                intro b p ys hep hrc
                exact ⟨_, rfl, Fr0.refl _, b, p, ys, rfl, hep, hrc⟩
              refine D_cons (D_step2 (js := [(9, 40), (5, 36)]) (by kernel_rfl) fun gd hf => ?_) ?_
              · have hsd := hs.dr.call hf; have hfe := (G.le_dr _).trans hf.le
                refine QA_any fun v9 h9 => ?_; refine QA_eq rfl ?_
                refine QA_nil ?_
                obtain ⟨b, p, ys, rfl, hep, hrc⟩ := h9
                refine D_yes rfl ?_
                refine OpR_pure _ T.ok rfl ?_
                exact ⟨_, rfl, Fr0.refl _, b, p, ys, rfl, hep, hrc⟩
              refine D_cons (D_step2 (js := [(10, 41), (5, 36)]) (by kernel_rfl) fun gd hf => ?_) ?_
              · have hsd := hs.dr.call hf; have hfe := (G.le_dr _).trans hf.le
                refine QA_any fun v10 h10 => ?_; refine QA_eq rfl ?_
                refine QA_nil ?_
                obtain ⟨b, p, ys, rfl, hep, hrc⟩ := h10
                obtain ⟨b1, b2, b3, b4, b5, b6, rfl, hx1, hx2⟩ := hrc
                refine D_yes rfl ?_
                refine OpR_loadE T.ok 4 rfl hep rfl rfl ?_
                exact ⟨_, rfl, Fr0.refl _, hx2⟩
              refine D_cons (D_step2 (js := [(11, 42), (5, 36)]) (by kernel_rfl) fun gd hf => ?_) ?_
              · have hsd := hs.dr.call hf; have hfe := (G.le_dr _).trans hf.le
                refine QA_any fun v11 h11 => ?_; refine QA_eq rfl ?_
                refine QA_nil ?_
                obtain ⟨a5, c5, rfl⟩ := Rs.isSlice h11
                refine D_yes rfl ?_
                refine OpR_pure _ T.ok rfl ?_
                refine ⟨_, rfl, Fr0.refl _, ?_⟩
                exact rfl
              refine D_cons (D_step2 (js := [(12, 43), (5, 36)]) (by kernel_rfl) fun gd hf => ?_) ?_
              · have hsd := hs.dr.call hf; have hfe := (G.le_dr _).trans hf.le
                refine QA_eq rfl ?_; refine QA_eq rfl ?_
                refine QA_nil ?_
                refine D_yes rfl ?_
                refine OpR_pure _ T.ok rfl ?_
                refine ⟨_, rfl, Fr0.refl _, ?_⟩
                exact congrArg Value.bool he
              refine D_cons (D_step2 (js := [(5, 36), (13, 44)]) (by kernel_rfl) fun gd hf => ?_) ?_
              · have hsd := hs.dr.call hf; have hfe := (G.le_dr _).trans hf.le
                refine QA_eq rfl ?_; refine QA_eq rfl ?_
                refine QA_nil ?_
                (refine D_yes rfl ?_; refine OpR_pure _ T.ok rfl ?_; refine ⟨_, rfl, Fr0.refl _, ?_⟩; exact rfl)
              refine D_cons (D_step2 (js := [(14, 45)]) (by kernel_rfl) fun gd hf => ?_) ?_
              · have hsd := hs.dr.call hf; have hfe := (G.le_dr _).trans hf.le
                refine QA_eq rfl ?_
                refine QA_nil ?_
                (refine D_yes rfl ?_; refine OpR_pure _ T.ok rfl ?_; refine ⟨_, rfl, Fr0.refl _, ?_⟩; exact rfl)
              refine D_cons (D_step2 (js := [(15, 46)]) (by kernel_rfl) fun gd hf => ?_) ?_
              · have hsd := hs.dr.call hf; have hfe := (G.le_dr _).trans hf.le
                refine QA_eq rfl ?_
                refine QA_nil ?_
                (refine D_no rfl ?_; exact rfl)
              refine D_cons (D_step2 (js := [(16, 47), (15, 46)]) (by kernel_rfl) fun gd hf => ?_) ?_
              · have hsd := hs.dr.call hf; have hfe := (G.le_dr _).trans hf.le
                refine QA_eq rfl ?_; refine QA_eq rfl ?_
                refine QA_nil ?_
                (refine D_no rfl ?_; exact rfl)
              refine D_cons (D_step2 (js := [(17, 48), (15, 46), (15, 46)]) (by kernel_rfl) fun gd hf => ?_) ?_
              · have hsd := hs.dr.call hf; have hfe := (G.le_dr _).trans hf.le
                refine QA_eq rfl ?_; refine QA_eq rfl ?_; refine QA_eq rfl ?_
                refine QA_nil ?_
                (refine D_no rfl ?_; exact rfl)
              refine D_cons (D_step2 (js := [(18, 49)]) (by kernel_rfl) fun gd hf => ?_) ?_
              · have hsd := hs.dr.call hf; have hfe := (G.le_dr _).trans hf.le
                refine QA_eq rfl ?_
                refine QA_nil ?_
                (refine D_no rfl ?_; exact rfl)
              refine D_cons (D_step2 (js := [(18, 49)]) (by kernel_rfl) fun gd hf => ?_) ?_
              · have hsd := hs.dr.call hf; have hfe := (G.le_dr _).trans hf.le
                refine QA_eq rfl ?_
                refine QA_nil ?_
                (refine D_no rfl ?_; exact rfl)
              refine D_cons (D_step2 (js := [(19, 50), (20, 51), (18, 49)]) (by kernel_rfl) fun gd hf => ?_) ?_
              · have hsd := hs.dr.call hf; have hfe := (G.le_dr _).trans hf.le
                refine QA_eq rfl ?_; refine QA_eq rfl ?_; refine QA_eq rfl ?_
                refine QA_nil ?_
                (refine D_no rfl ?_; exact rfl)
              refine D_cons (D_step2 (js := [(21, 52), (18, 49)]) (by kernel_rfl) fun gd hf => ?_) ?_
              · have hsd := hs.dr.call hf; have hfe := (G.le_dr _).trans hf.le
                refine QA_eq rfl ?_; refine QA_eq rfl ?_
                refine QA_nil ?_
                (refine D_no rfl ?_; exact rfl)
              refine D_cons (D_step2 (js := [(22, 53), (18, 49)]) (by kernel_rfl) fun gd hf => ?_) ?_
              · have hsd := hs.dr.call hf; have hfe := (G.le_dr _).trans hf.le
                refine QA_eq rfl ?_; refine QA_eq rfl ?_
                refine QA_nil ?_
                (refine D_no rfl ?_; exact rfl)
              refine D_cons (D_step2 (js := [(18, 49)]) (by kernel_rfl) fun gd hf => ?_) ?_
              · have hsd := hs.dr.call hf; have hfe := (G.le_dr _).trans hf.le
                refine QA_eq rfl ?_
                refine QA_nil ?_
                (refine D_no rfl ?_; exact rfl)
              refine D_cons (D_step2 (js := [(24, 55), (18, 49)]) (by kernel_rfl) fun gd hf => ?_) ?_
              · have hsd := hs.dr.call hf; have hfe := (G.le_dr _).trans hf.le
                refine QA_eq rfl ?_; refine QA_eq rfl ?_
                refine QA_nil ?_
                (refine D_no rfl ?_; exact rfl)
              refine D_cons (D_step2 (js := [(18, 49)]) (by kernel_rfl) fun gd hf => ?_) ?_
              · have hsd := hs.dr.call hf; have hfe := (G.le_dr _).trans hf.le
                refine QA_eq rfl ?_
                refine QA_nil ?_
                (refine D_no rfl ?_; exact rfl)
              refine D_cons (D_step2 (js := [(25, 56), (26, 57), (18, 49)]) (by kernel_rfl) fun gd hf => ?_) ?_
              · have hsd := hs.dr.call hf; have hfe := (G.le_dr _).trans hf.le
                refine QA_eq rfl ?_; refine QA_eq rfl ?_; refine QA_eq rfl ?_
                refine QA_nil ?_
                (refine D_no rfl ?_; exact rfl)
              refine D_cons (D_step2 (js := [(27, 58), (18, 49)]) (by kernel_rfl) fun gd hf => ?_) ?_
              · have hsd := hs.dr.call hf; have hfe := (G.le_dr _).trans hf.le
                refine QA_eq rfl ?_; refine QA_eq rfl ?_
                refine QA_nil ?_
                (refine D_no rfl ?_; exact rfl)
              refine D_cons (D_step2 (js := [(28, 59), (18, 49)]) (by kernel_rfl) fun gd hf => ?_) ?_
              · have hsd := hs.dr.call hf; have hfe := (G.le_dr _).trans hf.le
                refine QA_eq rfl ?_; refine QA_eq rfl ?_
                refine QA_nil ?_
                (refine D_no rfl ?_; exact rfl)
              refine D_cons (D_step2 (js := [(23, 54), (29, 60), (18, 49)]) (by kernel_rfl) fun gd hf => ?_) ?_
              · have hsd := hs.dr.call hf; have hfe := (G.le_dr _).trans hf.le
                refine QA_eq rfl ?_; refine QA_eq rfl ?_; refine QA_eq rfl ?_
                refine QA_nil ?_
                (refine D_no rfl ?_; exact rfl)
              refine D_cons (D_step2 (js := [(18, 49)]) (by kernel_rfl) fun gd hf => ?_) ?_
              · have hsd := hs.dr.call hf; have hfe := (G.le_dr _).trans hf.le
                refine QA_eq rfl ?_
                refine QA_nil ?_
                (refine D_no rfl ?_; exact rfl)
              refine D_cons (D_step2 (js := [(30, 61), (31, 62), (18, 49)]) (by kernel_rfl) fun gd hf => ?_) ?_
              · have hsd := hs.dr.call hf; have hfe := (G.le_dr _).trans hf.le
                refine QA_eq rfl ?_; refine QA_eq rfl ?_; refine QA_eq rfl ?_
                refine QA_nil ?_
                (refine D_no rfl ?_; exact rfl)
              refine D_cons (D_step2 (js := [(18, 49), (32, 63), (15, 46)]) (by kernel_rfl) fun gd hf => ?_) ?_
              · have hsd := hs.dr.call hf; have hfe := (G.le_dr _).trans hf.le
                refine QA_eq rfl ?_; refine QA_eq rfl ?_; refine QA_eq rfl ?_
                refine QA_nil ?_
                (refine D_no rfl ?_; exact rfl)
              refine D_cons (D_step2 (js := [(15, 46), (33, 64)]) (by kernel_rfl) fun gd hf => ?_) ?_
              · have hsd := hs.dr.call hf; have hfe := (G.le_dr _).trans hf.le
                refine QA_eq rfl ?_; refine QA_eq rfl ?_
                refine QA_nil ?_
                (refine D_yes rfl ?_; refine OpR_pure _ T.ok rfl ?_; refine ⟨_, rfl, Fr0.refl _, ?_⟩; exact rfl)
              exact D_nil
            intro g1 hf1; refine QA_eq rfl ?_; refine QA_nil ?_
            replace hs := hs.dr.call hf1; have hqe := (G.le_dr _).trans hf1.le; replace le8 := G.le.trans le8 hqe; replace ep0 := ep0.mono hqe; replace rs0 := rs0.mono hqe; replace rs5 := rs5.mono hqe
            refine WL_nil ?_; (with_reducible refine T_then ?_)
            refine W_no rfl rfl ?_
            refine W_skip ?_; (with_reducible refine T_bn ?_); (with_reducible refine T_then ?_); refine W_region ?_; (iterate 3 refine P1 T.ok rfl rfl rfl ?_); refine WL_nil ?_
            exact fun a ha => ⟨f.steps.length - (k + 1), by omega, k + 1, _, rfl, hs, le8, by omega, rfl, ha.keep ⟨rfl, rfl, by rw [hps]; rfl, by rw [hps]; rfl, kI rfl (by rw [wr (by omega) (by omega)]; omega), trivial⟩⟩
          | true =>
            rw [he, if_pos rfl] at hps
            obtain ⟨bst, fnd⟩ := acc
            simp only at hps hfb
            cases fnd with
            | false =>
              rw [if_pos (.inl rfl)] at hps
              refine W_skip ?_; (with_reducible refine T_then ?_); refine W_seq ?_; refine W_block ?_; refine W_seq ?_
              apply W_draw allF rfl (Fact.eq _ :: Fact.eq _ :: (pwPtr 0 w.time) :: (pwPtr 2 w.time) :: Fact.eq _ :: Fact.eq _ :: Fact.eq _ :: Fact.eq _ :: Fact.eq _ :: (stepPtr 0 (stepD f k)) :: (stepPtr 4 (stepD f k)) :: (Fact.rs (stepD f k).next) :: Fact.eq _ :: Fact.eq _ :: Fact.eq _ :: Fact.eq _ :: Fact.eq _ :: Fact.eq _ :: Fact.eq _ :: Fact.eq _ :: Fact.eq _ :: Fact.eq _ :: Fact.eq _ :: Fact.eq _ :: Fact.eq _ :: Fact.eq _ :: Fact.eq _ :: Fact.eq _ :: Fact.eq _ :: Fact.eq _ :: Fact.eq _ :: Fact.eq _ :: Fact.eq _ :: Fact.eq _ :: Fact.eq _ :: []) 35 [(34, 65)] rfl rfl
              · refine D_cons (D_step2 (js := []) (by kernel_rfl) fun gd hf => ?_) ?_
                · have hsd := hs.dr.call hf; have hfe := (G.le_dr _).trans hf.le
                  refine QA_nil ?_
                  (refine D_yes rfl ?_; refine OpR_pure _ T.ok rfl ?_; refine ⟨_, rfl, Fr0.refl _, ?_⟩; exact rfl)
                refine D_cons (D_step2 (js := []) (by kernel_rfl) fun gd hf => ?_) ?_
                · have hsd := hs.dr.call hf; have hfe := (G.le_dr _).trans hf.le
                  refine QA_nil ?_
                  (refine D_yes rfl ?_; refine OpR_pure _ T.ok rfl ?_; refine ⟨_, rfl, Fr0.refl _, ?_⟩; exact rfl)
                refine D_cons (D_step2 (js := [(0, 31), (1, 32)]) (by kernel_rfl) fun gd hf => ?_) ?_
                · have hsd := hs.dr.call hf; have hfe := (G.le_dr _).trans hf.le
                  refine QA_eq rfl ?_; refine QA_eq rfl ?_
                  refine QA_nil ?_
                  refine D_yes rfl ?_
                  refine OpR_idx T.ok rfl (rs5.mono hfe) (y := ⟨some w⟩) hgw rfl rfl rfl rfl rfl rfl ?_
                  rintro b p ys hep ⟨a, n, c, rfl, _⟩
                  exact ⟨_, rfl, Fr0.refl _, b, p, a, n, c, rfl, hep⟩
                refine D_cons (D_step2 (js := [(2, 33)]) (by kernel_rfl) fun gd hf => ?_) ?_
                · have hsd := hs.dr.call hf; have hfe := (G.le_dr _).trans hf.le
                  refine QA_any fun v2 h2 => ?_
                  refine QA_nil ?_
                  obtain ⟨b, p, a, n, c, rfl, hep⟩ := h2
                  refine D_yes rfl ?_
                  refine OpR_pure _ T.ok rfl ?_
                  exact ⟨_, rfl, Fr0.refl _, b, p, a, n, c, rfl, hep⟩
                refine D_cons (D_step2 (js := [(3, 34)]) (by kernel_rfl) fun gd hf => ?_) ?_
                · have hsd := hs.dr.call hf; have hfe := (G.le_dr _).trans hf.le
                  refine QA_any fun v3 h3 => ?_
                  refine QA_nil ?_
                  obtain ⟨b, p, a, n, c, rfl, hep⟩ := h3
                  refine D_yes rfl ?_
                  refine OpR_loadE T.ok 2 rfl hep rfl rfl ?_
                  exact ⟨_, rfl, Fr0.refl _, rfl⟩
                refine D_cons (D_step2 (js := [(4, 35)]) (by kernel_rfl) fun gd hf => ?_) ?_
                · have hsd := hs.dr.call hf; have hfe := (G.le_dr _).trans hf.le
                  refine QA_eq rfl ?_
                  refine QA_nil ?_
                  (refine D_yes rfl ?_; refine OpR_pure _ T.ok rfl ?_; refine ⟨_, rfl, Fr0.refl _, ?_⟩; exact rfl)
                refine D_cons (D_step2 (js := [(5, 36)]) (by kernel_rfl) fun gd hf => ?_) ?_
                · have hsd := hs.dr.call hf; have hfe := (G.le_dr _).trans hf.le
                  refine QA_eq rfl ?_
                  refine QA_nil ?_
                  (refine D_yes rfl ?_; refine OpR_pure _ T.ok rfl ?_; refine ⟨_, rfl, Fr0.refl _, ?_⟩; exact rfl)
                refine D_cons (D_step2 (js := [(6, 37), (5, 36)]) (by kernel_rfl) fun gd hf => ?_) ?_
                · have hsd := hs.dr.call hf; have hfe := (G.le_dr _).trans hf.le
                  refine QA_eq rfl ?_; refine QA_eq rfl ?_
                  refine QA_nil ?_
                  (refine D_yes rfl ?_; refine OpR_loadE T.ok 2 rfl (ep0.mono hfe) rfl rfl ?_; refine ⟨_, rfl, Fr0.refl _, ?_⟩; exact rfl)
                refine D_cons (D_step2 (js := [(5, 36)]) (by kernel_rfl) fun gd hf => ?_) ?_
                · have hsd := hs.dr.call hf; have hfe := (G.le_dr _).trans hf.le
                  refine QA_eq rfl ?_
                  refine QA_nil ?_
                  (refine D_yes rfl ?_; refine OpR_pure _ T.ok rfl ?_; refine ⟨_, rfl, Fr0.refl _, ?_⟩; exact rfl)
                refine D_cons (D_step2 (js := [(7, 38), (8, 39), (5, 36)]) (by kernel_rfl) fun gd hf => ?_) ?_
                · have hsd := hs.dr.call hf; have hfe := (G.le_dr _).trans hf.le
                  refine QA_eq rfl ?_; refine QA_eq rfl ?_; refine QA_eq rfl ?_
                  refine QA_nil ?_
                  refine D_yes rfl ?_
                  refine OpR_idx T.ok rfl (rs0.mono hfe) (y := stepD f k) (step_geti hkr) rfl rfl rfl rfl rfl rfl ?_
                  intro b p ys hep hrc
                  exact ⟨_, rfl, Fr0.refl _, b, p, ys, rfl, hep, hrc⟩
                refine D_cons (D_step2 (js := [(9, 40), (5, 36)]) (by kernel_rfl) fun gd hf => ?_) ?_
                · have hsd := hs.dr.call hf; have hfe := (G.le_dr _).trans hf.le
                  refine QA_any fun v9 h9 => ?_; refine QA_eq rfl ?_
                  refine QA_nil ?_
                  obtain ⟨b, p, ys, rfl, hep, hrc⟩ := h9
                  refine D_yes rfl ?_
                  refine OpR_pure _ T.ok rfl ?_
                  exact ⟨_, rfl, Fr0.refl _, b, p, ys, rfl, hep, hrc⟩
                refine D_cons (D_step2 (js := [(10, 41), (5, 36)]) (by kernel_rfl) fun gd hf => ?_) ?_
                · have hsd := hs.dr.call hf; have hfe := (G.le_dr _).trans hf.le
                  refine QA_any fun v10 h10 => ?_; refine QA_eq rfl ?_
                  refine QA_nil ?_
                  obtain ⟨b, p, ys, rfl, hep, hrc⟩ := h10
                  obtain ⟨b1, b2, b3, b4, b5, b6, rfl, hx1, hx2⟩ := hrc
                  refine D_yes rfl ?_
                  refine OpR_loadE T.ok 4 rfl hep rfl rfl ?_
                  exact ⟨_, rfl, Fr0.refl _, hx2⟩
                refine D_cons (D_step2 (js := [(11, 42), (5, 36)]) (by kernel_rfl) fun gd hf => ?_) ?_
                · have hsd := hs.dr.call hf; have hfe := (G.le_dr _).trans hf.le
                  refine QA_any fun v11 h11 => ?_; refine QA_eq rfl ?_
                  refine QA_nil ?_
                  obtain ⟨a5, c5, rfl⟩ := Rs.isSlice h11
                  refine D_yes rfl ?_
                  refine OpR_pure _ T.ok rfl ?_
                  refine ⟨_, rfl, Fr0.refl _, ?_⟩
                  exact rfl
                refine D_cons (D_step2 (js := [(12, 43), (5, 36)]) (by kernel_rfl) fun gd hf => ?_) ?_
                · have hsd := hs.dr.call hf; have hfe := (G.le_dr _).trans hf.le
                  refine QA_eq rfl ?_; refine QA_eq rfl ?_
                  refine QA_nil ?_
                  refine D_yes rfl ?_
                  refine OpR_pure _ T.ok rfl ?_
                  refine ⟨_, rfl, Fr0.refl _, ?_⟩
                  exact congrArg Value.bool he
                refine D_cons (D_step2 (js := [(5, 36), (13, 44)]) (by kernel_rfl) fun gd hf => ?_) ?_
                · have hsd := hs.dr.call hf; have hfe := (G.le_dr _).trans hf.le
                  refine QA_eq rfl ?_; refine QA_eq rfl ?_
                  refine QA_nil ?_
                  (refine D_yes rfl ?_; refine OpR_pure _ T.ok rfl ?_; refine ⟨_, rfl, Fr0.refl _, ?_⟩; exact rfl)
                refine D_cons (D_step2 (js := [(14, 45)]) (by kernel_rfl) fun gd hf => ?_) ?_
                · have hsd := hs.dr.call hf; have hfe := (G.le_dr _).trans hf.le
                  refine QA_eq rfl ?_
                  refine QA_nil ?_
                  (refine D_yes rfl ?_; refine OpR_pure _ T.ok rfl ?_; refine ⟨_, rfl, Fr0.refl _, ?_⟩; exact rfl)
                refine D_cons (D_step2 (js := [(15, 46)]) (by kernel_rfl) fun gd hf => ?_) ?_
                · have hsd := hs.dr.call hf; have hfe := (G.le_dr _).trans hf.le
                  refine QA_eq rfl ?_
                  refine QA_nil ?_
                  (refine D_yes rfl ?_; refine OpR_pure _ T.ok rfl ?_; refine ⟨_, rfl, Fr0.refl _, ?_⟩; exact rfl)
                refine D_cons (D_step2 (js := [(16, 47), (15, 46)]) (by kernel_rfl) fun gd hf => ?_) ?_
                · have hsd := hs.dr.call hf; have hfe := (G.le_dr _).trans hf.le
                  refine QA_eq rfl ?_; refine QA_eq rfl ?_
                  refine QA_nil ?_
                  (refine D_yes rfl ?_; refine OpR_pure _ T.ok rfl ?_; refine ⟨_, rfl, Fr0.refl _, ?_⟩; exact rfl)
                refine D_cons (D_step2 (js := [(17, 48), (15, 46), (15, 46)]) (by kernel_rfl) fun gd hf => ?_) ?_
                · have hsd := hs.dr.call hf; have hfe := (G.le_dr _).trans hf.le
                  refine QA_eq rfl ?_; refine QA_eq rfl ?_; refine QA_eq rfl ?_
                  refine QA_nil ?_
                  (refine D_yes rfl ?_; refine OpR_pure _ T.ok rfl ?_; refine ⟨_, rfl, Fr0.refl _, ?_⟩; exact rfl)
                refine D_cons (D_step2 (js := [(18, 49)]) (by kernel_rfl) fun gd hf => ?_) ?_
                · have hsd := hs.dr.call hf; have hfe := (G.le_dr _).trans hf.le
                  refine QA_eq rfl ?_
                  refine QA_nil ?_
                  (refine D_no rfl ?_; exact rfl)
                refine D_cons (D_step2 (js := [(18, 49)]) (by kernel_rfl) fun gd hf => ?_) ?_
                · have hsd := hs.dr.call hf; have hfe := (G.le_dr _).trans hf.le
                  refine QA_eq rfl ?_
                  refine QA_nil ?_
                  (refine D_no rfl ?_; exact rfl)
                refine D_cons (D_step2 (js := [(19, 50), (20, 51), (18, 49)]) (by kernel_rfl) fun gd hf => ?_) ?_
                · have hsd := hs.dr.call hf; have hfe := (G.le_dr _).trans hf.le
                  refine QA_eq rfl ?_; refine QA_eq rfl ?_; refine QA_eq rfl ?_
                  refine QA_nil ?_
                  (refine D_no rfl ?_; exact rfl)
                refine D_cons (D_step2 (js := [(21, 52), (18, 49)]) (by kernel_rfl) fun gd hf => ?_) ?_
                · have hsd := hs.dr.call hf; have hfe := (G.le_dr _).trans hf.le
                  refine QA_eq rfl ?_; refine QA_eq rfl ?_
                  refine QA_nil ?_
                  (refine D_no rfl ?_; exact rfl)
                refine D_cons (D_step2 (js := [(22, 53), (18, 49)]) (by kernel_rfl) fun gd hf => ?_) ?_
                · have hsd := hs.dr.call hf; have hfe := (G.le_dr _).trans hf.le
                  refine QA_eq rfl ?_; refine QA_eq rfl ?_
                  refine QA_nil ?_
                  (refine D_no rfl ?_; exact rfl)
                refine D_cons (D_step2 (js := [(18, 49)]) (by kernel_rfl) fun gd hf => ?_) ?_
                · have hsd := hs.dr.call hf; have hfe := (G.le_dr _).trans hf.le
                  refine QA_eq rfl ?_
                  refine QA_nil ?_
                  (refine D_no rfl ?_; exact rfl)
                refine D_cons (D_step2 (js := [(24, 55), (18, 49)]) (by kernel_rfl) fun gd hf => ?_) ?_
                · have hsd := hs.dr.call hf; have hfe := (G.le_dr _).trans hf.le
                  refine QA_eq rfl ?_; refine QA_eq rfl ?_
                  refine QA_nil ?_
                  (refine D_no rfl ?_; exact rfl)
                refine D_cons (D_step2 (js := [(18, 49)]) (by kernel_rfl) fun gd hf => ?_) ?_
                · have hsd := hs.dr.call hf; have hfe := (G.le_dr _).trans hf.le
                  refine QA_eq rfl ?_
                  refine QA_nil ?_
                  (refine D_no rfl ?_; exact rfl)
                refine D_cons (D_step2 (js := [(25, 56), (26, 57), (18, 49)]) (by kernel_rfl) fun gd hf => ?_) ?_
                · have hsd := hs.dr.call hf; have hfe := (G.le_dr _).trans hf.le
                  refine QA_eq rfl ?_; refine QA_eq rfl ?_; refine QA_eq rfl ?_
                  refine QA_nil ?_
                  (refine D_no rfl ?_; exact rfl)
                refine D_cons (D_step2 (js := [(27, 58), (18, 49)]) (by kernel_rfl) fun gd hf => ?_) ?_
                · have hsd := hs.dr.call hf; have hfe := (G.le_dr _).trans hf.le
                  refine QA_eq rfl ?_; refine QA_eq rfl ?_
                  refine QA_nil ?_
                  (refine D_no rfl ?_; exact rfl)
                refine D_cons (D_step2 (js := [(28, 59), (18, 49)]) (by kernel_rfl) fun gd hf => ?_) ?_
                · have hsd := hs.dr.call hf; have hfe := (G.le_dr _).trans hf.le
                  refine QA_eq rfl ?_; refine QA_eq rfl ?_
                  refine QA_nil ?_
                  (refine D_no rfl ?_; exact rfl)
                refine D_cons (D_step2 (js := [(23, 54), (29, 60), (18, 49)]) (by kernel_rfl) fun gd hf => ?_) ?_
                · have hsd := hs.dr.call hf; have hfe := (G.le_dr _).trans hf.le
                  refine QA_eq rfl ?_; refine QA_eq rfl ?_; refine QA_eq rfl ?_
                  refine QA_nil ?_
                  (refine D_no rfl ?_; exact rfl)
                refine D_cons (D_step2 (js := [(18, 49)]) (by kernel_rfl) fun gd hf => ?_) ?_
                · have hsd := hs.dr.call hf; have hfe := (G.le_dr _).trans hf.le
                  refine QA_eq rfl ?_
                  refine QA_nil ?_
                  (refine D_no rfl ?_; exact rfl)
                refine D_cons (D_step2 (js := [(30, 61), (31, 62), (18, 49)]) (by kernel_rfl) fun gd hf => ?_) ?_
                · have hsd := hs.dr.call hf; have hfe := (G.le_dr _).trans hf.le
                  refine QA_eq rfl ?_; refine QA_eq rfl ?_; refine QA_eq rfl ?_
                  refine QA_nil ?_
                  (refine D_no rfl ?_; exact rfl)
                refine D_cons (D_step2 (js := [(18, 49), (32, 63), (15, 46)]) (by kernel_rfl) fun gd hf => ?_) ?_
                · have hsd := hs.dr.call hf; have hfe := (G.le_dr _).trans hf.le
                  refine QA_eq rfl ?_; refine QA_eq rfl ?_; refine QA_eq rfl ?_
                  refine QA_nil ?_
                  (refine D_yes rfl ?_; refine OpR_pure _ T.ok rfl ?_; refine ⟨_, rfl, Fr0.refl _, ?_⟩; exact rfl)
                refine D_cons (D_step2 (js := [(15, 46), (33, 64)]) (by kernel_rfl) fun gd hf => ?_) ?_
                · have hsd := hs.dr.call hf; have hfe := (G.le_dr _).trans hf.le
                  refine QA_eq rfl ?_; refine QA_eq rfl ?_
                  refine QA_nil ?_
                  (refine D_yes rfl ?_; refine OpR_pure _ T.ok rfl ?_; refine ⟨_, rfl, Fr0.refl _, ?_⟩; exact rfl)
                exact D_nil
              intro g1 hf1; refine QA_eq rfl ?_; refine QA_nil ?_
              replace hs := hs.dr.call hf1; have hqe := (G.le_dr _).trans hf1.le; replace le8 := G.le.trans le8 hqe; replace ep0 := ep0.mono hqe; replace rs0 := rs0.mono hqe; replace rs5 := rs5.mono hqe
              refine WL_nil ?_; (with_reducible refine T_then ?_)
              refine W_yes rfl rfl ?_
              refine W_seq ?_
              apply W_draw allF rfl (Fact.eq _ :: Fact.eq _ :: (pwPtr 0 w.time) :: (pwPtr 0 w.time) :: Fact.eq _ :: Fact.eq _ :: Fact.eq _ :: Fact.eq _ :: (stepPtr 0 (stepD f k)) :: (stepPtr 2 (stepD f k)) :: Fact.eq _ :: Fact.eq _ :: []) 12 [(11, 77)] rfl rfl
              · refine D_cons (D_step2 (js := []) (by kernel_rfl) fun gd hf => ?_) ?_
                · have hsd := hs.dr.call hf; have hfe := (G.le_dr _).trans hf.le
                  refine QA_nil ?_
                  (refine D_yes rfl ?_; refine OpR_pure _ T.ok rfl ?_; refine ⟨_, rfl, Fr0.refl _, ?_⟩; exact rfl)
                refine D_cons (D_step2 (js := []) (by kernel_rfl) fun gd hf => ?_) ?_
                · have hsd := hs.dr.call hf; have hfe := (G.le_dr _).trans hf.le
                  refine QA_nil ?_
                  (refine D_yes rfl ?_; refine OpR_pure _ T.ok rfl ?_; refine ⟨_, rfl, Fr0.refl _, ?_⟩; exact rfl)
                refine D_cons (D_step2 (js := [(0, 66), (1, 67)]) (by kernel_rfl) fun gd hf => ?_) ?_
                · have hsd := hs.dr.call hf; have hfe := (G.le_dr _).trans hf.le
                  refine QA_eq rfl ?_; refine QA_eq rfl ?_
                  refine QA_nil ?_
                  refine D_yes rfl ?_
                  refine OpR_idx T.ok rfl (rs5.mono hfe) (y := ⟨some w⟩) hgw rfl rfl rfl rfl rfl rfl ?_
                  rintro b p ys hep ⟨a, n, c, rfl, _⟩
                  exact ⟨_, rfl, Fr0.refl _, b, p, a, n, c, rfl, hep⟩
                refine D_cons (D_step2 (js := [(2, 68)]) (by kernel_rfl) fun gd hf => ?_) ?_
                · have hsd := hs.dr.call hf; have hfe := (G.le_dr _).trans hf.le
                  refine QA_any fun v2 h2 => ?_
                  refine QA_nil ?_
                  obtain ⟨b, p, a, n, c, rfl, hep⟩ := h2
                  refine D_yes rfl ?_
                  refine OpR_pure _ T.ok rfl ?_
                  exact ⟨_, rfl, Fr0.refl _, b, p, a, n, c, rfl, hep⟩
                refine D_cons (D_step2 (js := [(3, 69)]) (by kernel_rfl) fun gd hf => ?_) ?_
                · have hsd := hs.dr.call hf; have hfe := (G.le_dr _).trans hf.le
                  refine QA_any fun v3 h3 => ?_
                  refine QA_nil ?_
                  obtain ⟨b, p, a, n, c, rfl, hep⟩ := h3
                  refine D_yes rfl ?_
                  refine OpR_loadE T.ok 0 rfl hep rfl rfl ?_
                  exact ⟨_, rfl, Fr0.refl _, rfl⟩
                refine D_cons (D_step2 (js := []) (by kernel_rfl) fun gd hf => ?_) ?_
                · have hsd := hs.dr.call hf; have hfe := (G.le_dr _).trans hf.le
                  refine QA_nil ?_
                  (refine D_yes rfl ?_; refine OpR_pure _ T.ok rfl ?_; refine ⟨_, rfl, Fr0.refl _, ?_⟩; exact rfl)
                refine D_cons (D_step2 (js := [(5, 71)]) (by kernel_rfl) fun gd hf => ?_) ?_
                · have hsd := hs.dr.call hf; have hfe := (G.le_dr _).trans hf.le
                  refine QA_eq rfl ?_
                  refine QA_nil ?_
                  (refine D_yes rfl ?_; refine OpR_loadE T.ok 2 rfl (ep0.mono hfe) rfl rfl ?_; refine ⟨_, rfl, Fr0.refl _, ?_⟩; exact rfl)
                refine D_cons (D_step2 (js := []) (by kernel_rfl) fun gd hf => ?_) ?_
                · have hsd := hs.dr.call hf; have hfe := (G.le_dr _).trans hf.le
                  refine QA_nil ?_
                  (refine D_yes rfl ?_; refine OpR_pure _ T.ok rfl ?_; refine ⟨_, rfl, Fr0.refl _, ?_⟩; exact rfl)
                refine D_cons (D_step2 (js := [(6, 72), (7, 73)]) (by kernel_rfl) fun gd hf => ?_) ?_
                · have hsd := hs.dr.call hf; have hfe := (G.le_dr _).trans hf.le
                  refine QA_eq rfl ?_; refine QA_eq rfl ?_
                  refine QA_nil ?_
                  refine D_yes rfl ?_
                  refine OpR_idx T.ok rfl (rs0.mono hfe) (y := stepD f k) (step_geti hkr) rfl rfl rfl rfl rfl rfl ?_
                  intro b p ys hep hrc
                  exact ⟨_, rfl, Fr0.refl _, b, p, ys, rfl, hep, hrc⟩
                refine D_cons (D_step2 (js := [(8, 74)]) (by kernel_rfl) fun gd hf => ?_) ?_
                · have hsd := hs.dr.call hf; have hfe := (G.le_dr _).trans hf.le
                  refine QA_any fun v8 h8 => ?_
                  refine QA_nil ?_
                  obtain ⟨b, p, ys, rfl, hep, hrc⟩ := h8
                  refine D_yes rfl ?_
                  refine OpR_pure _ T.ok rfl ?_
                  exact ⟨_, rfl, Fr0.refl _, b, p, ys, rfl, hep, hrc⟩
                refine D_cons (D_step2 (js := [(9, 75)]) (by kernel_rfl) fun gd hf => ?_) ?_
                · have hsd := hs.dr.call hf; have hfe := (G.le_dr _).trans hf.le
                  refine QA_any fun v9 h9 => ?_
                  refine QA_nil ?_
                  obtain ⟨b, p, ys, rfl, hep, hrc⟩ := h9
                  obtain ⟨b1, b2, b3, b4, b5, b6, rfl, hx1, hx2⟩ := hrc
                  refine D_yes rfl ?_
                  refine OpR_loadE T.ok 2 rfl hep rfl rfl ?_
                  refine ⟨_, rfl, Fr0.refl _, ?_⟩
                  exact rfl
                refine D_cons (D_step2 (js := [(4, 70), (10, 76)]) (by kernel_rfl) fun gd hf => ?_) ?_
                · have hsd := hs.dr.call hf; have hfe := (G.le_dr _).trans hf.le
                  refine QA_eq rfl ?_; refine QA_eq rfl ?_
                  refine QA_nil ?_
                  refine D_yes rfl ?_
                  refine OpR_pure _ T.ok rfl ?_
                  refine ⟨_, rfl, Fr0.refl _, ?_⟩
                  exact congrArg (Value.int .i64) (show _ = w.time + (stepD f k).min from wr (by omega) (by omega))
                exact D_nil
              intro g1 hf1; refine QA_eq rfl ?_; refine QA_nil ?_
              replace hs := hs.dr.call hf1; have hqe := (G.le_dr _).trans hf1.le; replace le8 := G.le.trans le8 hqe; replace ep0 := ep0.mono hqe; replace rs0 := rs0.mono hqe; replace rs5 := rs5.mono hqe
              refine P1 T.ok rfl rfl rfl ?_; refine WL_nil ?_; (with_reducible refine T_then ?_); refine W_region ?_; refine P1 T.ok rfl rfl rfl ?_; refine WL_nil ?_; (with_reducible refine T_bn ?_); (with_reducible refine T_then ?_); refine W_region ?_; (iterate 3 refine P1 T.ok rfl rfl rfl ?_); refine WL_nil ?_
              exact fun a ha => ⟨f.steps.length - (k + 1), by omega, k + 1, _, rfl, hs, le8, by omega, rfl, ha.keep ⟨rfl, rfl, by rw [hps]; rfl, by rw [hps]; rfl, kI rfl (by rw [wr (by omega) (by omega)]; omega), trivial⟩⟩
            | true =>
              by_cases hc : w.time + (stepD f k).min < bst
              · rw [if_pos (.inr hc)] at hps
                refine W_skip ?_; (with_reducible refine T_then ?_); refine W_seq ?_; refine W_block ?_; refine W_seq ?_
                apply W_draw allF rfl (Fact.eq _ :: Fact.eq _ :: (pwPtr 0 w.time) :: (pwPtr 2 w.time) :: Fact.eq _ :: Fact.eq _ :: Fact.eq _ :: Fact.eq _ :: Fact.eq _ :: (stepPtr 0 (stepD f k)) :: (stepPtr 4 (stepD f k)) :: (Fact.rs (stepD f k).next) :: Fact.eq _ :: Fact.eq _ :: Fact.eq _ :: Fact.eq _ :: Fact.eq _ :: Fact.eq _ :: Fact.eq _ :: Fact.eq _ :: Fact.eq _ :: (pwPtr 0 w.time) :: (pwPtr 0 w.time) :: Fact.eq _ :: Fact.eq _ :: Fact.eq _ :: Fact.eq _ :: (stepPtr 0 (stepD f k)) :: (stepPtr 2 (stepD f k)) :: Fact.eq _ :: Fact.eq _ :: Fact.eq _ :: Fact.eq _ :: Fact.eq _ :: Fact.eq _ :: []) 35 [(34, 65)] rfl rfl
                · refine D_cons (D_step2 (js := []) (by kernel_rfl) fun gd hf => ?_) ?_
                  · have hsd := hs.dr.call hf; have hfe := (G.le_dr _).trans hf.le
                    refine QA_nil ?_
                    (refine D_yes rfl ?_; refine OpR_pure _ T.ok rfl ?_; refine ⟨_, rfl, Fr0.refl _, ?_⟩; exact rfl)
                  refine D_cons (D_step2 (js := []) (by kernel_rfl) fun gd hf => ?_) ?_
                  · have hsd := hs.dr.call hf; have hfe := (G.le_dr _).trans hf.le
                    refine QA_nil ?_
                    (refine D_yes rfl ?_; refine OpR_pure _ T.ok rfl ?_; refine ⟨_, rfl, Fr0.refl _, ?_⟩; exact rfl)
                  refine D_cons (D_step2 (js := [(0, 31), (1, 32)]) (by kernel_rfl) fun gd hf => ?_) ?_
                  · have hsd := hs.dr.call hf; have hfe := (G.le_dr _).trans hf.le
                    refine QA_eq rfl ?_; refine QA_eq rfl ?_
                    refine QA_nil ?_
                    refine D_yes rfl ?_
                    refine OpR_idx T.ok rfl (rs5.mono hfe) (y := ⟨some w⟩) hgw rfl rfl rfl rfl rfl rfl ?_
                    rintro b p ys hep ⟨a, n, c, rfl, _⟩
                    exact ⟨_, rfl, Fr0.refl _, b, p, a, n, c, rfl, hep⟩
                  refine D_cons (D_step2 (js := [(2, 33)]) (by kernel_rfl) fun gd hf => ?_) ?_
                  · have hsd := hs.dr.call hf; have hfe := (G.le_dr _).trans hf.le
                    refine QA_any fun v2 h2 => ?_
                    refine QA_nil ?_
                    obtain ⟨b, p, a, n, c, rfl, hep⟩ := h2
                    refine D_yes rfl ?_
                    refine OpR_pure _ T.ok rfl ?_
                    exact ⟨_, rfl, Fr0.refl _, b, p, a, n, c, rfl, hep⟩
                  refine D_cons (D_step2 (js := [(3, 34)]) (by kernel_rfl) fun gd hf => ?_) ?_
                  · have hsd := hs.dr.call hf; have hfe := (G.le_dr _).trans hf.le
                    refine QA_any fun v3 h3 => ?_
                    refine QA_nil ?_
                    obtain ⟨b, p, a, n, c, rfl, hep⟩ := h3
                    refine D_yes rfl ?_
                    refine OpR_loadE T.ok 2 rfl hep rfl rfl ?_
                    exact ⟨_, rfl, Fr0.refl _, rfl⟩
                  refine D_cons (D_step2 (js := [(4, 35)]) (by kernel_rfl) fun gd hf => ?_) ?_
                  · have hsd := hs.dr.call hf; have hfe := (G.le_dr _).trans hf.le
                    refine QA_eq rfl ?_
                    refine QA_nil ?_
                    (refine D_yes rfl ?_; refine OpR_pure _ T.ok rfl ?_; refine ⟨_, rfl, Fr0.refl _, ?_⟩; exact rfl)
                  refine D_cons (D_step2 (js := [(5, 36)]) (by kernel_rfl) fun gd hf => ?_) ?_
                  · have hsd := hs.dr.call hf; have hfe := (G.le_dr _).trans hf.le
                    refine QA_eq rfl ?_
                    refine QA_nil ?_
                    (refine D_yes rfl ?_; refine OpR_pure _ T.ok rfl ?_; refine ⟨_, rfl, Fr0.refl _, ?_⟩; exact rfl)
                  refine D_cons (D_step2 (js := [(6, 37), (5, 36)]) (by kernel_rfl) fun gd hf => ?_) ?_
                  · have hsd := hs.dr.call hf; have hfe := (G.le_dr _).trans hf.le
                    refine QA_eq rfl ?_; refine QA_eq rfl ?_
                    refine QA_nil ?_
                    (refine D_yes rfl ?_; refine OpR_loadE T.ok 2 rfl (ep0.mono hfe) rfl rfl ?_; refine ⟨_, rfl, Fr0.refl _, ?_⟩; exact rfl)
                  refine D_cons (D_step2 (js := [(5, 36)]) (by kernel_rfl) fun gd hf => ?_) ?_
                  · have hsd := hs.dr.call hf; have hfe := (G.le_dr _).trans hf.le
                    refine QA_eq rfl ?_
                    refine QA_nil ?_
                    (refine D_yes rfl ?_; refine OpR_pure _ T.ok rfl ?_; refine ⟨_, rfl, Fr0.refl _, ?_⟩; exact rfl)
                  refine D_cons (D_step2 (js := [(7, 38), (8, 39), (5, 36)]) (by kernel_rfl) fun gd hf => ?_) ?_
                  · have hsd := hs.dr.call hf; have hfe := (G.le_dr _).trans hf.le
                    refine QA_eq rfl ?_; refine QA_eq rfl ?_; refine QA_eq rfl ?_
                    refine QA_nil ?_
                    refine D_yes rfl ?_
                    refine OpR_idx T.ok rfl (rs0.mono hfe) (y := stepD f k) (step_geti hkr) rfl rfl rfl rfl rfl rfl ?_
                    intro b p ys hep hrc
                    exact ⟨_, rfl, Fr0.refl _, b, p, ys, rfl, hep, hrc⟩
                  refine D_cons (D_step2 (js := [(9, 40), (5, 36)]) (by kernel_rfl) fun gd hf => ?_) ?_
                  · have hsd := hs.dr.call hf; have hfe := (G.le_dr _).trans hf.le
                    refine QA_any fun v9 h9 => ?_; refine QA_eq rfl ?_
                    refine QA_nil ?_
                    obtain ⟨b, p, ys, rfl, hep, hrc⟩ := h9
                    refine D_yes rfl ?_
                    refine OpR_pure _ T.ok rfl ?_
                    exact ⟨_, rfl, Fr0.refl _, b, p, ys, rfl, hep, hrc⟩
                  refine D_cons (D_step2 (js := [(10, 41), (5, 36)]) (by kernel_rfl) fun gd hf => ?_) ?_
                  · have hsd := hs.dr.call hf; have hfe := (G.le_dr _).trans hf.le
                    refine QA_any fun v10 h10 => ?_; refine QA_eq rfl ?_
                    refine QA_nil ?_
                    obtain ⟨b, p, ys, rfl, hep, hrc⟩ := h10
                    obtain ⟨b1, b2, b3, b4, b5, b6, rfl, hx1, hx2⟩ := hrc
                    refine D_yes rfl ?_
                    refine OpR_loadE T.ok 4 rfl hep rfl rfl ?_
                    exact ⟨_, rfl, Fr0.refl _, hx2⟩
                  refine D_cons (D_step2 (js := [(11, 42), (5, 36)]) (by kernel_rfl) fun gd hf => ?_) ?_
                  · have hsd := hs.dr.call hf; have hfe := (G.le_dr _).trans hf.le
                    refine QA_any fun v11 h11 => ?_; refine QA_eq rfl ?_
                    refine QA_nil ?_
                    obtain ⟨a5, c5, rfl⟩ := Rs.isSlice h11
                    refine D_yes rfl ?_
                    refine OpR_pure _ T.ok rfl ?_
                    refine ⟨_, rfl, Fr0.refl _, ?_⟩
                    exact rfl
                  refine D_cons (D_step2 (js := [(12, 43), (5, 36)]) (by kernel_rfl) fun gd hf => ?_) ?_
                  · have hsd := hs.dr.call hf; have hfe := (G.le_dr _).trans hf.le
                    refine QA_eq rfl ?_; refine QA_eq rfl ?_
                    refine QA_nil ?_
                    refine D_yes rfl ?_
                    refine OpR_pure _ T.ok rfl ?_
                    refine ⟨_, rfl, Fr0.refl _, ?_⟩
                    exact congrArg Value.bool he
                  refine D_cons (D_step2 (js := [(5, 36), (13, 44)]) (by kernel_rfl) fun gd hf => ?_) ?_
                  · have hsd := hs.dr.call hf; have hfe := (G.le_dr _).trans hf.le
                    refine QA_eq rfl ?_; refine QA_eq rfl ?_
                    refine QA_nil ?_
                    (refine D_yes rfl ?_; refine OpR_pure _ T.ok rfl ?_; refine ⟨_, rfl, Fr0.refl _, ?_⟩; exact rfl)
                  refine D_cons (D_step2 (js := [(14, 45)]) (by kernel_rfl) fun gd hf => ?_) ?_
                  · have hsd := hs.dr.call hf; have hfe := (G.le_dr _).trans hf.le
                    refine QA_eq rfl ?_
                    refine QA_nil ?_
                    (refine D_yes rfl ?_; refine OpR_pure _ T.ok rfl ?_; refine ⟨_, rfl, Fr0.refl _, ?_⟩; exact rfl)
                  refine D_cons (D_step2 (js := [(15, 46)]) (by kernel_rfl) fun gd hf => ?_) ?_
                  · have hsd := hs.dr.call hf; have hfe := (G.le_dr _).trans hf.le
                    refine QA_eq rfl ?_
                    refine QA_nil ?_
                    (refine D_yes rfl ?_; refine OpR_pure _ T.ok rfl ?_; refine ⟨_, rfl, Fr0.refl _, ?_⟩; exact rfl)
                  refine D_cons (D_step2 (js := [(16, 47), (15, 46)]) (by kernel_rfl) fun gd hf => ?_) ?_
                  · have hsd := hs.dr.call hf; have hfe := (G.le_dr _).trans hf.le
                    refine QA_eq rfl ?_; refine QA_eq rfl ?_
                    refine QA_nil ?_
                    (refine D_yes rfl ?_; refine OpR_pure _ T.ok rfl ?_; refine ⟨_, rfl, Fr0.refl _, ?_⟩; exact rfl)
                  refine D_cons (D_step2 (js := [(17, 48), (15, 46), (15, 46)]) (by kernel_rfl) fun gd hf => ?_) ?_
                  · have hsd := hs.dr.call hf; have hfe := (G.le_dr _).trans hf.le
                    refine QA_eq rfl ?_; refine QA_eq rfl ?_; refine QA_eq rfl ?_
                    refine QA_nil ?_
                    (refine D_yes rfl ?_; refine OpR_pure _ T.ok rfl ?_; refine ⟨_, rfl, Fr0.refl _, ?_⟩; exact rfl)
                  refine D_cons (D_step2 (js := [(18, 49)]) (by kernel_rfl) fun gd hf => ?_) ?_
                  · have hsd := hs.dr.call hf; have hfe := (G.le_dr _).trans hf.le
                    refine QA_eq rfl ?_
                    refine QA_nil ?_
                    (refine D_yes rfl ?_; refine OpR_pure _ T.ok rfl ?_; refine ⟨_, rfl, Fr0.refl _, ?_⟩; exact rfl)
                  refine D_cons (D_step2 (js := [(18, 49)]) (by kernel_rfl) fun gd hf => ?_) ?_
                  · have hsd := hs.dr.call hf; have hfe := (G.le_dr _).trans hf.le
                    refine QA_eq rfl ?_
                    refine QA_nil ?_
                    (refine D_yes rfl ?_; refine OpR_pure _ T.ok rfl ?_; refine ⟨_, rfl, Fr0.refl _, ?_⟩; exact rfl)
                  refine D_cons (D_step2 (js := [(19, 50), (20, 51), (18, 49)]) (by kernel_rfl) fun gd hf => ?_) ?_
                  · have hsd := hs.dr.call hf; have hfe := (G.le_dr _).trans hf.le
                    refine QA_eq rfl ?_; refine QA_eq rfl ?_; refine QA_eq rfl ?_
                    refine QA_nil ?_
                    refine D_yes rfl ?_
                    refine OpR_idx T.ok rfl (rs5.mono hfe) (y := ⟨some w⟩) hgw rfl rfl rfl rfl rfl rfl ?_
                    rintro b p ys hep ⟨a, n, c, rfl, _⟩
                    exact ⟨_, rfl, Fr0.refl _, b, p, a, n, c, rfl, hep⟩
                  refine D_cons (D_step2 (js := [(21, 52), (18, 49)]) (by kernel_rfl) fun gd hf => ?_) ?_
                  · have hsd := hs.dr.call hf; have hfe := (G.le_dr _).trans hf.le
                    refine QA_any fun v21 h21 => ?_; refine QA_eq rfl ?_
                    refine QA_nil ?_
                    obtain ⟨b, p, a, n, c, rfl, hep⟩ := h21
                    refine D_yes rfl ?_
                    refine OpR_pure _ T.ok rfl ?_
                    exact ⟨_, rfl, Fr0.refl _, b, p, a, n, c, rfl, hep⟩
                  refine D_cons (D_step2 (js := [(22, 53), (18, 49)]) (by kernel_rfl) fun gd hf => ?_) ?_
                  · have hsd := hs.dr.call hf; have hfe := (G.le_dr _).trans hf.le
                    refine QA_any fun v22 h22 => ?_; refine QA_eq rfl ?_
                    refine QA_nil ?_
                    obtain ⟨b, p, a, n, c, rfl, hep⟩ := h22
                    refine D_yes rfl ?_
                    refine OpR_loadE T.ok 0 rfl hep rfl rfl ?_
                    exact ⟨_, rfl, Fr0.refl _, rfl⟩
                  refine D_cons (D_step2 (js := [(18, 49)]) (by kernel_rfl) fun gd hf => ?_) ?_
                  · have hsd := hs.dr.call hf; have hfe := (G.le_dr _).trans hf.le
                    refine QA_eq rfl ?_
                    refine QA_nil ?_
                    (refine D_yes rfl ?_; refine OpR_pure _ T.ok rfl ?_; refine ⟨_, rfl, Fr0.refl _, ?_⟩; exact rfl)
                  refine D_cons (D_step2 (js := [(24, 55), (18, 49)]) (by kernel_rfl) fun gd hf => ?_) ?_
                  · have hsd := hs.dr.call hf; have hfe := (G.le_dr _).trans hf.le
                    refine QA_eq rfl ?_; refine QA_eq rfl ?_
                    refine QA_nil ?_
                    (refine D_yes rfl ?_; refine OpR_loadE T.ok 2 rfl (ep0.mono hfe) rfl rfl ?_; refine ⟨_, rfl, Fr0.refl _, ?_⟩; exact rfl)
                  refine D_cons (D_step2 (js := [(18, 49)]) (by kernel_rfl) fun gd hf => ?_) ?_
                  · have hsd := hs.dr.call hf; have hfe := (G.le_dr _).trans hf.le
                    refine QA_eq rfl ?_
                    refine QA_nil ?_
                    (refine D_yes rfl ?_; refine OpR_pure _ T.ok rfl ?_; refine ⟨_, rfl, Fr0.refl _, ?_⟩; exact rfl)
                  refine D_cons (D_step2 (js := [(25, 56), (26, 57), (18, 49)]) (by kernel_rfl) fun gd hf => ?_) ?_
                  · have hsd := hs.dr.call hf; have hfe := (G.le_dr _).trans hf.le
                    refine QA_eq rfl ?_; refine QA_eq rfl ?_; refine QA_eq rfl ?_
                    refine QA_nil ?_
                    refine D_yes rfl ?_
                    refine OpR_idx T.ok rfl (rs0.mono hfe) (y := stepD f k) (step_geti hkr) rfl rfl rfl rfl rfl rfl ?_
                    intro b p ys hep hrc
                    exact ⟨_, rfl, Fr0.refl _, b, p, ys, rfl, hep, hrc⟩
                  refine D_cons (D_step2 (js := [(27, 58), (18, 49)]) (by kernel_rfl) fun gd hf => ?_) ?_
                  · have hsd := hs.dr.call hf; have hfe := (G.le_dr _).trans hf.le
                    refine QA_any fun v27 h27 => ?_; refine QA_eq rfl ?_
                    refine QA_nil ?_
                    obtain ⟨b, p, ys, rfl, hep, hrc⟩ := h27
                    refine D_yes rfl ?_
                    refine OpR_pure _ T.ok rfl ?_
                    exact ⟨_, rfl, Fr0.refl _, b, p, ys, rfl, hep, hrc⟩
                  refine D_cons (D_step2 (js := [(28, 59), (18, 49)]) (by kernel_rfl) fun gd hf => ?_) ?_
                  · have hsd := hs.dr.call hf; have hfe := (G.le_dr _).trans hf.le
                    refine QA_any fun v28 h28 => ?_; refine QA_eq rfl ?_
                    refine QA_nil ?_
                    obtain ⟨b, p, ys, rfl, hep, hrc⟩ := h28
                    obtain ⟨b1, b2, b3, b4, b5, b6, rfl, hx1, hx2⟩ := hrc
                    refine D_yes rfl ?_
                    refine OpR_loadE T.ok 2 rfl hep rfl rfl ?_
                    refine ⟨_, rfl, Fr0.refl _, ?_⟩
                    exact rfl
                  refine D_cons (D_step2 (js := [(23, 54), (29, 60), (18, 49)]) (by kernel_rfl) fun gd hf => ?_) ?_
                  · have hsd := hs.dr.call hf; have hfe := (G.le_dr _).trans hf.le
                    refine QA_eq rfl ?_; refine QA_eq rfl ?_; refine QA_eq rfl ?_
                    refine QA_nil ?_
                    refine D_yes rfl ?_
                    refine OpR_pure _ T.ok rfl ?_
                    refine ⟨_, rfl, Fr0.refl _, ?_⟩
                    exact congrArg (Value.int .i64) (show _ = w.time + (stepD f k).min from wr (by omega) (by omega))
                  refine D_cons (D_step2 (js := [(18, 49)]) (by kernel_rfl) fun gd hf => ?_) ?_
                  · have hsd := hs.dr.call hf; have hfe := (G.le_dr _).trans hf.le
                    refine QA_eq rfl ?_
                    refine QA_nil ?_
                    (refine D_yes rfl ?_; refine OpR_pure _ T.ok rfl ?_; refine ⟨_, rfl, Fr0.refl _, ?_⟩; exact rfl)
                  refine D_cons (D_step2 (js := [(30, 61), (31, 62), (18, 49)]) (by kernel_rfl) fun gd hf => ?_) ?_
                  · have hsd := hs.dr.call hf; have hfe := (G.le_dr _).trans hf.le
                    refine QA_eq rfl ?_; refine QA_eq rfl ?_; refine QA_eq rfl ?_
                    refine QA_nil ?_
                    refine D_yes rfl ?_
                    refine OpR_pure _ T.ok rfl ?_
                    refine ⟨_, rfl, Fr0.refl _, ?_⟩
                    exact congrArg Value.bool (decide_eq_true hc)
                  refine D_cons (D_step2 (js := [(18, 49), (32, 63), (15, 46)]) (by kernel_rfl) fun gd hf => ?_) ?_
                  · have hsd := hs.dr.call hf; have hfe := (G.le_dr _).trans hf.le
                    refine QA_eq rfl ?_; refine QA_eq rfl ?_; refine QA_eq rfl ?_
                    refine QA_nil ?_
                    (refine D_yes rfl ?_; refine OpR_pure _ T.ok rfl ?_; refine ⟨_, rfl, Fr0.refl _, ?_⟩; exact rfl)
                  refine D_cons (D_step2 (js := [(15, 46), (33, 64)]) (by kernel_rfl) fun gd hf => ?_) ?_
                  · have hsd := hs.dr.call hf; have hfe := (G.le_dr _).trans hf.le
                    refine QA_eq rfl ?_; refine QA_eq rfl ?_
                    refine QA_nil ?_
                    (refine D_yes rfl ?_; refine OpR_pure _ T.ok rfl ?_; refine ⟨_, rfl, Fr0.refl _, ?_⟩; exact rfl)
                  exact D_nil
                intro g1 hf1; refine QA_eq rfl ?_; refine QA_nil ?_
                replace hs := hs.dr.call hf1; have hqe := (G.le_dr _).trans hf1.le; replace le8 := G.le.trans le8 hqe; replace ep0 := ep0.mono hqe; replace rs0 := rs0.mono hqe; replace rs5 := rs5.mono hqe
                refine WL_nil ?_; (with_reducible refine T_then ?_)
                refine W_yes rfl rfl ?_
                refine W_seq ?_
                apply W_draw allF rfl (Fact.eq _ :: Fact.eq _ :: (pwPtr 0 w.time) :: (pwPtr 0 w.time) :: Fact.eq _ :: Fact.eq _ :: Fact.eq _ :: Fact.eq _ :: (stepPtr 0 (stepD f k)) :: (stepPtr 2 (stepD f k)) :: Fact.eq _ :: Fact.eq _ :: []) 12 [(11, 77)] rfl rfl
                · refine D_cons (D_step2 (js := []) (by kernel_rfl) fun gd hf => ?_) ?_
                  · have hsd := hs.dr.call hf; have hfe := (G.le_dr _).trans hf.le
                    refine QA_nil ?_
                    (refine D_yes rfl ?_; refine OpR_pure _ T.ok rfl ?_; refine ⟨_, rfl, Fr0.refl _, ?_⟩; exact rfl)
                  refine D_cons (D_step2 (js := []) (by kernel_rfl) fun gd hf => ?_) ?_
                  · have hsd := hs.dr.call hf; have hfe := (G.le_dr _).trans hf.le
                    refine QA_nil ?_
                    (refine D_yes rfl ?_; refine OpR_pure _ T.ok rfl ?_; refine ⟨_, rfl, Fr0.refl _, ?_⟩; exact rfl)
                  refine D_cons (D_step2 (js := [(0, 66), (1, 67)]) (by kernel_rfl) fun gd hf => ?_) ?_
                  · have hsd := hs.dr.call hf; have hfe := (G.le_dr _).trans hf.le
                    refine QA_eq rfl ?_; refine QA_eq rfl ?_
                    refine QA_nil ?_
                    refine D_yes rfl ?_
                    refine OpR_idx T.ok rfl (rs5.mono hfe) (y := ⟨some w⟩) hgw rfl rfl rfl rfl rfl rfl ?_
                    rintro b p ys hep ⟨a, n, c, rfl, _⟩
                    exact ⟨_, rfl, Fr0.refl _, b, p, a, n, c, rfl, hep⟩
                  refine D_cons (D_step2 (js := [(2, 68)]) (by kernel_rfl) fun gd hf => ?_) ?_
                  · have hsd := hs.dr.call hf; have hfe := (G.le_dr _).trans hf.le
                    refine QA_any fun v2 h2 => ?_
                    refine QA_nil ?_
                    obtain ⟨b, p, a, n, c, rfl, hep⟩ := h2
                    refine D_yes rfl ?_
                    refine OpR_pure _ T.ok rfl ?_
                    exact ⟨_, rfl, Fr0.refl _, b, p, a, n, c, rfl, hep⟩
                  refine D_cons (D_step2 (js := [(3, 69)]) (by kernel_rfl) fun gd hf => ?_) ?_
                  · have hsd := hs.dr.call hf; have hfe := (G.le_dr _).trans hf.le
                    refine QA_any fun v3 h3 => ?_
                    refine QA_nil ?_
                    obtain ⟨b, p, a, n, c, rfl, hep⟩ := h3
                    refine D_yes rfl ?_
                    refine OpR_loadE T.ok 0 rfl hep rfl rfl ?_
                    exact ⟨_, rfl, Fr0.refl _, rfl⟩
                  refine D_cons (D_step2 (js := []) (by kernel_rfl) fun gd hf => ?_) ?_
                  · have hsd := hs.dr.call hf; have hfe := (G.le_dr _).trans hf.le
                    refine QA_nil ?_
                    (refine D_yes rfl ?_; refine OpR_pure _ T.ok rfl ?_; refine ⟨_, rfl, Fr0.refl _, ?_⟩; exact rfl)
                  refine D_cons (D_step2 (js := [(5, 71)]) (by kernel_rfl) fun gd hf => ?_) ?_
                  · have hsd := hs.dr.call hf; have hfe := (G.le_dr _).trans hf.le
                    refine QA_eq rfl ?_
                    refine QA_nil ?_
                    (refine D_yes rfl ?_; refine OpR_loadE T.ok 2 rfl (ep0.mono hfe) rfl rfl ?_; refine ⟨_, rfl, Fr0.refl _, ?_⟩; exact rfl)
                  refine D_cons (D_step2 (js := []) (by kernel_rfl) fun gd hf => ?_) ?_
                  · have hsd := hs.dr.call hf; have hfe := (G.le_dr _).trans hf.le
                    refine QA_nil ?_
                    (refine D_yes rfl ?_; refine OpR_pure _ T.ok rfl ?_; refine ⟨_, rfl, Fr0.refl _, ?_⟩; exact rfl)
                  refine D_cons (D_step2 (js := [(6, 72), (7, 73)]) (by kernel_rfl) fun gd hf => ?_) ?_
                  · have hsd := hs.dr.call hf; have hfe := (G.le_dr _).trans hf.le
                    refine QA_eq rfl ?_; refine QA_eq rfl ?_
                    refine QA_nil ?_
                    refine D_yes rfl ?_
                    refine OpR_idx T.ok rfl (rs0.mono hfe) (y := stepD f k) (step_geti hkr) rfl rfl rfl rfl rfl rfl ?_
                    intro b p ys hep hrc
                    exact ⟨_, rfl, Fr0.refl _, b, p, ys, rfl, hep, hrc⟩
                  refine D_cons (D_step2 (js := [(8, 74)]) (by kernel_rfl) fun gd hf => ?_) ?_
                  · have hsd := hs.dr.call hf; have hfe := (G.le_dr _).trans hf.le
                    refine QA_any fun v8 h8 => ?_
                    refine QA_nil ?_
                    obtain ⟨b, p, ys, rfl, hep, hrc⟩ := h8
                    refine D_yes rfl ?_
                    refine OpR_pure _ T.ok rfl ?_
                    exact ⟨_, rfl, Fr0.refl _, b, p, ys, rfl, hep, hrc⟩
                  refine D_cons (D_step2 (js := [(9, 75)]) (by kernel_rfl) fun gd hf => ?_) ?_
                  · have hsd := hs.dr.call hf; have hfe := (G.le_dr _).trans hf.le
                    refine QA_any fun v9 h9 => ?_
                    refine QA_nil ?_
                    obtain ⟨b, p, ys, rfl, hep, hrc⟩ := h9
                    obtain ⟨b1, b2, b3, b4, b5, b6, rfl, hx1, hx2⟩ := hrc
                    refine D_yes rfl ?_
                    refine OpR_loadE T.ok 2 rfl hep rfl rfl ?_
                    refine ⟨_, rfl, Fr0.refl _, ?_⟩
                    exact rfl
                  refine D_cons (D_step2 (js := [(4, 70), (10, 76)]) (by kernel_rfl) fun gd hf => ?_) ?_
                  · have hsd := hs.dr.call hf; have hfe := (G.le_dr _).trans hf.le
                    refine QA_eq rfl ?_; refine QA_eq rfl ?_
                    refine QA_nil ?_
                    refine D_yes rfl ?_
                    refine OpR_pure _ T.ok rfl ?_
                    refine ⟨_, rfl, Fr0.refl _, ?_⟩
                    exact congrArg (Value.int .i64) (show _ = w.time + (stepD f k).min from wr (by omega) (by omega))
                  exact D_nil
                intro g1 hf1; refine QA_eq rfl ?_; refine QA_nil ?_
                replace hs := hs.dr.call hf1; have hqe := (G.le_dr _).trans hf1.le; replace le8 := G.le.trans le8 hqe; replace ep0 := ep0.mono hqe; replace rs0 := rs0.mono hqe; replace rs5 := rs5.mono hqe
                refine P1 T.ok rfl rfl rfl ?_; refine WL_nil ?_; (with_reducible refine T_then ?_); refine W_region ?_; refine P1 T.ok rfl rfl rfl ?_; refine WL_nil ?_; (with_reducible refine T_bn ?_); (with_reducible refine T_then ?_); refine W_region ?_; (iterate 3 refine P1 T.ok rfl rfl rfl ?_); refine WL_nil ?_
                exact fun a ha => ⟨f.steps.length - (k + 1), by omega, k + 1, _, rfl, hs, le8, by omega, rfl, ha.keep ⟨rfl, rfl, by rw [hps]; rfl, by rw [hps]; rfl, kI rfl (by rw [wr (by omega) (by omega)]; omega), trivial⟩⟩
              · rw [if_neg (fun h => h.elim (fun h => by cases h) hc)] at hps
                refine W_skip ?_; (with_reducible refine T_then ?_); refine W_seq ?_; refine W_block ?_; refine W_seq ?_
                apply W_draw allF rfl (Fact.eq _ :: Fact.eq _ :: (pwPtr 0 w.time) :: (pwPtr 2 w.time) :: Fact.eq _ :: Fact.eq _ :: Fact.eq _ :: Fact.eq _ :: Fact.eq _ :: (stepPtr 0 (stepD f k)) :: (stepPtr 4 (stepD f k)) :: (Fact.rs (stepD f k).next) :: Fact.eq _ :: Fact.eq _ :: Fact.eq _ :: Fact.eq _ :: Fact.eq _ :: Fact.eq _ :: Fact.eq _ :: Fact.eq _ :: Fact.eq _ :: (pwPtr 0 w.time) :: (pwPtr 0 w.time) :: Fact.eq _ :: Fact.eq _ :: Fact.eq _ :: Fact.eq _ :: (stepPtr 0 (stepD f k)) :: (stepPtr 2 (stepD f k)) :: Fact.eq _ :: Fact.eq _ :: Fact.eq _ :: Fact.eq _ :: Fact.eq _ :: Fact.eq _ :: []) 35 [(34, 65)] rfl rfl
                · refine D_cons (D_step2 (js := []) (by kernel_rfl) fun gd hf => ?_) ?_
                  · have hsd := hs.dr.call hf; have hfe := (G.le_dr _).trans hf.le
                    refine QA_nil ?_
                    (refine D_yes rfl ?_; refine OpR_pure _ T.ok rfl ?_; refine ⟨_, rfl, Fr0.refl _, ?_⟩; exact rfl)
                  refine D_cons (D_step2 (js := []) (by kernel_rfl) fun gd hf => ?_) ?_
                  · have hsd := hs.dr.call hf; have hfe := (G.le_dr _).trans hf.le
                    refine QA_nil ?_
                    (refine D_yes rfl ?_; refine OpR_pure _ T.ok rfl ?_; refine ⟨_, rfl, Fr0.refl _, ?_⟩; exact rfl)
                  refine D_cons (D_step2 (js := [(0, 31), (1, 32)]) (by kernel_rfl) fun gd hf => ?_) ?_
                  · have hsd := hs.dr.call hf; have hfe := (G.le_dr _).trans hf.le
                    refine QA_eq rfl ?_; refine QA_eq rfl ?_
                    refine QA_nil ?_
                    refine D_yes rfl ?_
                    refine OpR_idx T.ok rfl (rs5.mono hfe) (y := ⟨some w⟩) hgw rfl rfl rfl rfl rfl rfl ?_
                    rintro b p ys hep ⟨a, n, c, rfl, _⟩
                    exact ⟨_, rfl, Fr0.refl _, b, p, a, n, c, rfl, hep⟩
                  refine D_cons (D_step2 (js := [(2, 33)]) (by kernel_rfl) fun gd hf => ?_) ?_
                  · have hsd := hs.dr.call hf; have hfe := (G.le_dr _).trans hf.le
                    refine QA_any fun v2 h2 => ?_
                    refine QA_nil ?_
                    obtain ⟨b, p, a, n, c, rfl, hep⟩ := h2
                    refine D_yes rfl ?_
                    refine OpR_pure _ T.ok rfl ?_
                    exact ⟨_, rfl, Fr0.refl _, b, p, a, n, c, rfl, hep⟩
                  refine D_cons (D_step2 (js := [(3, 34)]) (by kernel_rfl) fun gd hf => ?_) ?_
                  · have hsd := hs.dr.call hf; have hfe := (G.le_dr _).trans hf.le
                    refine QA_any fun v3 h3 => ?_
                    refine QA_nil ?_
                    obtain ⟨b, p, a, n, c, rfl, hep⟩ := h3
                    refine D_yes rfl ?_
                    refine OpR_loadE T.ok 2 rfl hep rfl rfl ?_
                    exact ⟨_, rfl, Fr0.refl _, rfl⟩
                  refine D_cons (D_step2 (js := [(4, 35)]) (by kernel_rfl) fun gd hf => ?_) ?_
                  · have hsd := hs.dr.call hf; have hfe := (G.le_dr _).trans hf.le
                    refine QA_eq rfl ?_
                    refine QA_nil ?_
                    (refine D_yes rfl ?_; refine OpR_pure _ T.ok rfl ?_; refine ⟨_, rfl, Fr0.refl _, ?_⟩; exact rfl)
                  refine D_cons (D_step2 (js := [(5, 36)]) (by kernel_rfl) fun gd hf => ?_) ?_
                  · have hsd := hs.dr.call hf; have hfe := (G.le_dr _).trans hf.le
                    refine QA_eq rfl ?_
                    refine QA_nil ?_
                    (refine D_yes rfl ?_; refine OpR_pure _ T.ok rfl ?_; refine ⟨_, rfl, Fr0.refl _, ?_⟩; exact rfl)
                  refine D_cons (D_step2 (js := [(6, 37), (5, 36)]) (by kernel_rfl) fun gd hf => ?_) ?_
                  · have hsd := hs.dr.call hf; have hfe := (G.le_dr _).trans hf.le
                    refine QA_eq rfl ?_; refine QA_eq rfl ?_
                    refine QA_nil ?_
                    (refine D_yes rfl ?_; refine OpR_loadE T.ok 2 rfl (ep0.mono hfe) rfl rfl ?_; refine ⟨_, rfl, Fr0.refl _, ?_⟩; exact rfl)
                  refine D_cons (D_step2 (js := [(5, 36)]) (by kernel_rfl) fun gd hf => ?_) ?_
                  · have hsd := hs.dr.call hf; have hfe := (G.le_dr _).trans hf.le
                    refine QA_eq rfl ?_
                    refine QA_nil ?_
                    (refine D_yes rfl ?_; refine OpR_pure _ T.ok rfl ?_; refine ⟨_, rfl, Fr0.refl _, ?_⟩; exact rfl)
                  refine D_cons (D_step2 (js := [(7, 38), (8, 39), (5, 36)]) (by kernel_rfl) fun gd hf => ?_) ?_
                  · have hsd := hs.dr.call hf; have hfe := (G.le_dr _).trans hf.le
                    refine QA_eq rfl ?_; refine QA_eq rfl ?_; refine QA_eq rfl ?_
                    refine QA_nil ?_
                    refine D_yes rfl ?_
                    refine OpR_idx T.ok rfl (rs0.mono hfe) (y := stepD f k) (step_geti hkr) rfl rfl rfl rfl rfl rfl ?_
                    intro b p ys hep hrc
                    exact ⟨_, rfl, Fr0.refl _, b, p, ys, rfl, hep, hrc⟩
                  refine D_cons (D_step2 (js := [(9, 40), (5, 36)]) (by kernel_rfl) fun gd hf => ?_) ?_
                  · have hsd := hs.dr.call hf; have hfe := (G.le_dr _).trans hf.le
                    refine QA_any fun v9 h9 => ?_; refine QA_eq rfl ?_
                    refine QA_nil ?_
                    obtain ⟨b, p, ys, rfl, hep, hrc⟩ := h9
                    refine D_yes rfl ?_
                    refine OpR_pure _ T.ok rfl ?_
                    exact ⟨_, rfl, Fr0.refl _, b, p, ys, rfl, hep, hrc⟩
                  refine D_cons (D_step2 (js := [(10, 41), (5, 36)]) (by kernel_rfl) fun gd hf => ?_) ?_
                  · have hsd := hs.dr.call hf; have hfe := (G.le_dr _).trans hf.le
                    refine QA_any fun v10 h10 => ?_; refine QA_eq rfl ?_
                    refine QA_nil ?_
                    obtain ⟨b, p, ys, rfl, hep, hrc⟩ := h10
                    obtain ⟨b1, b2, b3, b4, b5, b6, rfl, hx1, hx2⟩ := hrc
                    refine D_yes rfl ?_
                    refine OpR_loadE T.ok 4 rfl hep rfl rfl ?_
                    exact ⟨_, rfl, Fr0.refl _, hx2⟩
                  refine D_cons (D_step2 (js := [(11, 42), (5, 36)]) (by kernel_rfl) fun gd hf => ?_) ?_
                  · have hsd := hs.dr.call hf; have hfe := (G.le_dr _).trans hf.le
                    refine QA_any fun v11 h11 => ?_; refine QA_eq rfl ?_
                    refine QA_nil ?_
                    obtain ⟨a5, c5, rfl⟩ := Rs.isSlice h11
                    refine D_yes rfl ?_
                    refine OpR_pure _ T.ok rfl ?_
                    refine ⟨_, rfl, Fr0.refl _, ?_⟩
                    exact rfl
                  refine D_cons (D_step2 (js := [(12, 43), (5, 36)]) (by kernel_rfl) fun gd hf => ?_) ?_
                  · have hsd := hs.dr.call hf; have hfe := (G.le_dr _).trans hf.le
                    refine QA_eq rfl ?_; refine QA_eq rfl ?_
                    refine QA_nil ?_
                    refine D_yes rfl ?_
                    refine OpR_pure _ T.ok rfl ?_
                    refine ⟨_, rfl, Fr0.refl _, ?_⟩
                    exact congrArg Value.bool he
                  refine D_cons (D_step2 (js := [(5, 36), (13, 44)]) (by kernel_rfl) fun gd hf => ?_) ?_
                  · have hsd := hs.dr.call hf; have hfe := (G.le_dr _).trans hf.le
                    refine QA_eq rfl ?_; refine QA_eq rfl ?_
                    refine QA_nil ?_
                    (refine D_yes rfl ?_; refine OpR_pure _ T.ok rfl ?_; refine ⟨_, rfl, Fr0.refl _, ?_⟩; exact rfl)
                  refine D_cons (D_step2 (js := [(14, 45)]) (by kernel_rfl) fun gd hf => ?_) ?_
                  · have hsd := hs.dr.call hf; have hfe := (G.le_dr _).trans hf.le
                    refine QA_eq rfl ?_
                    refine QA_nil ?_
                    (refine D_yes rfl ?_; refine OpR_pure _ T.ok rfl ?_; refine ⟨_, rfl, Fr0.refl _, ?_⟩; exact rfl)
                  refine D_cons (D_step2 (js := [(15, 46)]) (by kernel_rfl) fun gd hf => ?_) ?_
                  · have hsd := hs.dr.call hf; have hfe := (G.le_dr _).trans hf.le
                    refine QA_eq rfl ?_
                    refine QA_nil ?_
                    (refine D_yes rfl ?_; refine OpR_pure _ T.ok rfl ?_; refine ⟨_, rfl, Fr0.refl _, ?_⟩; exact rfl)
                  refine D_cons (D_step2 (js := [(16, 47), (15, 46)]) (by kernel_rfl) fun gd hf => ?_) ?_
                  · have hsd := hs.dr.call hf; have hfe := (G.le_dr _).trans hf.le
                    refine QA_eq rfl ?_; refine QA_eq rfl ?_
                    refine QA_nil ?_
                    (refine D_yes rfl ?_; refine OpR_pure _ T.ok rfl ?_; refine ⟨_, rfl, Fr0.refl _, ?_⟩; exact rfl)
                  refine D_cons (D_step2 (js := [(17, 48), (15, 46), (15, 46)]) (by kernel_rfl) fun gd hf => ?_) ?_
                  · have hsd := hs.dr.call hf; have hfe := (G.le_dr _).trans hf.le
                    refine QA_eq rfl ?_; refine QA_eq rfl ?_; refine QA_eq rfl ?_
                    refine QA_nil ?_
                    (refine D_yes rfl ?_; refine OpR_pure _ T.ok rfl ?_; refine ⟨_, rfl, Fr0.refl _, ?_⟩; exact rfl)
                  refine D_cons (D_step2 (js := [(18, 49)]) (by kernel_rfl) fun gd hf => ?_) ?_
                  · have hsd := hs.dr.call hf; have hfe := (G.le_dr _).trans hf.le
                    refine QA_eq rfl ?_
                    refine QA_nil ?_
                    (refine D_yes rfl ?_; refine OpR_pure _ T.ok rfl ?_; refine ⟨_, rfl, Fr0.refl _, ?_⟩; exact rfl)
                  refine D_cons (D_step2 (js := [(18, 49)]) (by kernel_rfl) fun gd hf => ?_) ?_
                  · have hsd := hs.dr.call hf; have hfe := (G.le_dr _).trans hf.le
                    refine QA_eq rfl ?_
                    refine QA_nil ?_
                    (refine D_yes rfl ?_; refine OpR_pure _ T.ok rfl ?_; refine ⟨_, rfl, Fr0.refl _, ?_⟩; exact rfl)
                  refine D_cons (D_step2 (js := [(19, 50), (20, 51), (18, 49)]) (by kernel_rfl) fun gd hf => ?_) ?_
                  · have hsd := hs.dr.call hf; have hfe := (G.le_dr _).trans hf.le
                    refine QA_eq rfl ?_; refine QA_eq rfl ?_; refine QA_eq rfl ?_
                    refine QA_nil ?_
                    refine D_yes rfl ?_
                    refine OpR_idx T.ok rfl (rs5.mono hfe) (y := ⟨some w⟩) hgw rfl rfl rfl rfl rfl rfl ?_
                    rintro b p ys hep ⟨a, n, c, rfl, _⟩
                    exact ⟨_, rfl, Fr0.refl _, b, p, a, n, c, rfl, hep⟩
                  refine D_cons (D_step2 (js := [(21, 52), (18, 49)]) (by kernel_rfl) fun gd hf => ?_) ?_
                  · have hsd := hs.dr.call hf; have hfe := (G.le_dr _).trans hf.le
                    refine QA_any fun v21 h21 => ?_; refine QA_eq rfl ?_
                    refine QA_nil ?_
                    obtain ⟨b, p, a, n, c, rfl, hep⟩ := h21
                    refine D_yes rfl ?_
                    refine OpR_pure _ T.ok rfl ?_
                    exact ⟨_, rfl, Fr0.refl _, b, p, a, n, c, rfl, hep⟩
                  refine D_cons (D_step2 (js := [(22, 53), (18, 49)]) (by kernel_rfl) fun gd hf => ?_) ?_
                  · have hsd := hs.dr.call hf; have hfe := (G.le_dr _).trans hf.le
                    refine QA_any fun v22 h22 => ?_; refine QA_eq rfl ?_
                    refine QA_nil ?_
                    obtain ⟨b, p, a, n, c, rfl, hep⟩ := h22
                    refine D_yes rfl ?_
                    refine OpR_loadE T.ok 0 rfl hep rfl rfl ?_
                    exact ⟨_, rfl, Fr0.refl _, rfl⟩
                  refine D_cons (D_step2 (js := [(18, 49)]) (by kernel_rfl) fun gd hf => ?_) ?_
                  · have hsd := hs.dr.call hf; have hfe := (G.le_dr _).trans hf.le
                    refine QA_eq rfl ?_
                    refine QA_nil ?_
                    (refine D_yes rfl ?_; refine OpR_pure _ T.ok rfl ?_; refine ⟨_, rfl, Fr0.refl _, ?_⟩; exact rfl)
                  refine D_cons (D_step2 (js := [(24, 55), (18, 49)]) (by kernel_rfl) fun gd hf => ?_) ?_
                  · have hsd := hs.dr.call hf; have hfe := (G.le_dr _).trans hf.le
                    refine QA_eq rfl ?_; refine QA_eq rfl ?_
                    refine QA_nil ?_
                    (refine D_yes rfl ?_; refine OpR_loadE T.ok 2 rfl (ep0.mono hfe) rfl rfl ?_; refine ⟨_, rfl, Fr0.refl _, ?_⟩; exact rfl)
                  refine D_cons (D_step2 (js := [(18, 49)]) (by kernel_rfl) fun gd hf => ?_) ?_
                  · have hsd := hs.dr.call hf; have hfe := (G.le_dr _).trans hf.le
                    refine QA_eq rfl ?_
                    refine QA_nil ?_
                    (refine D_yes rfl ?_; refine OpR_pure _ T.ok rfl ?_; refine ⟨_, rfl, Fr0.refl _, ?_⟩; exact rfl)
                  refine D_cons (D_step2 (js := [(25, 56), (26, 57), (18, 49)]) (by kernel_rfl) fun gd hf => ?_) ?_
                  · have hsd := hs.dr.call hf; have hfe := (G.le_dr _).trans hf.le
                    refine QA_eq rfl ?_; refine QA_eq rfl ?_; refine QA_eq rfl ?_
                    refine QA_nil ?_
                    refine D_yes rfl ?_
                    refine OpR_idx T.ok rfl (rs0.mono hfe) (y := stepD f k) (step_geti hkr) rfl rfl rfl rfl rfl rfl ?_
                    intro b p ys hep hrc
                    exact ⟨_, rfl, Fr0.refl _, b, p, ys, rfl, hep, hrc⟩
                  refine D_cons (D_step2 (js := [(27, 58), (18, 49)]) (by kernel_rfl) fun gd hf => ?_) ?_
                  · have hsd := hs.dr.call hf; have hfe := (G.le_dr _).trans hf.le
                    refine QA_any fun v27 h27 => ?_; refine QA_eq rfl ?_
                    refine QA_nil ?_
                    obtain ⟨b, p, ys, rfl, hep, hrc⟩ := h27
                    refine D_yes rfl ?_
                    refine OpR_pure _ T.ok rfl ?_
                    exact ⟨_, rfl, Fr0.refl _, b, p, ys, rfl, hep, hrc⟩
                  refine D_cons (D_step2 (js := [(28, 59), (18, 49)]) (by kernel_rfl) fun gd hf => ?_) ?_
                  · have hsd := hs.dr.call hf; have hfe := (G.le_dr _).trans hf.le
                    refine QA_any fun v28 h28 => ?_; refine QA_eq rfl ?_
                    refine QA_nil ?_
                    obtain ⟨b, p, ys, rfl, hep, hrc⟩ := h28
                    obtain ⟨b1, b2, b3, b4, b5, b6, rfl, hx1, hx2⟩ := hrc
                    refine D_yes rfl ?_
                    refine OpR_loadE T.ok 2 rfl hep rfl rfl ?_
                    refine ⟨_, rfl, Fr0.refl _, ?_⟩
                    exact rfl
                  refine D_cons (D_step2 (js := [(23, 54), (29, 60), (18, 49)]) (by kernel_rfl) fun gd hf => ?_) ?_
                  · have hsd := hs.dr.call hf; have hfe := (G.le_dr _).trans hf.le
                    refine QA_eq rfl ?_; refine QA_eq rfl ?_; refine QA_eq rfl ?_
                    refine QA_nil ?_
                    refine D_yes rfl ?_
                    refine OpR_pure _ T.ok rfl ?_
                    refine ⟨_, rfl, Fr0.refl _, ?_⟩
                    exact congrArg (Value.int .i64) (show _ = w.time + (stepD f k).min from wr (by omega) (by omega))
                  refine D_cons (D_step2 (js := [(18, 49)]) (by kernel_rfl) fun gd hf => ?_) ?_
                  · have hsd := hs.dr.call hf; have hfe := (G.le_dr _).trans hf.le
                    refine QA_eq rfl ?_
                    refine QA_nil ?_
                    (refine D_yes rfl ?_; refine OpR_pure _ T.ok rfl ?_; refine ⟨_, rfl, Fr0.refl _, ?_⟩; exact rfl)
                  refine D_cons (D_step2 (js := [(30, 61), (31, 62), (18, 49)]) (by kernel_rfl) fun gd hf => ?_) ?_
                  · have hsd := hs.dr.call hf; have hfe := (G.le_dr _).trans hf.le
                    refine QA_eq rfl ?_; refine QA_eq rfl ?_; refine QA_eq rfl ?_
                    refine QA_nil ?_
                    refine D_yes rfl ?_
                    refine OpR_pure _ T.ok rfl ?_
                    refine ⟨_, rfl, Fr0.refl _, ?_⟩
                    exact congrArg Value.bool (decide_eq_false hc)
                  refine D_cons (D_step2 (js := [(18, 49), (32, 63), (15, 46)]) (by kernel_rfl) fun gd hf => ?_) ?_
                  · have hsd := hs.dr.call hf; have hfe := (G.le_dr _).trans hf.le
                    refine QA_eq rfl ?_; refine QA_eq rfl ?_; refine QA_eq rfl ?_
                    refine QA_nil ?_
                    (refine D_yes rfl ?_; refine OpR_pure _ T.ok rfl ?_; refine ⟨_, rfl, Fr0.refl _, ?_⟩; exact rfl)
                  refine D_cons (D_step2 (js := [(15, 46), (33, 64)]) (by kernel_rfl) fun gd hf => ?_) ?_
                  · have hsd := hs.dr.call hf; have hfe := (G.le_dr _).trans hf.le
                    refine QA_eq rfl ?_; refine QA_eq rfl ?_
                    refine QA_nil ?_
                    (refine D_yes rfl ?_; refine OpR_pure _ T.ok rfl ?_; refine ⟨_, rfl, Fr0.refl _, ?_⟩; exact rfl)
                  exact D_nil
                intro g1 hf1; refine QA_eq rfl ?_; refine QA_nil ?_
                replace hs := hs.dr.call hf1; have hqe := (G.le_dr _).trans hf1.le; replace le8 := G.le.trans le8 hqe; replace ep0 := ep0.mono hqe; replace rs0 := rs0.mono hqe; replace rs5 := rs5.mono hqe
                refine WL_nil ?_; (with_reducible refine T_then ?_)
                refine W_no rfl rfl ?_
                refine W_skip ?_; (with_reducible refine T_bn ?_); (with_reducible refine T_then ?_); refine W_region ?_; (iterate 3 refine P1 T.ok rfl rfl rfl ?_); refine WL_nil ?_
                exact fun a ha => ⟨f.steps.length - (k + 1), by omega, k + 1, _, rfl, hs, le8, by omega, rfl, ha.keep ⟨rfl, rfl, by rw [hps]; rfl, by rw [hps]; rfl, kI rfl (by rw [wr (by omega) (by omega)]; omega), trivial⟩⟩
      · refine W_no (b := decide ((k : Int) < (f.steps.length : Int))) (decide_eq_false (by omega)) rfl ?_
        obtain rfl : k = f.steps.length := by omega
        refine W_exit ?_; (with_reducible refine T_tx ?_; with_reducible refine T_tx ?_); (with_reducible refine T_bx ?_); (with_reducible refine T_then ?_); refine W_seq ?_; refine W_region ?_; (iterate 4 refine P1 T.ok rfl rfl rfl ?_); refine WL_nil ?_; (with_reducible refine T_then ?_)
        exact W_ret (ret2 rfl rfl rfl (hs.ret rfl))
  · rw [if_neg hg]
    refine W_yes (b := !given f [a]) (by simp [hg]) rfl ?_
    refine W_seq ?_; refine W_region ?_; refine P1 T.ok rfl rfl rfl ?_; refine P1 T.ok rfl rfl rfl ?_; refine WL_nil ?_; (with_reducible refine T_then ?_)
    exact W_ret (ret2 rfl rfl rfl (hs.ret rfl))
end Go.Proofs.Ytijmlfmapfhabaa
