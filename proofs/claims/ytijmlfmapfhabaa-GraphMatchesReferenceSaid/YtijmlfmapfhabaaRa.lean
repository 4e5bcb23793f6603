/- The walks through the reference: tests of flows, what follows. -/
import Derived.Test.YtijmlfmapfhabaaGg
import Derived.Test.YtijmlfmapfhabaaMb

/- Small things that several walks need. -/
namespace Go.Proofs.Ytijmlfmapfhabaa
open Go Go.K

theorem step_geti {f : Flow} {j : Int} (hj : InR f j) : geti f.steps j = some (stepD f j) := by
  have h0 := hj.1; have h1 := hj.2
  unfold stepD; rw [geti_of (j := j.toNat) (by omega) (by omega)]
  simp [List.getD_eq_getElem?_getD, show j.toNat < f.steps.length from by omega]
theorem set_spl {α : Type} (o : List α) (i : Nat) (c : α → Value) (x : α) (h : i < o.length) : spl (o.map c) (i * 1) [c x] = (o.set i x).map c := by
  rw [Nat.mul_one, List.map_set]
  unfold spl
  rw [List.set_eq_take_append_cons_drop]
  simp [h]
theorem rowI_zero (n : Nat) : (List.replicate n [Value.int .i64 0]).flatten = (List.replicate n (0 : Int)).map (Value.int .i64) := by simp
def rowI (ob N : Nat) (l : List Int) : Ent := .row 3 1 (.slice (some ⟨ob, 0, none⟩) N N) N (l.map (Value.int .i64))
end Go.Proofs.Ytijmlfmapfhabaa

/- The walks through the reference's tests of flows. -/
namespace Go.Proofs.Ytijmlfmapfhabaa
open Go Go.K
set_option maxRecDepth 10000
attribute [local irreducible] W WL OpR
set_option maxHeartbeats 1000000

theorem rWithin_c (n lo hi : Int) (g : G) : CallsIn Wd 0 Try.prog 71 #[.int .i64 n, .int .i64 lo, .int .i64 hi] g.w (Ret g fun _ v => v = .bool (within n lo hi)) := by
  have hs := St.start g
  refine enter Try.func71 rfl Try.ntmps71 rfl ?_
  refine W_seq ?_; refine W_region ?_; refine P1 T.ok rfl rfl rfl ?_; refine WL_nil ?_; (with_reducible refine T_then ?_); refine W_seq ?_; refine W_region ?_; (iterate 4 refine P1 T.ok rfl rfl rfl ?_)
  refine WL_seg (want := true) (x := decide (n ≤ hi)) 3 allF rfl rfl rfl rfl (.inl ⟨rfl, rfl, rfl⟩) rfl rfl rfl rfl (fun hb Q' hQ' => ?_) (fun g' hf => ?_)
  · (iterate 3 refine P1 T.ok rfl rfl rfl ?_); refine WL_nil ?_
    exact fun a ha => hQ' _ a (Fr0.refl _) (ha.keep (by (repeat (first | exact trivial | refine ⟨rfl, ?_⟩))))
  replace hs := hs.call hf
  refine P1 T.ok rfl rfl rfl ?_; refine WL_nil ?_; (with_reducible refine T_then ?_)
  exact W_ret (ret1 rfl rfl (hs.ret rfl))

theorem rMoves_c (lo hi : Int) (g : G) : CallsIn Wd 0 Try.prog 70 #[.int .i64 lo, .int .i64 hi] g.w (Ret g fun _ v => v = .bool ((decide (0 ≤ lo) && decide (lo ≤ hi)) && decide (hi ≤ 10000))) := by
  have hs := St.start g
  refine enter Try.func70 rfl Try.ntmps70 rfl ?_
  refine W_seq ?_; refine W_region ?_; refine P1 T.ok rfl rfl rfl ?_; refine WL_nil ?_; (with_reducible refine T_then ?_); refine W_seq ?_; refine W_region ?_; (iterate 3 refine P1 T.ok rfl rfl rfl ?_)
  refine WL_seg (want := true) (x := decide (lo ≤ hi)) 3 allF rfl rfl rfl rfl (.inl ⟨rfl, rfl, rfl⟩) rfl rfl rfl rfl (fun hb Q' hQ' => ?_) (fun g' hf => ?_)
  · (iterate 3 refine P1 T.ok rfl rfl rfl ?_); refine WL_nil ?_
    exact fun a ha => hQ' _ a (Fr0.refl _) (ha.keep (by (repeat (first | exact trivial | refine ⟨rfl, ?_⟩))))
  replace hs := hs.call hf
  refine P1 T.ok rfl rfl rfl ?_
  refine WL_seg (want := true) (x := decide (hi ≤ 10000)) 2 allF rfl rfl rfl rfl (.inl ⟨rfl, rfl, rfl⟩) rfl rfl rfl rfl (fun hb Q' hQ' => ?_) (fun g' hf => ?_)
  · refine P1 T.ok rfl rfl rfl ?_; refine P1 T.ok rfl rfl rfl ?_; refine WL_nil ?_
    exact fun a ha => hQ' _ a (Fr0.refl _) (ha.keep (by (repeat (first | exact trivial | refine ⟨rfl, ?_⟩))))
  replace hs := hs.call hf
  refine P1 T.ok rfl rfl rfl ?_; refine WL_nil ?_; (with_reducible refine T_then ?_)
  exact W_ret (ret1 rfl rfl (hs.ret rfl))

theorem rWindow_c (w : Window) (n : Int) (g : G) (h1 : 0 ≤ n) (h2 : n ≤ 9223372036854775807) :
    CallsIn Wd 0 Try.prog 73 #[.agg #[.int .i64 w.src, .int .i64 w.dst, .int .i64 w.limit], .int .i64 n] g.w (Ret g fun _ r => r = .bool (rightWindow w n)) := by
  have hs := St.start g
  have hn : IntKind.i64.wrap (n - 1) = n - 1 := wr (by omega) (by omega)
  refine enter Try.func73 rfl Try.ntmps73 rfl ?_
  refine W_seq ?_; refine W_region ?_
  refine WL_o rfl rfl (OpR_box rfl hs rfl rfl ?_); clear hs; rintro b1 g1 hs hqe; skip
  refine P1 T.ok rfl rfl rfl ?_; refine WL_nil ?_; (with_reducible refine T_then ?_); refine W_seq ?_; refine W_region ?_; refine P1 T.ok rfl rfl rfl ?_; refine WL_o rfl rfl (OpR_loadO T.ok 0 rfl hs rfl rfl rfl ?_); refine P1 T.ok rfl rfl rfl ?_; refine P1 T.ok rfl rfl rfl ?_
  rw [hn]
  refine WL_o rfl rfl (OpR_ret cl71 allF rfl rfl rfl rfl rfl (rWithin_c _ _ _ _) ?_); rintro g1 _ hf1 rfl; replace hs := hs.call hf1; have hqe := hf1.le; skip
  refine P1 T.ok rfl rfl rfl ?_
  refine WL_seg (want := true) (x := within w.dst 0 (n - 1)) 5 allF rfl rfl rfl rfl (.inl ⟨rfl, rfl, rfl⟩) rfl rfl rfl rfl (fun hb Q' hQ' => ?_) (fun g' hf => ?_)
  · refine P1 T.ok rfl rfl rfl ?_; refine WL_o rfl rfl (OpR_loadO T.ok 0 rfl hs rfl rfl rfl ?_); refine P1 T.ok rfl rfl rfl ?_; refine P1 T.ok rfl rfl rfl ?_
    rw [hn]
    refine WL_o rfl rfl (OpR_ret cl71 allF rfl rfl rfl rfl rfl (rWithin_c _ _ _ _) ?_); rintro g1 _ hf1 rfl; replace hs := hs.call hf1; have hqe := hf1.le; skip
    refine WL_nil ?_
    exact fun a ha => hQ' _ a hf1 (ha.keep (by (repeat (first | exact trivial | refine ⟨rfl, ?_⟩))))
  replace hs := hs.call hf
  refine P1 T.ok rfl rfl rfl ?_
  refine WL_seg (want := true) (x := w.src != w.dst) 5 allF rfl rfl rfl rfl (.inl ⟨rfl, rfl, rfl⟩) rfl rfl rfl rfl (fun hb Q' hQ' => ?_) (fun g' hf => ?_)
  · refine P1 T.ok rfl rfl rfl ?_; refine WL_o rfl rfl (OpR_loadO T.ok 0 rfl hs rfl rfl rfl ?_); refine P1 T.ok rfl rfl rfl ?_; refine WL_o rfl rfl (OpR_loadO T.ok 0 rfl hs rfl rfl rfl ?_); refine P1 T.ok rfl rfl rfl ?_; refine WL_nil ?_
    exact fun a ha => hQ' _ a (Fr0.refl _) (ha.keep (by (repeat (first | exact trivial | refine ⟨rfl, ?_⟩))))
  replace hs := hs.call hf
  refine P1 T.ok rfl rfl rfl ?_
  refine WL_seg (want := true) (x := within w.limit 0 1000000) 3 allF rfl rfl rfl rfl (.inl ⟨rfl, rfl, rfl⟩) rfl rfl rfl rfl (fun hb Q' hQ' => ?_) (fun g' hf => ?_)
  · refine P1 T.ok rfl rfl rfl ?_; refine WL_o rfl rfl (OpR_loadO T.ok 0 rfl hs rfl rfl rfl ?_)
    refine WL_o rfl rfl (OpR_ret cl71 allF rfl rfl rfl rfl rfl (rWithin_c _ _ _ _) ?_); rintro g1 _ hf1 rfl; replace hs := hs.call hf1; have hqe := hf1.le; skip
    refine WL_nil ?_
    exact fun a ha => hQ' _ a hf1 (ha.keep (by (repeat (first | exact trivial | refine ⟨rfl, ?_⟩))))
  replace hs := hs.call hf
  refine P1 T.ok rfl rfl rfl ?_; refine WL_nil ?_; (with_reducible refine T_then ?_)
  exact W_ret (ret1 rfl rfl (hs.ret rfl))


theorem rAfter_c (w u : Window) (g : G) :
    CallsIn Wd 0 Try.prog 74 #[.agg #[.int .i64 w.src, .int .i64 w.dst, .int .i64 w.limit], .agg #[.int .i64 u.src, .int .i64 u.dst, .int .i64 u.limit]] g.w (Ret g fun _ r => r = .bool (winLess w u)) := by
  have hs := St.start g
  have le0 := G.le.refl g
  refine enter Try.func74 rfl Try.ntmps74 rfl ?_
  refine W_seq ?_; refine W_region ?_
  refine WL_o rfl rfl (OpR_box rfl hs rfl rfl ?_); clear hs; rintro b1 g1 hs hqe; replace le0 := G.le.trans le0 hqe
  skip
  refine WL_o rfl rfl (OpR_box rfl hs rfl rfl ?_); clear hs; rintro b1 g1 hs hqe; replace le0 := G.le.trans le0 hqe
  refine P1 T.ok rfl rfl rfl ?_; refine WL_nil ?_; (with_reducible refine T_then ?_); refine W_seq ?_; refine W_region ?_; refine P1 T.ok rfl rfl rfl ?_; refine WL_o rfl rfl (OpR_loadO T.ok 1 rfl hs rfl rfl rfl ?_); refine P1 T.ok rfl rfl rfl ?_; refine WL_o rfl rfl (OpR_loadO T.ok 0 rfl hs rfl rfl rfl ?_); refine P1 T.ok rfl rfl rfl ?_; refine P1 T.ok rfl rfl rfl ?_
  refine WL_seg (want := false) (x := (w.src == u.src && decide (w.dst < u.dst))) 12 allF rfl rfl rfl rfl (.inr ⟨rfl, rfl, rfl⟩) rfl rfl rfl rfl (fun hb Q' hQ' => ?_) (fun g' hf => ?_)
  · refine P1 T.ok rfl rfl rfl ?_; refine WL_o rfl rfl (OpR_loadO T.ok 1 rfl hs rfl rfl rfl ?_); refine P1 T.ok rfl rfl rfl ?_; refine WL_o rfl rfl (OpR_loadO T.ok 0 rfl hs rfl rfl rfl ?_); refine P1 T.ok rfl rfl rfl ?_; refine P1 T.ok rfl rfl rfl ?_
    refine WL_seg (want := true) (x := decide (w.dst < u.dst)) 5 allF rfl rfl rfl rfl (.inl ⟨rfl, rfl, rfl⟩) rfl rfl rfl rfl (fun hb Q' hQ' => ?_) (fun g' hf => ?_)
    · refine P1 T.ok rfl rfl rfl ?_; refine WL_o rfl rfl (OpR_loadO T.ok 1 rfl hs rfl rfl rfl ?_); refine P1 T.ok rfl rfl rfl ?_; refine WL_o rfl rfl (OpR_loadO T.ok 0 rfl hs rfl rfl rfl ?_); refine P1 T.ok rfl rfl rfl ?_; refine WL_nil ?_
      exact fun a ha => hQ' _ a (Fr0.refl _) (ha.keep (by (repeat (first | exact trivial | refine ⟨rfl, ?_⟩))))
    exact WL_nil fun a ha => hQ' _ a hf (ha.keep (by (repeat (first | exact trivial | refine ⟨rfl, ?_⟩))))
  replace hs := hs.call hf; have hqe := hf.le; replace le0 := G.le.trans le0 hqe
  refine P1 T.ok rfl rfl rfl ?_; refine WL_nil ?_; (with_reducible refine T_then ?_)
  exact W_ret (ret1 rfl rfl (hs.ret rfl))







theorem rAscending_c (v : Value) (l : List Int) (lo hi : Int) (g : G) (rs0 : Rs g v l) :
    CallsIn Wd 0 Try.prog 78 #[v, .int .i64 lo, .int .i64 hi] g.w (Ret g fun _ r => r = .bool (ascending l lo hi)) := by
  obtain ⟨a, c, rfl⟩ := rs0.isSlice
  have hlen := rs0.len_le
  unfold maxLen at hlen
  have hs := St.start g
  refine enter Try.func78 rfl Try.ntmps78 rfl ?_
  refine W_seq ?_; refine W_region ?_; refine P1 T.ok rfl rfl rfl ?_; refine WL_nil ?_; (with_reducible refine T_then ?_); refine W_seq ?_; refine W_seq ?_; refine W_region ?_; refine P1 T.ok rfl rfl rfl ?_; refine WL_nil ?_; (with_reducible refine T_then ?_); refine W_block ?_
  have le0 := G.le.refl g
  have rs0c := rs0
  refine W_loop (fun m a' w => ∃ (k : Nat) (g' : G), w = g'.w ∧ St g g' [] ∧ G.le g g' ∧ k ≤ l.length ∧ m = l.length - k ∧ ((if k = 0 then ascending l lo hi else ascGo lo hi (l.getD (k - 1) 0) (l.drop k)) = ascending l lo hi) ∧
    Fr 38 [] [(0, .slice a l.length c), (1, .int .i64 lo), (2, .int .i64 hi), (7, .int .i64 k)] a') l.length (fun a' ha => ⟨0, g, rfl, hs, le0, Nat.zero_le _, rfl, by simp, ha.keep (by (repeat (first | exact trivial | refine ⟨rfl, ?_⟩)))⟩) ?_
  clear hs le0 rs0
  rintro m a' _ ⟨k, g', rfl, hs, le0, hk, rfl, hno, ha'⟩
  have rs0 := rs0c.mono le0
  revert a'
  (with_reducible refine T_wp ?_); refine W_seq ?_; refine W_seq ?_; refine W_region ?_; (iterate 4 refine P1 T.ok rfl rfl rfl ?_); refine WL_nil ?_; (with_reducible refine T_then ?_)
  by_cases hlt : k < l.length
  · refine W_yes (b := decide ((k : Int) < (l.length : Int))) (decide_eq_true (by omega)) rfl ?_
    rw [ascR_step l lo hi k hlt] at hno
    have hgk := geti_of (xs := l) (n := (k : Int)) rfl hlt
    have hnx : l.getD (k + 1 - 1) 0 = l[k] := by simp [List.getD_eq_getElem?_getD, hlt]
    generalize l[k] = y at *
    refine W_skip ?_; (with_reducible refine T_then ?_); refine W_seq ?_; refine W_block ?_; refine W_seq ?_
    cases hw : within y lo hi with
    | false =>
      rw [hw] at hno
      apply W_draw allF rfl (Fact.eq _ :: Fact.eq _ :: (intPtr y) :: Fact.eq _ :: Fact.eq _ :: Fact.eq _ :: Fact.eq _ :: Fact.eq _ :: Fact.eq _ :: Fact.eq _ :: Fact.eq _ :: Fact.eq _ :: Fact.eq _ :: Fact.eq _ :: Fact.eq _ :: Fact.eq _ :: Fact.eq _ :: Fact.eq _ :: Fact.eq _ :: Fact.eq _ :: Fact.eq _ :: Fact.eq _ :: Fact.eq _ :: Fact.eq _ :: []) 24 [(23, 37)] rfl rfl
      · refine D_cons (D_step2 (js := []) (by kernel_rfl) fun gd hf => ?_) ?_
        · have hsd := hs.dr.call hf; have hfe := (G.le_dr _).trans hf.le
          refine QA_nil ?_
          (refine D_yes rfl ?_; refine OpR_pure _ T.ok rfl ?_; refine ⟨_, rfl, Fr0.refl _, ?_⟩; exact rfl)
        refine D_cons (D_step2 (js := []) (by kernel_rfl) fun gd hf => ?_) ?_
        · have hsd := hs.dr.call hf; have hfe := (G.le_dr _).trans hf.le
          refine QA_nil ?_
          (refine D_yes rfl ?_; refine OpR_pure _ T.ok rfl ?_; refine ⟨_, rfl, Fr0.refl _, ?_⟩; exact rfl)
        refine D_cons (D_step2 (js := [(0, 14), (1, 15)]) (by kernel_rfl) fun gd hf => ?_) ?_
        · have hsd := hs.dr.call hf; have hfe := (G.le_dr _).trans hf.le
          refine QA_eq rfl ?_; refine QA_eq rfl ?_
          refine QA_nil ?_
          refine D_yes rfl ?_
          refine OpR_idx T.ok rfl (rs0.mono hfe) (y := y) hgk rfl rfl rfl rfl rfl rfl ?_
          intro b p ys hep hrc
          exact ⟨_, rfl, Fr0.refl _, b, p, rfl, by rw [← show ys = [Value.int .i64 (y)] from hrc]; exact hep⟩
        refine D_cons (D_step2 (js := [(2, 16)]) (by kernel_rfl) fun gd hf => ?_) ?_
        · have hsd := hs.dr.call hf; have hfe := (G.le_dr _).trans hf.le
          refine QA_any fun v2 h2 => ?_
          refine QA_nil ?_
          obtain ⟨b, p, rfl, hep⟩ := h2
          refine D_yes rfl ?_
          refine OpR_loadE T.ok 0 rfl hep rfl rfl ?_
          refine ⟨_, rfl, Fr0.refl _, ?_⟩
          exact rfl
        refine D_cons (D_step2 (js := []) (by kernel_rfl) fun gd hf => ?_) ?_
        · have hsd := hs.dr.call hf; have hfe := (G.le_dr _).trans hf.le
          refine QA_nil ?_
          (refine D_yes rfl ?_; refine OpR_pure _ T.ok rfl ?_; refine ⟨_, rfl, Fr0.refl _, ?_⟩; exact rfl)
        refine D_cons (D_step2 (js := []) (by kernel_rfl) fun gd hf => ?_) ?_
        · have hsd := hs.dr.call hf; have hfe := (G.le_dr _).trans hf.le
          refine QA_nil ?_
          (refine D_yes rfl ?_; refine OpR_pure _ T.ok rfl ?_; refine ⟨_, rfl, Fr0.refl _, ?_⟩; exact rfl)
        refine D_cons (D_step2 (js := [(3, 17), (4, 18), (5, 19)]) (by kernel_rfl) fun gd hf => ?_) ?_
        · have hsd := hs.dr.call hf; have hfe := (G.le_dr _).trans hf.le
          refine QA_eq rfl ?_; refine QA_eq rfl ?_; refine QA_eq rfl ?_
          refine QA_nil ?_
          refine D_yes rfl ?_
          refine OpR_ret cl71 allF rfl rfl rfl rfl rfl (rWithin_c _ _ _ _) fun g' v h1 h2 => ⟨g', rfl, h1, ?_⟩
          exact h2.trans (congrArg Value.bool hw)
        refine D_cons (D_step2 (js := [(6, 20)]) (by kernel_rfl) fun gd hf => ?_) ?_
        · have hsd := hs.dr.call hf; have hfe := (G.le_dr _).trans hf.le
          refine QA_eq rfl ?_
          refine QA_nil ?_
          (refine D_yes rfl ?_; refine OpR_pure _ T.ok rfl ?_; refine ⟨_, rfl, Fr0.refl _, ?_⟩; exact rfl)
        refine D_cons (D_step2 (js := [(7, 21)]) (by kernel_rfl) fun gd hf => ?_) ?_
        · have hsd := hs.dr.call hf; have hfe := (G.le_dr _).trans hf.le
          refine QA_eq rfl ?_
          refine QA_nil ?_
          (refine D_yes rfl ?_; refine OpR_pure _ T.ok rfl ?_; refine ⟨_, rfl, Fr0.refl _, ?_⟩; exact rfl)
        refine D_cons (D_step2 (js := [(8, 22)]) (by kernel_rfl) fun gd hf => ?_) ?_
        · have hsd := hs.dr.call hf; have hfe := (G.le_dr _).trans hf.le
          refine QA_eq rfl ?_
          refine QA_nil ?_
          (refine D_no rfl ?_; exact rfl)
        refine D_cons (D_step2 (js := [(9, 23), (8, 22)]) (by kernel_rfl) fun gd hf => ?_) ?_
        · have hsd := hs.dr.call hf; have hfe := (G.le_dr _).trans hf.le
          refine QA_eq rfl ?_; refine QA_eq rfl ?_
          refine QA_nil ?_
          (refine D_no rfl ?_; exact rfl)
        refine D_cons (D_step2 (js := [(10, 24), (8, 22), (8, 22)]) (by kernel_rfl) fun gd hf => ?_) ?_
        · have hsd := hs.dr.call hf; have hfe := (G.le_dr _).trans hf.le
          refine QA_eq rfl ?_; refine QA_eq rfl ?_; refine QA_eq rfl ?_
          refine QA_nil ?_
          (refine D_no rfl ?_; exact rfl)
        refine D_cons (D_step2 (js := [(11, 25)]) (by kernel_rfl) fun gd hf => ?_) ?_
        · have hsd := hs.dr.call hf; have hfe := (G.le_dr _).trans hf.le
          refine QA_eq rfl ?_
          refine QA_nil ?_
          (refine D_no rfl ?_; exact rfl)
        refine D_cons (D_step2 (js := [(11, 25)]) (by kernel_rfl) fun gd hf => ?_) ?_
        · have hsd := hs.dr.call hf; have hfe := (G.le_dr _).trans hf.le
          refine QA_eq rfl ?_
          refine QA_nil ?_
          (refine D_no rfl ?_; exact rfl)
        refine D_cons (D_step2 (js := [(12, 26), (13, 27), (11, 25)]) (by kernel_rfl) fun gd hf => ?_) ?_
        · have hsd := hs.dr.call hf; have hfe := (G.le_dr _).trans hf.le
          refine QA_eq rfl ?_; refine QA_eq rfl ?_; refine QA_eq rfl ?_
          refine QA_nil ?_
          (refine D_no rfl ?_; exact rfl)
        refine D_cons (D_step2 (js := [(14, 28), (11, 25)]) (by kernel_rfl) fun gd hf => ?_) ?_
        · have hsd := hs.dr.call hf; have hfe := (G.le_dr _).trans hf.le
          refine QA_eq rfl ?_; refine QA_eq rfl ?_
          refine QA_nil ?_
          (refine D_no rfl ?_; exact rfl)
        refine D_cons (D_step2 (js := [(11, 25)]) (by kernel_rfl) fun gd hf => ?_) ?_
        · have hsd := hs.dr.call hf; have hfe := (G.le_dr _).trans hf.le
          refine QA_eq rfl ?_
          refine QA_nil ?_
          (refine D_no rfl ?_; exact rfl)
        refine D_cons (D_step2 (js := [(11, 25)]) (by kernel_rfl) fun gd hf => ?_) ?_
        · have hsd := hs.dr.call hf; have hfe := (G.le_dr _).trans hf.le
          refine QA_eq rfl ?_
          refine QA_nil ?_
          (refine D_no rfl ?_; exact rfl)
        refine D_cons (D_step2 (js := [(17, 31), (11, 25)]) (by kernel_rfl) fun gd hf => ?_) ?_
        · have hsd := hs.dr.call hf; have hfe := (G.le_dr _).trans hf.le
          refine QA_eq rfl ?_; refine QA_eq rfl ?_
          refine QA_nil ?_
          (refine D_no rfl ?_; exact rfl)
        refine D_cons (D_step2 (js := [(16, 30), (18, 32), (11, 25)]) (by kernel_rfl) fun gd hf => ?_) ?_
        · have hsd := hs.dr.call hf; have hfe := (G.le_dr _).trans hf.le
          refine QA_eq rfl ?_; refine QA_eq rfl ?_; refine QA_eq rfl ?_
          refine QA_nil ?_
          (refine D_no rfl ?_; exact rfl)
        refine D_cons (D_step2 (js := [(19, 33), (11, 25)]) (by kernel_rfl) fun gd hf => ?_) ?_
        · have hsd := hs.dr.call hf; have hfe := (G.le_dr _).trans hf.le
          refine QA_eq rfl ?_; refine QA_eq rfl ?_
          refine QA_nil ?_
          (refine D_no rfl ?_; exact rfl)
        refine D_cons (D_step2 (js := [(15, 29), (20, 34), (11, 25)]) (by kernel_rfl) fun gd hf => ?_) ?_
        · have hsd := hs.dr.call hf; have hfe := (G.le_dr _).trans hf.le
          refine QA_eq rfl ?_; refine QA_eq rfl ?_; refine QA_eq rfl ?_
          refine QA_nil ?_
          (refine D_no rfl ?_; exact rfl)
        refine D_cons (D_step2 (js := [(11, 25), (21, 35), (8, 22)]) (by kernel_rfl) fun gd hf => ?_) ?_
        · have hsd := hs.dr.call hf; have hfe := (G.le_dr _).trans hf.le
          refine QA_eq rfl ?_; refine QA_eq rfl ?_; refine QA_eq rfl ?_
          refine QA_nil ?_
          (refine D_no rfl ?_; exact rfl)
        refine D_cons (D_step2 (js := [(8, 22), (22, 36)]) (by kernel_rfl) fun gd hf => ?_) ?_
        · have hsd := hs.dr.call hf; have hfe := (G.le_dr _).trans hf.le
          refine QA_eq rfl ?_; refine QA_eq rfl ?_
          refine QA_nil ?_
          (refine D_yes rfl ?_; refine OpR_pure _ T.ok rfl ?_; refine ⟨_, rfl, Fr0.refl _, ?_⟩; exact rfl)
        exact D_nil
      intro g1 hf1; refine QA_eq rfl ?_; refine QA_nil ?_
      replace hs := hs.dr.call hf1; have hqe := (G.le_dr _).trans hf1.le; replace le0 := G.le.trans le0 hqe; replace rs0 := rs0.mono hqe
      refine WL_nil ?_; (with_reducible refine T_then ?_)
      refine W_yes rfl rfl ?_
      refine W_seq ?_; refine W_region ?_; refine P1 T.ok rfl rfl rfl ?_; refine WL_nil ?_; (with_reducible refine T_then ?_)
      refine W_ret (ret1 rfl rfl (hs.ret ?_))
      rw [← hno, (by simp : (false && _ && _) = false)]
    | true =>
      rw [hw, Bool.true_and] at hno
      rcases Nat.eq_zero_or_pos k with hz | hz
      · apply W_draw allF rfl (Fact.eq _ :: Fact.eq _ :: (intPtr y) :: Fact.eq _ :: Fact.eq _ :: Fact.eq _ :: Fact.eq _ :: Fact.eq _ :: Fact.eq _ :: Fact.eq _ :: Fact.eq _ :: Fact.eq _ :: Fact.eq _ :: Fact.eq _ :: Fact.eq _ :: Fact.eq _ :: Fact.eq _ :: Fact.eq _ :: Fact.eq _ :: Fact.eq _ :: Fact.eq _ :: Fact.eq _ :: Fact.eq _ :: Fact.eq _ :: []) 24 [(23, 37)] rfl rfl
        · refine D_cons (D_step2 (js := []) (by kernel_rfl) fun gd hf => ?_) ?_
          · have hsd := hs.dr.call hf; have hfe := (G.le_dr _).trans hf.le
            refine QA_nil ?_
            (refine D_yes rfl ?_; refine OpR_pure _ T.ok rfl ?_; refine ⟨_, rfl, Fr0.refl _, ?_⟩; exact rfl)
          refine D_cons (D_step2 (js := []) (by kernel_rfl) fun gd hf => ?_) ?_
          · have hsd := hs.dr.call hf; have hfe := (G.le_dr _).trans hf.le
            refine QA_nil ?_
            (refine D_yes rfl ?_; refine OpR_pure _ T.ok rfl ?_; refine ⟨_, rfl, Fr0.refl _, ?_⟩; exact rfl)
          refine D_cons (D_step2 (js := [(0, 14), (1, 15)]) (by kernel_rfl) fun gd hf => ?_) ?_
          · have hsd := hs.dr.call hf; have hfe := (G.le_dr _).trans hf.le
            refine QA_eq rfl ?_; refine QA_eq rfl ?_
            refine QA_nil ?_
            refine D_yes rfl ?_
            refine OpR_idx T.ok rfl (rs0.mono hfe) (y := y) hgk rfl rfl rfl rfl rfl rfl ?_
            intro b p ys hep hrc
            exact ⟨_, rfl, Fr0.refl _, b, p, rfl, by rw [← show ys = [Value.int .i64 (y)] from hrc]; exact hep⟩
          refine D_cons (D_step2 (js := [(2, 16)]) (by kernel_rfl) fun gd hf => ?_) ?_
          · have hsd := hs.dr.call hf; have hfe := (G.le_dr _).trans hf.le
            refine QA_any fun v2 h2 => ?_
            refine QA_nil ?_
            obtain ⟨b, p, rfl, hep⟩ := h2
            refine D_yes rfl ?_
            refine OpR_loadE T.ok 0 rfl hep rfl rfl ?_
            refine ⟨_, rfl, Fr0.refl _, ?_⟩
            exact rfl
          refine D_cons (D_step2 (js := []) (by kernel_rfl) fun gd hf => ?_) ?_
          · have hsd := hs.dr.call hf; have hfe := (G.le_dr _).trans hf.le
            refine QA_nil ?_
            (refine D_yes rfl ?_; refine OpR_pure _ T.ok rfl ?_; refine ⟨_, rfl, Fr0.refl _, ?_⟩; exact rfl)
          refine D_cons (D_step2 (js := []) (by kernel_rfl) fun gd hf => ?_) ?_
          · have hsd := hs.dr.call hf; have hfe := (G.le_dr _).trans hf.le
            refine QA_nil ?_
            (refine D_yes rfl ?_; refine OpR_pure _ T.ok rfl ?_; refine ⟨_, rfl, Fr0.refl _, ?_⟩; exact rfl)
          refine D_cons (D_step2 (js := [(3, 17), (4, 18), (5, 19)]) (by kernel_rfl) fun gd hf => ?_) ?_
          · have hsd := hs.dr.call hf; have hfe := (G.le_dr _).trans hf.le
            refine QA_eq rfl ?_; refine QA_eq rfl ?_; refine QA_eq rfl ?_
            refine QA_nil ?_
            refine D_yes rfl ?_
            refine OpR_ret cl71 allF rfl rfl rfl rfl rfl (rWithin_c _ _ _ _) fun g' v h1 h2 => ⟨g', rfl, h1, ?_⟩
            exact h2.trans (congrArg Value.bool hw)
          refine D_cons (D_step2 (js := [(6, 20)]) (by kernel_rfl) fun gd hf => ?_) ?_
          · have hsd := hs.dr.call hf; have hfe := (G.le_dr _).trans hf.le
            refine QA_eq rfl ?_
            refine QA_nil ?_
            (refine D_yes rfl ?_; refine OpR_pure _ T.ok rfl ?_; refine ⟨_, rfl, Fr0.refl _, ?_⟩; exact rfl)
          refine D_cons (D_step2 (js := [(7, 21)]) (by kernel_rfl) fun gd hf => ?_) ?_
          · have hsd := hs.dr.call hf; have hfe := (G.le_dr _).trans hf.le
            refine QA_eq rfl ?_
            refine QA_nil ?_
            (refine D_yes rfl ?_; refine OpR_pure _ T.ok rfl ?_; refine ⟨_, rfl, Fr0.refl _, ?_⟩; exact rfl)
          refine D_cons (D_step2 (js := [(8, 22)]) (by kernel_rfl) fun gd hf => ?_) ?_
          · have hsd := hs.dr.call hf; have hfe := (G.le_dr _).trans hf.le
            refine QA_eq rfl ?_
            refine QA_nil ?_
            (refine D_yes rfl ?_; refine OpR_pure _ T.ok rfl ?_; refine ⟨_, rfl, Fr0.refl _, ?_⟩; exact rfl)
          refine D_cons (D_step2 (js := [(9, 23), (8, 22)]) (by kernel_rfl) fun gd hf => ?_) ?_
          · have hsd := hs.dr.call hf; have hfe := (G.le_dr _).trans hf.le
            refine QA_eq rfl ?_; refine QA_eq rfl ?_
            refine QA_nil ?_
            refine D_yes rfl ?_
            refine OpR_pure _ T.ok rfl ?_
            refine ⟨_, rfl, Fr0.refl _, ?_⟩
            exact congrArg Value.bool (decide_eq_false (by omega))
          refine D_cons (D_step2 (js := [(10, 24), (8, 22), (8, 22)]) (by kernel_rfl) fun gd hf => ?_) ?_
          · have hsd := hs.dr.call hf; have hfe := (G.le_dr _).trans hf.le
            refine QA_eq rfl ?_; refine QA_eq rfl ?_; refine QA_eq rfl ?_
            refine QA_nil ?_
            (refine D_yes rfl ?_; refine OpR_pure _ T.ok rfl ?_; refine ⟨_, rfl, Fr0.refl _, ?_⟩; exact rfl)
          refine D_cons (D_step2 (js := [(11, 25)]) (by kernel_rfl) fun gd hf => ?_) ?_
          · have hsd := hs.dr.call hf; have hfe := (G.le_dr _).trans hf.le
            refine QA_eq rfl ?_
            refine QA_nil ?_
            (refine D_no rfl ?_; exact rfl)
          refine D_cons (D_step2 (js := [(11, 25)]) (by kernel_rfl) fun gd hf => ?_) ?_
          · have hsd := hs.dr.call hf; have hfe := (G.le_dr _).trans hf.le
            refine QA_eq rfl ?_
            refine QA_nil ?_
            (refine D_no rfl ?_; exact rfl)
          refine D_cons (D_step2 (js := [(12, 26), (13, 27), (11, 25)]) (by kernel_rfl) fun gd hf => ?_) ?_
          · have hsd := hs.dr.call hf; have hfe := (G.le_dr _).trans hf.le
            refine QA_eq rfl ?_; refine QA_eq rfl ?_; refine QA_eq rfl ?_
            refine QA_nil ?_
            (refine D_no rfl ?_; exact rfl)
          refine D_cons (D_step2 (js := [(14, 28), (11, 25)]) (by kernel_rfl) fun gd hf => ?_) ?_
          · have hsd := hs.dr.call hf; have hfe := (G.le_dr _).trans hf.le
            refine QA_eq rfl ?_; refine QA_eq rfl ?_
            refine QA_nil ?_
            (refine D_no rfl ?_; exact rfl)
          refine D_cons (D_step2 (js := [(11, 25)]) (by kernel_rfl) fun gd hf => ?_) ?_
          · have hsd := hs.dr.call hf; have hfe := (G.le_dr _).trans hf.le
            refine QA_eq rfl ?_
            refine QA_nil ?_
            (refine D_no rfl ?_; exact rfl)
          refine D_cons (D_step2 (js := [(11, 25)]) (by kernel_rfl) fun gd hf => ?_) ?_
          · have hsd := hs.dr.call hf; have hfe := (G.le_dr _).trans hf.le
            refine QA_eq rfl ?_
            refine QA_nil ?_
            (refine D_no rfl ?_; exact rfl)
          refine D_cons (D_step2 (js := [(17, 31), (11, 25)]) (by kernel_rfl) fun gd hf => ?_) ?_
          · have hsd := hs.dr.call hf; have hfe := (G.le_dr _).trans hf.le
            refine QA_eq rfl ?_; refine QA_eq rfl ?_
            refine QA_nil ?_
            (refine D_no rfl ?_; exact rfl)
          refine D_cons (D_step2 (js := [(16, 30), (18, 32), (11, 25)]) (by kernel_rfl) fun gd hf => ?_) ?_
          · have hsd := hs.dr.call hf; have hfe := (G.le_dr _).trans hf.le
            refine QA_eq rfl ?_; refine QA_eq rfl ?_; refine QA_eq rfl ?_
            refine QA_nil ?_
            (refine D_no rfl ?_; exact rfl)
          refine D_cons (D_step2 (js := [(19, 33), (11, 25)]) (by kernel_rfl) fun gd hf => ?_) ?_
          · have hsd := hs.dr.call hf; have hfe := (G.le_dr _).trans hf.le
            refine QA_eq rfl ?_; refine QA_eq rfl ?_
            refine QA_nil ?_
            (refine D_no rfl ?_; exact rfl)
          refine D_cons (D_step2 (js := [(15, 29), (20, 34), (11, 25)]) (by kernel_rfl) fun gd hf => ?_) ?_
          · have hsd := hs.dr.call hf; have hfe := (G.le_dr _).trans hf.le
            refine QA_eq rfl ?_; refine QA_eq rfl ?_; refine QA_eq rfl ?_
            refine QA_nil ?_
            (refine D_no rfl ?_; exact rfl)
          refine D_cons (D_step2 (js := [(11, 25), (21, 35), (8, 22)]) (by kernel_rfl) fun gd hf => ?_) ?_
          · have hsd := hs.dr.call hf; have hfe := (G.le_dr _).trans hf.le
            refine QA_eq rfl ?_; refine QA_eq rfl ?_; refine QA_eq rfl ?_
            refine QA_nil ?_
            (refine D_yes rfl ?_; refine OpR_pure _ T.ok rfl ?_; refine ⟨_, rfl, Fr0.refl _, ?_⟩; exact rfl)
          refine D_cons (D_step2 (js := [(8, 22), (22, 36)]) (by kernel_rfl) fun gd hf => ?_) ?_
          · have hsd := hs.dr.call hf; have hfe := (G.le_dr _).trans hf.le
            refine QA_eq rfl ?_; refine QA_eq rfl ?_
            refine QA_nil ?_
            (refine D_yes rfl ?_; refine OpR_pure _ T.ok rfl ?_; refine ⟨_, rfl, Fr0.refl _, ?_⟩; exact rfl)
          exact D_nil
        intro g1 hf1; refine QA_eq rfl ?_; refine QA_nil ?_
        replace hs := hs.dr.call hf1; have hqe := (G.le_dr _).trans hf1.le; replace le0 := G.le.trans le0 hqe; replace rs0 := rs0.mono hqe
        refine WL_nil ?_; (with_reducible refine T_then ?_)
        refine W_no rfl rfl ?_
        refine W_skip ?_; (with_reducible refine T_bn ?_); (with_reducible refine T_then ?_); refine W_region ?_; (iterate 3 refine P1 T.ok rfl rfl rfl ?_); refine WL_nil ?_
        refine fun a ha => ⟨l.length - (k + 1), by omega, k + 1, _, rfl, hs, le0, by omega, rfl, ?_, ha.keep ⟨rfl, rfl, rfl, kI rfl (by rw [wr (by omega) (by omega)]; omega), trivial⟩⟩
        rw [if_neg (by omega), hnx, ← hno, show decide (k = 0) = true from decide_eq_true hz]; simp
      · have hk1 : k - 1 < l.length := by omega
        have hg1 := geti_of (xs := l) (n := ((k - 1 : Nat) : Int)) rfl hk1
        have e : l.getD (k - 1) 0 = l[k - 1] := by simp [List.getD_eq_getElem?_getD, hk1]
        rw [e, show decide (k = 0) = false from decide_eq_false (by omega), Bool.false_or] at hno
        generalize l[k - 1] = z at *
        by_cases hyz : y ≤ z
        · apply W_draw allF rfl (Fact.eq _ :: Fact.eq _ :: (intPtr y) :: Fact.eq _ :: Fact.eq _ :: Fact.eq _ :: Fact.eq _ :: Fact.eq _ :: Fact.eq _ :: Fact.eq _ :: Fact.eq _ :: Fact.eq _ :: Fact.eq _ :: Fact.eq _ :: (intPtr y) :: Fact.eq _ :: Fact.eq _ :: Fact.eq _ :: Fact.eq _ :: (intPtr z) :: Fact.eq _ :: Fact.eq _ :: Fact.eq _ :: Fact.eq _ :: []) 24 [(23, 37)] rfl rfl
          · refine D_cons (D_step2 (js := []) (by kernel_rfl) fun gd hf => ?_) ?_
            · have hsd := hs.dr.call hf; have hfe := (G.le_dr _).trans hf.le
              refine QA_nil ?_
              (refine D_yes rfl ?_; refine OpR_pure _ T.ok rfl ?_; refine ⟨_, rfl, Fr0.refl _, ?_⟩; exact rfl)
            refine D_cons (D_step2 (js := []) (by kernel_rfl) fun gd hf => ?_) ?_
            · have hsd := hs.dr.call hf; have hfe := (G.le_dr _).trans hf.le
              refine QA_nil ?_
              (refine D_yes rfl ?_; refine OpR_pure _ T.ok rfl ?_; refine ⟨_, rfl, Fr0.refl _, ?_⟩; exact rfl)
            refine D_cons (D_step2 (js := [(0, 14), (1, 15)]) (by kernel_rfl) fun gd hf => ?_) ?_
            · have hsd := hs.dr.call hf; have hfe := (G.le_dr _).trans hf.le
              refine QA_eq rfl ?_; refine QA_eq rfl ?_
              refine QA_nil ?_
              refine D_yes rfl ?_
              refine OpR_idx T.ok rfl (rs0.mono hfe) (y := y) hgk rfl rfl rfl rfl rfl rfl ?_
              intro b p ys hep hrc
              exact ⟨_, rfl, Fr0.refl _, b, p, rfl, by rw [← show ys = [Value.int .i64 (y)] from hrc]; exact hep⟩
            refine D_cons (D_step2 (js := [(2, 16)]) (by kernel_rfl) fun gd hf => ?_) ?_
            · have hsd := hs.dr.call hf; have hfe := (G.le_dr _).trans hf.le
              refine QA_any fun v2 h2 => ?_
              refine QA_nil ?_
              obtain ⟨b, p, rfl, hep⟩ := h2
              refine D_yes rfl ?_
              refine OpR_loadE T.ok 0 rfl hep rfl rfl ?_
              refine ⟨_, rfl, Fr0.refl _, ?_⟩
              exact rfl
            refine D_cons (D_step2 (js := []) (by kernel_rfl) fun gd hf => ?_) ?_
            · have hsd := hs.dr.call hf; have hfe := (G.le_dr _).trans hf.le
              refine QA_nil ?_
              (refine D_yes rfl ?_; refine OpR_pure _ T.ok rfl ?_; refine ⟨_, rfl, Fr0.refl _, ?_⟩; exact rfl)
            refine D_cons (D_step2 (js := []) (by kernel_rfl) fun gd hf => ?_) ?_
            · have hsd := hs.dr.call hf; have hfe := (G.le_dr _).trans hf.le
              refine QA_nil ?_
              (refine D_yes rfl ?_; refine OpR_pure _ T.ok rfl ?_; refine ⟨_, rfl, Fr0.refl _, ?_⟩; exact rfl)
            refine D_cons (D_step2 (js := [(3, 17), (4, 18), (5, 19)]) (by kernel_rfl) fun gd hf => ?_) ?_
            · have hsd := hs.dr.call hf; have hfe := (G.le_dr _).trans hf.le
              refine QA_eq rfl ?_; refine QA_eq rfl ?_; refine QA_eq rfl ?_
              refine QA_nil ?_
              refine D_yes rfl ?_
              refine OpR_ret cl71 allF rfl rfl rfl rfl rfl (rWithin_c _ _ _ _) fun g' v h1 h2 => ⟨g', rfl, h1, ?_⟩
              exact h2.trans (congrArg Value.bool hw)
            refine D_cons (D_step2 (js := [(6, 20)]) (by kernel_rfl) fun gd hf => ?_) ?_
            · have hsd := hs.dr.call hf; have hfe := (G.le_dr _).trans hf.le
              refine QA_eq rfl ?_
              refine QA_nil ?_
              (refine D_yes rfl ?_; refine OpR_pure _ T.ok rfl ?_; refine ⟨_, rfl, Fr0.refl _, ?_⟩; exact rfl)
            refine D_cons (D_step2 (js := [(7, 21)]) (by kernel_rfl) fun gd hf => ?_) ?_
            · have hsd := hs.dr.call hf; have hfe := (G.le_dr _).trans hf.le
              refine QA_eq rfl ?_
              refine QA_nil ?_
              (refine D_yes rfl ?_; refine OpR_pure _ T.ok rfl ?_; refine ⟨_, rfl, Fr0.refl _, ?_⟩; exact rfl)
            refine D_cons (D_step2 (js := [(8, 22)]) (by kernel_rfl) fun gd hf => ?_) ?_
            · have hsd := hs.dr.call hf; have hfe := (G.le_dr _).trans hf.le
              refine QA_eq rfl ?_
              refine QA_nil ?_
              (refine D_yes rfl ?_; refine OpR_pure _ T.ok rfl ?_; refine ⟨_, rfl, Fr0.refl _, ?_⟩; exact rfl)
            refine D_cons (D_step2 (js := [(9, 23), (8, 22)]) (by kernel_rfl) fun gd hf => ?_) ?_
            · have hsd := hs.dr.call hf; have hfe := (G.le_dr _).trans hf.le
              refine QA_eq rfl ?_; refine QA_eq rfl ?_
              refine QA_nil ?_
              refine D_yes rfl ?_
              refine OpR_pure _ T.ok rfl ?_
              refine ⟨_, rfl, Fr0.refl _, ?_⟩
              exact congrArg Value.bool (decide_eq_true (by omega))
            refine D_cons (D_step2 (js := [(10, 24), (8, 22), (8, 22)]) (by kernel_rfl) fun gd hf => ?_) ?_
            · have hsd := hs.dr.call hf; have hfe := (G.le_dr _).trans hf.le
              refine QA_eq rfl ?_; refine QA_eq rfl ?_; refine QA_eq rfl ?_
              refine QA_nil ?_
              (refine D_yes rfl ?_; refine OpR_pure _ T.ok rfl ?_; refine ⟨_, rfl, Fr0.refl _, ?_⟩; exact rfl)
            refine D_cons (D_step2 (js := [(11, 25)]) (by kernel_rfl) fun gd hf => ?_) ?_
            · have hsd := hs.dr.call hf; have hfe := (G.le_dr _).trans hf.le
              refine QA_eq rfl ?_
              refine QA_nil ?_
              (refine D_yes rfl ?_; refine OpR_pure _ T.ok rfl ?_; refine ⟨_, rfl, Fr0.refl _, ?_⟩; exact rfl)
            refine D_cons (D_step2 (js := [(11, 25)]) (by kernel_rfl) fun gd hf => ?_) ?_
            · have hsd := hs.dr.call hf; have hfe := (G.le_dr _).trans hf.le
              refine QA_eq rfl ?_
              refine QA_nil ?_
              (refine D_yes rfl ?_; refine OpR_pure _ T.ok rfl ?_; refine ⟨_, rfl, Fr0.refl _, ?_⟩; exact rfl)
            refine D_cons (D_step2 (js := [(12, 26), (13, 27), (11, 25)]) (by kernel_rfl) fun gd hf => ?_) ?_
            · have hsd := hs.dr.call hf; have hfe := (G.le_dr _).trans hf.le
              refine QA_eq rfl ?_; refine QA_eq rfl ?_; refine QA_eq rfl ?_
              refine QA_nil ?_
              refine D_yes rfl ?_
              refine OpR_idx T.ok rfl (rs0.mono hfe) (y := y) hgk rfl rfl rfl rfl rfl rfl ?_
              intro b p ys hep hrc
              exact ⟨_, rfl, Fr0.refl _, b, p, rfl, by rw [← show ys = [Value.int .i64 (y)] from hrc]; exact hep⟩
            refine D_cons (D_step2 (js := [(14, 28), (11, 25)]) (by kernel_rfl) fun gd hf => ?_) ?_
            · have hsd := hs.dr.call hf; have hfe := (G.le_dr _).trans hf.le
              refine QA_any fun v14 h14 => ?_; refine QA_eq rfl ?_
              refine QA_nil ?_
              obtain ⟨b, p, rfl, hep⟩ := h14
              refine D_yes rfl ?_
              refine OpR_loadE T.ok 0 rfl hep rfl rfl ?_
              refine ⟨_, rfl, Fr0.refl _, ?_⟩
              exact rfl
            refine D_cons (D_step2 (js := [(11, 25)]) (by kernel_rfl) fun gd hf => ?_) ?_
            · have hsd := hs.dr.call hf; have hfe := (G.le_dr _).trans hf.le
              refine QA_eq rfl ?_
              refine QA_nil ?_
              (refine D_yes rfl ?_; refine OpR_pure _ T.ok rfl ?_; refine ⟨_, rfl, Fr0.refl _, ?_⟩; exact rfl)
            refine D_cons (D_step2 (js := [(11, 25)]) (by kernel_rfl) fun gd hf => ?_) ?_
            · have hsd := hs.dr.call hf; have hfe := (G.le_dr _).trans hf.le
              refine QA_eq rfl ?_
              refine QA_nil ?_
              (refine D_yes rfl ?_; refine OpR_pure _ T.ok rfl ?_; refine ⟨_, rfl, Fr0.refl _, ?_⟩; exact rfl)
            refine D_cons (D_step2 (js := [(17, 31), (11, 25)]) (by kernel_rfl) fun gd hf => ?_) ?_
            · have hsd := hs.dr.call hf; have hfe := (G.le_dr _).trans hf.le
              refine QA_eq rfl ?_; refine QA_eq rfl ?_
              refine QA_nil ?_
              refine D_yes rfl ?_
              refine OpR_pure _ T.ok rfl ?_
              refine ⟨_, rfl, Fr0.refl _, ?_⟩
              exact congrArg (Value.int .i64) (show _ = (((k - 1 : Nat)) : Int) from by rw [wr (by omega) (by omega)]; omega)
            refine D_cons (D_step2 (js := [(16, 30), (18, 32), (11, 25)]) (by kernel_rfl) fun gd hf => ?_) ?_
            · have hsd := hs.dr.call hf; have hfe := (G.le_dr _).trans hf.le
              refine QA_eq rfl ?_; refine QA_eq rfl ?_; refine QA_eq rfl ?_
              refine QA_nil ?_
              refine D_yes rfl ?_
              refine OpR_idx T.ok rfl (rs0.mono hfe) (y := z) hg1 rfl rfl rfl rfl rfl rfl ?_
              intro b p ys hep hrc
              exact ⟨_, rfl, Fr0.refl _, b, p, rfl, by rw [← show ys = [Value.int .i64 (z)] from hrc]; exact hep⟩
            refine D_cons (D_step2 (js := [(19, 33), (11, 25)]) (by kernel_rfl) fun gd hf => ?_) ?_
            · have hsd := hs.dr.call hf; have hfe := (G.le_dr _).trans hf.le
              refine QA_any fun v19 h19 => ?_; refine QA_eq rfl ?_
              refine QA_nil ?_
              obtain ⟨b, p, rfl, hep⟩ := h19
              refine D_yes rfl ?_
              refine OpR_loadE T.ok 0 rfl hep rfl rfl ?_
              refine ⟨_, rfl, Fr0.refl _, ?_⟩
              exact rfl
            refine D_cons (D_step2 (js := [(15, 29), (20, 34), (11, 25)]) (by kernel_rfl) fun gd hf => ?_) ?_
            · have hsd := hs.dr.call hf; have hfe := (G.le_dr _).trans hf.le
              refine QA_eq rfl ?_; refine QA_eq rfl ?_; refine QA_eq rfl ?_
              refine QA_nil ?_
              refine D_yes rfl ?_
              refine OpR_pure _ T.ok rfl ?_
              refine ⟨_, rfl, Fr0.refl _, ?_⟩
              exact congrArg Value.bool (decide_eq_true hyz)
            refine D_cons (D_step2 (js := [(11, 25), (21, 35), (8, 22)]) (by kernel_rfl) fun gd hf => ?_) ?_
            · have hsd := hs.dr.call hf; have hfe := (G.le_dr _).trans hf.le
              refine QA_eq rfl ?_; refine QA_eq rfl ?_; refine QA_eq rfl ?_
              refine QA_nil ?_
              (refine D_yes rfl ?_; refine OpR_pure _ T.ok rfl ?_; refine ⟨_, rfl, Fr0.refl _, ?_⟩; exact rfl)
            refine D_cons (D_step2 (js := [(8, 22), (22, 36)]) (by kernel_rfl) fun gd hf => ?_) ?_
            · have hsd := hs.dr.call hf; have hfe := (G.le_dr _).trans hf.le
              refine QA_eq rfl ?_; refine QA_eq rfl ?_
              refine QA_nil ?_
              (refine D_yes rfl ?_; refine OpR_pure _ T.ok rfl ?_; refine ⟨_, rfl, Fr0.refl _, ?_⟩; exact rfl)
            exact D_nil
          intro g1 hf1; refine QA_eq rfl ?_; refine QA_nil ?_
          replace hs := hs.dr.call hf1; have hqe := (G.le_dr _).trans hf1.le; replace le0 := G.le.trans le0 hqe; replace rs0 := rs0.mono hqe
          refine WL_nil ?_; (with_reducible refine T_then ?_)
          refine W_yes rfl rfl ?_
          refine W_seq ?_; refine W_region ?_; refine P1 T.ok rfl rfl rfl ?_; refine WL_nil ?_; (with_reducible refine T_then ?_)
          refine W_ret (ret1 rfl rfl (hs.ret ?_))
          rw [← hno, show decide (z < y) = false from decide_eq_false (by omega), Bool.false_and]
        · apply W_draw allF rfl (Fact.eq _ :: Fact.eq _ :: (intPtr y) :: Fact.eq _ :: Fact.eq _ :: Fact.eq _ :: Fact.eq _ :: Fact.eq _ :: Fact.eq _ :: Fact.eq _ :: Fact.eq _ :: Fact.eq _ :: Fact.eq _ :: Fact.eq _ :: (intPtr y) :: Fact.eq _ :: Fact.eq _ :: Fact.eq _ :: Fact.eq _ :: (intPtr z) :: Fact.eq _ :: Fact.eq _ :: Fact.eq _ :: Fact.eq _ :: []) 24 [(23, 37)] rfl rfl
          · refine D_cons (D_step2 (js := []) (by kernel_rfl) fun gd hf => ?_) ?_
            · have hsd := hs.dr.call hf; have hfe := (G.le_dr _).trans hf.le
              refine QA_nil ?_
              (refine D_yes rfl ?_; refine OpR_pure _ T.ok rfl ?_; refine ⟨_, rfl, Fr0.refl _, ?_⟩; exact rfl)
            refine D_cons (D_step2 (js := []) (by kernel_rfl) fun gd hf => ?_) ?_
            · have hsd := hs.dr.call hf; have hfe := (G.le_dr _).trans hf.le
              refine QA_nil ?_
              (refine D_yes rfl ?_; refine OpR_pure _ T.ok rfl ?_; refine ⟨_, rfl, Fr0.refl _, ?_⟩; exact rfl)
            refine D_cons (D_step2 (js := [(0, 14), (1, 15)]) (by kernel_rfl) fun gd hf => ?_) ?_
            · have hsd := hs.dr.call hf; have hfe := (G.le_dr _).trans hf.le
              refine QA_eq rfl ?_; refine QA_eq rfl ?_
              refine QA_nil ?_
              refine D_yes rfl ?_
              refine OpR_idx T.ok rfl (rs0.mono hfe) (y := y) hgk rfl rfl rfl rfl rfl rfl ?_
              intro b p ys hep hrc
              exact ⟨_, rfl, Fr0.refl _, b, p, rfl, by rw [← show ys = [Value.int .i64 (y)] from hrc]; exact hep⟩
            refine D_cons (D_step2 (js := [(2, 16)]) (by kernel_rfl) fun gd hf => ?_) ?_
            · have hsd := hs.dr.call hf; have hfe := (G.le_dr _).trans hf.le
              refine QA_any fun v2 h2 => ?_
              refine QA_nil ?_
              obtain ⟨b, p, rfl, hep⟩ := h2
              refine D_yes rfl ?_
              refine OpR_loadE T.ok 0 rfl hep rfl rfl ?_
              refine ⟨_, rfl, Fr0.refl _, ?_⟩
              exact rfl
            refine D_cons (D_step2 (js := []) (by kernel_rfl) fun gd hf => ?_) ?_
            · have hsd := hs.dr.call hf; have hfe := (G.le_dr _).trans hf.le
              refine QA_nil ?_
              (refine D_yes rfl ?_; refine OpR_pure _ T.ok rfl ?_; refine ⟨_, rfl, Fr0.refl _, ?_⟩; exact rfl)
            refine D_cons (D_step2 (js := []) (by kernel_rfl) fun gd hf => ?_) ?_
            · have hsd := hs.dr.call hf; have hfe := (G.le_dr _).trans hf.le
              refine QA_nil ?_
              (refine D_yes rfl ?_; refine OpR_pure _ T.ok rfl ?_; refine ⟨_, rfl, Fr0.refl _, ?_⟩; exact rfl)
            refine D_cons (D_step2 (js := [(3, 17), (4, 18), (5, 19)]) (by kernel_rfl) fun gd hf => ?_) ?_
            · have hsd := hs.dr.call hf; have hfe := (G.le_dr _).trans hf.le
              refine QA_eq rfl ?_; refine QA_eq rfl ?_; refine QA_eq rfl ?_
              refine QA_nil ?_
              refine D_yes rfl ?_
              refine OpR_ret cl71 allF rfl rfl rfl rfl rfl (rWithin_c _ _ _ _) fun g' v h1 h2 => ⟨g', rfl, h1, ?_⟩
              exact h2.trans (congrArg Value.bool hw)
            refine D_cons (D_step2 (js := [(6, 20)]) (by kernel_rfl) fun gd hf => ?_) ?_
            · have hsd := hs.dr.call hf; have hfe := (G.le_dr _).trans hf.le
              refine QA_eq rfl ?_
              refine QA_nil ?_
              (refine D_yes rfl ?_; refine OpR_pure _ T.ok rfl ?_; refine ⟨_, rfl, Fr0.refl _, ?_⟩; exact rfl)
            refine D_cons (D_step2 (js := [(7, 21)]) (by kernel_rfl) fun gd hf => ?_) ?_
            · have hsd := hs.dr.call hf; have hfe := (G.le_dr _).trans hf.le
              refine QA_eq rfl ?_
              refine QA_nil ?_
              (refine D_yes rfl ?_; refine OpR_pure _ T.ok rfl ?_; refine ⟨_, rfl, Fr0.refl _, ?_⟩; exact rfl)
            refine D_cons (D_step2 (js := [(8, 22)]) (by kernel_rfl) fun gd hf => ?_) ?_
            · have hsd := hs.dr.call hf; have hfe := (G.le_dr _).trans hf.le
              refine QA_eq rfl ?_
              refine QA_nil ?_
              (refine D_yes rfl ?_; refine OpR_pure _ T.ok rfl ?_; refine ⟨_, rfl, Fr0.refl _, ?_⟩; exact rfl)
            refine D_cons (D_step2 (js := [(9, 23), (8, 22)]) (by kernel_rfl) fun gd hf => ?_) ?_
            · have hsd := hs.dr.call hf; have hfe := (G.le_dr _).trans hf.le
              refine QA_eq rfl ?_; refine QA_eq rfl ?_
              refine QA_nil ?_
              refine D_yes rfl ?_
              refine OpR_pure _ T.ok rfl ?_
              refine ⟨_, rfl, Fr0.refl _, ?_⟩
              exact congrArg Value.bool (decide_eq_true (by omega))
            refine D_cons (D_step2 (js := [(10, 24), (8, 22), (8, 22)]) (by kernel_rfl) fun gd hf => ?_) ?_
            · have hsd := hs.dr.call hf; have hfe := (G.le_dr _).trans hf.le
              refine QA_eq rfl ?_; refine QA_eq rfl ?_; refine QA_eq rfl ?_
              refine QA_nil ?_
              (refine D_yes rfl ?_; refine OpR_pure _ T.ok rfl ?_; refine ⟨_, rfl, Fr0.refl _, ?_⟩; exact rfl)
            refine D_cons (D_step2 (js := [(11, 25)]) (by kernel_rfl) fun gd hf => ?_) ?_
            · have hsd := hs.dr.call hf; have hfe := (G.le_dr _).trans hf.le
              refine QA_eq rfl ?_
              refine QA_nil ?_
              (refine D_yes rfl ?_; refine OpR_pure _ T.ok rfl ?_; refine ⟨_, rfl, Fr0.refl _, ?_⟩; exact rfl)
            refine D_cons (D_step2 (js := [(11, 25)]) (by kernel_rfl) fun gd hf => ?_) ?_
            · have hsd := hs.dr.call hf; have hfe := (G.le_dr _).trans hf.le
              refine QA_eq rfl ?_
              refine QA_nil ?_
              (refine D_yes rfl ?_; refine OpR_pure _ T.ok rfl ?_; refine ⟨_, rfl, Fr0.refl _, ?_⟩; exact rfl)
            refine D_cons (D_step2 (js := [(12, 26), (13, 27), (11, 25)]) (by kernel_rfl) fun gd hf => ?_) ?_
            · have hsd := hs.dr.call hf; have hfe := (G.le_dr _).trans hf.le
              refine QA_eq rfl ?_; refine QA_eq rfl ?_; refine QA_eq rfl ?_
              refine QA_nil ?_
              refine D_yes rfl ?_
              refine OpR_idx T.ok rfl (rs0.mono hfe) (y := y) hgk rfl rfl rfl rfl rfl rfl ?_
              intro b p ys hep hrc
              exact ⟨_, rfl, Fr0.refl _, b, p, rfl, by rw [← show ys = [Value.int .i64 (y)] from hrc]; exact hep⟩
            refine D_cons (D_step2 (js := [(14, 28), (11, 25)]) (by kernel_rfl) fun gd hf => ?_) ?_
            · have hsd := hs.dr.call hf; have hfe := (G.le_dr _).trans hf.le
              refine QA_any fun v14 h14 => ?_; refine QA_eq rfl ?_
              refine QA_nil ?_
              obtain ⟨b, p, rfl, hep⟩ := h14
              refine D_yes rfl ?_
              refine OpR_loadE T.ok 0 rfl hep rfl rfl ?_
              refine ⟨_, rfl, Fr0.refl _, ?_⟩
              exact rfl
            refine D_cons (D_step2 (js := [(11, 25)]) (by kernel_rfl) fun gd hf => ?_) ?_
            · have hsd := hs.dr.call hf; have hfe := (G.le_dr _).trans hf.le
              refine QA_eq rfl ?_
              refine QA_nil ?_
              (refine D_yes rfl ?_; refine OpR_pure _ T.ok rfl ?_; refine ⟨_, rfl, Fr0.refl _, ?_⟩; exact rfl)
            refine D_cons (D_step2 (js := [(11, 25)]) (by kernel_rfl) fun gd hf => ?_) ?_
            · have hsd := hs.dr.call hf; have hfe := (G.le_dr _).trans hf.le
              refine QA_eq rfl ?_
              refine QA_nil ?_
              (refine D_yes rfl ?_; refine OpR_pure _ T.ok rfl ?_; refine ⟨_, rfl, Fr0.refl _, ?_⟩; exact rfl)
            refine D_cons (D_step2 (js := [(17, 31), (11, 25)]) (by kernel_rfl) fun gd hf => ?_) ?_
            · have hsd := hs.dr.call hf; have hfe := (G.le_dr _).trans hf.le
              refine QA_eq rfl ?_; refine QA_eq rfl ?_
              refine QA_nil ?_
              refine D_yes rfl ?_
              refine OpR_pure _ T.ok rfl ?_
              refine ⟨_, rfl, Fr0.refl _, ?_⟩
              exact congrArg (Value.int .i64) (show _ = (((k - 1 : Nat)) : Int) from by rw [wr (by omega) (by omega)]; omega)
            refine D_cons (D_step2 (js := [(16, 30), (18, 32), (11, 25)]) (by kernel_rfl) fun gd hf => ?_) ?_
            · have hsd := hs.dr.call hf; have hfe := (G.le_dr _).trans hf.le
              refine QA_eq rfl ?_; refine QA_eq rfl ?_; refine QA_eq rfl ?_
              refine QA_nil ?_
              refine D_yes rfl ?_
              refine OpR_idx T.ok rfl (rs0.mono hfe) (y := z) hg1 rfl rfl rfl rfl rfl rfl ?_
              intro b p ys hep hrc
              exact ⟨_, rfl, Fr0.refl _, b, p, rfl, by rw [← show ys = [Value.int .i64 (z)] from hrc]; exact hep⟩
            refine D_cons (D_step2 (js := [(19, 33), (11, 25)]) (by kernel_rfl) fun gd hf => ?_) ?_
            · have hsd := hs.dr.call hf; have hfe := (G.le_dr _).trans hf.le
              refine QA_any fun v19 h19 => ?_; refine QA_eq rfl ?_
              refine QA_nil ?_
              obtain ⟨b, p, rfl, hep⟩ := h19
              refine D_yes rfl ?_
              refine OpR_loadE T.ok 0 rfl hep rfl rfl ?_
              refine ⟨_, rfl, Fr0.refl _, ?_⟩
              exact rfl
            refine D_cons (D_step2 (js := [(15, 29), (20, 34), (11, 25)]) (by kernel_rfl) fun gd hf => ?_) ?_
            · have hsd := hs.dr.call hf; have hfe := (G.le_dr _).trans hf.le
              refine QA_eq rfl ?_; refine QA_eq rfl ?_; refine QA_eq rfl ?_
              refine QA_nil ?_
              refine D_yes rfl ?_
              refine OpR_pure _ T.ok rfl ?_
              refine ⟨_, rfl, Fr0.refl _, ?_⟩
              exact congrArg Value.bool (decide_eq_false hyz)
            refine D_cons (D_step2 (js := [(11, 25), (21, 35), (8, 22)]) (by kernel_rfl) fun gd hf => ?_) ?_
            · have hsd := hs.dr.call hf; have hfe := (G.le_dr _).trans hf.le
              refine QA_eq rfl ?_; refine QA_eq rfl ?_; refine QA_eq rfl ?_
              refine QA_nil ?_
              (refine D_yes rfl ?_; refine OpR_pure _ T.ok rfl ?_; refine ⟨_, rfl, Fr0.refl _, ?_⟩; exact rfl)
            refine D_cons (D_step2 (js := [(8, 22), (22, 36)]) (by kernel_rfl) fun gd hf => ?_) ?_
            · have hsd := hs.dr.call hf; have hfe := (G.le_dr _).trans hf.le
              refine QA_eq rfl ?_; refine QA_eq rfl ?_
              refine QA_nil ?_
              (refine D_yes rfl ?_; refine OpR_pure _ T.ok rfl ?_; refine ⟨_, rfl, Fr0.refl _, ?_⟩; exact rfl)
            exact D_nil
          intro g1 hf1; refine QA_eq rfl ?_; refine QA_nil ?_
          replace hs := hs.dr.call hf1; have hqe := (G.le_dr _).trans hf1.le; replace le0 := G.le.trans le0 hqe; replace rs0 := rs0.mono hqe
          refine WL_nil ?_; (with_reducible refine T_then ?_)
          refine W_no rfl rfl ?_
          refine W_skip ?_; (with_reducible refine T_bn ?_); (with_reducible refine T_then ?_); refine W_region ?_; (iterate 3 refine P1 T.ok rfl rfl rfl ?_); refine WL_nil ?_
          refine fun a ha => ⟨l.length - (k + 1), by omega, k + 1, _, rfl, hs, le0, by omega, rfl, ?_, ha.keep ⟨rfl, rfl, rfl, kI rfl (by rw [wr (by omega) (by omega)]; omega), trivial⟩⟩
          rw [if_neg (by omega), hnx, ← hno, show decide (z < y) = true from decide_eq_true (by omega), Bool.true_and]
  · refine W_no (b := decide ((k : Int) < (l.length : Int))) (decide_eq_false (by omega)) rfl ?_
    refine W_exit ?_; (with_reducible refine T_tx ?_; with_reducible refine T_tx ?_); (with_reducible refine T_bx ?_); (with_reducible refine T_then ?_); refine W_seq ?_; refine W_region ?_; refine P1 T.ok rfl rfl rfl ?_; refine WL_nil ?_; (with_reducible refine T_then ?_)
    obtain rfl : k = l.length := by omega
    refine W_ret (ret1 rfl rfl (hs.ret ?_))
    rw [← hno]
    by_cases h0 : l.length = 0
    · rw [if_pos h0, List.eq_nil_of_length_eq_zero h0]; rfl
    · rw [if_neg h0]; simp [ascGo]
end Go.Proofs.Ytijmlfmapfhabaa

/- The walk through the reference's Valid. -/
namespace Go.Proofs.Ytijmlfmapfhabaa
open Go Go.K
set_option maxRecDepth 10000
attribute [local irreducible] W WL OpR
set_option maxHeartbeats 1000000

theorem rStep_c (v : Value) (s : Step) (n : Int) (g : G) (hv : RStepV g v s) (h1 : 0 ≤ n) (h2 : n ≤ 9223372036854775807) :
    CallsIn Wd 0 Try.prog 72 #[v, .int .i64 n] g.w (Ret g fun _ r => r = .bool (rightStep s n)) := by
  obtain ⟨cs, rfl, a1, n1, c1, a2, n2, c2, rfl, hr1, hr2⟩ := hv
  obtain ⟨_, _, e⟩ := hr1.isSlice; obtain ⟨rfl, rfl, rfl⟩ := Value.slice.inj e; clear e
  obtain ⟨_, _, e⟩ := hr2.isSlice; obtain ⟨rfl, rfl, rfl⟩ := Value.slice.inj e; clear e
  have hs := St.start g
  have le0 := G.le.refl g
  have hn : IntKind.i64.wrap (n - 1) = n - 1 := wr (by omega) (by omega)
  refine enter Try.func72 rfl Try.ntmps72 rfl ?_
  refine W_seq ?_; refine W_region ?_
  refine WL_o rfl rfl (OpR_box rfl hs rfl rfl ?_); clear hs; rintro b1 g1 hs hqe; replace le0 := G.le.trans le0 hqe
  refine P1 T.ok rfl rfl rfl ?_; refine WL_nil ?_; (with_reducible refine T_then ?_); refine W_seq ?_; refine W_region ?_; refine P1 T.ok rfl rfl rfl ?_; refine WL_o rfl rfl (OpR_loadO T.ok 0 rfl hs rfl rfl rfl ?_)
  refine WL_o rfl rfl (OpR_ret cl78 allF rfl rfl rfl rfl rfl (rAscending_c _ s.tools _ _ _ (hr1.mono le0)) ?_); rintro g1 _ hf1 rfl; replace hs := hs.call hf1; have hqe := hf1.le; replace le0 := G.le.trans le0 hqe
  refine P1 T.ok rfl rfl rfl ?_; refine WL_nil ?_; (with_reducible refine T_then ?_); refine W_seq ?_; refine W_region ?_; refine P1 T.ok rfl rfl rfl ?_; refine WL_o rfl rfl (OpR_loadO T.ok 0 rfl hs rfl rfl rfl ?_); refine P1 T.ok rfl rfl rfl ?_; refine P1 T.ok rfl rfl rfl ?_
  rw [hn]
  refine WL_o rfl rfl (OpR_ret cl78 allF rfl rfl rfl rfl rfl (rAscending_c _ s.next _ _ _ (hr2.mono le0)) ?_); rintro g1 _ hf1 rfl; replace hs := hs.call hf1; have hqe := hf1.le; replace le0 := G.le.trans le0 hqe
  refine P1 T.ok rfl rfl rfl ?_; refine WL_nil ?_; (with_reducible refine T_then ?_); refine W_seq ?_; refine W_region ?_; refine P1 T.ok rfl rfl rfl ?_; refine WL_o rfl rfl (OpR_loadO T.ok 0 rfl hs rfl rfl rfl ?_); refine P1 T.ok rfl rfl rfl ?_; refine P1 T.ok rfl rfl rfl ?_
  refine WL_seg (want := true) (x := s.limit == 0) 3 allF rfl rfl rfl rfl (.inl ⟨rfl, rfl, rfl⟩) rfl rfl rfl rfl (fun hb Q' hQ' => ?_) (fun g' hf => ?_)
  · refine P1 T.ok rfl rfl rfl ?_; refine WL_o rfl rfl (OpR_loadO T.ok 0 rfl hs rfl rfl rfl ?_); refine P1 T.ok rfl rfl rfl ?_; refine WL_nil ?_
    exact fun a ha => hQ' _ a (Fr0.refl _) (ha.keep (by (repeat (first | exact trivial | refine ⟨rfl, ?_⟩))))
  replace hs := hs.call hf; have hqe := hf.le; replace le0 := G.le.trans le0 hqe
  refine P1 T.ok rfl rfl rfl ?_
  refine WL_seg (want := false) (x := within s.back 0 (n - 1) && within s.limit 1 9) 10 allF rfl rfl rfl rfl (.inr ⟨rfl, rfl, rfl⟩) rfl rfl rfl rfl (fun hb Q' hQ' => ?_) (fun g' hf => ?_)
  · refine P1 T.ok rfl rfl rfl ?_; refine WL_o rfl rfl (OpR_loadO T.ok 0 rfl hs rfl rfl rfl ?_); refine P1 T.ok rfl rfl rfl ?_; refine P1 T.ok rfl rfl rfl ?_
    rw [hn]
    refine WL_o rfl rfl (OpR_ret cl71 allF rfl rfl rfl rfl rfl (rWithin_c _ _ _ _) ?_); rintro g1 _ hf1 rfl; replace hs := hs.call hf1; have hqe := hf1.le; replace le0 := G.le.trans le0 hqe
    refine P1 T.ok rfl rfl rfl ?_
    refine WL_seg (want := true) (x := within s.limit 1 9) 3 allF rfl rfl rfl rfl (.inl ⟨rfl, rfl, rfl⟩) rfl rfl rfl rfl (fun hb Q' hQ' => ?_) (fun g' hf => ?_)
    · refine P1 T.ok rfl rfl rfl ?_; refine WL_o rfl rfl (OpR_loadO T.ok 0 rfl hs rfl rfl rfl ?_)
      refine WL_o rfl rfl (OpR_ret cl71 allF rfl rfl rfl rfl rfl (rWithin_c _ _ _ _) ?_); rintro g1 _ hf1 rfl; replace hs := hs.call hf1; have hqe := hf1.le; replace le0 := G.le.trans le0 hqe
      refine WL_nil ?_
      exact fun a ha => hQ' _ a hf1 (ha.keep (by (repeat (first | exact trivial | refine ⟨rfl, ?_⟩))))
    exact WL_nil fun a ha => hQ' _ a (hf1.trans hf) (ha.keep (by (repeat (first | exact trivial | refine ⟨rfl, ?_⟩))))
  replace hs := hs.call hf; have hqe := hf.le; replace le0 := G.le.trans le0 hqe
  refine P1 T.ok rfl rfl rfl ?_; refine WL_nil ?_; (with_reducible refine T_then ?_); refine W_seq ?_; refine W_region ?_; refine P1 T.ok rfl rfl rfl ?_; refine P1 T.ok rfl rfl rfl ?_
  refine WL_seg (want := true) (x := ascending s.next 0 (n - 1)) 1 allF rfl rfl rfl rfl (.inl ⟨rfl, rfl, rfl⟩) rfl rfl rfl rfl (fun hb Q' hQ' => ?_) (fun g' hf => ?_)
  · refine P1 T.ok rfl rfl rfl ?_; refine WL_nil ?_
    exact fun a ha => hQ' _ a (Fr0.refl _) (ha.keep (by (repeat (first | exact trivial | refine ⟨rfl, ?_⟩))))
  replace hs := hs.call hf; have hqe := hf.le; replace le0 := G.le.trans le0 hqe
  refine P1 T.ok rfl rfl rfl ?_
  refine WL_seg (want := true) (x := (s.back == -1 && s.limit == 0) || (within s.back 0 (n - 1) && within s.limit 1 9)) 1 allF rfl rfl rfl rfl (.inl ⟨rfl, rfl, rfl⟩) rfl rfl rfl rfl (fun hb Q' hQ' => ?_) (fun g' hf => ?_)
  · refine P1 T.ok rfl rfl rfl ?_; refine WL_nil ?_
    exact fun a ha => hQ' _ a (Fr0.refl _) (ha.keep (by (repeat (first | exact trivial | refine ⟨rfl, ?_⟩))))
  replace hs := hs.call hf; have hqe := hf.le; replace le0 := G.le.trans le0 hqe
  refine P1 T.ok rfl rfl rfl ?_
  refine WL_seg (want := true) (x := within s.recipe 1 1000000) 3 allF rfl rfl rfl rfl (.inl ⟨rfl, rfl, rfl⟩) rfl rfl rfl rfl (fun hb Q' hQ' => ?_) (fun g' hf => ?_)
  · refine P1 T.ok rfl rfl rfl ?_; refine WL_o rfl rfl (OpR_loadO T.ok 0 rfl hs rfl rfl rfl ?_)
    refine WL_o rfl rfl (OpR_ret cl71 allF rfl rfl rfl rfl rfl (rWithin_c _ _ _ _) ?_); rintro g1 _ hf1 rfl; replace hs := hs.call hf1; have hqe := hf1.le; replace le0 := G.le.trans le0 hqe
    refine WL_nil ?_
    exact fun a ha => hQ' _ a hf1 (ha.keep (by (repeat (first | exact trivial | refine ⟨rfl, ?_⟩))))
  replace hs := hs.call hf; have hqe := hf.le; replace le0 := G.le.trans le0 hqe
  refine P1 T.ok rfl rfl rfl ?_
  refine WL_seg (want := true) (x := within s.tools.length 1 8) 4 allF rfl rfl rfl rfl (.inl ⟨rfl, rfl, rfl⟩) rfl rfl rfl rfl (fun hb Q' hQ' => ?_) (fun g' hf => ?_)
  · refine P1 T.ok rfl rfl rfl ?_; refine WL_o rfl rfl (OpR_loadO T.ok 0 rfl hs rfl rfl rfl ?_); refine P1 T.ok rfl rfl rfl ?_
    refine WL_o rfl rfl (OpR_ret cl71 allF rfl rfl rfl rfl rfl (rWithin_c _ _ _ _) ?_); rintro g1 _ hf1 rfl; replace hs := hs.call hf1; have hqe := hf1.le; replace le0 := G.le.trans le0 hqe
    refine WL_nil ?_
    exact fun a ha => hQ' _ a hf1 (ha.keep (by (repeat (first | exact trivial | refine ⟨rfl, ?_⟩))))
  replace hs := hs.call hf; have hqe := hf.le; replace le0 := G.le.trans le0 hqe
  refine P1 T.ok rfl rfl rfl ?_
  refine WL_seg (want := true) (x := decide ((s.next.length : Int) ≤ 4)) 4 allF rfl rfl rfl rfl (.inl ⟨rfl, rfl, rfl⟩) rfl rfl rfl rfl (fun hb Q' hQ' => ?_) (fun g' hf => ?_)
  · refine P1 T.ok rfl rfl rfl ?_; refine WL_o rfl rfl (OpR_loadO T.ok 0 rfl hs rfl rfl rfl ?_); refine P1 T.ok rfl rfl rfl ?_; refine P1 T.ok rfl rfl rfl ?_; refine WL_nil ?_
    exact fun a ha => hQ' _ a (Fr0.refl _) (ha.keep (by (repeat (first | exact trivial | refine ⟨rfl, ?_⟩))))
  replace hs := hs.call hf; have hqe := hf.le; replace le0 := G.le.trans le0 hqe
  refine P1 T.ok rfl rfl rfl ?_
  refine WL_seg (want := true) (x := decide (1 ≤ s.min)) 3 allF rfl rfl rfl rfl (.inl ⟨rfl, rfl, rfl⟩) rfl rfl rfl rfl (fun hb Q' hQ' => ?_) (fun g' hf => ?_)
  · refine P1 T.ok rfl rfl rfl ?_; refine WL_o rfl rfl (OpR_loadO T.ok 0 rfl hs rfl rfl rfl ?_); refine P1 T.ok rfl rfl rfl ?_; refine WL_nil ?_
    exact fun a ha => hQ' _ a (Fr0.refl _) (ha.keep (by (repeat (first | exact trivial | refine ⟨rfl, ?_⟩))))
  replace hs := hs.call hf; have hqe := hf.le; replace le0 := G.le.trans le0 hqe
  refine P1 T.ok rfl rfl rfl ?_
  refine WL_seg (want := true) (x := decide (s.min ≤ s.max)) 5 allF rfl rfl rfl rfl (.inl ⟨rfl, rfl, rfl⟩) rfl rfl rfl rfl (fun hb Q' hQ' => ?_) (fun g' hf => ?_)
  · refine P1 T.ok rfl rfl rfl ?_; refine WL_o rfl rfl (OpR_loadO T.ok 0 rfl hs rfl rfl rfl ?_); refine P1 T.ok rfl rfl rfl ?_; refine WL_o rfl rfl (OpR_loadO T.ok 0 rfl hs rfl rfl rfl ?_); refine P1 T.ok rfl rfl rfl ?_; refine WL_nil ?_
    exact fun a ha => hQ' _ a (Fr0.refl _) (ha.keep (by (repeat (first | exact trivial | refine ⟨rfl, ?_⟩))))
  replace hs := hs.call hf; have hqe := hf.le; replace le0 := G.le.trans le0 hqe
  refine P1 T.ok rfl rfl rfl ?_
  refine WL_seg (want := true) (x := decide (s.max ≤ 10000)) 3 allF rfl rfl rfl rfl (.inl ⟨rfl, rfl, rfl⟩) rfl rfl rfl rfl (fun hb Q' hQ' => ?_) (fun g' hf => ?_)
  · refine P1 T.ok rfl rfl rfl ?_; refine WL_o rfl rfl (OpR_loadO T.ok 0 rfl hs rfl rfl rfl ?_); refine P1 T.ok rfl rfl rfl ?_; refine WL_nil ?_
    exact fun a ha => hQ' _ a (Fr0.refl _) (ha.keep (by (repeat (first | exact trivial | refine ⟨rfl, ?_⟩))))
  replace hs := hs.call hf; have hqe := hf.le; replace le0 := G.le.trans le0 hqe
  refine P1 T.ok rfl rfl rfl ?_; refine WL_nil ?_; (with_reducible refine T_then ?_)
  refine W_ret (ret1 rfl rfl (hs.ret ?_))
  unfold rightStep
  generalize ((s.back == -1 && s.limit == 0) || (within s.back 0 (n - 1) && within s.limit 1 9)) = b1
  generalize ascending s.tools 0 59 = b2
  generalize ascending s.next 0 (n - 1) = b3
  generalize within s.recipe 1 1000000 = b4
  generalize within (↑s.tools.length) 1 8 = b5
  generalize decide ((s.next.length : Int) ≤ 4) = b6
  cases b1 <;> cases b2 <;> cases b3 <;> cases b4 <;> cases b5 <;> cases b6 <;> rfl

theorem winsOk_at (n : Int) (l : List Window) (k : Nat) (h : k < l.length) :
    winsOk n (l.take k) (l.drop k) = (rightWindow l[k] n && (if h0 : k = 0 then true else winLess (l[k - 1]'(by omega)) l[k]) && winsOk n (l.take (k + 1)) (l.drop (k + 1))) := by
  rw [List.drop_eq_getElem_cons h, winsOk, List.take_succ_eq_append_getElem h]
  congr 2
  unfold follows
  by_cases h0 : k = 0
  · subst h0; simp
  · rw [dif_neg h0, List.getLast?_eq_getElem?, List.length_take, Nat.min_eq_left (by omega), List.getElem?_take, if_pos (by omega), List.getElem?_eq_getElem (by omega)]
theorem all_take_succ (l : List Step) (p : Step → Bool) (k : Nat) (h : k < l.length) : (l.take (k + 1)).all p = ((l.take k).all p && p l[k]) := by
  rw [List.take_succ_eq_append_getElem h, List.all_append]; simp

def winPtr (w : Window) : Fact :=
  ⟨fun v g => ∃ b p, v = .pointer (some ⟨b, p, none⟩) ∧ EP g b p [.int .i64 w.src, .int .i64 w.dst, .int .i64 w.limit], fun _ _ _ hf ⟨b, p, e, h1⟩ => ⟨b, p, e, h1.mono hf.le⟩⟩









theorem rValid_c (v : Value) (f : Flow) (g : G) (fl0 : RFlow g v f) : CallsIn Wd 0 Try.prog 56 #[v] g.w (Ret g fun _ r => r = .bool (valid f)) := by
  obtain ⟨a1, n1, c1, a2, n2, c2, rfl, rs0, rs1⟩ := id fl0
  obtain ⟨_, _, e⟩ := rs0.isSlice; obtain ⟨rfl, rfl, rfl⟩ := Value.slice.inj e; clear e
  obtain ⟨_, _, e⟩ := rs1.isSlice; obtain ⟨rfl, rfl, rfl⟩ := Value.slice.inj e; clear e
  have hlen := rs0.len_le
  have hlen2 := rs1.len_le
  unfold maxLen at hlen hlen2
  have hs := St.start g
  have le0 := G.le.refl g
  refine enter Try.func56 rfl Try.ntmps56 rfl ?_
  refine W_seq ?_; refine W_region ?_
  refine WL_o rfl rfl (OpR_box rfl hs rfl rfl ?_); clear hs; rintro b1 g1 hs hqe; replace le0 := G.le.trans le0 hqe; replace rs0 := rs0.mono hqe; replace rs1 := rs1.mono hqe; replace fl0 := fl0.mono hqe
  refine P1 T.ok rfl rfl rfl ?_; refine WL_nil ?_; (with_reducible refine T_then ?_); refine W_seq ?_; refine W_region ?_; refine P1 T.ok rfl rfl rfl ?_; refine WL_o rfl rfl (OpR_loadO T.ok 0 rfl hs rfl rfl rfl ?_); refine P1 T.ok rfl rfl rfl ?_; refine P1 T.ok rfl rfl rfl ?_; refine WL_nil ?_; (with_reducible refine T_then ?_); refine W_seq ?_; refine W_seq ?_; refine W_region ?_; refine P1 T.ok rfl rfl rfl ?_; refine WL_o rfl rfl (OpR_loadO T.ok 0 rfl hs rfl rfl rfl ?_); refine P1 T.ok rfl rfl rfl ?_; refine WL_o rfl rfl (OpR_loadO T.ok 0 rfl hs rfl rfl rfl ?_)
  obtain ⟨g2, hw2, hs2, hqe, hep⟩ := hs.fzObj (i := 0) rfl; replace hs := hs2; clear hs2; rw [← hw2]; replace le0 := G.le.trans le0 hqe; replace rs0 := rs0.mono hqe; replace rs1 := rs1.mono hqe; replace fl0 := fl0.mono hqe
  have ep0 := hep
  clear hep
  skip
  refine WL_o rfl rfl (OpR_ret cl70 allF rfl rfl rfl rfl rfl (rMoves_c _ _ _) ?_); rintro g1 _ hf1 rfl; replace hs := hs.call hf1; have hqe := hf1.le; replace le0 := G.le.trans le0 hqe; replace ep0 := ep0.mono hqe; replace rs0 := rs0.mono hqe; replace rs1 := rs1.mono hqe; replace fl0 := fl0.mono hqe
  refine P1 T.ok rfl rfl rfl ?_; refine P1 T.ok rfl rfl rfl ?_
  refine WL_seg (want := false) (x := !within f.steps.length 1 40) 3 allF rfl rfl rfl rfl (.inr ⟨rfl, rfl, rfl⟩) rfl rfl rfl rfl (fun hb Q' hQ' => ?_) (fun g' hf => ?_)
  · refine P1 T.ok rfl rfl rfl ?_
    refine WL_o rfl rfl (OpR_ret cl71 allF rfl rfl rfl rfl rfl (rWithin_c _ _ _ _) ?_); rintro g1 _ hf1 rfl; replace hs := hs.call hf1; have hqe := hf1.le; replace le0 := G.le.trans le0 hqe; replace ep0 := ep0.mono hqe; replace rs0 := rs0.mono hqe; replace rs1 := rs1.mono hqe; replace fl0 := fl0.mono hqe
    refine P1 T.ok rfl rfl rfl ?_; refine WL_nil ?_
    exact fun a ha => hQ' _ a hf1 (ha.keep (by (repeat (first | exact trivial | refine ⟨rfl, ?_⟩))))
  replace hs := hs.call hf; have hqe := hf.le; replace le0 := G.le.trans le0 hqe; replace ep0 := ep0.mono hqe; replace rs0 := rs0.mono hqe; replace rs1 := rs1.mono hqe; replace fl0 := fl0.mono hqe
  refine P1 T.ok rfl rfl rfl ?_
  refine WL_seg (want := false) (x := decide (20 < (f.windows.length : Int))) 4 allF rfl rfl rfl rfl (.inr ⟨rfl, rfl, rfl⟩) rfl rfl rfl rfl (fun hb Q' hQ' => ?_) (fun g' hf => ?_)
  · refine P1 T.ok rfl rfl rfl ?_; refine WL_o rfl rfl (OpR_loadE T.ok 3 rfl ep0 rfl rfl ?_); refine P1 T.ok rfl rfl rfl ?_; refine P1 T.ok rfl rfl rfl ?_; refine WL_nil ?_
    exact fun a ha => hQ' _ a (Fr0.refl _) (ha.keep (by (repeat (first | exact trivial | refine ⟨rfl, ?_⟩))))
  replace hs := hs.call hf; have hqe := hf.le; replace le0 := G.le.trans le0 hqe; replace ep0 := ep0.mono hqe; replace rs0 := rs0.mono hqe; replace rs1 := rs1.mono hqe; replace fl0 := fl0.mono hqe
  refine WL_nil ?_; (with_reducible refine T_then ?_)
  by_cases hbad : ((!((decide (0 ≤ f.moveMin) && decide (f.moveMin ≤ f.moveMax)) && decide (f.moveMax ≤ 10000)) || !within f.steps.length 1 40) || decide (20 < (f.windows.length : Int))) = true
  · refine W_yes hbad rfl ?_
    refine W_seq ?_; refine W_region ?_; refine P1 T.ok rfl rfl rfl ?_; refine WL_nil ?_; (with_reducible refine T_then ?_)
    refine W_ret (ret1 rfl rfl (hs.ret ?_))
    have : valid f = false := by
      simp only [Bool.or_eq_true, Bool.not_eq_true', decide_eq_true_eq] at hbad
      unfold valid rightMoves
      rcases hbad with (h | h) | h
      · rw [h]; simp
      · rw [h]; simp
      · rw [show decide ((f.windows.length : Int) ≤ 20) = false from by simp; omega]; simp
    rw [this]
  refine W_no (Bool.eq_false_iff.2 hbad) rfl ?_
  have hgood : (rightMoves f && within f.steps.length 1 40 && decide ((f.windows.length : Int) ≤ 20)) = true := by
    simp only [Bool.not_eq_true, Bool.or_eq_false_iff, Bool.not_eq_false', decide_eq_false_iff_not] at hbad
    unfold rightMoves
    rw [hbad.1.1, hbad.1.2, show decide ((f.windows.length : Int) ≤ 20) = true from by simp; omega]; rfl
  clear hbad
  refine W_skip ?_; (with_reducible refine T_then ?_); refine W_seq ?_; refine W_seq ?_; refine W_region ?_; refine P1 T.ok rfl rfl rfl ?_; refine WL_nil ?_; (with_reducible refine T_then ?_); refine W_block ?_
  have ep0c := ep0; have rs0c := rs0; have rs1c := rs1; have le8 := G.le.refl g'
  refine W_loop (fun m a' w => ∃ (k : Nat) (g2 : G), w = g2.w ∧ St g g2 [] ∧ G.le g' g2 ∧ k ≤ f.steps.length ∧ m = f.steps.length - k ∧ (f.steps.take k).all (fun s => rightStep s f.steps.length) = true ∧
      Fr 73 [] [(1, .pointer (some ⟨b1, 0, none⟩)), (3, .int .i64 f.steps.length), (4, .int .i64 k)] a') f.steps.length
    (fun a' ha => ⟨0, g', rfl, hs, le8, Nat.zero_le _, rfl, rfl, ha.keep (by (repeat (first | exact trivial | refine ⟨rfl, ?_⟩)))⟩) ?_
  clear hs le8 ep0 rs0 rs1
  rintro m a' _ ⟨k, g2, rfl, hs, le8, hk, rfl, hall, ha'⟩
  have ep0 := ep0c.mono le8; have rs0 := rs0c.mono le8; have rs1 := rs1c.mono le8
  revert a'
  (with_reducible refine T_wp ?_); refine W_seq ?_; refine W_seq ?_; refine W_region ?_; (iterate 3 refine P1 T.ok rfl rfl rfl ?_); refine WL_nil ?_; (with_reducible refine T_then ?_)
  by_cases hlt : k < f.steps.length
  · refine W_yes (b := decide ((k : Int) < (f.steps.length : Int))) (decide_eq_true (by omega)) rfl ?_
    have hts := all_take_succ f.steps (fun s => rightStep s f.steps.length) k hlt
    rw [hall, Bool.true_and] at hts
    have hgk := geti_of (xs := f.steps) (n := (k : Int)) rfl hlt
    have hmem := List.getElem_mem hlt
    generalize f.steps[k] = s at *
    refine W_skip ?_; (with_reducible refine T_then ?_); refine W_seq ?_; refine W_block ?_; refine W_seq ?_; refine W_region ?_; refine P1 T.ok rfl rfl rfl ?_; refine WL_o rfl rfl (OpR_loadE T.ok 2 rfl ep0 rfl rfl ?_); refine P1 T.ok rfl rfl rfl ?_
    refine WL_o rfl rfl (OpR_idx T.ok rfl rs0 (y := s) hgk rfl rfl rfl rfl rfl rfl ?_)
    rintro b q ys hep ⟨b1, b2, b3, b4, b5, b6, rfl, rs3, rs4⟩
    refine WL_o rfl rfl (OpR_loadE T.ok 0 rfl hep rfl rfl ?_)
    clear hep
    refine P1 T.ok rfl rfl rfl ?_
    refine WL_o rfl rfl (OpR_ret cl72 allF rfl rfl rfl rfl rfl (rStep_c _ s _ _ ⟨_, rfl, _, _, _, _, _, _, rfl, rs3, rs4⟩ (by omega) (by omega)) ?_); rintro g1 _ hf1 rfl; replace hs := hs.call hf1; have hqe := hf1.le; replace le8 := G.le.trans le8 hqe; replace ep0 := ep0.mono hqe; replace rs0 := rs0.mono hqe; replace rs1 := rs1.mono hqe; replace rs3 := rs3.mono hqe; replace rs4 := rs4.mono hqe
    refine P1 T.ok rfl rfl rfl ?_; refine WL_nil ?_; (with_reducible refine T_then ?_)
    cases hr : rightStep s f.steps.length with
    | false =>
      refine W_yes rfl rfl ?_
      refine W_seq ?_; refine W_region ?_; refine P1 T.ok rfl rfl rfl ?_; refine WL_nil ?_; (with_reducible refine T_then ?_)
      refine W_ret (ret1 rfl rfl (hs.ret ?_))
      have h1 : (f.steps.all fun s => rightStep s f.steps.length) = false := List.all_eq_false.2 ⟨s, hmem, by rw [hr]; simp⟩
      have : valid f = false := by unfold valid; rw [h1]; simp
      rw [this]
    | true =>
      refine W_no rfl rfl ?_
      refine W_skip ?_; (with_reducible refine T_bn ?_); (with_reducible refine T_then ?_); refine W_region ?_; (iterate 3 refine P1 T.ok rfl rfl rfl ?_); refine WL_nil ?_
      exact fun a ha => ⟨f.steps.length - (k + 1), by omega, k + 1, _, rfl, hs, le8, by omega, rfl, by rw [hts, hr], ha.keep ⟨rfl, rfl, kI rfl (by rw [wr (by omega) (by omega)]; omega), trivial⟩⟩
  · refine W_no (b := decide ((k : Int) < (f.steps.length : Int))) (decide_eq_false (by omega)) rfl ?_
    rw [List.take_of_length_le (by omega)] at hall
    have hvw : valid f = winsOk f.steps.length [] f.windows := by unfold valid; rw [hgood, hall]; rfl
    have hno0 : winsOk f.steps.length (f.windows.take 0) (f.windows.drop 0) = winsOk f.steps.length [] f.windows := by simp
    clear hall hgood
    refine W_exit ?_; (with_reducible refine T_tx ?_; with_reducible refine T_tx ?_); (with_reducible refine T_bx ?_); (with_reducible refine T_then ?_); refine W_seq ?_; refine W_seq ?_; refine W_region ?_; refine P1 T.ok rfl rfl rfl ?_; refine WL_nil ?_; (with_reducible refine T_then ?_); refine W_block ?_
    have ep0d := ep0; have rs1d := rs1; have le9 := G.le.refl g2
    refine W_loop (fun m a' w => ∃ (k : Nat) (g3 : G), w = g3.w ∧ St g g3 [] ∧ G.le g2 g3 ∧ k ≤ f.windows.length ∧ m = f.windows.length - k ∧ winsOk f.steps.length (f.windows.take k) (f.windows.drop k) = winsOk f.steps.length [] f.windows ∧
        Fr 73 [] [(1, .pointer (some ⟨b1, 0, none⟩)), (3, .int .i64 f.steps.length), (5, .int .i64 k)] a') f.windows.length
      (fun a' ha => ⟨0, g2, rfl, hs, le9, Nat.zero_le _, rfl, hno0, ha.keep (by (repeat (first | exact trivial | refine ⟨rfl, ?_⟩)))⟩) ?_
    clear hs le9 ep0 rs0 rs1 hno0
    rintro m a' _ ⟨k, g3, rfl, hs, le9, hk, rfl, hno, ha'⟩
    have ep0 := ep0d.mono le9; have rs1 := rs1d.mono le9
    revert a'
    (with_reducible refine T_wp ?_); refine W_seq ?_; refine W_seq ?_; refine W_region ?_; refine P1 T.ok rfl rfl rfl ?_; refine P1 T.ok rfl rfl rfl ?_; refine WL_o rfl rfl (OpR_loadE T.ok 3 rfl ep0 rfl rfl ?_); refine P1 T.ok rfl rfl rfl ?_; refine P1 T.ok rfl rfl rfl ?_; refine WL_nil ?_; (with_reducible refine T_then ?_)
    by_cases hlt : k < f.windows.length
    · refine W_yes (b := decide ((k : Int) < (f.windows.length : Int))) (decide_eq_true (by omega)) rfl ?_
      rw [winsOk_at _ _ k hlt] at hno
      have hgk := geti_of (xs := f.windows) (n := (k : Int)) rfl hlt
      generalize hwe : f.windows[k] = y at *
      refine W_skip ?_; (with_reducible refine T_then ?_); refine W_seq ?_; refine W_block ?_; refine W_seq ?_
      cases hw : rightWindow y f.steps.length with
      | false =>
        rw [hw, Bool.false_and, Bool.false_and] at hno
        apply W_draw allF rfl (Fact.eq _ :: Fact.eq _ :: Fact.eq _ :: (winPtr y) :: Fact.eq _ :: Fact.eq _ :: Fact.eq _ :: Fact.eq _ :: Fact.eq _ :: Fact.eq _ :: Fact.eq _ :: Fact.eq _ :: Fact.eq _ :: Fact.eq _ :: Fact.eq _ :: Fact.eq _ :: Fact.eq _ :: Fact.eq _ :: Fact.eq _ :: Fact.eq _ :: Fact.eq _ :: Fact.eq _ :: Fact.eq _ :: Fact.eq _ :: Fact.eq _ :: Fact.eq _ :: Fact.eq _ :: []) 27 [(26, 72)] rfl rfl
        · refine D_cons (D_step2 (js := []) (by kernel_rfl) fun gd hf => ?_) ?_
          · have hsd := hs.dr.call hf; have hfe := (G.le_dr _).trans hf.le
            refine QA_nil ?_
            (refine D_yes rfl ?_; refine OpR_pure _ T.ok rfl ?_; refine ⟨_, rfl, Fr0.refl _, ?_⟩; exact rfl)
          refine D_cons (D_step2 (js := [(0, 46)]) (by kernel_rfl) fun gd hf => ?_) ?_
          · have hsd := hs.dr.call hf; have hfe := (G.le_dr _).trans hf.le
            refine QA_eq rfl ?_
            refine QA_nil ?_
            (refine D_yes rfl ?_; refine OpR_loadE T.ok 3 rfl (ep0.mono hfe) rfl rfl ?_; refine ⟨_, rfl, Fr0.refl _, ?_⟩; exact rfl)
          refine D_cons (D_step2 (js := []) (by kernel_rfl) fun gd hf => ?_) ?_
          · have hsd := hs.dr.call hf; have hfe := (G.le_dr _).trans hf.le
            refine QA_nil ?_
            (refine D_yes rfl ?_; refine OpR_pure _ T.ok rfl ?_; refine ⟨_, rfl, Fr0.refl _, ?_⟩; exact rfl)
          refine D_cons (D_step2 (js := [(1, 47), (2, 48)]) (by kernel_rfl) fun gd hf => ?_) ?_
          · have hsd := hs.dr.call hf; have hfe := (G.le_dr _).trans hf.le
            refine QA_eq rfl ?_; refine QA_eq rfl ?_
            refine QA_nil ?_
            refine D_yes rfl ?_
            refine OpR_idx T.ok rfl (rs1.mono hfe) (y := y) hgk rfl rfl rfl rfl rfl rfl ?_
            intro b p ys hep hrc
            exact ⟨_, rfl, Fr0.refl _, b, p, rfl, by rw [← show ys = [Value.int .i64 (y).src, .int .i64 (y).dst, .int .i64 (y).limit] from hrc]; exact hep⟩
          refine D_cons (D_step2 (js := [(3, 49)]) (by kernel_rfl) fun gd hf => ?_) ?_
          · have hsd := hs.dr.call hf; have hfe := (G.le_dr _).trans hf.le
            refine QA_any fun v3 h3 => ?_
            refine QA_nil ?_
            obtain ⟨b, p, rfl, hep⟩ := h3
            refine D_yes rfl ?_
            refine OpR_loadE T.ok 0 rfl hep rfl rfl ?_
            refine ⟨_, rfl, Fr0.refl _, ?_⟩
            exact rfl
          refine D_cons (D_step2 (js := []) (by kernel_rfl) fun gd hf => ?_) ?_
          · have hsd := hs.dr.call hf; have hfe := (G.le_dr _).trans hf.le
            refine QA_nil ?_
            (refine D_yes rfl ?_; refine OpR_pure _ T.ok rfl ?_; refine ⟨_, rfl, Fr0.refl _, ?_⟩; exact rfl)
          refine D_cons (D_step2 (js := [(4, 50), (5, 51)]) (by kernel_rfl) fun gd hf => ?_) ?_
          · have hsd := hs.dr.call hf; have hfe := (G.le_dr _).trans hf.le
            refine QA_eq rfl ?_; refine QA_eq rfl ?_
            refine QA_nil ?_
            refine D_yes rfl ?_
            refine OpR_ret cl73 allF rfl rfl rfl rfl rfl (rWindow_c _ _ _ (by omega) (by omega)) fun g' v h1 h2 => ⟨g', rfl, h1, ?_⟩
            exact h2.trans (congrArg Value.bool hw)
          refine D_cons (D_step2 (js := [(6, 52)]) (by kernel_rfl) fun gd hf => ?_) ?_
          · have hsd := hs.dr.call hf; have hfe := (G.le_dr _).trans hf.le
            refine QA_eq rfl ?_
            refine QA_nil ?_
            (refine D_yes rfl ?_; refine OpR_pure _ T.ok rfl ?_; refine ⟨_, rfl, Fr0.refl _, ?_⟩; exact rfl)
          refine D_cons (D_step2 (js := [(7, 53)]) (by kernel_rfl) fun gd hf => ?_) ?_
          · have hsd := hs.dr.call hf; have hfe := (G.le_dr _).trans hf.le
            refine QA_eq rfl ?_
            refine QA_nil ?_
            (refine D_yes rfl ?_; refine OpR_pure _ T.ok rfl ?_; refine ⟨_, rfl, Fr0.refl _, ?_⟩; exact rfl)
          refine D_cons (D_step2 (js := [(8, 54)]) (by kernel_rfl) fun gd hf => ?_) ?_
          · have hsd := hs.dr.call hf; have hfe := (G.le_dr _).trans hf.le
            refine QA_eq rfl ?_
            refine QA_nil ?_
            (refine D_no rfl ?_; exact rfl)
          refine D_cons (D_step2 (js := [(9, 55), (8, 54)]) (by kernel_rfl) fun gd hf => ?_) ?_
          · have hsd := hs.dr.call hf; have hfe := (G.le_dr _).trans hf.le
            refine QA_eq rfl ?_; refine QA_eq rfl ?_
            refine QA_nil ?_
            (refine D_no rfl ?_; exact rfl)
          refine D_cons (D_step2 (js := [(10, 56), (8, 54), (8, 54)]) (by kernel_rfl) fun gd hf => ?_) ?_
          · have hsd := hs.dr.call hf; have hfe := (G.le_dr _).trans hf.le
            refine QA_eq rfl ?_; refine QA_eq rfl ?_; refine QA_eq rfl ?_
            refine QA_nil ?_
            (refine D_no rfl ?_; exact rfl)
          refine D_cons (D_step2 (js := [(11, 57)]) (by kernel_rfl) fun gd hf => ?_) ?_
          · have hsd := hs.dr.call hf; have hfe := (G.le_dr _).trans hf.le
            refine QA_eq rfl ?_
            refine QA_nil ?_
            (refine D_no rfl ?_; exact rfl)
          refine D_cons (D_step2 (js := [(12, 58), (11, 57)]) (by kernel_rfl) fun gd hf => ?_) ?_
          · have hsd := hs.dr.call hf; have hfe := (G.le_dr _).trans hf.le
            refine QA_eq rfl ?_; refine QA_eq rfl ?_
            refine QA_nil ?_
            (refine D_no rfl ?_; exact rfl)
          refine D_cons (D_step2 (js := [(11, 57)]) (by kernel_rfl) fun gd hf => ?_) ?_
          · have hsd := hs.dr.call hf; have hfe := (G.le_dr _).trans hf.le
            refine QA_eq rfl ?_
            refine QA_nil ?_
            (refine D_no rfl ?_; exact rfl)
          refine D_cons (D_step2 (js := [(14, 60), (11, 57)]) (by kernel_rfl) fun gd hf => ?_) ?_
          · have hsd := hs.dr.call hf; have hfe := (G.le_dr _).trans hf.le
            refine QA_eq rfl ?_; refine QA_eq rfl ?_
            refine QA_nil ?_
            (refine D_no rfl ?_; exact rfl)
          refine D_cons (D_step2 (js := [(13, 59), (15, 61), (11, 57)]) (by kernel_rfl) fun gd hf => ?_) ?_
          · have hsd := hs.dr.call hf; have hfe := (G.le_dr _).trans hf.le
            refine QA_eq rfl ?_; refine QA_eq rfl ?_; refine QA_eq rfl ?_
            refine QA_nil ?_
            (refine D_no rfl ?_; exact rfl)
          refine D_cons (D_step2 (js := [(16, 62), (11, 57)]) (by kernel_rfl) fun gd hf => ?_) ?_
          · have hsd := hs.dr.call hf; have hfe := (G.le_dr _).trans hf.le
            refine QA_eq rfl ?_; refine QA_eq rfl ?_
            refine QA_nil ?_
            (refine D_no rfl ?_; exact rfl)
          refine D_cons (D_step2 (js := [(11, 57)]) (by kernel_rfl) fun gd hf => ?_) ?_
          · have hsd := hs.dr.call hf; have hfe := (G.le_dr _).trans hf.le
            refine QA_eq rfl ?_
            refine QA_nil ?_
            (refine D_no rfl ?_; exact rfl)
          refine D_cons (D_step2 (js := [(18, 64), (11, 57)]) (by kernel_rfl) fun gd hf => ?_) ?_
          · have hsd := hs.dr.call hf; have hfe := (G.le_dr _).trans hf.le
            refine QA_eq rfl ?_; refine QA_eq rfl ?_
            refine QA_nil ?_
            (refine D_no rfl ?_; exact rfl)
          refine D_cons (D_step2 (js := [(11, 57)]) (by kernel_rfl) fun gd hf => ?_) ?_
          · have hsd := hs.dr.call hf; have hfe := (G.le_dr _).trans hf.le
            refine QA_eq rfl ?_
            refine QA_nil ?_
            (refine D_no rfl ?_; exact rfl)
          refine D_cons (D_step2 (js := [(19, 65), (20, 66), (11, 57)]) (by kernel_rfl) fun gd hf => ?_) ?_
          · have hsd := hs.dr.call hf; have hfe := (G.le_dr _).trans hf.le
            refine QA_eq rfl ?_; refine QA_eq rfl ?_; refine QA_eq rfl ?_
            refine QA_nil ?_
            (refine D_no rfl ?_; exact rfl)
          refine D_cons (D_step2 (js := [(21, 67), (11, 57)]) (by kernel_rfl) fun gd hf => ?_) ?_
          · have hsd := hs.dr.call hf; have hfe := (G.le_dr _).trans hf.le
            refine QA_eq rfl ?_; refine QA_eq rfl ?_
            refine QA_nil ?_
            (refine D_no rfl ?_; exact rfl)
          refine D_cons (D_step2 (js := [(17, 63), (22, 68), (11, 57), (11, 57)]) (by kernel_rfl) fun gd hf => ?_) ?_
          · have hsd := hs.dr.call hf; have hfe := (G.le_dr _).trans hf.le
            refine QA_eq rfl ?_; refine QA_eq rfl ?_; refine QA_eq rfl ?_; refine QA_eq rfl ?_
            refine QA_nil ?_
            (refine D_no rfl ?_; exact rfl)
          refine D_cons (D_step2 (js := [(23, 69), (11, 57)]) (by kernel_rfl) fun gd hf => ?_) ?_
          · have hsd := hs.dr.call hf; have hfe := (G.le_dr _).trans hf.le
            refine QA_eq rfl ?_; refine QA_eq rfl ?_
            refine QA_nil ?_
            (refine D_no rfl ?_; exact rfl)
          refine D_cons (D_step2 (js := [(11, 57), (24, 70), (8, 54)]) (by kernel_rfl) fun gd hf => ?_) ?_
          · have hsd := hs.dr.call hf; have hfe := (G.le_dr _).trans hf.le
            refine QA_eq rfl ?_; refine QA_eq rfl ?_; refine QA_eq rfl ?_
            refine QA_nil ?_
            (refine D_no rfl ?_; exact rfl)
          refine D_cons (D_step2 (js := [(8, 54), (25, 71)]) (by kernel_rfl) fun gd hf => ?_) ?_
          · have hsd := hs.dr.call hf; have hfe := (G.le_dr _).trans hf.le
            refine QA_eq rfl ?_; refine QA_eq rfl ?_
            refine QA_nil ?_
            (refine D_yes rfl ?_; refine OpR_pure _ T.ok rfl ?_; refine ⟨_, rfl, Fr0.refl _, ?_⟩; exact rfl)
          exact D_nil
        intro g1 hf1; refine QA_eq rfl ?_; refine QA_nil ?_
        replace hs := hs.dr.call hf1; have hqe := (G.le_dr _).trans hf1.le; replace le9 := G.le.trans le9 hqe; replace ep0 := ep0.mono hqe; replace rs1 := rs1.mono hqe
        refine WL_nil ?_; (with_reducible refine T_then ?_)
        refine W_yes rfl rfl ?_
        refine W_seq ?_; refine W_region ?_; refine P1 T.ok rfl rfl rfl ?_; refine WL_nil ?_; (with_reducible refine T_then ?_)
        refine W_ret (ret1 rfl rfl (hs.ret ?_))
        have : valid f = false := by unfold valid; rw [← hno]; simp
        rw [this]
      | true =>
        rw [hw, Bool.true_and] at hno
        rcases Nat.eq_zero_or_pos k with hz | hz
        · rw [dif_pos hz, Bool.true_and] at hno
          apply W_draw allF rfl (Fact.eq _ :: Fact.eq _ :: Fact.eq _ :: (winPtr y) :: Fact.eq _ :: Fact.eq _ :: Fact.eq _ :: Fact.eq _ :: Fact.eq _ :: Fact.eq _ :: Fact.eq _ :: Fact.eq _ :: Fact.eq _ :: Fact.eq _ :: Fact.eq _ :: Fact.eq _ :: Fact.eq _ :: Fact.eq _ :: Fact.eq _ :: Fact.eq _ :: Fact.eq _ :: Fact.eq _ :: Fact.eq _ :: Fact.eq _ :: Fact.eq _ :: Fact.eq _ :: Fact.eq _ :: []) 27 [(26, 72)] rfl rfl
          · refine D_cons (D_step2 (js := []) (by kernel_rfl) fun gd hf => ?_) ?_
            · have hsd := hs.dr.call hf; have hfe := (G.le_dr _).trans hf.le
              refine QA_nil ?_
              (refine D_yes rfl ?_; refine OpR_pure _ T.ok rfl ?_; refine ⟨_, rfl, Fr0.refl _, ?_⟩; exact rfl)
            refine D_cons (D_step2 (js := [(0, 46)]) (by kernel_rfl) fun gd hf => ?_) ?_
            · have hsd := hs.dr.call hf; have hfe := (G.le_dr _).trans hf.le
              refine QA_eq rfl ?_
              refine QA_nil ?_
              (refine D_yes rfl ?_; refine OpR_loadE T.ok 3 rfl (ep0.mono hfe) rfl rfl ?_; refine ⟨_, rfl, Fr0.refl _, ?_⟩; exact rfl)
            refine D_cons (D_step2 (js := []) (by kernel_rfl) fun gd hf => ?_) ?_
            · have hsd := hs.dr.call hf; have hfe := (G.le_dr _).trans hf.le
              refine QA_nil ?_
              (refine D_yes rfl ?_; refine OpR_pure _ T.ok rfl ?_; refine ⟨_, rfl, Fr0.refl _, ?_⟩; exact rfl)
            refine D_cons (D_step2 (js := [(1, 47), (2, 48)]) (by kernel_rfl) fun gd hf => ?_) ?_
            · have hsd := hs.dr.call hf; have hfe := (G.le_dr _).trans hf.le
              refine QA_eq rfl ?_; refine QA_eq rfl ?_
              refine QA_nil ?_
              refine D_yes rfl ?_
              refine OpR_idx T.ok rfl (rs1.mono hfe) (y := y) hgk rfl rfl rfl rfl rfl rfl ?_
              intro b p ys hep hrc
              exact ⟨_, rfl, Fr0.refl _, b, p, rfl, by rw [← show ys = [Value.int .i64 (y).src, .int .i64 (y).dst, .int .i64 (y).limit] from hrc]; exact hep⟩
            refine D_cons (D_step2 (js := [(3, 49)]) (by kernel_rfl) fun gd hf => ?_) ?_
            · have hsd := hs.dr.call hf; have hfe := (G.le_dr _).trans hf.le
              refine QA_any fun v3 h3 => ?_
              refine QA_nil ?_
              obtain ⟨b, p, rfl, hep⟩ := h3
              refine D_yes rfl ?_
              refine OpR_loadE T.ok 0 rfl hep rfl rfl ?_
              refine ⟨_, rfl, Fr0.refl _, ?_⟩
              exact rfl
            refine D_cons (D_step2 (js := []) (by kernel_rfl) fun gd hf => ?_) ?_
            · have hsd := hs.dr.call hf; have hfe := (G.le_dr _).trans hf.le
              refine QA_nil ?_
              (refine D_yes rfl ?_; refine OpR_pure _ T.ok rfl ?_; refine ⟨_, rfl, Fr0.refl _, ?_⟩; exact rfl)
            refine D_cons (D_step2 (js := [(4, 50), (5, 51)]) (by kernel_rfl) fun gd hf => ?_) ?_
            · have hsd := hs.dr.call hf; have hfe := (G.le_dr _).trans hf.le
              refine QA_eq rfl ?_; refine QA_eq rfl ?_
              refine QA_nil ?_
              refine D_yes rfl ?_
              refine OpR_ret cl73 allF rfl rfl rfl rfl rfl (rWindow_c _ _ _ (by omega) (by omega)) fun g' v h1 h2 => ⟨g', rfl, h1, ?_⟩
              exact h2.trans (congrArg Value.bool hw)
            refine D_cons (D_step2 (js := [(6, 52)]) (by kernel_rfl) fun gd hf => ?_) ?_
            · have hsd := hs.dr.call hf; have hfe := (G.le_dr _).trans hf.le
              refine QA_eq rfl ?_
              refine QA_nil ?_
              (refine D_yes rfl ?_; refine OpR_pure _ T.ok rfl ?_; refine ⟨_, rfl, Fr0.refl _, ?_⟩; exact rfl)
            refine D_cons (D_step2 (js := [(7, 53)]) (by kernel_rfl) fun gd hf => ?_) ?_
            · have hsd := hs.dr.call hf; have hfe := (G.le_dr _).trans hf.le
              refine QA_eq rfl ?_
              refine QA_nil ?_
              (refine D_yes rfl ?_; refine OpR_pure _ T.ok rfl ?_; refine ⟨_, rfl, Fr0.refl _, ?_⟩; exact rfl)
            refine D_cons (D_step2 (js := [(8, 54)]) (by kernel_rfl) fun gd hf => ?_) ?_
            · have hsd := hs.dr.call hf; have hfe := (G.le_dr _).trans hf.le
              refine QA_eq rfl ?_
              refine QA_nil ?_
              (refine D_yes rfl ?_; refine OpR_pure _ T.ok rfl ?_; refine ⟨_, rfl, Fr0.refl _, ?_⟩; exact rfl)
            refine D_cons (D_step2 (js := [(9, 55), (8, 54)]) (by kernel_rfl) fun gd hf => ?_) ?_
            · have hsd := hs.dr.call hf; have hfe := (G.le_dr _).trans hf.le
              refine QA_eq rfl ?_; refine QA_eq rfl ?_
              refine QA_nil ?_
              refine D_yes rfl ?_
              refine OpR_pure _ T.ok rfl ?_
              refine ⟨_, rfl, Fr0.refl _, ?_⟩
              exact congrArg Value.bool (decide_eq_false (by omega))
            refine D_cons (D_step2 (js := [(10, 56), (8, 54), (8, 54)]) (by kernel_rfl) fun gd hf => ?_) ?_
            · have hsd := hs.dr.call hf; have hfe := (G.le_dr _).trans hf.le
              refine QA_eq rfl ?_; refine QA_eq rfl ?_; refine QA_eq rfl ?_
              refine QA_nil ?_
              (refine D_yes rfl ?_; refine OpR_pure _ T.ok rfl ?_; refine ⟨_, rfl, Fr0.refl _, ?_⟩; exact rfl)
            refine D_cons (D_step2 (js := [(11, 57)]) (by kernel_rfl) fun gd hf => ?_) ?_
            · have hsd := hs.dr.call hf; have hfe := (G.le_dr _).trans hf.le
              refine QA_eq rfl ?_
              refine QA_nil ?_
              (refine D_no rfl ?_; exact rfl)
            refine D_cons (D_step2 (js := [(12, 58), (11, 57)]) (by kernel_rfl) fun gd hf => ?_) ?_
            · have hsd := hs.dr.call hf; have hfe := (G.le_dr _).trans hf.le
              refine QA_eq rfl ?_; refine QA_eq rfl ?_
              refine QA_nil ?_
              (refine D_no rfl ?_; exact rfl)
            refine D_cons (D_step2 (js := [(11, 57)]) (by kernel_rfl) fun gd hf => ?_) ?_
            · have hsd := hs.dr.call hf; have hfe := (G.le_dr _).trans hf.le
              refine QA_eq rfl ?_
              refine QA_nil ?_
              (refine D_no rfl ?_; exact rfl)
            refine D_cons (D_step2 (js := [(14, 60), (11, 57)]) (by kernel_rfl) fun gd hf => ?_) ?_
            · have hsd := hs.dr.call hf; have hfe := (G.le_dr _).trans hf.le
              refine QA_eq rfl ?_; refine QA_eq rfl ?_
              refine QA_nil ?_
              (refine D_no rfl ?_; exact rfl)
            refine D_cons (D_step2 (js := [(13, 59), (15, 61), (11, 57)]) (by kernel_rfl) fun gd hf => ?_) ?_
            · have hsd := hs.dr.call hf; have hfe := (G.le_dr _).trans hf.le
              refine QA_eq rfl ?_; refine QA_eq rfl ?_; refine QA_eq rfl ?_
              refine QA_nil ?_
              (refine D_no rfl ?_; exact rfl)
            refine D_cons (D_step2 (js := [(16, 62), (11, 57)]) (by kernel_rfl) fun gd hf => ?_) ?_
            · have hsd := hs.dr.call hf; have hfe := (G.le_dr _).trans hf.le
              refine QA_eq rfl ?_; refine QA_eq rfl ?_
              refine QA_nil ?_
              (refine D_no rfl ?_; exact rfl)
            refine D_cons (D_step2 (js := [(11, 57)]) (by kernel_rfl) fun gd hf => ?_) ?_
            · have hsd := hs.dr.call hf; have hfe := (G.le_dr _).trans hf.le
              refine QA_eq rfl ?_
              refine QA_nil ?_
              (refine D_no rfl ?_; exact rfl)
            refine D_cons (D_step2 (js := [(18, 64), (11, 57)]) (by kernel_rfl) fun gd hf => ?_) ?_
            · have hsd := hs.dr.call hf; have hfe := (G.le_dr _).trans hf.le
              refine QA_eq rfl ?_; refine QA_eq rfl ?_
              refine QA_nil ?_
              (refine D_no rfl ?_; exact rfl)
            refine D_cons (D_step2 (js := [(11, 57)]) (by kernel_rfl) fun gd hf => ?_) ?_
            · have hsd := hs.dr.call hf; have hfe := (G.le_dr _).trans hf.le
              refine QA_eq rfl ?_
              refine QA_nil ?_
              (refine D_no rfl ?_; exact rfl)
            refine D_cons (D_step2 (js := [(19, 65), (20, 66), (11, 57)]) (by kernel_rfl) fun gd hf => ?_) ?_
            · have hsd := hs.dr.call hf; have hfe := (G.le_dr _).trans hf.le
              refine QA_eq rfl ?_; refine QA_eq rfl ?_; refine QA_eq rfl ?_
              refine QA_nil ?_
              (refine D_no rfl ?_; exact rfl)
            refine D_cons (D_step2 (js := [(21, 67), (11, 57)]) (by kernel_rfl) fun gd hf => ?_) ?_
            · have hsd := hs.dr.call hf; have hfe := (G.le_dr _).trans hf.le
              refine QA_eq rfl ?_; refine QA_eq rfl ?_
              refine QA_nil ?_
              (refine D_no rfl ?_; exact rfl)
            refine D_cons (D_step2 (js := [(17, 63), (22, 68), (11, 57), (11, 57)]) (by kernel_rfl) fun gd hf => ?_) ?_
            · have hsd := hs.dr.call hf; have hfe := (G.le_dr _).trans hf.le
              refine QA_eq rfl ?_; refine QA_eq rfl ?_; refine QA_eq rfl ?_; refine QA_eq rfl ?_
              refine QA_nil ?_
              (refine D_no rfl ?_; exact rfl)
            refine D_cons (D_step2 (js := [(23, 69), (11, 57)]) (by kernel_rfl) fun gd hf => ?_) ?_
            · have hsd := hs.dr.call hf; have hfe := (G.le_dr _).trans hf.le
              refine QA_eq rfl ?_; refine QA_eq rfl ?_
              refine QA_nil ?_
              (refine D_no rfl ?_; exact rfl)
            refine D_cons (D_step2 (js := [(11, 57), (24, 70), (8, 54)]) (by kernel_rfl) fun gd hf => ?_) ?_
            · have hsd := hs.dr.call hf; have hfe := (G.le_dr _).trans hf.le
              refine QA_eq rfl ?_; refine QA_eq rfl ?_; refine QA_eq rfl ?_
              refine QA_nil ?_
              (refine D_yes rfl ?_; refine OpR_pure _ T.ok rfl ?_; refine ⟨_, rfl, Fr0.refl _, ?_⟩; exact rfl)
            refine D_cons (D_step2 (js := [(8, 54), (25, 71)]) (by kernel_rfl) fun gd hf => ?_) ?_
            · have hsd := hs.dr.call hf; have hfe := (G.le_dr _).trans hf.le
              refine QA_eq rfl ?_; refine QA_eq rfl ?_
              refine QA_nil ?_
              (refine D_yes rfl ?_; refine OpR_pure _ T.ok rfl ?_; refine ⟨_, rfl, Fr0.refl _, ?_⟩; exact rfl)
            exact D_nil
          intro g1 hf1; refine QA_eq rfl ?_; refine QA_nil ?_
          replace hs := hs.dr.call hf1; have hqe := (G.le_dr _).trans hf1.le; replace le9 := G.le.trans le9 hqe; replace ep0 := ep0.mono hqe; replace rs1 := rs1.mono hqe
          refine WL_nil ?_; (with_reducible refine T_then ?_)
          refine W_no rfl rfl ?_
          refine W_skip ?_; (with_reducible refine T_bn ?_); (with_reducible refine T_then ?_); refine W_region ?_; (iterate 3 refine P1 T.ok rfl rfl rfl ?_); refine WL_nil ?_
          exact fun a ha => ⟨f.windows.length - (k + 1), by omega, k + 1, _, rfl, hs, le9, by omega, rfl, hno, ha.keep ⟨rfl, rfl, kI rfl (by rw [wr (by omega) (by omega)]; omega), trivial⟩⟩
        · have hk1 : k - 1 < f.windows.length := by omega
          have hg1 := geti_of (xs := f.windows) (n := ((k - 1 : Nat) : Int)) rfl hk1
          rw [dif_neg (by omega)] at hno
          generalize f.windows[k - 1] = z at *
          cases hyz : winLess z y with
          | false =>
            rw [hyz, Bool.false_and] at hno
            apply W_draw allF rfl (Fact.eq _ :: Fact.eq _ :: Fact.eq _ :: (winPtr y) :: Fact.eq _ :: Fact.eq _ :: Fact.eq _ :: Fact.eq _ :: Fact.eq _ :: Fact.eq _ :: Fact.eq _ :: Fact.eq _ :: Fact.eq _ :: Fact.eq _ :: Fact.eq _ :: Fact.eq _ :: (winPtr z) :: Fact.eq _ :: Fact.eq _ :: Fact.eq _ :: Fact.eq _ :: (winPtr y) :: Fact.eq _ :: Fact.eq _ :: Fact.eq _ :: Fact.eq _ :: Fact.eq _ :: []) 27 [(26, 72)] rfl rfl
            · refine D_cons (D_step2 (js := []) (by kernel_rfl) fun gd hf => ?_) ?_
              · have hsd := hs.dr.call hf; have hfe := (G.le_dr _).trans hf.le
                refine QA_nil ?_
                (refine D_yes rfl ?_; refine OpR_pure _ T.ok rfl ?_; refine ⟨_, rfl, Fr0.refl _, ?_⟩; exact rfl)
              refine D_cons (D_step2 (js := [(0, 46)]) (by kernel_rfl) fun gd hf => ?_) ?_
              · have hsd := hs.dr.call hf; have hfe := (G.le_dr _).trans hf.le
                refine QA_eq rfl ?_
                refine QA_nil ?_
                (refine D_yes rfl ?_; refine OpR_loadE T.ok 3 rfl (ep0.mono hfe) rfl rfl ?_; refine ⟨_, rfl, Fr0.refl _, ?_⟩; exact rfl)
              refine D_cons (D_step2 (js := []) (by kernel_rfl) fun gd hf => ?_) ?_
              · have hsd := hs.dr.call hf; have hfe := (G.le_dr _).trans hf.le
                refine QA_nil ?_
                (refine D_yes rfl ?_; refine OpR_pure _ T.ok rfl ?_; refine ⟨_, rfl, Fr0.refl _, ?_⟩; exact rfl)
              refine D_cons (D_step2 (js := [(1, 47), (2, 48)]) (by kernel_rfl) fun gd hf => ?_) ?_
              · have hsd := hs.dr.call hf; have hfe := (G.le_dr _).trans hf.le
                refine QA_eq rfl ?_; refine QA_eq rfl ?_
                refine QA_nil ?_
                refine D_yes rfl ?_
                refine OpR_idx T.ok rfl (rs1.mono hfe) (y := y) hgk rfl rfl rfl rfl rfl rfl ?_
                intro b p ys hep hrc
                exact ⟨_, rfl, Fr0.refl _, b, p, rfl, by rw [← show ys = [Value.int .i64 (y).src, .int .i64 (y).dst, .int .i64 (y).limit] from hrc]; exact hep⟩
              refine D_cons (D_step2 (js := [(3, 49)]) (by kernel_rfl) fun gd hf => ?_) ?_
              · have hsd := hs.dr.call hf; have hfe := (G.le_dr _).trans hf.le
                refine QA_any fun v3 h3 => ?_
                refine QA_nil ?_
                obtain ⟨b, p, rfl, hep⟩ := h3
                refine D_yes rfl ?_
                refine OpR_loadE T.ok 0 rfl hep rfl rfl ?_
                refine ⟨_, rfl, Fr0.refl _, ?_⟩
                exact rfl
              refine D_cons (D_step2 (js := []) (by kernel_rfl) fun gd hf => ?_) ?_
              · have hsd := hs.dr.call hf; have hfe := (G.le_dr _).trans hf.le
                refine QA_nil ?_
                (refine D_yes rfl ?_; refine OpR_pure _ T.ok rfl ?_; refine ⟨_, rfl, Fr0.refl _, ?_⟩; exact rfl)
              refine D_cons (D_step2 (js := [(4, 50), (5, 51)]) (by kernel_rfl) fun gd hf => ?_) ?_
              · have hsd := hs.dr.call hf; have hfe := (G.le_dr _).trans hf.le
                refine QA_eq rfl ?_; refine QA_eq rfl ?_
                refine QA_nil ?_
                refine D_yes rfl ?_
                refine OpR_ret cl73 allF rfl rfl rfl rfl rfl (rWindow_c _ _ _ (by omega) (by omega)) fun g' v h1 h2 => ⟨g', rfl, h1, ?_⟩
                exact h2.trans (congrArg Value.bool hw)
              refine D_cons (D_step2 (js := [(6, 52)]) (by kernel_rfl) fun gd hf => ?_) ?_
              · have hsd := hs.dr.call hf; have hfe := (G.le_dr _).trans hf.le
                refine QA_eq rfl ?_
                refine QA_nil ?_
                (refine D_yes rfl ?_; refine OpR_pure _ T.ok rfl ?_; refine ⟨_, rfl, Fr0.refl _, ?_⟩; exact rfl)
              refine D_cons (D_step2 (js := [(7, 53)]) (by kernel_rfl) fun gd hf => ?_) ?_
              · have hsd := hs.dr.call hf; have hfe := (G.le_dr _).trans hf.le
                refine QA_eq rfl ?_
                refine QA_nil ?_
                (refine D_yes rfl ?_; refine OpR_pure _ T.ok rfl ?_; refine ⟨_, rfl, Fr0.refl _, ?_⟩; exact rfl)
              refine D_cons (D_step2 (js := [(8, 54)]) (by kernel_rfl) fun gd hf => ?_) ?_
              · have hsd := hs.dr.call hf; have hfe := (G.le_dr _).trans hf.le
                refine QA_eq rfl ?_
                refine QA_nil ?_
                (refine D_yes rfl ?_; refine OpR_pure _ T.ok rfl ?_; refine ⟨_, rfl, Fr0.refl _, ?_⟩; exact rfl)
              refine D_cons (D_step2 (js := [(9, 55), (8, 54)]) (by kernel_rfl) fun gd hf => ?_) ?_
              · have hsd := hs.dr.call hf; have hfe := (G.le_dr _).trans hf.le
                refine QA_eq rfl ?_; refine QA_eq rfl ?_
                refine QA_nil ?_
                refine D_yes rfl ?_
                refine OpR_pure _ T.ok rfl ?_
                refine ⟨_, rfl, Fr0.refl _, ?_⟩
                exact congrArg Value.bool (decide_eq_true (by omega))
              refine D_cons (D_step2 (js := [(10, 56), (8, 54), (8, 54)]) (by kernel_rfl) fun gd hf => ?_) ?_
              · have hsd := hs.dr.call hf; have hfe := (G.le_dr _).trans hf.le
                refine QA_eq rfl ?_; refine QA_eq rfl ?_; refine QA_eq rfl ?_
                refine QA_nil ?_
                (refine D_yes rfl ?_; refine OpR_pure _ T.ok rfl ?_; refine ⟨_, rfl, Fr0.refl _, ?_⟩; exact rfl)
              refine D_cons (D_step2 (js := [(11, 57)]) (by kernel_rfl) fun gd hf => ?_) ?_
              · have hsd := hs.dr.call hf; have hfe := (G.le_dr _).trans hf.le
                refine QA_eq rfl ?_
                refine QA_nil ?_
                (refine D_yes rfl ?_; refine OpR_pure _ T.ok rfl ?_; refine ⟨_, rfl, Fr0.refl _, ?_⟩; exact rfl)
              refine D_cons (D_step2 (js := [(12, 58), (11, 57)]) (by kernel_rfl) fun gd hf => ?_) ?_
              · have hsd := hs.dr.call hf; have hfe := (G.le_dr _).trans hf.le
                refine QA_eq rfl ?_; refine QA_eq rfl ?_
                refine QA_nil ?_
                (refine D_yes rfl ?_; refine OpR_loadE T.ok 3 rfl (ep0.mono hfe) rfl rfl ?_; refine ⟨_, rfl, Fr0.refl _, ?_⟩; exact rfl)
              refine D_cons (D_step2 (js := [(11, 57)]) (by kernel_rfl) fun gd hf => ?_) ?_
              · have hsd := hs.dr.call hf; have hfe := (G.le_dr _).trans hf.le
                refine QA_eq rfl ?_
                refine QA_nil ?_
                (refine D_yes rfl ?_; refine OpR_pure _ T.ok rfl ?_; refine ⟨_, rfl, Fr0.refl _, ?_⟩; exact rfl)
              refine D_cons (D_step2 (js := [(14, 60), (11, 57)]) (by kernel_rfl) fun gd hf => ?_) ?_
              · have hsd := hs.dr.call hf; have hfe := (G.le_dr _).trans hf.le
                refine QA_eq rfl ?_; refine QA_eq rfl ?_
                refine QA_nil ?_
                refine D_yes rfl ?_
                refine OpR_pure _ T.ok rfl ?_
                refine ⟨_, rfl, Fr0.refl _, ?_⟩
                exact congrArg (Value.int .i64) (show _ = (((k - 1 : Nat)) : Int) from by rw [wr (by omega) (by omega)]; omega)
              refine D_cons (D_step2 (js := [(13, 59), (15, 61), (11, 57)]) (by kernel_rfl) fun gd hf => ?_) ?_
              · have hsd := hs.dr.call hf; have hfe := (G.le_dr _).trans hf.le
                refine QA_eq rfl ?_; refine QA_eq rfl ?_; refine QA_eq rfl ?_
                refine QA_nil ?_
                refine D_yes rfl ?_
                refine OpR_idx T.ok rfl (rs1.mono hfe) (y := z) hg1 rfl rfl rfl rfl rfl rfl ?_
                intro b p ys hep hrc
                exact ⟨_, rfl, Fr0.refl _, b, p, rfl, by rw [← show ys = [Value.int .i64 (z).src, .int .i64 (z).dst, .int .i64 (z).limit] from hrc]; exact hep⟩
              refine D_cons (D_step2 (js := [(16, 62), (11, 57)]) (by kernel_rfl) fun gd hf => ?_) ?_
              · have hsd := hs.dr.call hf; have hfe := (G.le_dr _).trans hf.le
                refine QA_any fun v16 h16 => ?_; refine QA_eq rfl ?_
                refine QA_nil ?_
                obtain ⟨b, p, rfl, hep⟩ := h16
                refine D_yes rfl ?_
                refine OpR_loadE T.ok 0 rfl hep rfl rfl ?_
                refine ⟨_, rfl, Fr0.refl _, ?_⟩
                exact rfl
              refine D_cons (D_step2 (js := [(11, 57)]) (by kernel_rfl) fun gd hf => ?_) ?_
              · have hsd := hs.dr.call hf; have hfe := (G.le_dr _).trans hf.le
                refine QA_eq rfl ?_
                refine QA_nil ?_
                (refine D_yes rfl ?_; refine OpR_pure _ T.ok rfl ?_; refine ⟨_, rfl, Fr0.refl _, ?_⟩; exact rfl)
              refine D_cons (D_step2 (js := [(18, 64), (11, 57)]) (by kernel_rfl) fun gd hf => ?_) ?_
              · have hsd := hs.dr.call hf; have hfe := (G.le_dr _).trans hf.le
                refine QA_eq rfl ?_; refine QA_eq rfl ?_
                refine QA_nil ?_
                (refine D_yes rfl ?_; refine OpR_loadE T.ok 3 rfl (ep0.mono hfe) rfl rfl ?_; refine ⟨_, rfl, Fr0.refl _, ?_⟩; exact rfl)
              refine D_cons (D_step2 (js := [(11, 57)]) (by kernel_rfl) fun gd hf => ?_) ?_
              · have hsd := hs.dr.call hf; have hfe := (G.le_dr _).trans hf.le
                refine QA_eq rfl ?_
                refine QA_nil ?_
                (refine D_yes rfl ?_; refine OpR_pure _ T.ok rfl ?_; refine ⟨_, rfl, Fr0.refl _, ?_⟩; exact rfl)
              refine D_cons (D_step2 (js := [(19, 65), (20, 66), (11, 57)]) (by kernel_rfl) fun gd hf => ?_) ?_
              · have hsd := hs.dr.call hf; have hfe := (G.le_dr _).trans hf.le
                refine QA_eq rfl ?_; refine QA_eq rfl ?_; refine QA_eq rfl ?_
                refine QA_nil ?_
                refine D_yes rfl ?_
                refine OpR_idx T.ok rfl (rs1.mono hfe) (y := y) hgk rfl rfl rfl rfl rfl rfl ?_
                intro b p ys hep hrc
                exact ⟨_, rfl, Fr0.refl _, b, p, rfl, by rw [← show ys = [Value.int .i64 (y).src, .int .i64 (y).dst, .int .i64 (y).limit] from hrc]; exact hep⟩
              refine D_cons (D_step2 (js := [(21, 67), (11, 57)]) (by kernel_rfl) fun gd hf => ?_) ?_
              · have hsd := hs.dr.call hf; have hfe := (G.le_dr _).trans hf.le
                refine QA_any fun v21 h21 => ?_; refine QA_eq rfl ?_
                refine QA_nil ?_
                obtain ⟨b, p, rfl, hep⟩ := h21
                refine D_yes rfl ?_
                refine OpR_loadE T.ok 0 rfl hep rfl rfl ?_
                refine ⟨_, rfl, Fr0.refl _, ?_⟩
                exact rfl
              refine D_cons (D_step2 (js := [(17, 63), (22, 68), (11, 57), (11, 57)]) (by kernel_rfl) fun gd hf => ?_) ?_
              · have hsd := hs.dr.call hf; have hfe := (G.le_dr _).trans hf.le
                refine QA_eq rfl ?_; refine QA_eq rfl ?_; refine QA_eq rfl ?_; refine QA_eq rfl ?_
                refine QA_nil ?_
                refine D_yes rfl ?_
                refine OpR_ret cl74 allF rfl rfl rfl rfl rfl (rAfter_c _ _ _) fun g' v h1 h2 => ⟨g', rfl, h1, ?_⟩
                exact h2.trans (congrArg Value.bool hyz)
              refine D_cons (D_step2 (js := [(23, 69), (11, 57)]) (by kernel_rfl) fun gd hf => ?_) ?_
              · have hsd := hs.dr.call hf; have hfe := (G.le_dr _).trans hf.le
                refine QA_eq rfl ?_; refine QA_eq rfl ?_
                refine QA_nil ?_
                (refine D_yes rfl ?_; refine OpR_pure _ T.ok rfl ?_; refine ⟨_, rfl, Fr0.refl _, ?_⟩; exact rfl)
              refine D_cons (D_step2 (js := [(11, 57), (24, 70), (8, 54)]) (by kernel_rfl) fun gd hf => ?_) ?_
              · have hsd := hs.dr.call hf; have hfe := (G.le_dr _).trans hf.le
                refine QA_eq rfl ?_; refine QA_eq rfl ?_; refine QA_eq rfl ?_
                refine QA_nil ?_
                (refine D_yes rfl ?_; refine OpR_pure _ T.ok rfl ?_; refine ⟨_, rfl, Fr0.refl _, ?_⟩; exact rfl)
              refine D_cons (D_step2 (js := [(8, 54), (25, 71)]) (by kernel_rfl) fun gd hf => ?_) ?_
              · have hsd := hs.dr.call hf; have hfe := (G.le_dr _).trans hf.le
                refine QA_eq rfl ?_; refine QA_eq rfl ?_
                refine QA_nil ?_
                (refine D_yes rfl ?_; refine OpR_pure _ T.ok rfl ?_; refine ⟨_, rfl, Fr0.refl _, ?_⟩; exact rfl)
              exact D_nil
            intro g1 hf1; refine QA_eq rfl ?_; refine QA_nil ?_
            replace hs := hs.dr.call hf1; have hqe := (G.le_dr _).trans hf1.le; replace le9 := G.le.trans le9 hqe; replace ep0 := ep0.mono hqe; replace rs1 := rs1.mono hqe
            refine WL_nil ?_; (with_reducible refine T_then ?_)
            refine W_yes rfl rfl ?_
            refine W_seq ?_; refine W_region ?_; refine P1 T.ok rfl rfl rfl ?_; refine WL_nil ?_; (with_reducible refine T_then ?_)
            refine W_ret (ret1 rfl rfl (hs.ret ?_))
            have : valid f = false := by unfold valid; rw [← hno]; simp
            rw [this]
          | true =>
            rw [hyz, Bool.true_and] at hno
            apply W_draw allF rfl (Fact.eq _ :: Fact.eq _ :: Fact.eq _ :: (winPtr y) :: Fact.eq _ :: Fact.eq _ :: Fact.eq _ :: Fact.eq _ :: Fact.eq _ :: Fact.eq _ :: Fact.eq _ :: Fact.eq _ :: Fact.eq _ :: Fact.eq _ :: Fact.eq _ :: Fact.eq _ :: (winPtr z) :: Fact.eq _ :: Fact.eq _ :: Fact.eq _ :: Fact.eq _ :: (winPtr y) :: Fact.eq _ :: Fact.eq _ :: Fact.eq _ :: Fact.eq _ :: Fact.eq _ :: []) 27 [(26, 72)] rfl rfl
            · refine D_cons (D_step2 (js := []) (by kernel_rfl) fun gd hf => ?_) ?_
              · have hsd := hs.dr.call hf; have hfe := (G.le_dr _).trans hf.le
                refine QA_nil ?_
                (refine D_yes rfl ?_; refine OpR_pure _ T.ok rfl ?_; refine ⟨_, rfl, Fr0.refl _, ?_⟩; exact rfl)
              refine D_cons (D_step2 (js := [(0, 46)]) (by kernel_rfl) fun gd hf => ?_) ?_
              · have hsd := hs.dr.call hf; have hfe := (G.le_dr _).trans hf.le
                refine QA_eq rfl ?_
                refine QA_nil ?_
                (refine D_yes rfl ?_; refine OpR_loadE T.ok 3 rfl (ep0.mono hfe) rfl rfl ?_; refine ⟨_, rfl, Fr0.refl _, ?_⟩; exact rfl)
              refine D_cons (D_step2 (js := []) (by kernel_rfl) fun gd hf => ?_) ?_
              · have hsd := hs.dr.call hf; have hfe := (G.le_dr _).trans hf.le
                refine QA_nil ?_
                (refine D_yes rfl ?_; refine OpR_pure _ T.ok rfl ?_; refine ⟨_, rfl, Fr0.refl _, ?_⟩; exact rfl)
              refine D_cons (D_step2 (js := [(1, 47), (2, 48)]) (by kernel_rfl) fun gd hf => ?_) ?_
              · have hsd := hs.dr.call hf; have hfe := (G.le_dr _).trans hf.le
                refine QA_eq rfl ?_; refine QA_eq rfl ?_
                refine QA_nil ?_
                refine D_yes rfl ?_
                refine OpR_idx T.ok rfl (rs1.mono hfe) (y := y) hgk rfl rfl rfl rfl rfl rfl ?_
                intro b p ys hep hrc
                exact ⟨_, rfl, Fr0.refl _, b, p, rfl, by rw [← show ys = [Value.int .i64 (y).src, .int .i64 (y).dst, .int .i64 (y).limit] from hrc]; exact hep⟩
              refine D_cons (D_step2 (js := [(3, 49)]) (by kernel_rfl) fun gd hf => ?_) ?_
              · have hsd := hs.dr.call hf; have hfe := (G.le_dr _).trans hf.le
                refine QA_any fun v3 h3 => ?_
                refine QA_nil ?_
                obtain ⟨b, p, rfl, hep⟩ := h3
                refine D_yes rfl ?_
                refine OpR_loadE T.ok 0 rfl hep rfl rfl ?_
                refine ⟨_, rfl, Fr0.refl _, ?_⟩
                exact rfl
              refine D_cons (D_step2 (js := []) (by kernel_rfl) fun gd hf => ?_) ?_
              · have hsd := hs.dr.call hf; have hfe := (G.le_dr _).trans hf.le
                refine QA_nil ?_
                (refine D_yes rfl ?_; refine OpR_pure _ T.ok rfl ?_; refine ⟨_, rfl, Fr0.refl _, ?_⟩; exact rfl)
              refine D_cons (D_step2 (js := [(4, 50), (5, 51)]) (by kernel_rfl) fun gd hf => ?_) ?_
              · have hsd := hs.dr.call hf; have hfe := (G.le_dr _).trans hf.le
                refine QA_eq rfl ?_; refine QA_eq rfl ?_
                refine QA_nil ?_
                refine D_yes rfl ?_
                refine OpR_ret cl73 allF rfl rfl rfl rfl rfl (rWindow_c _ _ _ (by omega) (by omega)) fun g' v h1 h2 => ⟨g', rfl, h1, ?_⟩
                exact h2.trans (congrArg Value.bool hw)
              refine D_cons (D_step2 (js := [(6, 52)]) (by kernel_rfl) fun gd hf => ?_) ?_
              · have hsd := hs.dr.call hf; have hfe := (G.le_dr _).trans hf.le
                refine QA_eq rfl ?_
                refine QA_nil ?_
                (refine D_yes rfl ?_; refine OpR_pure _ T.ok rfl ?_; refine ⟨_, rfl, Fr0.refl _, ?_⟩; exact rfl)
              refine D_cons (D_step2 (js := [(7, 53)]) (by kernel_rfl) fun gd hf => ?_) ?_
              · have hsd := hs.dr.call hf; have hfe := (G.le_dr _).trans hf.le
                refine QA_eq rfl ?_
                refine QA_nil ?_
                (refine D_yes rfl ?_; refine OpR_pure _ T.ok rfl ?_; refine ⟨_, rfl, Fr0.refl _, ?_⟩; exact rfl)
              refine D_cons (D_step2 (js := [(8, 54)]) (by kernel_rfl) fun gd hf => ?_) ?_
              · have hsd := hs.dr.call hf; have hfe := (G.le_dr _).trans hf.le
                refine QA_eq rfl ?_
                refine QA_nil ?_
                (refine D_yes rfl ?_; refine OpR_pure _ T.ok rfl ?_; refine ⟨_, rfl, Fr0.refl _, ?_⟩; exact rfl)
              refine D_cons (D_step2 (js := [(9, 55), (8, 54)]) (by kernel_rfl) fun gd hf => ?_) ?_
              · have hsd := hs.dr.call hf; have hfe := (G.le_dr _).trans hf.le
                refine QA_eq rfl ?_; refine QA_eq rfl ?_
                refine QA_nil ?_
                refine D_yes rfl ?_
                refine OpR_pure _ T.ok rfl ?_
                refine ⟨_, rfl, Fr0.refl _, ?_⟩
                exact congrArg Value.bool (decide_eq_true (by omega))
              refine D_cons (D_step2 (js := [(10, 56), (8, 54), (8, 54)]) (by kernel_rfl) fun gd hf => ?_) ?_
              · have hsd := hs.dr.call hf; have hfe := (G.le_dr _).trans hf.le
                refine QA_eq rfl ?_; refine QA_eq rfl ?_; refine QA_eq rfl ?_
                refine QA_nil ?_
                (refine D_yes rfl ?_; refine OpR_pure _ T.ok rfl ?_; refine ⟨_, rfl, Fr0.refl _, ?_⟩; exact rfl)
              refine D_cons (D_step2 (js := [(11, 57)]) (by kernel_rfl) fun gd hf => ?_) ?_
              · have hsd := hs.dr.call hf; have hfe := (G.le_dr _).trans hf.le
                refine QA_eq rfl ?_
                refine QA_nil ?_
                (refine D_yes rfl ?_; refine OpR_pure _ T.ok rfl ?_; refine ⟨_, rfl, Fr0.refl _, ?_⟩; exact rfl)
              refine D_cons (D_step2 (js := [(12, 58), (11, 57)]) (by kernel_rfl) fun gd hf => ?_) ?_
              · have hsd := hs.dr.call hf; have hfe := (G.le_dr _).trans hf.le
                refine QA_eq rfl ?_; refine QA_eq rfl ?_
                refine QA_nil ?_
                (refine D_yes rfl ?_; refine OpR_loadE T.ok 3 rfl (ep0.mono hfe) rfl rfl ?_; refine ⟨_, rfl, Fr0.refl _, ?_⟩; exact rfl)
              refine D_cons (D_step2 (js := [(11, 57)]) (by kernel_rfl) fun gd hf => ?_) ?_
              · have hsd := hs.dr.call hf; have hfe := (G.le_dr _).trans hf.le
                refine QA_eq rfl ?_
                refine QA_nil ?_
                (refine D_yes rfl ?_; refine OpR_pure _ T.ok rfl ?_; refine ⟨_, rfl, Fr0.refl _, ?_⟩; exact rfl)
              refine D_cons (D_step2 (js := [(14, 60), (11, 57)]) (by kernel_rfl) fun gd hf => ?_) ?_
              · have hsd := hs.dr.call hf; have hfe := (G.le_dr _).trans hf.le
                refine QA_eq rfl ?_; refine QA_eq rfl ?_
                refine QA_nil ?_
                refine D_yes rfl ?_
                refine OpR_pure _ T.ok rfl ?_
                refine ⟨_, rfl, Fr0.refl _, ?_⟩
                exact congrArg (Value.int .i64) (show _ = (((k - 1 : Nat)) : Int) from by rw [wr (by omega) (by omega)]; omega)
              refine D_cons (D_step2 (js := [(13, 59), (15, 61), (11, 57)]) (by kernel_rfl) fun gd hf => ?_) ?_
              · have hsd := hs.dr.call hf; have hfe := (G.le_dr _).trans hf.le
                refine QA_eq rfl ?_; refine QA_eq rfl ?_; refine QA_eq rfl ?_
                refine QA_nil ?_
                refine D_yes rfl ?_
                refine OpR_idx T.ok rfl (rs1.mono hfe) (y := z) hg1 rfl rfl rfl rfl rfl rfl ?_
                intro b p ys hep hrc
                exact ⟨_, rfl, Fr0.refl _, b, p, rfl, by rw [← show ys = [Value.int .i64 (z).src, .int .i64 (z).dst, .int .i64 (z).limit] from hrc]; exact hep⟩
              refine D_cons (D_step2 (js := [(16, 62), (11, 57)]) (by kernel_rfl) fun gd hf => ?_) ?_
              · have hsd := hs.dr.call hf; have hfe := (G.le_dr _).trans hf.le
                refine QA_any fun v16 h16 => ?_; refine QA_eq rfl ?_
                refine QA_nil ?_
                obtain ⟨b, p, rfl, hep⟩ := h16
                refine D_yes rfl ?_
                refine OpR_loadE T.ok 0 rfl hep rfl rfl ?_
                refine ⟨_, rfl, Fr0.refl _, ?_⟩
                exact rfl
              refine D_cons (D_step2 (js := [(11, 57)]) (by kernel_rfl) fun gd hf => ?_) ?_
              · have hsd := hs.dr.call hf; have hfe := (G.le_dr _).trans hf.le
                refine QA_eq rfl ?_
                refine QA_nil ?_
                (refine D_yes rfl ?_; refine OpR_pure _ T.ok rfl ?_; refine ⟨_, rfl, Fr0.refl _, ?_⟩; exact rfl)
              refine D_cons (D_step2 (js := [(18, 64), (11, 57)]) (by kernel_rfl) fun gd hf => ?_) ?_
              · have hsd := hs.dr.call hf; have hfe := (G.le_dr _).trans hf.le
                refine QA_eq rfl ?_; refine QA_eq rfl ?_
                refine QA_nil ?_
                (refine D_yes rfl ?_; refine OpR_loadE T.ok 3 rfl (ep0.mono hfe) rfl rfl ?_; refine ⟨_, rfl, Fr0.refl _, ?_⟩; exact rfl)
              refine D_cons (D_step2 (js := [(11, 57)]) (by kernel_rfl) fun gd hf => ?_) ?_
              · have hsd := hs.dr.call hf; have hfe := (G.le_dr _).trans hf.le
                refine QA_eq rfl ?_
                refine QA_nil ?_
                (refine D_yes rfl ?_; refine OpR_pure _ T.ok rfl ?_; refine ⟨_, rfl, Fr0.refl _, ?_⟩; exact rfl)
              refine D_cons (D_step2 (js := [(19, 65), (20, 66), (11, 57)]) (by kernel_rfl) fun gd hf => ?_) ?_
              · have hsd := hs.dr.call hf; have hfe := (G.le_dr _).trans hf.le
                refine QA_eq rfl ?_; refine QA_eq rfl ?_; refine QA_eq rfl ?_
                refine QA_nil ?_
                refine D_yes rfl ?_
                refine OpR_idx T.ok rfl (rs1.mono hfe) (y := y) hgk rfl rfl rfl rfl rfl rfl ?_
                intro b p ys hep hrc
                exact ⟨_, rfl, Fr0.refl _, b, p, rfl, by rw [← show ys = [Value.int .i64 (y).src, .int .i64 (y).dst, .int .i64 (y).limit] from hrc]; exact hep⟩
              refine D_cons (D_step2 (js := [(21, 67), (11, 57)]) (by kernel_rfl) fun gd hf => ?_) ?_
              · have hsd := hs.dr.call hf; have hfe := (G.le_dr _).trans hf.le
                refine QA_any fun v21 h21 => ?_; refine QA_eq rfl ?_
                refine QA_nil ?_
                obtain ⟨b, p, rfl, hep⟩ := h21
                refine D_yes rfl ?_
                refine OpR_loadE T.ok 0 rfl hep rfl rfl ?_
                refine ⟨_, rfl, Fr0.refl _, ?_⟩
                exact rfl
              refine D_cons (D_step2 (js := [(17, 63), (22, 68), (11, 57), (11, 57)]) (by kernel_rfl) fun gd hf => ?_) ?_
              · have hsd := hs.dr.call hf; have hfe := (G.le_dr _).trans hf.le
                refine QA_eq rfl ?_; refine QA_eq rfl ?_; refine QA_eq rfl ?_; refine QA_eq rfl ?_
                refine QA_nil ?_
                refine D_yes rfl ?_
                refine OpR_ret cl74 allF rfl rfl rfl rfl rfl (rAfter_c _ _ _) fun g' v h1 h2 => ⟨g', rfl, h1, ?_⟩
                exact h2.trans (congrArg Value.bool hyz)
              refine D_cons (D_step2 (js := [(23, 69), (11, 57)]) (by kernel_rfl) fun gd hf => ?_) ?_
              · have hsd := hs.dr.call hf; have hfe := (G.le_dr _).trans hf.le
                refine QA_eq rfl ?_; refine QA_eq rfl ?_
                refine QA_nil ?_
                (refine D_yes rfl ?_; refine OpR_pure _ T.ok rfl ?_; refine ⟨_, rfl, Fr0.refl _, ?_⟩; exact rfl)
              refine D_cons (D_step2 (js := [(11, 57), (24, 70), (8, 54)]) (by kernel_rfl) fun gd hf => ?_) ?_
              · have hsd := hs.dr.call hf; have hfe := (G.le_dr _).trans hf.le
                refine QA_eq rfl ?_; refine QA_eq rfl ?_; refine QA_eq rfl ?_
                refine QA_nil ?_
                (refine D_yes rfl ?_; refine OpR_pure _ T.ok rfl ?_; refine ⟨_, rfl, Fr0.refl _, ?_⟩; exact rfl)
              refine D_cons (D_step2 (js := [(8, 54), (25, 71)]) (by kernel_rfl) fun gd hf => ?_) ?_
              · have hsd := hs.dr.call hf; have hfe := (G.le_dr _).trans hf.le
                refine QA_eq rfl ?_; refine QA_eq rfl ?_
                refine QA_nil ?_
                (refine D_yes rfl ?_; refine OpR_pure _ T.ok rfl ?_; refine ⟨_, rfl, Fr0.refl _, ?_⟩; exact rfl)
              exact D_nil
            intro g1 hf1; refine QA_eq rfl ?_; refine QA_nil ?_
            replace hs := hs.dr.call hf1; have hqe := (G.le_dr _).trans hf1.le; replace le9 := G.le.trans le9 hqe; replace ep0 := ep0.mono hqe; replace rs1 := rs1.mono hqe
            refine WL_nil ?_; (with_reducible refine T_then ?_)
            refine W_no rfl rfl ?_
            refine W_skip ?_; (with_reducible refine T_bn ?_); (with_reducible refine T_then ?_); refine W_region ?_; (iterate 3 refine P1 T.ok rfl rfl rfl ?_); refine WL_nil ?_
            exact fun a ha => ⟨f.windows.length - (k + 1), by omega, k + 1, _, rfl, hs, le9, by omega, rfl, hno, ha.keep ⟨rfl, rfl, kI rfl (by rw [wr (by omega) (by omega)]; omega), trivial⟩⟩
    · refine W_no (b := decide ((k : Int) < (f.windows.length : Int))) (decide_eq_false (by omega)) rfl ?_
      rw [List.drop_of_length_le (by omega)] at hno
      refine W_exit ?_; (with_reducible refine T_tx ?_; with_reducible refine T_tx ?_); (with_reducible refine T_bx ?_); (with_reducible refine T_then ?_); refine W_seq ?_; refine W_region ?_; refine P1 T.ok rfl rfl rfl ?_; refine WL_nil ?_; (with_reducible refine T_then ?_)
      refine W_ret (ret1 rfl rfl (hs.ret ?_))
      rw [hvw, ← hno]; rfl
end Go.Proofs.Ytijmlfmapfhabaa

/- The walks through the reference: given, after, Follow. -/
namespace Go.Proofs.Ytijmlfmapfhabaa
open Go Go.K
set_option maxRecDepth 10000
attribute [local irreducible] W WL OpR
set_option maxHeartbeats 1000000

/-- The steps below a bound that follow, in order. -/
def aftTo (s : Step) (k : Nat) : List Int := ((List.range k).filter fun m : Nat => decide ((m : Int) ∈ s.next) || (s.back == (m : Int))).map fun m : Nat => (m : Int)
theorem aftTo_succ (s : Step) (k : Nat) : aftTo s (k + 1) = aftTo s k ++ (if (k : Int) ∈ s.next ∨ s.back = (k : Int) then [(k : Int)] else []) := by
  unfold aftTo
  rw [List.range_succ, List.filter_append, List.map_append]
  congr 1
  by_cases h : (k : Int) ∈ s.next ∨ s.back = (k : Int)
  · rw [if_pos h, List.filter_cons_of_pos (by simpa using h)]; rfl
  · rw [if_neg h, List.filter_cons_of_neg (by simpa using h)]; rfl
theorem aftTo_len (s : Step) (k : Nat) : (aftTo s k).length ≤ k := by
  unfold aftTo; rw [List.length_map]; exact Nat.le_trans (List.length_filter_le _ _) (by simp)
theorem mem_aftTo {s : Step} {k : Nat} {m : Int} : m ∈ aftTo s k ↔ (0 ≤ m ∧ m < k) ∧ (m ∈ s.next ∨ s.back = m) := by
  unfold aftTo
  rw [List.mem_map]
  constructor
  · rintro ⟨a, ha, rfl⟩
    rw [List.mem_filter, List.mem_range] at ha
    exact ⟨by omega, by simpa using ha.2⟩
  · rintro ⟨⟨h0, h1⟩, h2⟩
    refine ⟨m.toNat, ?_, by omega⟩
    rw [List.mem_filter, List.mem_range]
    refine ⟨by omega, ?_⟩
    rw [show ((m.toNat : Nat) : Int) = m from by omega]
    simpa using h2
theorem aftTo_sorted (s : Step) (k : Nat) : (aftTo s k).Pairwise (· < ·) := by
  induction k with
  | zero => simp [aftTo]
  | succ k ih =>
    rw [aftTo_succ, List.pairwise_append]
    refine ⟨ih, by split <;> simp, fun a ha b hb => ?_⟩
    have := (mem_aftTo.1 ha).1
    split at hb
    · rw [List.mem_singleton] at hb; omega
    · simp at hb
/-- Ascending lists with the same elements are equal. -/
theorem sorted_ext : ∀ {l r : List Int}, l.Pairwise (· < ·) → r.Pairwise (· < ·) → (∀ m, m ∈ l ↔ m ∈ r) → l = r
  | [], r, _, _, h => by
    cases r with
    | nil => rfl
    | cons b r => exact absurd ((h b).2 (by simp)) (by simp)
  | a :: l, [], _, _, h => absurd ((h a).1 (by simp)) (by simp)
  | a :: l, b :: r, hl, hr, h => by
    obtain ⟨h1, h2⟩ := List.pairwise_cons.1 hl
    obtain ⟨h3, h4⟩ := List.pairwise_cons.1 hr
    have e : a = b := by
      rcases List.mem_cons.1 ((h a).1 (by simp)) with e | e
      · exact e
      · rcases List.mem_cons.1 ((h b).2 (by simp)) with e' | e'
        · exact e'.symm
        · have := h1 b e'; have := h3 a e; omega
    subst e
    rw [sorted_ext h2 h4 fun m => ?_]
    have hm := h m
    rw [List.mem_cons, List.mem_cons] at hm
    constructor
    · intro hml
      rcases hm.1 (.inr hml) with e | e
      · subst e; exact absurd (h1 m hml) (by omega)
      · exact e
    · intro hmr
      rcases hm.2 (.inr hmr) with e | e
      · subst e; exact absurd (h3 m hmr) (by omega)
      · exact e
theorem aftTo_after {f : Flow} (hval : valid f = true) {n : Int} (hn : InR f n) : aftTo (stepD f n) f.steps.length = afterL (stepD f n) := by
  have hs := follow_sorted f n
  rw [follow_eq hval hn] at hs
  refine sorted_ext (aftTo_sorted _ _) hs fun m => ?_
  rw [mem_aftTo]
  constructor
  · rintro ⟨h0, h1 | h1⟩
    · exact mem_after.2 (.inl h1)
    · exact mem_after.2 (.inr ⟨h1.symm, by omega⟩)
  · intro h
    have hr := after_range hval hn.1 hn.2 m h
    refine ⟨hr, ?_⟩
    rcases mem_after.1 h with h | ⟨h, _⟩
    · exact .inl h
    · exact .inr h.symm

theorem rGiven_c (v : Value) (f : Flow) (n : Int) (g : G) (fl0 : RFlow g v f) : CallsIn Wd 0 Try.prog 44 #[v, .int .i64 n] g.w (Ret g fun _ r => r = .bool (given f [n])) := by
  obtain ⟨a1, n1, c1, a2, n2, c2, rfl, rs0, rs1⟩ := id fl0
  obtain ⟨_, _, e⟩ := rs0.isSlice; obtain ⟨rfl, rfl, rfl⟩ := Value.slice.inj e; clear e
  have hs := St.start g
  have le0 := G.le.refl g
  refine enter Try.func44 rfl Try.ntmps44 rfl ?_
  refine W_seq ?_; refine W_region ?_
  refine WL_o rfl rfl (OpR_box rfl hs rfl rfl ?_); clear hs; rintro b1 g1 hs hqe; replace le0 := G.le.trans le0 hqe; replace rs0 := rs0.mono hqe; replace rs1 := rs1.mono hqe; replace fl0 := fl0.mono hqe
  refine P1 T.ok rfl rfl rfl ?_; refine WL_nil ?_; (with_reducible refine T_then ?_); refine W_seq ?_; refine W_region ?_; refine WL_o rfl rfl (OpR_loadO T.ok 0 rfl hs rfl rfl rfl ?_)
  refine WL_o rfl rfl (OpR_ret cl56 allF rfl rfl rfl rfl rfl (rValid_c _ f _ fl0) ?_); rintro g1 _ hf1 rfl; replace hs := hs.call hf1; have hqe := hf1.le; replace le0 := G.le.trans le0 hqe; replace rs0 := rs0.mono hqe; replace rs1 := rs1.mono hqe; replace fl0 := fl0.mono hqe
  refine P1 T.ok rfl rfl rfl ?_
  refine WL_seg (want := true) (x := decide (0 ≤ n)) 2 allF rfl rfl rfl rfl (.inl ⟨rfl, rfl, rfl⟩) rfl rfl rfl rfl (fun hb Q' hQ' => ?_) (fun g' hf => ?_)
  · refine P1 T.ok rfl rfl rfl ?_; refine P1 T.ok rfl rfl rfl ?_; refine WL_nil ?_
    exact fun a ha => hQ' _ a (Fr0.refl _) (ha.keep (by (repeat (first | exact trivial | refine ⟨rfl, ?_⟩))))
  replace hs := hs.call hf; have hqe := hf.le; replace le0 := G.le.trans le0 hqe; replace rs0 := rs0.mono hqe; replace rs1 := rs1.mono hqe; replace fl0 := fl0.mono hqe
  refine P1 T.ok rfl rfl rfl ?_
  refine WL_seg (want := true) (x := decide (n < (f.steps.length : Int))) 5 allF rfl rfl rfl rfl (.inl ⟨rfl, rfl, rfl⟩) rfl rfl rfl rfl (fun hb Q' hQ' => ?_) (fun g' hf => ?_)
  · refine P1 T.ok rfl rfl rfl ?_; refine P1 T.ok rfl rfl rfl ?_; refine WL_o rfl rfl (OpR_loadO T.ok 0 rfl hs rfl rfl rfl ?_); refine P1 T.ok rfl rfl rfl ?_; refine P1 T.ok rfl rfl rfl ?_; refine WL_nil ?_
    exact fun a ha => hQ' _ a (Fr0.refl _) (ha.keep (by (repeat (first | exact trivial | refine ⟨rfl, ?_⟩))))
  replace hs := hs.call hf; have hqe := hf.le; replace le0 := G.le.trans le0 hqe; replace rs0 := rs0.mono hqe; replace rs1 := rs1.mono hqe; replace fl0 := fl0.mono hqe
  refine P1 T.ok rfl rfl rfl ?_; refine WL_nil ?_; (with_reducible refine T_then ?_)
  refine W_ret (ret1 rfl rfl (hs.ret ?_))
  have : given f [n] = ((valid f && decide (0 ≤ n)) && decide (n < (f.steps.length : Int))) := by
    rw [Bool.eq_iff_iff, given_one]
    unfold InR
    simp [and_assoc]
  rw [this]; rfl

theorem rAfterS_c (v : Value) (f : Flow) (n : Int) (g : G) (fl0 : RFlow g v f) (hval : valid f = true) (h1 : InR f n) :
    CallsIn Wd 0 Try.prog 48 #[v, .int .i64 n] g.w (Ret g (OwnR 3 g (afterL (stepD f n)))) := by
  obtain ⟨a1, n1, c1, a2, n2, c2, rfl, rs0, rs1⟩ := id fl0
  obtain ⟨_, _, e⟩ := rs0.isSlice; obtain ⟨rfl, rfl, rfl⟩ := Value.slice.inj e; clear e
  have hs := St.start g
  have le0 := G.le.refl g
  have hn40 := valid_n hval
  have hp0 := h1.1; have hp1 := h1.2
  rw [← aftTo_after hval h1]
  have hgi := step_geti h1
  generalize stepD f n = s at *
  refine enter Try.func48 rfl Try.ntmps48 rfl ?_
  refine W_seq ?_; refine W_region ?_
  refine WL_o rfl rfl (OpR_box rfl hs rfl rfl ?_); clear hs; rintro b1 g1 hs hqe; replace le0 := G.le.trans le0 hqe; replace rs0 := rs0.mono hqe; replace rs1 := rs1.mono hqe; replace fl0 := fl0.mono hqe
  refine P1 T.ok rfl rfl rfl ?_; refine WL_nil ?_; (with_reducible refine T_then ?_); refine W_seq ?_; refine W_region ?_; refine P1 T.ok rfl rfl rfl ?_; refine WL_nil ?_; (with_reducible refine T_then ?_); refine W_seq ?_; refine W_seq ?_; refine W_region ?_; refine P1 T.ok rfl rfl rfl ?_; refine WL_nil ?_; (with_reducible refine T_then ?_); refine W_block ?_
  obtain ⟨g2, hw2, hs2, hqe, hep⟩ := hs.fzObj (i := 0) rfl; replace hs := hs2; clear hs2; rw [← hw2]; replace le0 := G.le.trans le0 hqe; replace rs0 := rs0.mono hqe; replace rs1 := rs1.mono hqe; replace fl0 := fl0.mono hqe
  have ep0 := hep
  clear hep
  replace hs := hs.nilrow 3 1 none
  skip
  have ep0c := ep0; have rs0c := rs0; have le8 := G.le.refl g2
  refine W_loop (fun m a' w => ∃ (k : Nat) (g3 : G) (u : Value), w = g3.w ∧ St g g3 [.row 3 1 u (aftTo s k).length ((aftTo s k).map (Value.int .i64))] ∧ G.le g2 g3 ∧ k ≤ f.steps.length ∧ m = f.steps.length - k ∧
      Fr 37 [] [(1, .int .i64 n), (2, .pointer (some ⟨b1, 0, none⟩)), (5, u), (6, .int .i64 k)] a') f.steps.length
    (fun a' ha => ⟨0, g2, _, rfl, hs, le8, Nat.zero_le _, rfl, ha.keep (by (repeat (first | exact trivial | refine ⟨rfl, ?_⟩)))⟩) ?_
  clear hs le8 ep0 rs0 rs1
  rintro m a' _ ⟨k, g3, u, rfl, hs, le8, hk, rfl, ha'⟩
  have ep0 := ep0c.mono le8; have rs0 := rs0c.mono le8
  revert a'
  (with_reducible refine T_wp ?_); refine W_seq ?_; refine W_seq ?_; refine W_region ?_; refine P1 T.ok rfl rfl rfl ?_; refine P1 T.ok rfl rfl rfl ?_; refine WL_o rfl rfl (OpR_loadE T.ok 2 rfl ep0 rfl rfl ?_); refine P1 T.ok rfl rfl rfl ?_; refine P1 T.ok rfl rfl rfl ?_; refine WL_nil ?_; (with_reducible refine T_then ?_)
  by_cases hlt : k < f.steps.length
  · refine W_yes (b := decide ((k : Int) < (f.steps.length : Int))) (decide_eq_true (by omega)) rfl ?_
    have hsn := aftTo_succ s k
    have hal := aftTo_len s k
    refine W_skip ?_; (with_reducible refine T_then ?_); refine W_seq ?_; refine W_block ?_; refine W_seq ?_; refine W_region ?_; refine P1 T.ok rfl rfl rfl ?_; refine WL_o rfl rfl (OpR_loadE T.ok 2 rfl ep0 rfl rfl ?_); refine P1 T.ok rfl rfl rfl ?_
    refine WL_o rfl rfl (OpR_idx T.ok rfl rs0 (y := s) hgi rfl rfl rfl rfl rfl rfl ?_)
    rintro b q ys hep ⟨b1, b2, b3, b4, b5, b6, rfl, _, rs4⟩
    obtain ⟨_, _, e⟩ := rs4.isSlice; obtain ⟨rfl, rfl, rfl⟩ := Value.slice.inj e; clear e
    refine WL_o rfl rfl (OpR_pure _ T.ok rfl ?_)
    refine WL_o rfl rfl (OpR_loadE T.ok 4 rfl hep rfl rfl ?_)
    clear hep
    refine P1 T.ok rfl rfl rfl ?_
    refine WL_o rfl rfl (OpR_ret cl31 allF rfl rfl rfl rfl rfl (has_c _ _ _ _ rs4) ?_); rintro g1 _ hf1 rfl; replace hs := hs.call hf1; have hqe := hf1.le; replace le8 := G.le.trans le8 hqe; replace ep0 := ep0.mono hqe; replace rs0 := rs0.mono hqe; replace rs4 := rs4.mono hqe
    refine P1 T.ok rfl rfl rfl ?_
    refine WL_seg (want := false) (x := s.back == (k : Int)) 8 allF rfl rfl rfl rfl (.inr ⟨rfl, rfl, rfl⟩) rfl rfl rfl rfl (fun hb Q' hQ' => ?_) (fun g' hf => ?_)
    · refine P1 T.ok rfl rfl rfl ?_; refine WL_o rfl rfl (OpR_loadE T.ok 2 rfl ep0 rfl rfl ?_); refine P1 T.ok rfl rfl rfl ?_
      refine WL_o rfl rfl (OpR_idx T.ok rfl rs0 (y := s) hgi rfl rfl rfl rfl rfl rfl ?_)
      rintro b q ys hep ⟨b1, b2, b3, b4, b5, b6, rfl, _, rs4⟩
      refine WL_o rfl rfl (OpR_pure _ T.ok rfl ?_)
      refine WL_o rfl rfl (OpR_loadE T.ok 5 rfl hep rfl rfl ?_)
      refine P1 T.ok rfl rfl rfl ?_; refine P1 T.ok rfl rfl rfl ?_; refine WL_nil ?_
      exact fun a ha => hQ' _ a (Fr0.refl _) (ha.keep (by (repeat (first | exact trivial | refine ⟨rfl, ?_⟩))))
    replace hs := hs.call hf; have hqe := hf.le; replace le8 := G.le.trans le8 hqe; replace ep0 := ep0.mono hqe; replace rs0 := rs0.mono hqe; replace rs4 := rs4.mono hqe
    refine WL_nil ?_; (with_reducible refine T_then ?_)
    by_cases hc : (k : Int) ∈ s.next ∨ s.back = (k : Int)
    · rw [if_pos hc] at hsn
      refine W_yes (b := decide ((k : Int) ∈ s.next) || (s.back == (k : Int))) (by simpa using hc) rfl ?_
      refine W_region ?_; refine P1 T.ok rfl rfl rfl ?_; refine P1 T.ok rfl rfl rfl ?_
      refine WL_o rfl rfl (OpR_lit T.ok rfl hs (vs := [(0, .int .i64 k)]) (cells := [.int .i64 k]) rfl rfl rfl rfl rfl rfl (by decide) (by decide) (by kernel_rfl) rfl ?_); rintro bl gl hs hqe; replace le8 := G.le.trans le8 hqe; replace ep0 := ep0.mono hqe; replace rs0 := rs0.mono hqe; replace rs4 := rs4.mono hqe
      skip
      refine WL_o rfl rfl (OpR_append T.ok 1 rfl hs rfl rfl rfl rfl rfl rfl rfl (by decide) rfl (Src.of_row (hs.own 0 _ rfl).1).2 (by simp [Value.oneCell']) (by show ((aftTo s k).length + 1) * 8 ≤ _; omega) (by unfold maxLen; omega) ?_); rintro a9 c9 g9 hs hqe; replace le8 := G.le.trans le8 hqe; replace ep0 := ep0.mono hqe; replace rs0 := rs0.mono hqe; replace rs4 := rs4.mono hqe
      refine P1 T.ok rfl rfl rfl ?_; refine WL_nil ?_; (with_reducible refine T_bn ?_); (with_reducible refine T_then ?_); refine W_region ?_; (iterate 3 refine P1 T.ok rfl rfl rfl ?_); refine WL_nil ?_
      exact fun a ha => ⟨f.steps.length - (k + 1), by omega, k + 1, _, .slice a9 ((aftTo s k).length + 1) c9, rfl, by rw [hsn]; simpa using hs.drop 0, le8, by omega, rfl, ha.keep ⟨rfl, rfl, rfl, kI rfl (by rw [wr (by omega) (by omega)]; omega), trivial⟩⟩
    · rw [if_neg hc, List.append_nil] at hsn
      refine W_no (b := decide ((k : Int) ∈ s.next) || (s.back == (k : Int))) (by simpa using hc) rfl ?_
      refine W_skip ?_; (with_reducible refine T_bn ?_); (with_reducible refine T_then ?_); refine W_region ?_; (iterate 3 refine P1 T.ok rfl rfl rfl ?_); refine WL_nil ?_
      exact fun a ha => ⟨f.steps.length - (k + 1), by omega, k + 1, _, u, rfl, by rw [hsn]; exact hs, le8, by omega, rfl, ha.keep ⟨rfl, rfl, rfl, kI rfl (by rw [wr (by omega) (by omega)]; omega), trivial⟩⟩
  · refine W_no (b := decide ((k : Int) < (f.steps.length : Int))) (decide_eq_false (by omega)) rfl ?_
    obtain rfl : k = f.steps.length := by omega
    refine W_exit ?_; (with_reducible refine T_tx ?_; with_reducible refine T_tx ?_); (with_reducible refine T_bx ?_); (with_reducible refine T_then ?_); refine W_seq ?_; refine W_region ?_; refine P1 T.ok rfl rfl rfl ?_; refine P1 T.ok rfl rfl rfl ?_; refine WL_nil ?_; (with_reducible refine T_then ?_)
    exact W_ret (ret1 rfl rfl (hs.ret (hs.toOwn (i := 0) rfl (RcL.ints _ _))))

theorem rFollow_c (v : Value) (f : Flow) (n : Int) (g : G) (fl0 : RFlow g v f) :
    CallsIn Wd 0 Try.prog 28 #[v, .int .i64 n] g.w (Ret g (OwnR 3 g (follow f n))) := by
  obtain ⟨a1, n1, c1, a2, n2, c2, rfl, rs0, rs1⟩ := id fl0
  have hs := St.start g
  have le0 := G.le.refl g
  refine enter Try.func28 rfl Try.ntmps28 rfl ?_
  refine W_seq ?_; refine W_region ?_
  refine WL_o rfl rfl (OpR_box rfl hs rfl rfl ?_); clear hs; rintro b1 g1 hs hqe; replace le0 := G.le.trans le0 hqe; replace rs0 := rs0.mono hqe; replace rs1 := rs1.mono hqe; replace fl0 := fl0.mono hqe
  refine P1 T.ok rfl rfl rfl ?_; refine WL_nil ?_; (with_reducible refine T_then ?_); refine W_seq ?_; refine W_seq ?_; refine W_region ?_; refine WL_o rfl rfl (OpR_loadO T.ok 0 rfl hs rfl rfl rfl ?_); refine P1 T.ok rfl rfl rfl ?_
  obtain ⟨g2, hw2, hs2, hqe, hep⟩ := hs.fzObj (i := 0) rfl; replace hs := hs2; clear hs2; rw [← hw2]; replace le0 := G.le.trans le0 hqe; replace rs0 := rs0.mono hqe; replace rs1 := rs1.mono hqe; replace fl0 := fl0.mono hqe
  have ep0 := hep
  clear hep
  skip
  refine WL_o rfl rfl (OpR_ret cl44 allF rfl rfl rfl rfl rfl (rGiven_c _ f n _ fl0) ?_); rintro g1 _ hf1 rfl; replace hs := hs.call hf1; have hqe := hf1.le; replace le0 := G.le.trans le0 hqe; replace ep0 := ep0.mono hqe; replace rs0 := rs0.mono hqe; replace rs1 := rs1.mono hqe; replace fl0 := fl0.mono hqe
  refine P1 T.ok rfl rfl rfl ?_; refine WL_nil ?_; (with_reducible refine T_then ?_)
  cases hg : given f [n] with
  | false =>
    refine W_yes rfl rfl ?_
    refine W_seq ?_; refine W_region ?_; refine P1 T.ok rfl rfl rfl ?_; refine WL_nil ?_; (with_reducible refine T_then ?_)
    refine W_ret (ret1 rfl rfl (hs.ret ?_))
    unfold follow; rw [hg]; exact OwnR.nil _ _ _ _
  | true =>
    refine W_no rfl rfl ?_
    obtain ⟨hval, hn⟩ := given_one.1 hg
    rw [follow_eq hval hn]
    refine W_skip ?_; (with_reducible refine T_then ?_); refine W_seq ?_; refine W_region ?_; refine WL_o rfl rfl (OpR_loadE T.ok 0 rfl ep0 rfl rfl ?_); refine P1 T.ok rfl rfl rfl ?_
    refine WL_o rfl rfl (OpR_ret cl48 allF rfl rfl rfl rfl rfl (rAfterS_c _ f n _ fl0 hval hn) ?_); rintro g4 v hf4 ⟨cells, h1, h2⟩
    replace hs := hs.getOwn hf4 h1
    refine P1 T.ok rfl rfl rfl ?_; refine WL_nil ?_; (with_reducible refine T_then ?_)
    exact W_ret (ret1 rfl rfl (hs.ret (hs.toOwn (i := 0) rfl h2)))
end Go.Proofs.Ytijmlfmapfhabaa
