/- The walks through package graph: following and reaching. -/
import Derived.Test.YtijmlfmapfhabaaFa
import Derived.Test.YtijmlfmapfhabaaMa
import Derived.Test.YtijmlfmapfhabaaKc

/- The walks through package graph: isEnd, given, after. -/
namespace Go.Proofs.Ytijmlfmapfhabaa
open Go Go.K
set_option maxRecDepth 10000
attribute [local irreducible] W WL OpR
set_option maxHeartbeats 1000000

theorem isEnd_c (v : Value) (s : Step) (g : G) (st0 : RStepV g v s) :
    CallsIn Wd 0 Try.prog 40 #[v] g.w (Ret g fun _ r => r = .bool (isEnd s)) := by
  obtain ⟨cs, rfl, a1, n1, c1, a2, n2, c2, rfl, rs0, rs1⟩ := st0
  obtain ⟨_, _, e⟩ := rs1.isSlice; obtain ⟨rfl, rfl, rfl⟩ := Value.slice.inj e; clear e
  have hs := St.start g
  refine enter Try.func40 rfl Try.ntmps40 rfl ?_
  refine W_seq ?_; refine W_region ?_
  refine WL_o rfl rfl (OpR_box rfl hs rfl rfl ?_); clear hs; rintro b1 g1 hs hqe; replace rs0 := rs0.mono hqe; replace rs1 := rs1.mono hqe
  refine P1 T.ok rfl rfl rfl ?_; refine WL_nil ?_; (with_reducible refine T_then ?_); refine W_seq ?_; refine W_region ?_; refine P1 T.ok rfl rfl rfl ?_; refine WL_o rfl rfl (OpR_loadO T.ok 0 rfl hs rfl rfl rfl ?_); (iterate 3 refine P1 T.ok rfl rfl rfl ?_); refine WL_nil ?_; (with_reducible refine T_then ?_)
  exact W_ret (ret1 rfl rfl (hs.ret rfl))

/-- The cells of a flow. -/
def RFlowC (g : G) (cs : List Value) (f : Flow) : Prop :=
  ∃ a1 n1 c1 a2 n2 c2, cs = [.int .i64 f.moveMin, .int .i64 f.moveMax, .slice a1 n1 c1, .slice a2 n2 c2] ∧ Rs g (.slice a1 n1 c1) f.steps ∧ Rs g (.slice a2 n2 c2) f.windows
theorem RFlowC.mono {g g' : G} {cs : List Value} {f : Flow} (h : RFlowC g cs f) (hle : g.le g') : RFlowC g' cs f := by
  obtain ⟨a1, n1, c1, a2, n2, c2, e, h1, h2⟩ := h
  exact ⟨a1, n1, c1, a2, n2, c2, e, h1.mono hle, h2.mono hle⟩

theorem given1_c (n : Int) (f : Flow) (b : Nat) (cs : List Value) (g : G) (ep0 : EP g b 0 cs) (hc : RFlowC g cs f) :
    CallsIn Wd 0 Try.prog 53 #[.int .i64 n, .pointer (some ⟨b, 0, none⟩)] g.w (Ret g fun _ r => r = .bool (badStep f n)) := by
  obtain ⟨a1, n1, c1, a2, n2, c2, rfl, rs0, rs1⟩ := hc
  obtain ⟨_, _, e⟩ := rs0.isSlice; obtain ⟨rfl, rfl, rfl⟩ := Value.slice.inj e; clear e
  have hs := St.start g
  refine enter Try.func53 rfl Try.ntmps53 rfl ?_
  refine W_seq ?_; refine W_region ?_; refine P1 T.ok rfl rfl rfl ?_; refine WL_nil ?_; (with_reducible refine T_then ?_); refine W_seq ?_; refine W_region ?_; (iterate 3 refine P1 T.ok rfl rfl rfl ?_)
  refine WL_seg (want := false) (x := decide ((f.steps.length : Int) ≤ n)) 5 allF rfl rfl rfl rfl (.inr ⟨rfl, rfl, rfl⟩) rfl rfl rfl rfl (fun hb Q' hQ' => ?_) (fun g' hf => ?_)
  · refine P1 T.ok rfl rfl rfl ?_; refine P1 T.ok rfl rfl rfl ?_; refine WL_o rfl rfl (OpR_loadE T.ok 2 rfl ep0 rfl rfl ?_); refine P1 T.ok rfl rfl rfl ?_; refine P1 T.ok rfl rfl rfl ?_; refine WL_nil ?_
    exact fun a ha => hQ' _ a (Fr0.refl _) (ha.keep (by (repeat (first | exact trivial | refine ⟨rfl, ?_⟩))))
  replace hs := hs.call hf; have hqe := hf.le; replace ep0 := ep0.mono hqe; replace rs0 := rs0.mono hqe; replace rs1 := rs1.mono hqe
  refine P1 T.ok rfl rfl rfl ?_; refine WL_nil ?_; (with_reducible refine T_then ?_)
  exact W_ret (ret1 rfl rfl (hs.ret rfl))

theorem given_c (v lv : Value) (f : Flow) (l : List Int) (g : G) (fl0 : RFlow g v f) (rs2 : Rs g lv l) :
    CallsIn Wd 0 Try.prog 41 #[v, lv] g.w (Ret g fun _ r => r = .bool (given f l)) := by
  obtain ⟨a1, n1, c1, a2, n2, c2, rfl, rs0, rs1⟩ := id fl0
  have hs := St.start g
  refine enter Try.func41 rfl Try.ntmps41 rfl ?_
  refine W_seq ?_; refine W_region ?_
  refine WL_o rfl rfl (OpR_box rfl hs rfl rfl ?_); clear hs; rintro b1 g1 hs hqe; replace rs0 := rs0.mono hqe; replace rs1 := rs1.mono hqe; replace rs2 := rs2.mono hqe; replace fl0 := fl0.mono hqe
  obtain ⟨g2, hw2, hs2, hqe, hep⟩ := hs.fzObj (i := 0) rfl; replace hs := hs2; clear hs2; rw [← hw2]; replace rs0 := rs0.mono hqe; replace rs1 := rs1.mono hqe; replace rs2 := rs2.mono hqe; replace fl0 := fl0.mono hqe
  have ep0 := hep
  refine P1 T.ok rfl rfl rfl ?_; refine WL_nil ?_; (with_reducible refine T_then ?_); refine W_seq ?_; refine W_region ?_; refine WL_o rfl rfl (OpR_loadE T.ok 0 rfl ep0 rfl rfl ?_)
  refine WL_o rfl rfl (OpR_ret cl51 allF rfl rfl rfl rfl rfl (valid_c _ f _ fl0) ?_); rintro g1 _ hf1 rfl; replace hs := hs.call hf1; have hqe := hf1.le; replace ep0 := ep0.mono hqe; replace rs0 := rs0.mono hqe; replace rs1 := rs1.mono hqe; replace rs2 := rs2.mono hqe; replace fl0 := fl0.mono hqe
  refine P1 T.ok rfl rfl rfl ?_
  refine WL_seg (want := true) (x := !l.any (badStep f)) 4 allF rfl rfl rfl rfl (.inl ⟨rfl, rfl, rfl⟩) rfl rfl rfl rfl (fun hb Q' hQ' => ?_) (fun g' hf => ?_)
  · refine P1 T.ok rfl rfl rfl ?_; refine P1 T.ok rfl rfl rfl ?_
    refine WL_o rfl rfl (OpR_ret cl52 allF rfl rfl rfl rfl rfl (containsInt_c _ _ l (badStep f) _ rs2 (fun g' x _ hle => CallV_of cl53 rfl (given1_c x f _ _ g' (ep0.mono hle) ⟨_, _, _, _, _, _, rfl, rs0.mono hle, rs1.mono hle⟩))) ?_); rintro g1 _ hf1 rfl; replace hs := hs.call hf1; have hqe := hf1.le; replace ep0 := ep0.mono hqe; replace rs0 := rs0.mono hqe; replace rs1 := rs1.mono hqe; replace rs2 := rs2.mono hqe; replace fl0 := fl0.mono hqe
    refine P1 T.ok rfl rfl rfl ?_; refine WL_nil ?_
    exact fun a ha => hQ' _ a hf1 (ha.keep (by (repeat (first | exact trivial | refine ⟨rfl, ?_⟩))))
  replace hs := hs.call hf; have hqe := hf.le; replace ep0 := ep0.mono hqe; replace rs0 := rs0.mono hqe; replace rs1 := rs1.mono hqe; replace rs2 := rs2.mono hqe; replace fl0 := fl0.mono hqe
  refine P1 T.ok rfl rfl rfl ?_; refine WL_nil ?_; (with_reducible refine T_then ?_)
  exact W_ret (ret1 rfl rfl (hs.ret rfl))

end Go.Proofs.Ytijmlfmapfhabaa

/- The walks through package graph: the iterator after. -/
namespace Go.Proofs.Ytijmlfmapfhabaa
open Go Go.K
set_option maxRecDepth 10000
attribute [local irreducible] W WL OpR
set_option maxHeartbeats 1000000



theorem after1_c (s : Step) (b : Nat) (cs : List Value) (g : G) (ep : EP g b 0 cs) (hc : RStep g cs s) :
    SeqC Try.prog 59 #[.pointer (some ⟨b, 0, none⟩)] (fun n : Int => [.int .i64 n]) (afterL s) g := by
  obtain ⟨a1, n1, c1, a2, n2, c2, rfl, rs0, rs1⟩ := hc
  obtain ⟨_, _, e⟩ := rs1.isSlice; obtain ⟨rfl, rfl, rfl⟩ := Value.slice.inj e; clear e
  intro g1 hle yv J Jx hJ hJx hy hJ0
  have hlen := rs1.len_le
  unfold maxLen at hlen
  have le0 := G.le.refl g1
  have epc := ep.mono hle; have rsc := rs1.mono hle
  have ep0 := epc
  refine enter Try.func59 rfl Try.ntmps59 rfl ?_
  refine W_seq ?_; refine W_region ?_; refine P1 T.ok rfl rfl rfl ?_; refine WL_o rfl rfl (OpR_loadE T.ok 5 rfl ep0 rfl rfl ?_); refine P1 T.ok rfl rfl rfl ?_; refine WL_nil ?_; (with_reducible refine T_then ?_); refine W_seq ?_; refine W_seq ?_; refine W_region ?_; refine P1 T.ok rfl rfl rfl ?_; refine WL_o rfl rfl (OpR_loadE T.ok 4 rfl ep0 rfl rfl ?_); refine P1 T.ok rfl rfl rfl ?_; refine P1 T.ok rfl rfl rfl ?_; refine WL_nil ?_; (with_reducible refine T_then ?_); refine W_block ?_
  refine W_loop (fun m a' w => ∃ (k : Nat) (pre : List Int) (back : Int) (g' : G), w = g'.w ∧ G.le g1 g' ∧ k ≤ s.next.length ∧ m = s.next.length - k ∧ J pre g' ∧ afterL s = pre ++ afterGo back (s.next.drop k) ∧
    Fr 41 [] [(0, yv), (1, .pointer (some ⟨b, 0, none⟩)), (3, .int .i64 back), (9, .slice a2 s.next.length c2), (10, .int .i64 s.next.length), (11, .int .i64 k)] a') s.next.length
    (fun a' ha => ⟨0, [], s.back, g1, rfl, le0, Nat.zero_le _, rfl, hJ0, rfl, ha.keep (by (repeat (first | exact trivial | refine ⟨rfl, ?_⟩)))⟩) ?_
  clear ep0 le0
  rintro m a' _ ⟨k, pre, back, g', rfl, le0, hk, rfl, hJp, hx, ha'⟩
  have ep0 := epc.mono le0; have rs1 := rsc.mono le0
  revert a'
  (with_reducible refine T_wp ?_); refine W_seq ?_; refine W_region ?_; refine P1 T.ok rfl rfl rfl ?_; refine WL_nil ?_; (with_reducible refine T_then ?_); refine W_seq ?_
  by_cases hlt : k < s.next.length
  · refine W_yes (b := decide ((k : Int) < (s.next.length : Int))) (by simp; omega) rfl ?_
    refine W_skip ?_; (with_reducible refine T_then ?_); refine W_seq ?_; refine W_block ?_; refine W_seq ?_; refine W_region ?_
    refine WL_o rfl rfl (OpR_idx T.ok rfl rs1 (y := s.next[k]) (by simp [geti, hlt]) rfl rfl rfl rfl rfl rfl ?_)
    rintro b p ys hep rfl
    refine WL_o rfl rfl (OpR_loadE T.ok 0 rfl hep rfl rfl ?_)
    refine P1 T.ok rfl rfl rfl ?_; refine WL_nil ?_; (with_reducible refine T_then ?_); refine W_seq ?_; refine W_seq ?_; refine W_region ?_; (iterate 3 refine P1 T.ok rfl rfl rfl ?_)
    rw [List.drop_eq_getElem_cons hlt, afterGo] at hx
    refine WL_seg (want := true) (x := decide (back < s.next[k])) 3 allF rfl rfl rfl rfl (.inl ⟨rfl, rfl, rfl⟩) rfl rfl rfl rfl (fun hb Q' hQ' => ?_) (fun g' hf => ?_)
    · (iterate 3 refine P1 T.ok rfl rfl rfl ?_); refine WL_nil ?_
      exact fun a ha => hQ' _ a (Fr0.refl _) (ha.keep (by (repeat (first | exact trivial | refine ⟨rfl, ?_⟩))))
    have hqe := hf.le; replace hJp := hJ _ _ _ hf hJp; replace le0 := G.le.trans le0 hqe; replace ep0 := ep0.mono hqe; replace rs1 := rs1.mono hqe
    refine P1 T.ok rfl rfl rfl ?_
    by_cases hc : 0 ≤ back ∧ back < s.next[k]
    · refine WL_re (t := 22) (.bool true) rfl (by simp [hc]) ?_
      rw [if_pos hc, if_pos (by omega : back ≤ s.next[k])] at hx
      refine P1 T.ok rfl rfl rfl ?_; refine P1 T.ok rfl rfl rfl ?_
      refine WL_o rfl rfl (OpR_callV rfl rfl rfl rfl rfl rfl ((hy pre back (s.next[k] :: afterGo (-1) (s.next.drop (k + 1))) _ (by rw [hx]; rfl) le0 hJp).mono ?_))
      rintro _ _ ⟨g3, bb, rfl, rfl, hqe, ht, hf⟩
      refine ⟨_, rfl, ?_⟩
      replace le0 := G.le.trans le0 hqe; replace ep0 := ep0.mono hqe; replace rs1 := rs1.mono hqe
      cases bb with
      | false =>
        refine P1 T.ok rfl rfl rfl ?_; refine P1 T.ok rfl rfl rfl ?_; refine WL_nil ?_; (with_reducible refine T_then ?_)
        refine W_yes rfl rfl ?_
        skip
        refine W_ret ?_; (with_reducible refine T_tr ?_); (with_reducible refine T_br ?_); (with_reducible refine T_tr ?_; with_reducible refine T_tr ?_); (with_reducible refine T_br ?_); (with_reducible refine T_tr ?_); refine ret0 rfl ?_
        exact ⟨g3, _, rfl, rfl, le0, .inr ⟨_, ⟨s.next[k] :: afterGo (-1) (s.next.drop (k + 1)), by rw [hx]; simp⟩, hf rfl⟩⟩
      | true =>
        refine P1 T.ok rfl rfl rfl ?_; refine P1 T.ok rfl rfl rfl ?_; refine WL_nil ?_; (with_reducible refine T_then ?_)
        refine W_no rfl rfl ?_
        refine W_skip ?_; (with_reducible refine T_then ?_); refine W_seq ?_; refine W_seq ?_; refine W_region ?_; (iterate 3 refine P1 T.ok rfl rfl rfl ?_); refine WL_nil ?_; (with_reducible refine T_then ?_)
        refine W_yes (b := decide (back ≤ s.next[k])) (by simp; omega) rfl ?_
        refine W_region ?_; refine P1 T.ok rfl rfl rfl ?_; refine WL_nil ?_; (with_reducible refine T_then ?_); refine W_seq ?_; refine W_region ?_; refine P1 T.ok rfl rfl rfl ?_; refine P1 T.ok rfl rfl rfl ?_
        have hx1 : afterL s = (pre ++ [back]) ++ s.next[k] :: afterGo (-1) (s.next.drop (k + 1)) := by rw [hx]; simp
        refine WL_o rfl rfl (OpR_callV rfl rfl rfl rfl rfl rfl ((hy ((pre ++ [back])) s.next[k] (afterGo (-1) (s.next.drop (k + 1))) _ (hx1) le0 (ht rfl)).mono ?_))
        rintro _ _ ⟨g4, bb, rfl, rfl, hqe, ht, hf⟩
        refine ⟨_, rfl, ?_⟩
        replace le0 := G.le.trans le0 hqe; replace ep0 := ep0.mono hqe; replace rs1 := rs1.mono hqe
        cases bb with
        | false =>
          refine P1 T.ok rfl rfl rfl ?_; refine WL_nil ?_; (with_reducible refine T_then ?_)
          refine W_yes rfl rfl ?_
          skip
          refine W_ret ?_; (with_reducible refine T_br ?_); (with_reducible refine T_tr ?_; with_reducible refine T_tr ?_); (with_reducible refine T_br ?_); (with_reducible refine T_tr ?_); refine ret0 rfl ?_
          exact ⟨g4, _, rfl, rfl, le0, .inr ⟨_, ⟨afterGo (-1) (s.next.drop (k + 1)), by rw [hx1]; simp⟩, hf rfl⟩⟩
        | true =>
          refine P1 T.ok rfl rfl rfl ?_; refine WL_nil ?_; (with_reducible refine T_then ?_)
          refine W_no rfl rfl ?_
          refine W_skip ?_; (with_reducible refine T_bn ?_); (with_reducible refine T_then ?_); refine W_region ?_; refine P1 T.ok rfl rfl rfl ?_; refine P1 T.ok rfl rfl rfl ?_; refine WL_nil ?_
          exact fun a ha => ⟨s.next.length - (k + 1), by omega, k + 1, (pre ++ [back]) ++ [s.next[k]], -1, _, rfl, le0, by omega, rfl, ht rfl, by rw [hx1]; simp, ha.keep ⟨rfl, rfl, rfl, rfl, rfl, kI rfl (by rw [wr (by omega) (by omega)]; omega), trivial⟩⟩
    · refine WL_re (t := 22) (.bool false) rfl (congrArg Value.bool (by simp only [cond_true, Bool.and_eq_false_iff, decide_eq_false_iff_not]; omega)) ?_
      (iterate 4 refine S1 allF rfl rfl ?_); refine P1 T.ok rfl rfl rfl ?_; refine WL_nil ?_; (with_reducible refine T_then ?_)
      refine W_no rfl rfl ?_
      rw [if_neg hc] at hx
      refine W_skip ?_; (with_reducible refine T_then ?_); refine W_seq ?_; refine W_seq ?_; refine W_region ?_; (iterate 3 refine P1 T.ok rfl rfl rfl ?_); refine WL_nil ?_; (with_reducible refine T_then ?_)
      by_cases hbn : back ≤ s.next[k]
      · refine W_yes (b := decide (back ≤ s.next[k])) (by simp; omega) rfl ?_
        rw [if_pos hbn] at hx
        refine W_region ?_; refine P1 T.ok rfl rfl rfl ?_; refine WL_nil ?_; (with_reducible refine T_then ?_); refine W_seq ?_; refine W_region ?_; refine P1 T.ok rfl rfl rfl ?_; refine P1 T.ok rfl rfl rfl ?_
        have hx1 : afterL s = pre ++ s.next[k] :: afterGo (-1) (s.next.drop (k + 1)) := by rw [hx]; simp
        refine WL_o rfl rfl (OpR_callV rfl rfl rfl rfl rfl rfl ((hy (pre) s.next[k] (afterGo (-1) (s.next.drop (k + 1))) _ (hx1) le0 (hJp)).mono ?_))
        rintro _ _ ⟨g4, bb, rfl, rfl, hqe, ht, hf⟩
        refine ⟨_, rfl, ?_⟩
        replace le0 := G.le.trans le0 hqe; replace ep0 := ep0.mono hqe; replace rs1 := rs1.mono hqe
        cases bb with
        | false =>
          refine P1 T.ok rfl rfl rfl ?_; refine WL_nil ?_; (with_reducible refine T_then ?_)
          refine W_yes rfl rfl ?_
          skip
          refine W_ret ?_; (with_reducible refine T_br ?_); (with_reducible refine T_tr ?_; with_reducible refine T_tr ?_); (with_reducible refine T_br ?_); (with_reducible refine T_tr ?_); refine ret0 rfl ?_
          exact ⟨g4, _, rfl, rfl, le0, .inr ⟨_, ⟨afterGo (-1) (s.next.drop (k + 1)), by rw [hx1]; simp⟩, hf rfl⟩⟩
        | true =>
          refine P1 T.ok rfl rfl rfl ?_; refine WL_nil ?_; (with_reducible refine T_then ?_)
          refine W_no rfl rfl ?_
          refine W_skip ?_; (with_reducible refine T_bn ?_); (with_reducible refine T_then ?_); refine W_region ?_; refine P1 T.ok rfl rfl rfl ?_; refine P1 T.ok rfl rfl rfl ?_; refine WL_nil ?_
          exact fun a ha => ⟨s.next.length - (k + 1), by omega, k + 1, pre ++ [s.next[k]], -1, _, rfl, le0, by omega, rfl, ht rfl, by rw [hx1]; simp, ha.keep ⟨rfl, rfl, rfl, rfl, rfl, kI rfl (by rw [wr (by omega) (by omega)]; omega), trivial⟩⟩
      · refine W_no (b := decide (back ≤ s.next[k])) (by simp; omega) rfl ?_
        rw [if_neg hbn] at hx
        refine W_skip ?_; (with_reducible refine T_then ?_); refine W_seq ?_; refine W_region ?_; refine P1 T.ok rfl rfl rfl ?_; refine P1 T.ok rfl rfl rfl ?_
        have hx1 : afterL s = pre ++ s.next[k] :: afterGo back (s.next.drop (k + 1)) := by rw [hx]; simp
        refine WL_o rfl rfl (OpR_callV rfl rfl rfl rfl rfl rfl ((hy (pre) s.next[k] (afterGo (back) (s.next.drop (k + 1))) _ (hx1) le0 (hJp)).mono ?_))
        rintro _ _ ⟨g4, bb, rfl, rfl, hqe, ht, hf⟩
        refine ⟨_, rfl, ?_⟩
        replace le0 := G.le.trans le0 hqe; replace ep0 := ep0.mono hqe; replace rs1 := rs1.mono hqe
        cases bb with
        | false =>
          refine P1 T.ok rfl rfl rfl ?_; refine WL_nil ?_; (with_reducible refine T_then ?_)
          refine W_yes rfl rfl ?_
          skip
          refine W_ret ?_; (with_reducible refine T_br ?_); (with_reducible refine T_tr ?_; with_reducible refine T_tr ?_); (with_reducible refine T_br ?_); (with_reducible refine T_tr ?_); refine ret0 rfl ?_
          exact ⟨g4, _, rfl, rfl, le0, .inr ⟨_, ⟨afterGo (back) (s.next.drop (k + 1)), by rw [hx1]; simp⟩, hf rfl⟩⟩
        | true =>
          refine P1 T.ok rfl rfl rfl ?_; refine WL_nil ?_; (with_reducible refine T_then ?_)
          refine W_no rfl rfl ?_
          refine W_skip ?_; (with_reducible refine T_bn ?_); (with_reducible refine T_then ?_); refine W_region ?_; refine P1 T.ok rfl rfl rfl ?_; refine P1 T.ok rfl rfl rfl ?_; refine WL_nil ?_
          exact fun a ha => ⟨s.next.length - (k + 1), by omega, k + 1, pre ++ [s.next[k]], back, _, rfl, le0, by omega, rfl, ht rfl, by rw [hx1]; simp, ha.keep ⟨rfl, rfl, rfl, rfl, rfl, kI rfl (by rw [wr (by omega) (by omega)]; omega), trivial⟩⟩
  · refine W_no (b := decide ((k : Int) < (s.next.length : Int))) (by simp; omega) rfl ?_
    refine W_exit ?_; (with_reducible refine T_tx ?_; with_reducible refine T_tx ?_); (with_reducible refine T_bx ?_); (with_reducible refine T_then ?_); refine W_seq ?_; refine W_region ?_; refine P1 T.ok rfl rfl rfl ?_; refine P1 T.ok rfl rfl rfl ?_; refine WL_nil ?_; (with_reducible refine T_then ?_)
    obtain rfl : k = s.next.length := by omega
    rw [List.drop_length, afterGo] at hx
    by_cases hb : 0 ≤ back
    · refine W_yes (b := decide (0 ≤ back)) (by simp; omega) rfl ?_
      rw [if_pos hb] at hx
      refine W_region ?_; refine P1 T.ok rfl rfl rfl ?_; refine P1 T.ok rfl rfl rfl ?_
      refine WL_o rfl rfl (OpR_callV rfl rfl rfl rfl rfl rfl ((hy pre back [] _ hx le0 hJp).mono ?_))
      rintro _ _ ⟨g3, bb, rfl, rfl, hqe, ht, hf⟩
      refine ⟨_, rfl, ?_⟩
      replace le0 := G.le.trans le0 hqe; replace ep0 := ep0.mono hqe; replace rs1 := rs1.mono hqe
      refine WL_nil ?_
      refine end0 rfl ?_
      cases bb with
      | true => exact ⟨g3, _, rfl, rfl, le0, .inl (by rw [hx]; exact ht rfl)⟩
      | false => exact ⟨g3, _, rfl, rfl, le0, .inr ⟨_, ⟨[], by rw [hx]; simp⟩, hf rfl⟩⟩
    · refine W_no (b := decide (0 ≤ back)) (by simp; omega) rfl ?_
      rw [if_neg hb, List.append_nil] at hx
      refine W_skip ?_
      refine end0 rfl ?_
      exact ⟨_, _, rfl, rfl, le0, .inl (by rw [hx]; exact hJp)⟩
end Go.Proofs.Ytijmlfmapfhabaa

/- The walks through package graph: Follow. -/
namespace Go.Proofs.Ytijmlfmapfhabaa
open Go Go.K
set_option maxRecDepth 10000
attribute [local irreducible] W WL OpR
set_option maxHeartbeats 1000000

/-- A function value that goes through a list of numbers. -/
def SeqV (g : G) (v : Value) (xs : List Int) : Prop :=
  ∃ itf caps, v = .func (.func itf) #[] caps ∧ Callable Try.prog itf ∧ SeqC Try.prog itf caps (fun n : Int => [.int .i64 n]) xs g
theorem SeqV.mono {g g' : G} {v : Value} {xs : List Int} (h : SeqV g v xs) (hle : g.le g') : SeqV g' v xs := by
  obtain ⟨itf, caps, e, h1, h2⟩ := h
  exact ⟨itf, caps, e, h1, h2.mono hle⟩

theorem after_c (v : Value) (s : Step) (g : G) (st0 : RStepV g v s) :
    CallsIn Wd 0 Try.prog 47 #[v] g.w (Ret g fun g' r => SeqV g' r (afterL s)) := by
  obtain ⟨cs, rfl, a1, n1, c1, a2, n2, c2, rfl, rs0, rs1⟩ := st0
  have hs := St.start g
  refine enter Try.func47 rfl Try.ntmps47 rfl ?_
  refine W_seq ?_; refine W_region ?_
  refine WL_o rfl rfl (OpR_box rfl hs rfl rfl ?_); clear hs; rintro b1 g1 hs hqe; replace rs0 := rs0.mono hqe; replace rs1 := rs1.mono hqe
  refine P1 T.ok rfl rfl rfl ?_; refine WL_nil ?_; (with_reducible refine T_then ?_); refine W_seq ?_; refine W_region ?_; refine P1 T.ok rfl rfl rfl ?_; refine P1 T.ok rfl rfl rfl ?_; refine WL_nil ?_; (with_reducible refine T_then ?_)
  obtain ⟨g2, hw2, hs2, hqe, hep⟩ := hs.fzObj (i := 0) rfl; replace hs := hs2; clear hs2; rw [← hw2]; replace rs0 := rs0.mono hqe; replace rs1 := rs1.mono hqe
  skip
  exact W_ret (ret1 rfl rfl (hs.ret ⟨59, _, rfl, cl59, after1_c s _ _ _ hep ⟨_, _, _, _, _, _, rfl, rs0, rs1⟩⟩))

theorem appendSeq_c (fv : Value) (xs : List Int) (g : G) (hx : SeqV g fv xs) (hlen : xs.length ≤ 1000000) :
    CallsIn Wd 0 Try.prog 58 #[.slice none 0 0, fv] g.w (Ret g (OwnR 3 g xs)) := by
  obtain ⟨itf, caps, rfl, hcl, hseq⟩ := hx
  have hs := St.start g
  have le0 := G.le.refl g
  refine enterM Try.func58 rfl Try.ntmps58 rfl ?_
  refine W_seq ?_; refine W_region ?_
  refine WL_o rfl rfl (OpR_box rfl hs rfl rfl ?_); clear hs; rintro b1 g1 hs hqe; replace le0 := G.le.trans le0 hqe
  replace hs := hs.nilrow 3 1 none
  refine P1 T.ok rfl rfl rfl ?_; refine WL_nil ?_; (with_reducible refine T_then ?_); refine W_seq ?_; refine W_seq ?_; refine W_region ?_; refine P1 T.ok rfl rfl rfl ?_; refine WL_nil ?_; (with_reducible refine T_then ?_); refine W_block ?_
  refine W_range (N := 13) hs rfl hcl (hseq.mono le0) rfl (fun _ => rfl)
    (fun pre L _ => ∃ v, L = [.row 3 1 v pre.length (pre.map (Value.int .i64)), .obj b1 (.cells #[v] 31)]) (fun _ _ _ _ => False)
    (fun _ _ _ _ _ h => h) (fun _ _ _ _ _ _ h => h) ⟨_, rfl⟩ (fun x => [(5, .int .i64 x), (2, .pointer (some ⟨b1, 0, none⟩))]) ?_ ?_ ?_ ?_
  · intro x ro w
    refine W_region ?_; refine P1 T.ok rfl rfl rfl ?_; refine WL_nil ?_
    exact fun a ha => ⟨rfl, ha.keep (by (repeat (first | exact trivial | refine ⟨rfl, ?_⟩)))⟩
  · rintro lp D ro pre x rest gr Lr hxs hle hs ⟨v, rfl⟩
    have le4 := G.le.refl gr
    have hpl : pre.length < xs.length := by rw [hxs]; simp
    refine W_block ?_; refine W_region ?_; refine WL_o rfl rfl (OpR_loadO T.ok 3 rfl hs rfl rfl rfl ?_); refine P1 T.ok rfl rfl rfl ?_
    refine WL_o rfl rfl (OpR_lit T.ok rfl hs (vs := [(0, .int .i64 x)]) (cells := [.int .i64 x]) rfl rfl rfl rfl rfl rfl (by decide) (by decide) (by kernel_rfl) rfl ?_); rintro b2 g2 hs hqe; replace le4 := G.le.trans le4 hqe
    skip
    refine WL_o rfl rfl (OpR_append T.ok 3 rfl hs rfl rfl rfl rfl rfl rfl rfl (by decide) rfl (Src.of_row (hs.own 0 _ rfl).1).2 (by simp [Value.oneCell']) (by show (pre.length + 1) * 8 ≤ _; omega) (by unfold maxLen; omega) ?_); rintro a' c' g3 hs hqe; replace le4 := G.le.trans le4 hqe
    skip
    refine WL_n rfl (OpR_storeO T.ok 4 rfl hs rfl rfl rfl rfl rfl rfl rfl rfl rfl ?_); replace hs := hs; rintro g1 hs hqe; replace le4 := G.le.trans le4 hqe
    refine WL_nil ?_; (with_reducible refine T_bn ?_)
    exact fun a ha => ⟨_, _, rfl, hs.drop 0, le4, ⟨.slice a' (pre.length + 1) c', by simp [spl]⟩⟩
  · rintro lp D o Lr ge hle hs ⟨v, rfl⟩
    (with_reducible refine T_bn ?_); (with_reducible refine T_then ?_); refine W_seq ?_; refine W_region ?_; refine WL_o rfl rfl (OpR_loadO T.ok 3 rfl hs rfl rfl rfl ?_); refine P1 T.ok rfl rfl rfl ?_; refine WL_nil ?_; (with_reducible refine T_then ?_)
    refine W_ret ?_; skip
    refine retM1 1 rfl hs rfl rfl (fun g' hs' hle' => ?_)
    exact hs'.ret (hs'.toOwn (i := 1) rfl (RcL.ints _ xs))
  · rintro c lp D o pre Lr ge _ _ _ h
    exact h.elim

theorem collect_c (fv : Value) (xs : List Int) (g : G) (hx : SeqV g fv xs) (hlen : xs.length ≤ 1000000) :
    CallsIn Wd 0 Try.prog 46 #[fv] g.w (Ret g (OwnR 3 g xs)) := by
  have hs := St.start g
  refine enter Try.func46 rfl Try.ntmps46 rfl ?_
  refine W_seq ?_; refine W_region ?_; refine P1 T.ok rfl rfl rfl ?_; refine WL_nil ?_; (with_reducible refine T_then ?_); refine W_seq ?_; refine W_region ?_; refine P1 T.ok rfl rfl rfl ?_
  refine WL_o rfl rfl (OpR_ret cl58 allF rfl rfl rfl rfl rfl (appendSeq_c _ xs g hx hlen) ?_); rintro g1 v hf1 ⟨cells, h1, h2⟩
  replace hs := hs.getOwn hf1 h1
  refine P1 T.ok rfl rfl rfl ?_; refine WL_nil ?_; (with_reducible refine T_then ?_)
  exact W_ret (ret1 rfl rfl (hs.ret (hs.toOwn (i := 0) rfl h2)))

theorem follow_c (v : Value) (f : Flow) (n : Int) (g : G) (fl0 : RFlow g v f) :
    CallsIn Wd 0 Try.prog 27 #[v, .int .i64 n] g.w (Ret g (OwnR 3 g (follow f n))) := by
  obtain ⟨a1, n1, c1, a2, n2, c2, rfl, rs0, rs1⟩ := id fl0
  obtain ⟨_, _, e⟩ := rs0.isSlice; obtain ⟨rfl, rfl, rfl⟩ := Value.slice.inj e; clear e
  have hs := St.start g
  refine enter Try.func27 rfl Try.ntmps27 rfl ?_
  refine W_seq ?_; refine W_region ?_
  refine WL_o rfl rfl (OpR_box rfl hs rfl rfl ?_); clear hs; rintro b1 g1 hs hqe; replace rs0 := rs0.mono hqe; replace rs1 := rs1.mono hqe; replace fl0 := fl0.mono hqe
  refine P1 T.ok rfl rfl rfl ?_; refine WL_nil ?_; (with_reducible refine T_then ?_); refine W_seq ?_; refine W_seq ?_; refine W_region ?_; refine WL_o rfl rfl (OpR_loadO T.ok 0 rfl hs rfl rfl rfl ?_); refine P1 T.ok rfl rfl rfl ?_
  refine WL_o rfl rfl (OpR_lit T.ok rfl hs (vs := [(0, .int .i64 n)]) (cells := [.int .i64 n]) rfl rfl rfl rfl rfl rfl (by decide) (by decide) (by kernel_rfl) rfl ?_); rintro b2 g2 hs hqe; replace rs0 := rs0.mono hqe; replace rs1 := rs1.mono hqe; replace fl0 := fl0.mono hqe
  obtain ⟨g3, hw3, hs3, hqe3, hrl⟩ := hs.fzRow (α := Int) (xs := [n]) (i := 0) rfl (RcL.ints _ [n])
  clear hqe; have hqe := hqe3; rw [← hw3]; replace hs := hs3; replace rs0 := rs0.mono hqe; replace rs1 := rs1.mono hqe; replace fl0 := fl0.mono hqe
  skip
  refine WL_o rfl rfl (OpR_ret cl41 allF rfl rfl rfl rfl rfl (given_c _ _ f [n] _ fl0 hrl) ?_); rintro g1 _ hf1 rfl; replace hs := hs.call hf1; have hqe := hf1.le; replace rs0 := rs0.mono hqe; replace rs1 := rs1.mono hqe; replace fl0 := fl0.mono hqe
  refine P1 T.ok rfl rfl rfl ?_; refine WL_nil ?_; (with_reducible refine T_then ?_)
  cases hg : given f [n] with
  | false =>
    refine W_yes rfl rfl ?_
    refine W_seq ?_; refine W_region ?_; refine P1 T.ok rfl rfl rfl ?_; refine WL_nil ?_; (with_reducible refine T_then ?_)
    refine W_ret (ret1 rfl rfl (hs.ret ?_))
    unfold follow; rw [hg]; exact OwnR.nil _ _ _ _
  | true =>
    refine W_no rfl rfl ?_
    have hgn : (0 ≤ n ∧ n < f.steps.length) ∧ valid f = true := by
      unfold given at hg
      simp only [Bool.and_eq_true, List.any_cons, List.any_nil, Bool.or_false, Bool.not_eq_true', badStep, Bool.or_eq_false_iff, decide_eq_false_iff_not] at hg
      exact ⟨by omega, hg.1⟩
    refine W_skip ?_; (with_reducible refine T_then ?_); refine W_seq ?_; refine W_region ?_; refine P1 T.ok rfl rfl rfl ?_; refine WL_o rfl rfl (OpR_loadO T.ok 0 rfl hs rfl rfl rfl ?_); refine P1 T.ok rfl rfl rfl ?_
    refine WL_o rfl rfl (OpR_idx T.ok rfl rs0 (y := stepD f n) (by unfold stepD; rw [geti_of (j := n.toNat) (by omega) (by omega)]; simp [List.getD_eq_getElem?_getD, show n.toNat < f.steps.length from by omega]) rfl rfl rfl rfl rfl rfl ?_)
    rintro b q ys hep hrc
    have hrv : RStepV _ (.agg ys.toArray) (stepD f n) := ⟨ys, rfl, hrc⟩
    obtain ⟨b1, b2, b3, b4, b5, b6, rfl, _, _⟩ := hrc
    refine WL_o rfl rfl (OpR_loadE T.ok 0 rfl hep rfl rfl ?_)
    skip
    refine WL_o rfl rfl (OpR_ret cl47 allF rfl rfl rfl rfl rfl (after_c _ _ _ hrv) ?_); rintro g4 v hf4 hsv; replace hs := hs.call hf4
    skip
    have hln : (afterL (stepD f n)).length ≤ 1000000 := by
      have h1 := afterGo_len (stepD f n).back (stepD f n).next
      have h2 := rightStep_next (valid_step hgn.2 hgn.1.1 hgn.1.2)
      unfold afterL; omega
    refine WL_o rfl rfl (OpR_ret cl46 allF rfl rfl rfl rfl rfl (collect_c _ _ _ hsv hln) ?_); rintro g5 v hf5 ⟨cells, h1, h2⟩
    replace hs := hs.getOwn hf5 h1
    refine P1 T.ok rfl rfl rfl ?_; refine WL_nil ?_; (with_reducible refine T_then ?_)
    refine W_ret (ret1 rfl rfl (hs.ret ?_))
    unfold follow; rw [hg]
    exact hs.toOwn (i := 0) rfl h2
end Go.Proofs.Ytijmlfmapfhabaa

/- The walks through package graph: what can be reached. -/
namespace Go.Proofs.Ytijmlfmapfhabaa
open Go Go.K
set_option maxRecDepth 10000
attribute [local irreducible] W WL OpR
set_option maxHeartbeats 1000000

def rowB (ob N : Nat) (out : List Bool) : Ent := .row 4 1 (.slice (some ⟨ob, 0, none⟩) N N) N (out.map Value.bool)

/-- The three variables that visit looks at: the list, the flow, and itself. -/
structure VisEnv (g : G) (f : Flow) (ob N bo bf bv : Nat) : Prop where
  epo : EP g bo 0 [.slice (some ⟨ob, 0, none⟩) N N]
  epf : ∃ cs, EP g bf 0 cs ∧ RFlowC g cs f
  epv : EP g bv 0 [.func (.func 49) #[] #[.pointer (some ⟨bo, 0, none⟩), .pointer (some ⟨bf, 0, none⟩), .pointer (some ⟨bv, 0, none⟩)]]
theorem VisEnv.mono {g g' : G} {f : Flow} {ob N bo bf bv : Nat} (h : VisEnv g f ob N bo bf bv) (hle : g.le g') : VisEnv g' f ob N bo bf bv :=
  ⟨h.epo.mono hle, by obtain ⟨cs, h1, h2⟩ := h.epf; exact ⟨cs, h1.mono hle, h2.mono hle⟩, h.epv.mono hle⟩

theorem visit_c (f : Flow) (hval : valid f = true) (ob N bo bf bv : Nat) (hN : N = f.steps.length) : ∀ (k : Nat) (g0 g : G) (L : List Ent) (i : Nat) (out : List Bool) (n : Int),
    St g0 g L → L[i]? = some (rowB ob N out) → VisEnv g f ob N bo bf bv → out.length = N → 0 ≤ n → out[n.toNat]? = some false → out.count false ≤ k →
    CallsIn Wd 0 Try.prog 49 #[.int .i64 n, .pointer (some ⟨bo, 0, none⟩), .pointer (some ⟨bf, 0, none⟩), .pointer (some ⟨bv, 0, none⟩)] g.w
      fun e w' => ∃ g', g'.w = w' ∧ e = .returned (.tuple #[]) ∧ St g0 g' (L.set i (rowB ob N (visit f k out n))) ∧ g.le g' := by
  intro k
  induction k with
  | zero =>
    intro g0 g L i out n _ _ _ _ _ hn hc
    exact absurd (List.count_pos_iff.2 (List.mem_of_getElem? hn)) (by omega)
  | succ k ih =>
    intro g0 g L i out n hs hi hve hlen h0 hn hc
    have hlt : n.toNat < N := by rw [← hlen]; exact (List.getElem?_eq_some_iff.1 hn).1
    have hiL : i < L.length := (List.getElem?_eq_some_iff.1 hi).1
    have le0 := G.le.refl g
    have ep0 := hve.epo
    obtain ⟨cs, ep1, a1, n1, c1, a2, n2, c2, rfl, rs0, rs1⟩ := hve.epf
    obtain ⟨_, _, e⟩ := rs0.isSlice; obtain ⟨rfl, rfl, rfl⟩ := Value.slice.inj e; clear e
    have hve0 := hve
    refine enterM Try.func49 rfl Try.ntmps49 rfl ?_
    refine W_seq ?_; refine W_region ?_; refine WL_o rfl rfl (OpR_loadE T.ok 0 rfl ep0 rfl rfl ?_); refine P1 T.ok rfl rfl rfl ?_
    refine WL_o rfl rfl (OpR_idxR T.ok rfl (hs.own i _ hi).1 h0 hlt rfl rfl rfl rfl rfl rfl ?_)
    rintro b p hh; obtain ⟨rfl, rfl⟩ : ob = b ∧ 0 = p := by simpa using hh
    refine WL_n rfl (OpR_storeR T.ok i (n.toNat * 1) (us := [.bool true]) rfl hs hi rfl rfl rfl rfl rfl rfl (by decide) (by simp; omega) (xs' := (out.set n.toNat true).map Value.bool) ?_ ?_)
    · rw [Nat.mul_one, List.map_set]
      unfold spl
      rw [List.set_eq_take_append_cons_drop]
      simp [hlen, hlt]
    rintro g1 hs hqe; replace le0 := G.le.trans le0 hqe; replace ep0 := ep0.mono hqe; replace ep1 := ep1.mono hqe; replace rs0 := rs0.mono hqe; replace rs1 := rs1.mono hqe
    replace hve := hve.mono hqe
    refine WL_nil ?_; (with_reducible refine T_then ?_); refine W_seq ?_; refine W_region ?_; refine P1 T.ok rfl rfl rfl ?_; refine WL_o rfl rfl (OpR_loadE T.ok 2 rfl ep1 rfl rfl ?_); refine P1 T.ok rfl rfl rfl ?_
    have hn1 : n < f.steps.length := by omega
    refine WL_o rfl rfl (OpR_idx T.ok rfl rs0 (y := stepD f n) (by unfold stepD; rw [geti_of (j := n.toNat) (by omega) (by omega)]; simp [List.getD_eq_getElem?_getD, show n.toNat < f.steps.length from by omega]) rfl rfl rfl rfl rfl rfl ?_)
    rintro b q ys hep hrc
    have hrv : RStepV _ (.agg ys.toArray) (stepD f n) := ⟨ys, rfl, hrc⟩
    obtain ⟨b1, b2, b3, b4, b5, b6, rfl, _, _⟩ := hrc
    refine WL_o rfl rfl (OpR_loadE T.ok 0 rfl hep rfl rfl ?_)
    skip
    refine WL_o rfl rfl (OpR_ret cl47 allF rfl rfl rfl rfl rfl (after_c _ _ _ hrv) ?_); rintro g4 v hf4 ⟨itf, caps, rfl, hcl, hsv⟩; replace hs := hs.call hf4
    have hqe := hf4.le; replace le0 := G.le.trans le0 hqe; replace ep0 := ep0.mono hqe; replace ep1 := ep1.mono hqe; replace rs0 := rs0.mono hqe; replace rs1 := rs1.mono hqe
    replace hve := hve.mono hqe
    refine WL_nil ?_; (with_reducible refine T_then ?_); refine W_block ?_
    have hkeep := visit_keeps f k
    have hset := count_set_lt hn
    refine W_range (N := 24) hs rfl hcl hsv rfl (fun _ => rfl)
      (fun pre L' _ => L' = L.set i (rowB ob N (visitAll f k (out.set n.toNat true) pre))) (fun _ _ _ _ => False)
      (fun _ _ _ _ _ h => h) (fun _ _ _ _ _ _ h => h) rfl (fun x => [(5, .int .i64 x), (1, .pointer (some ⟨bo, 0, none⟩)), (2, .pointer (some ⟨bf, 0, none⟩)), (3, .pointer (some ⟨bv, 0, none⟩))]) ?_ ?_ ?_ ?_
    · intro x ro w
      refine W_region ?_; refine P1 T.ok rfl rfl rfl ?_; refine WL_nil ?_
      exact fun a ha => ⟨rfl, ha.keep (by (repeat (first | exact trivial | refine ⟨rfl, ?_⟩)))⟩
    · rintro lp D ro pre x rest gr Lr hxs hle hs rfl
      have hve := hve.mono hle
      have le4 := G.le.refl gr
      have ep0 := hve.epo
      obtain ⟨cs', ep1, hflow⟩ := hve.epf
      have ep2 := hve.epv
      obtain ⟨h3, h4⟩ := after_range hval h0 hn1 x (by rw [hxs]; simp)
      have hkp := visitAll_keeps f k hkeep pre (out.set n.toNat true)
      have hlo : (visitAll f k (out.set n.toNat true) pre).length = N := by rw [hkp.1]; simp [hlen]
      have hxl : x.toNat < (visitAll f k (out.set n.toNat true) pre).length := by omega
      have hiw : (Ent.obj lp (ro LoopState.busy) :: Ent.obj D defO :: L.set i (rowB ob N (visitAll f k (out.set n.toNat true) pre)))[i + 2]? = some (rowB ob N (visitAll f k (out.set n.toNat true) pre)) := by
        simp [hiL]
      have hstep : visitAll f k (out.set n.toNat true) (pre ++ [x]) = if (visitAll f k (out.set n.toNat true) pre)[x.toNat] = true then visitAll f k (out.set n.toNat true) pre else visit f k (visitAll f k (out.set n.toNat true) pre) x := by
        rw [visitAll_snoc, List.getD_eq_getElem?_getD, List.getElem?_eq_getElem hxl]
        rfl
      refine W_block ?_; refine W_seq ?_; refine W_region ?_; refine WL_o rfl rfl (OpR_loadE T.ok 0 rfl ep0 rfl rfl ?_); refine P1 T.ok rfl rfl rfl ?_
      refine WL_o rfl rfl (OpR_idxR T.ok rfl (hs.own (i + 2) _ hiw).1 h3 (by omega) rfl rfl rfl rfl rfl rfl ?_)
      rintro b p hh; obtain ⟨rfl, rfl⟩ : ob = b ∧ 0 = p := by simpa using hh
      refine WL_o rfl rfl (OpR_loadR T.ok (x.toNat * 1) rfl (hs.own (i + 2) _ hiw).1 rfl (v := .bool ((visitAll f k (out.set n.toNat true) pre)[x.toNat])) (by show (List.map Value.bool _)[x.toNat * 1]? = _; rw [Nat.mul_one, List.getElem?_map, List.getElem?_eq_getElem hxl]; rfl) ?_)
      refine P1 T.ok rfl rfl rfl ?_; refine WL_nil ?_; (with_reducible refine T_then ?_)
      cases hb : (visitAll f k (out.set n.toNat true) pre)[x.toNat] with
      | true =>
        refine W_no rfl rfl ?_
        refine W_skip ?_; (with_reducible refine T_bn ?_)
        exact fun a ha => ⟨_, _, rfl, hs, le4, by rw [hstep, if_pos hb]⟩
      | false =>
        refine W_yes rfl rfl ?_
        refine W_region ?_; refine WL_o rfl rfl (OpR_loadE T.ok 0 rfl ep2 rfl rfl ?_); refine P1 T.ok rfl rfl rfl ?_
        have hcall := ih g0 gr _ (i + 2) _ x hs hiw hve hlo h3 (by rw [List.getElem?_eq_getElem hxl, hb]) (by omega)
        have hcv := CallV_of (first := #[]) (args := [.int .i64 x]) (captured := #[.pointer (some ⟨bo, 0, none⟩), .pointer (some ⟨bf, 0, none⟩), .pointer (some ⟨bv, 0, none⟩)]) cl49 rfl hcall
        refine WL_o rfl rfl (OpR_callV rfl rfl rfl rfl rfl rfl (hcv.mono ?_))
        rintro _ _ ⟨g5, rfl, rfl, hs5, hqe⟩
        refine ⟨_, rfl, ?_⟩
        replace le4 := G.le.trans le4 hqe; replace ep0 := ep0.mono hqe; replace ep1 := ep1.mono hqe; replace ep2 := ep2.mono hqe
        refine WL_nil ?_; (with_reducible refine T_bn ?_)
        exact fun a ha => ⟨_, _, rfl, hs5, le4, by rw [hstep, if_neg (by simp [hb]), List.set_set]⟩
    · rintro lp D o Lr ge hle hs rfl
      (with_reducible refine T_bn ?_)
      refine endM0 1 rfl hs rfl (fun g' hs' hle' => ?_)
      refine ⟨g', rfl, rfl, ?_, (le0.trans hle).trans hle'⟩
      have := hs'.drop 0
      rw [visit_succ]
      exact this
    · rintro c lp D o pre Lr ge _ _ _ h
      exact h.elim
end Go.Proofs.Ytijmlfmapfhabaa

/- The walks through package graph: reached, Reach. -/
namespace Go.Proofs.Ytijmlfmapfhabaa
open Go Go.K
set_option maxRecDepth 10000
attribute [local irreducible] W WL OpR
set_option maxHeartbeats 1000000

theorem RcL.bools (g : G) : ∀ xs : List Bool, RcL g (xs.map Value.bool) xs
  | [] => rfl
  | x :: xs => ⟨[.bool x], xs.map Value.bool, rfl, rfl, RcL.bools g xs⟩

theorem valid_len {f : Flow} (h : valid f = true) : 1 ≤ f.steps.length ∧ f.steps.length ≤ 40 := by
  unfold valid within at h
  simp only [Bool.and_eq_true, decide_eq_true_eq] at h
  omega

theorem reached_c (v : Value) (f : Flow) (n : Int) (g : G) (fl0 : RFlow g v f) (hval : valid f = true) (h0 : 0 ≤ n) (h1 : n < f.steps.length) :
    CallsIn Wd 0 Try.prog 34 #[v, .int .i64 n] g.w (Ret g (OwnR 4 g (reached f n))) := by
  obtain ⟨a1, n1, c1, a2, n2, c2, rfl, rs0, rs1⟩ := id fl0
  obtain ⟨_, _, e⟩ := rs0.isSlice; obtain ⟨rfl, rfl, rfl⟩ := Value.slice.inj e; clear e
  have hlen := valid_len hval
  have hs := St.start g
  refine enter Try.func34 rfl Try.ntmps34 rfl ?_
  refine W_seq ?_; refine W_region ?_
  refine WL_o rfl rfl (OpR_box rfl hs rfl rfl ?_); clear hs; rintro bf g1 hs hqe; replace rs0 := rs0.mono hqe; replace rs1 := rs1.mono hqe; replace fl0 := fl0.mono hqe
  refine P1 T.ok rfl rfl rfl ?_; refine WL_nil ?_; (with_reducible refine T_then ?_); refine W_seq ?_; refine W_region ?_; refine P1 T.ok rfl rfl rfl ?_; refine WL_o rfl rfl (OpR_loadO T.ok 0 rfl hs rfl rfl rfl ?_); refine P1 T.ok rfl rfl rfl ?_
  obtain ⟨g2, hw2, hs2, hqe, hep⟩ := hs.fzObj (i := 0) rfl; replace hs := hs2; clear hs2; rw [← hw2]; replace rs0 := rs0.mono hqe; replace rs1 := rs1.mono hqe; replace fl0 := fl0.mono hqe
  have ep0 := hep; clear hep
  skip
  refine WL_o rfl rfl (OpR_make T.ok rfl hs rfl rfl rfl rfl rfl rfl (by decide) rfl (by show 1 * f.steps.length ≤ _; omega) (by unfold maxLen; omega) ?_); rintro ob g1 hs hqe; replace ep0 := ep0.mono hqe; replace rs0 := rs0.mono hqe; replace rs1 := rs1.mono hqe; replace fl0 := fl0.mono hqe
  skip
  refine WL_o rfl rfl (OpR_alloc T.ok rfl hs rfl rfl ?_); clear hs; rintro bo g1 hs hqe; replace ep0 := ep0.mono hqe; replace rs0 := rs0.mono hqe; replace rs1 := rs1.mono hqe; replace fl0 := fl0.mono hqe
  skip
  refine WL_n rfl (OpR_storeO T.ok 0 rfl hs rfl rfl rfl rfl rfl rfl rfl rfl rfl ?_); replace hs := hs; rintro g1 hs hqe; replace ep0 := ep0.mono hqe; replace rs0 := rs0.mono hqe; replace rs1 := rs1.mono hqe; replace fl0 := fl0.mono hqe
  obtain ⟨g2, hw2, hs2, hqe, hep⟩ := hs.fzObj (i := 0) rfl; replace hs := hs2; clear hs2; rw [← hw2]; replace ep0 := ep0.mono hqe; replace rs0 := rs0.mono hqe; replace rs1 := rs1.mono hqe; replace fl0 := fl0.mono hqe
  have ep1 := hep; clear hep
  refine WL_nil ?_; (with_reducible refine T_then ?_); refine W_seq ?_; refine W_region ?_
  refine WL_o rfl rfl (OpR_alloc T.ok rfl hs rfl rfl ?_); clear hs; rintro bv g1 hs hqe; replace ep0 := ep0.mono hqe; replace ep1 := ep1.mono hqe; replace rs0 := rs0.mono hqe; replace rs1 := rs1.mono hqe; replace fl0 := fl0.mono hqe
  refine WL_nil ?_; (with_reducible refine T_then ?_); refine W_seq ?_; refine W_region ?_; refine P1 T.ok rfl rfl rfl ?_
  refine WL_n rfl (OpR_storeO T.ok 0 rfl hs rfl rfl rfl rfl rfl rfl rfl rfl rfl ?_); replace hs := hs; rintro g1 hs hqe; replace ep0 := ep0.mono hqe; replace ep1 := ep1.mono hqe; replace rs0 := rs0.mono hqe; replace rs1 := rs1.mono hqe; replace fl0 := fl0.mono hqe
  obtain ⟨g2, hw2, hs2, hqe, hep⟩ := hs.fzObj (i := 0) rfl; replace hs := hs2; clear hs2; rw [← hw2]; replace ep0 := ep0.mono hqe; replace ep1 := ep1.mono hqe; replace rs0 := rs0.mono hqe; replace rs1 := rs1.mono hqe; replace fl0 := fl0.mono hqe
  have ep2 := hep; clear hep
  refine WL_nil ?_; (with_reducible refine T_then ?_); refine W_seq ?_; refine W_region ?_; refine WL_o rfl rfl (OpR_loadE T.ok 0 rfl ep2 rfl rfl ?_); refine P1 T.ok rfl rfl rfl ?_
  have hfl : (List.replicate f.steps.length [Value.bool false]).flatten = (List.replicate f.steps.length false).map Value.bool := by simp
  have hst : St g g2 [rowB ob f.steps.length (List.replicate f.steps.length false)] := by
    unfold rowB; rw [← hfl]; exact hs
  have hve : VisEnv g2 f ob f.steps.length bo bf bv := ⟨ep1, ⟨_, ep0, _, _, _, _, _, _, rfl, rs0, rs1⟩, ep2⟩
  have hcall := visit_c f hval ob _ bo bf bv rfl f.steps.length g g2 _ 0 _ n hst rfl hve (by simp) h0 (by rw [List.getElem?_replicate, if_pos (by omega)]) (by simp)
  have hcv := CallV_of (first := #[]) (args := [.int .i64 n]) (captured := #[.pointer (some ⟨bo, 0, none⟩), .pointer (some ⟨bf, 0, none⟩), .pointer (some ⟨bv, 0, none⟩)]) cl49 rfl hcall
  refine WL_o rfl rfl (OpR_callV rfl rfl rfl rfl rfl rfl (hcv.mono ?_))
  rintro _ _ ⟨g5, rfl, rfl, hs5, hqe⟩
  refine ⟨_, rfl, ?_⟩
  replace hs := hs5
  replace ep0 := ep0.mono hqe; replace ep1 := ep1.mono hqe; replace ep2 := ep2.mono hqe; replace rs0 := rs0.mono hqe; replace rs1 := rs1.mono hqe; replace fl0 := fl0.mono hqe
  refine WL_nil ?_; (with_reducible refine T_then ?_); refine W_seq ?_; refine W_region ?_; refine WL_o rfl rfl (OpR_loadE T.ok 0 rfl ep1 rfl rfl ?_); refine P1 T.ok rfl rfl rfl ?_; refine WL_nil ?_; (with_reducible refine T_then ?_)
  refine W_ret (ret1 rfl rfl (hs.ret ?_))
  exact hs.toOwn (i := 0) rfl (RcL.bools _ _)

theorem trues_snoc (l : List Bool) (k : Nat) (h : k < l.length) : trues 0 (l.take (k + 1)) = trues 0 (l.take k) ++ (if l[k] then [(k : Int)] else []) := by
  have gen : ∀ (l : List Bool) (j k : Nat) (h : k < l.length), trues j (l.take (k + 1)) = trues j (l.take k) ++ (if l[k] then [((j + k : Nat) : Int)] else []) := by
    intro l
    induction l with
    | nil => intro j k h; simp at h
    | cons b r ih =>
      intro j k h
      cases k with
      | zero => simp [trues]
      | succ k =>
        simp only [List.take_succ_cons, trues]
        rw [ih (j + 1) k (by simpa using h)]
        simp [Nat.add_assoc, Nat.add_comm 1 k]
  simpa using gen l 0 k h

theorem trues_len (l : List Bool) (j : Nat) : (trues j l).length ≤ l.length := by
  induction l generalizing j with
  | nil => simp [trues]
  | cons b r ih => have := ih (j + 1); simp only [trues]; split <;> simp <;> omega

theorem reached_len (f : Flow) (n : Int) : (reached f n).length = f.steps.length := by
  unfold reached; rw [(visit_keeps f _ _ _).1]; simp

theorem reach_c (v : Value) (f : Flow) (n : Int) (g : G) (fl0 : RFlow g v f) :
    CallsIn Wd 0 Try.prog 29 #[v, .int .i64 n] g.w (Ret g (OwnR 3 g (reach f n))) := by
  obtain ⟨a1, n1, c1, a2, n2, c2, rfl, rs0, rs1⟩ := id fl0
  obtain ⟨_, _, e⟩ := rs0.isSlice; obtain ⟨rfl, rfl, rfl⟩ := Value.slice.inj e; clear e
  have hs := St.start g
  refine enter Try.func29 rfl Try.ntmps29 rfl ?_
  refine W_seq ?_; refine W_region ?_
  refine WL_o rfl rfl (OpR_box rfl hs rfl rfl ?_); clear hs; rintro b1 g1 hs hqe; replace rs0 := rs0.mono hqe; replace rs1 := rs1.mono hqe; replace fl0 := fl0.mono hqe
  refine P1 T.ok rfl rfl rfl ?_; refine WL_nil ?_; (with_reducible refine T_then ?_); refine W_seq ?_; refine W_seq ?_; refine W_region ?_; refine WL_o rfl rfl (OpR_loadO T.ok 0 rfl hs rfl rfl rfl ?_); refine P1 T.ok rfl rfl rfl ?_
  refine WL_o rfl rfl (OpR_lit T.ok rfl hs (vs := [(0, .int .i64 n)]) (cells := [.int .i64 n]) rfl rfl rfl rfl rfl rfl (by decide) (by decide) (by kernel_rfl) rfl ?_); rintro b2 g2 hs hqe; replace rs0 := rs0.mono hqe; replace rs1 := rs1.mono hqe; replace fl0 := fl0.mono hqe
  obtain ⟨g3, hw3, hs3, hqe3, hrl⟩ := hs.fzRow (α := Int) (xs := [n]) (i := 0) rfl (RcL.ints _ [n])
  clear hqe; have hqe := hqe3; rw [← hw3]; replace hs := hs3; replace rs0 := rs0.mono hqe; replace rs1 := rs1.mono hqe; replace fl0 := fl0.mono hqe
  skip
  refine WL_o rfl rfl (OpR_ret cl41 allF rfl rfl rfl rfl rfl (given_c _ _ f [n] _ fl0 hrl) ?_); rintro g1 _ hf1 rfl; replace hs := hs.call hf1; have hqe := hf1.le; replace rs0 := rs0.mono hqe; replace rs1 := rs1.mono hqe; replace fl0 := fl0.mono hqe
  refine P1 T.ok rfl rfl rfl ?_; refine WL_nil ?_; (with_reducible refine T_then ?_)
  cases hg : given f [n] with
  | false =>
    refine W_yes rfl rfl ?_
    refine W_seq ?_; refine W_region ?_; refine P1 T.ok rfl rfl rfl ?_; refine WL_nil ?_; (with_reducible refine T_then ?_)
    refine W_ret (ret1 rfl rfl (hs.ret ?_))
    unfold reach; rw [hg]; exact OwnR.nil _ _ _ _
  | true =>
    refine W_no rfl rfl ?_
    have hgn : (0 ≤ n ∧ n < f.steps.length) ∧ valid f = true := by
      unfold given at hg
      simp only [Bool.and_eq_true, List.any_cons, List.any_nil, Bool.or_false, Bool.not_eq_true', badStep, Bool.or_eq_false_iff, decide_eq_false_iff_not] at hg
      exact ⟨by omega, hg.1⟩
    have hl40 := valid_len hgn.2
    refine W_skip ?_; (with_reducible refine T_then ?_); refine W_seq ?_; refine W_seq ?_; refine W_region ?_; refine WL_o rfl rfl (OpR_loadO T.ok 0 rfl hs rfl rfl rfl ?_); refine P1 T.ok rfl rfl rfl ?_
    refine WL_o rfl rfl (OpR_ret cl34 allF rfl rfl rfl rfl rfl (reached_c _ f n _ fl0 hgn.2 hgn.1.1 hgn.1.2) ?_); rintro g4 v hf4 hown
    obtain ⟨g5, hw5, hs5, hqe5, hrs⟩ := hs.ownRs hf4 hown
    replace hs := hs5; rw [← hw5]
    obtain ⟨ab, cb, rfl⟩ := hrs.isSlice
    have hlb := reached_len f n
    generalize hbs : reached f n = bs at *
    replace hs := (hs.drop 0).nilrow 3 1 none
    refine P1 T.ok rfl rfl rfl ?_; refine P1 T.ok rfl rfl rfl ?_; refine WL_nil ?_; (with_reducible refine T_then ?_); refine W_block ?_
    refine W_loop (fun m a' w => ∃ (k : Nat) (g' : G) (v : Value), w = g'.w ∧ St g g' [.row 3 1 v (trues 0 (bs.take k)).length ((trues 0 (bs.take k)).map (Value.int .i64))] ∧ G.le g5 g' ∧ k ≤ bs.length ∧ m = bs.length - k ∧
      Fr 28 [] [(4, v), (14, .slice ab bs.length cb), (15, .int .i64 bs.length), (16, .int .i64 k)] a') bs.length (fun a' ha => ⟨0, _, _, rfl, hs, G.le.refl _, Nat.zero_le _, rfl, ha.keep (by (repeat (first | exact trivial | refine ⟨rfl, ?_⟩)))⟩) ?_
    clear hs
    rintro m a' _ ⟨k, g', v, rfl, hs, le0, hk, rfl, ha'⟩
    have rs2 := hrs.mono le0
    revert a'
    (with_reducible refine T_wp ?_); refine W_seq ?_; refine W_region ?_; refine P1 T.ok rfl rfl rfl ?_; refine WL_nil ?_; (with_reducible refine T_then ?_); refine W_seq ?_
    by_cases hlt : k < bs.length
    · refine W_yes (b := decide ((k : Int) < (bs.length : Int))) (by simp; omega) rfl ?_
      have htl := trues_len (bs.take k) 0
      rw [List.length_take] at htl
      have hsn := trues_snoc bs k hlt
      refine W_skip ?_; (with_reducible refine T_then ?_); refine W_seq ?_; refine W_block ?_; refine W_seq ?_; refine W_region ?_; refine P1 T.ok rfl rfl rfl ?_
      refine WL_o rfl rfl (OpR_idx T.ok rfl rs2 (y := bs[k]) (by simp [geti, hlt]) rfl rfl rfl rfl rfl rfl ?_)
      rintro b p ys hep rfl
      refine WL_o rfl rfl (OpR_loadE T.ok 0 rfl hep rfl rfl ?_)
      refine P1 T.ok rfl rfl rfl ?_; refine P1 T.ok rfl rfl rfl ?_; refine WL_nil ?_; (with_reducible refine T_then ?_); refine W_seq ?_; refine W_region ?_; refine P1 T.ok rfl rfl rfl ?_; refine WL_nil ?_; (with_reducible refine T_then ?_)
      cases hb : bs[k] with
      | false =>
        refine W_no rfl rfl ?_
        rw [hb, if_neg (by simp), List.append_nil] at hsn
        refine W_skip ?_; (with_reducible refine T_bn ?_); (with_reducible refine T_then ?_); refine W_region ?_; refine P1 T.ok rfl rfl rfl ?_; refine P1 T.ok rfl rfl rfl ?_; refine WL_nil ?_
        exact fun a ha => ⟨bs.length - (k + 1), by omega, k + 1, _, v, rfl, by rw [hsn]; exact hs, le0, by omega, rfl, ha.keep ⟨rfl, rfl, rfl, kI rfl (by rw [wr (by omega) (by omega)]; omega), trivial⟩⟩
      | true =>
        refine W_yes rfl rfl ?_
        rw [hb, if_pos rfl] at hsn
        refine W_region ?_; refine P1 T.ok rfl rfl rfl ?_; refine P1 T.ok rfl rfl rfl ?_
        refine WL_o rfl rfl (OpR_lit T.ok rfl hs (vs := [(0, .int .i64 k)]) (cells := [.int .i64 k]) rfl rfl rfl rfl rfl rfl (by decide) (by decide) (by kernel_rfl) rfl ?_); rintro b2 g2 hs hqe; replace le0 := G.le.trans le0 hqe; replace rs2 := rs2.mono hqe
        skip
        refine WL_o rfl rfl (OpR_append T.ok 1 rfl hs rfl rfl rfl rfl rfl rfl rfl (by decide) rfl (Src.of_row (hs.own 0 _ rfl).1).2 (by simp [Value.oneCell']) (by show ((trues 0 (bs.take k)).length + 1) * 8 ≤ _; omega) (by unfold maxLen; omega) ?_); rintro a' c' g3 hs hqe; replace le0 := G.le.trans le0 hqe; replace rs2 := rs2.mono hqe
        refine P1 T.ok rfl rfl rfl ?_; refine WL_nil ?_; (with_reducible refine T_bn ?_); (with_reducible refine T_then ?_); refine W_region ?_; refine P1 T.ok rfl rfl rfl ?_; refine P1 T.ok rfl rfl rfl ?_; refine WL_nil ?_
        exact fun a ha => ⟨bs.length - (k + 1), by omega, k + 1, _, _, rfl, by rw [hsn]; simpa using hs.drop 0, le0, by omega, rfl, ha.keep ⟨rfl, rfl, rfl, kI rfl (by rw [wr (by omega) (by omega)]; omega), trivial⟩⟩
    · refine W_no (b := decide ((k : Int) < (bs.length : Int))) (by simp; omega) rfl ?_
      obtain rfl : k = bs.length := by omega
      refine W_exit ?_; (with_reducible refine T_tx ?_; with_reducible refine T_tx ?_); (with_reducible refine T_bx ?_); (with_reducible refine T_then ?_); refine W_seq ?_; refine W_region ?_; refine P1 T.ok rfl rfl rfl ?_; refine P1 T.ok rfl rfl rfl ?_; refine WL_nil ?_; (with_reducible refine T_then ?_)
      refine W_ret (ret1 rfl rfl (hs.ret ?_))
      unfold reach
      rw [hg, if_pos rfl, hbs]
      rw [List.take_length] at hs
      exact hs.toOwn (i := 0) rfl (RcL.ints _ _)
end Go.Proofs.Ytijmlfmapfhabaa
