/- The walks through the reference's search for cycles and Check. -/
import Derived.Test.YtijmlfmapfhabaaRd
import Derived.Test.YtijmlfmapfhabaaMc

/- The walk through the reference's around. -/
namespace Go.Proofs.Ytijmlfmapfhabaa
open Go Go.K
set_option maxRecDepth 10000
attribute [local irreducible] W WL OpR
set_option maxHeartbeats 2000000

theorem dg_cell {l : List Int} {c : Int} (h0 : 0 ≤ c) (h : c.toNat < l.length) : (l.map (Value.int .i64))[c.toNat * 1]? = some (.int .i64 (dg l c)) := by
  unfold dg
  rw [Nat.mul_one, List.getElem?_map, List.getD_eq_getElem?_getD, List.getElem?_eq_getElem h]; rfl
theorem dg_cell_nat {l : List Int} {u : Nat} (h : u < l.length) : (l.map (Value.int .i64))[u * 1]? = some (.int .i64 (dg l u)) := by
  have := dg_cell (l := l) (c := (u : Int)) (by omega) (by omega)
  rwa [Int.toNat_natCast] at this










theorem rAround_c (v lv : Value) (f : Flow) (live : List Bool) (first : Int) (g : G) (fl0 : RFlow g v f) (rs2 : Rs g lv live) (hval : valid f = true) (hl : live.length = f.steps.length) (hf : InR f first) (hlf : isIn live first) :
    CallsIn Wd 0 Try.prog 37 #[v, lv, .int .i64 first] g.w (Ret g fun g' r => Rs g' r (cycle f live first)) := by
  obtain ⟨a1, n1, c1, a2, n2, c2, rfl, rs0, rs1⟩ := id fl0
  obtain ⟨_, _, e⟩ := rs0.isSlice; obtain ⟨rfl, rfl, rfl⟩ := Value.slice.inj e; clear e
  obtain ⟨al, cl, rfl⟩ := rs2.isSlice
  have hs := St.start g
  have le0 := G.le.refl g
  have hn40 := valid_n hval
  have hf0 := hf.1; have hf1 := hf.2
  refine enter Try.func37 rfl Try.ntmps37 rfl ?_
  refine W_seq ?_; refine W_region ?_
  refine WL_o rfl rfl (OpR_box rfl hs rfl rfl ?_); clear hs; rintro bf g1 hs hqe; replace le0 := G.le.trans le0 hqe; replace rs0 := rs0.mono hqe; replace rs1 := rs1.mono hqe; replace rs2 := rs2.mono hqe; replace fl0 := fl0.mono hqe
  refine P1 T.ok rfl rfl rfl ?_; refine WL_nil ?_; (with_reducible refine T_then ?_); refine W_seq ?_; refine W_region ?_; refine P1 T.ok rfl rfl rfl ?_; refine WL_o rfl rfl (OpR_loadO T.ok 0 rfl hs rfl rfl rfl ?_); refine P1 T.ok rfl rfl rfl ?_
  obtain ⟨g2, hw2, hs2, hqe, hep⟩ := hs.fzObj (i := 0) rfl; replace hs := hs2; clear hs2; rw [← hw2]; replace le0 := G.le.trans le0 hqe; replace rs0 := rs0.mono hqe; replace rs1 := rs1.mono hqe; replace rs2 := rs2.mono hqe; replace fl0 := fl0.mono hqe
  have ep0 := hep; clear hep
  skip
  refine WL_o rfl rfl (OpR_make T.ok rfl hs rfl rfl rfl rfl rfl rfl (by decide) rfl (by show 8 * f.steps.length ≤ _; omega) (by unfold maxLen; omega) ?_); rintro ob gm hs hqe; replace le0 := G.le.trans le0 hqe; replace ep0 := ep0.mono hqe; replace rs0 := rs0.mono hqe; replace rs1 := rs1.mono hqe; replace rs2 := rs2.mono hqe; replace fl0 := fl0.mono hqe
  refine P1 T.ok rfl rfl rfl ?_; refine WL_nil ?_; (with_reducible refine T_then ?_); refine W_seq ?_; refine W_seq ?_; refine W_region ?_; refine P1 T.ok rfl rfl rfl ?_; refine WL_nil ?_; (with_reducible refine T_then ?_); refine W_block ?_
  have hst : St g gm [rowI ob f.steps.length (List.replicate f.steps.length 0)] := by
    unfold rowI; rw [← rowI_zero]; exact hs
  replace hs := hst; clear hst
  have hdi := DInv.begin f live hf0
  generalize List.replicate f.steps.length (0 : Int) = dist0 at *
  have ep0c := ep0; have rs0c := rs0; have rs2c := rs2; have le8 := G.le.refl gm
  refine W_loop (fun m a' w => ∃ (d : Nat) (dist : List Int) (g2 : G), w = g2.w ∧ St g g2 [rowI ob f.steps.length dist] ∧ G.le gm g2 ∧ DInv f live first dist d first.toNat ∧ 1 ≤ d ∧ d ≤ f.steps.length + 1 ∧ m = f.steps.length + 1 - d ∧
      Fr 162 [] [(1, .slice al live.length cl), (2, .int .i64 first), (3, .pointer (some ⟨bf, 0, none⟩)), (7, .slice (some ⟨ob, 0, none⟩) f.steps.length f.steps.length), (8, .int .i64 d)] a') f.steps.length
    (fun a' ha => ⟨1, dist0, gm, rfl, hs, le8, hdi, Nat.le_refl _, by omega, by omega, ha.keep (by (repeat (first | exact trivial | refine ⟨rfl, ?_⟩)))⟩) ?_
  clear hs le8 ep0 rs0 rs1 rs2 fl0 hdi
  rintro m a' _ ⟨d, dist, g2, rfl, hs, le8, hdi, hd1, hdn, rfl, ha'⟩
  have ep0 := ep0c.mono le8; have rs0 := rs0c.mono le8; have rs2 := rs2c.mono le8
  revert a'
  (with_reducible refine T_wp ?_); refine W_seq ?_; refine W_seq ?_; refine W_region ?_; refine P1 T.ok rfl rfl rfl ?_; refine P1 T.ok rfl rfl rfl ?_; refine WL_o rfl rfl (OpR_loadE T.ok 2 rfl ep0 rfl rfl ?_); refine P1 T.ok rfl rfl rfl ?_; refine P1 T.ok rfl rfl rfl ?_; refine WL_nil ?_; (with_reducible refine T_then ?_)
  by_cases hlt : d ≤ f.steps.length
  · refine W_yes (b := decide ((d : Int) ≤ (f.steps.length : Int))) (decide_eq_true (by omega)) rfl ?_
    refine W_skip ?_; (with_reducible refine T_then ?_); refine W_seq ?_; refine W_block ?_; refine W_seq ?_; refine W_region ?_; refine P1 T.ok rfl rfl rfl ?_; refine P1 T.ok rfl rfl rfl ?_; refine WL_nil ?_; (with_reducible refine T_then ?_); refine W_block ?_
    have ep0d := ep0; have rs0d := rs0; have rs2d := rs2; have le9 := G.le.refl g2
    refine W_loop (fun m a' w => ∃ (u : Nat) (dist : List Int) (g3 : G), w = g3.w ∧ St g g3 [rowI ob f.steps.length dist] ∧ G.le g2 g3 ∧ DInv f live first dist d u ∧ first.toNat ≤ u ∧ u ≤ f.steps.length ∧ m = f.steps.length - u ∧
        Fr 162 [] [(1, .slice al live.length cl), (2, .int .i64 first), (3, .pointer (some ⟨bf, 0, none⟩)), (7, .slice (some ⟨ob, 0, none⟩) f.steps.length f.steps.length), (8, .int .i64 d), (9, .int .i64 u)] a') (f.steps.length - first.toNat)
      (fun a' ha => ⟨first.toNat, dist, g2, rfl, hs, le9, hdi, Nat.le_refl _, by omega, by omega, ha.keep ⟨rfl, rfl, rfl, rfl, rfl, kI rfl (by omega), trivial⟩⟩) ?_
    clear hs le9 ep0 rs0 rs2 hdi
    rintro m a' _ ⟨u, dist, g3, rfl, hs, le9, hdi, hfu, hu, rfl, ha'⟩
    have ep0 := ep0d.mono le9; have rs0 := rs0d.mono le9; have rs2 := rs2d.mono le9
    have hdl := hdi.len
    revert a'
    (with_reducible refine T_wp ?_); refine W_seq ?_; refine W_seq ?_; refine W_region ?_; refine P1 T.ok rfl rfl rfl ?_; refine P1 T.ok rfl rfl rfl ?_; refine WL_o rfl rfl (OpR_loadE T.ok 2 rfl ep0 rfl rfl ?_); refine P1 T.ok rfl rfl rfl ?_; refine P1 T.ok rfl rfl rfl ?_; refine WL_nil ?_; (with_reducible refine T_then ?_)
    by_cases hlu : u < f.steps.length
    · refine W_yes (b := decide ((u : Int) < (f.steps.length : Int))) (decide_eq_true (by omega)) rfl ?_
      have hur : InR f (u : Int) := ⟨by omega, by omega⟩
      have hu0 := hur.1
      have hgl := geti_of (xs := live) (n := (u : Int)) rfl (by omega)
      have hlb : isIn live (u : Int) ↔ live[u] = true := by
        unfold isIn; rw [List.getD_eq_getElem?_getD, Int.toNat_natCast, List.getElem?_eq_getElem (by omega)]; rfl
      generalize live[u] = lb at *
      refine W_skip ?_; (with_reducible refine T_then ?_); refine W_seq ?_; refine W_block ?_; refine W_seq ?_; refine W_seq ?_; refine W_region ?_; refine P1 T.ok rfl rfl rfl ?_; refine P1 T.ok rfl rfl rfl ?_
      refine WL_o rfl rfl (OpR_idx T.ok rfl rs2 (y := lb) hgl rfl rfl rfl rfl rfl rfl ?_)
      rintro b q ys hep rfl
      refine WL_o rfl rfl (OpR_loadE T.ok 0 rfl hep rfl rfl ?_)
      clear hep
      cases lb with
      | false =>
        have hsk := hdi.skip (.inl (fun h => by simpa using hlb.1 h))
        refine P1 T.ok rfl rfl rfl ?_; refine P1 T.ok rfl rfl rfl ?_; (iterate 5 refine S1 allF rfl rfl ?_); refine P1 T.ok rfl rfl rfl ?_; refine WL_nil ?_; (with_reducible refine T_then ?_)
        refine W_yes rfl rfl ?_
        refine W_exit ?_; (with_reducible refine T_tx ?_); (with_reducible refine T_bx ?_); (with_reducible refine T_then ?_); refine W_region ?_; (iterate 3 refine P1 T.ok rfl rfl rfl ?_); refine WL_nil ?_
        exact fun a ha => ⟨f.steps.length - (u + 1), by omega, u + 1, dist, _, rfl, hs, le9, hsk, by omega, by omega, rfl, ha.keep ⟨rfl, rfl, rfl, rfl, rfl, kI rfl (by rw [wr (by omega) (by omega)]; omega), trivial⟩⟩
      | true =>
        have hlu2 := hlb.2 rfl
        (iterate 4 refine P1 T.ok rfl rfl rfl ?_)
        refine WL_o rfl rfl (OpR_idxR T.ok rfl (hs.own 0 _ rfl).1 hu0 (by omega) rfl rfl rfl rfl rfl rfl ?_)
        rintro b q hh; obtain ⟨rfl, rfl⟩ : ob = b ∧ 0 = q := by simpa using hh
        refine WL_o rfl rfl (OpR_loadR T.ok ((u : Int).toNat * 1) rfl (hs.own 0 _ rfl).1 rfl (v := .int .i64 (dg dist u)) (dg_cell hu0 (by omega)) ?_)
        by_cases hpos : 0 < dg dist u
        · have hsk := hdi.skip (.inr (by omega))
          refine P1 T.ok rfl rfl rfl ?_; refine P1 T.ok rfl rfl rfl ?_; refine WL_nil ?_; (with_reducible refine T_then ?_)
          refine W_yes (b := decide ((0 : Int) < dg dist u)) (decide_eq_true hpos) rfl ?_
          refine W_exit ?_; (with_reducible refine T_tx ?_); (with_reducible refine T_bx ?_); (with_reducible refine T_then ?_); refine W_region ?_; (iterate 3 refine P1 T.ok rfl rfl rfl ?_); refine WL_nil ?_
          exact fun a ha => ⟨f.steps.length - (u + 1), by omega, u + 1, dist, _, rfl, hs, le9, hsk, by omega, by omega, rfl, ha.keep ⟨rfl, rfl, rfl, rfl, rfl, kI rfl (by rw [wr (by omega) (by omega)]; omega), trivial⟩⟩
        · have hz : dg dist u = 0 := by
            rcases hdi.val u hur with h | ⟨e, h, _⟩
            · exact h
            · omega
          refine P1 T.ok rfl rfl rfl ?_; refine P1 T.ok rfl rfl rfl ?_; refine WL_nil ?_; (with_reducible refine T_then ?_)
          refine W_no (b := decide ((0 : Int) < dg dist u)) (decide_eq_false hpos) rfl ?_
          have hlv := hdi.leave hval hur hlu2 (by omega) hz
          have hnr := next_inR hval hur
          have htl : ∀ l, (dTab first d dist u l).length = f.steps.length := fun l => by rw [dTab_len, hdl]
          have hts : ∀ l (c : Int), 0 ≤ c → dTab first d dist u (l ++ [c]) = if dHitB first d (dTab first d dist u l) c = true then (dTab first d dist u l).set u (d : Int) else dTab first d dist u l := fun l c hc => dTab_snoc hz (by omega) hc
          have ht0 : dTab first d dist u [] = dist := rfl
          refine W_skip ?_; (with_reducible refine T_then ?_); refine W_seq ?_; refine W_region ?_; refine P1 T.ok rfl rfl rfl ?_; refine WL_o rfl rfl (OpR_loadE T.ok 2 rfl ep0 rfl rfl ?_); refine P1 T.ok rfl rfl rfl ?_
          refine WL_o rfl rfl (OpR_idx T.ok rfl rs0 (y := stepD f u) (step_geti hur) rfl rfl rfl rfl rfl rfl ?_)
          rintro b q ys hep ⟨b1, b2, b3, b4, b5, b6, rfl, _, rs4⟩
          obtain ⟨_, _, e⟩ := rs4.isSlice; obtain ⟨rfl, rfl, rfl⟩ := Value.slice.inj e; clear e
          refine WL_o rfl rfl (OpR_pure _ T.ok rfl ?_)
          refine WL_o rfl rfl (OpR_loadE T.ok 4 rfl hep rfl rfl ?_)
          clear hep
          refine P1 T.ok rfl rfl rfl ?_; refine WL_nil ?_; (with_reducible refine T_then ?_); refine W_seq ?_; refine W_region ?_; refine P1 T.ok rfl rfl rfl ?_; refine WL_nil ?_; (with_reducible refine T_then ?_); refine W_block ?_
          have hnl := rs4.len_le
          unfold maxLen at hnl
          have ep0e := ep0; have rs0e := rs0; have rs4e := rs4; have le4 := G.le.refl g3
          refine W_loop (fun m a' w => ∃ (i : Nat) (g4 : G), w = g4.w ∧ St g g4 [rowI ob f.steps.length (dTab first d dist u ((stepD f u).next.take i))] ∧ G.le g3 g4 ∧ i ≤ (stepD f u).next.length ∧ m = (stepD f u).next.length - i ∧
              Fr 162 [] [(1, .slice al live.length cl), (2, .int .i64 first), (3, .pointer (some ⟨bf, 0, none⟩)), (7, .slice (some ⟨ob, 0, none⟩) f.steps.length f.steps.length), (8, .int .i64 d), (9, .int .i64 u), (10, .slice b4 (stepD f u).next.length b6), (11, .int .i64 i)] a') (stepD f u).next.length
            (fun a' ha => ⟨0, g3, rfl, by rw [List.take_zero, ht0]; exact hs, le4, Nat.zero_le _, rfl, ha.keep (by (repeat (first | exact trivial | refine ⟨rfl, ?_⟩)))⟩) ?_
          clear hs le4 ep0 rs0 rs4 rs2 hdi ht0
          rintro m a' _ ⟨i, g4, rfl, hs, le4, hi, rfl, ha'⟩
          have ep0 := ep0e.mono le4; have rs0 := rs0e.mono le4; have rs4 := rs4e.mono le4
          revert a'
          (with_reducible refine T_wp ?_); refine W_seq ?_; refine W_seq ?_; refine W_region ?_; (iterate 4 refine P1 T.ok rfl rfl rfl ?_); refine WL_nil ?_; (with_reducible refine T_then ?_)
          by_cases hli : i < (stepD f u).next.length
          · refine W_yes (b := decide ((i : Int) < ((stepD f u).next.length : Int))) (decide_eq_true (by omega)) rfl ?_
            have hgi := geti_of (xs := (stepD f u).next) (n := (i : Int)) rfl hli
            have hcr : InR f (stepD f u).next[i] := hnr _ (List.getElem_mem hli)
            have hsn := hts ((stepD f u).next.take i) (stepD f u).next[i] hcr.1
            have htl1 := htl ((stepD f u).next.take i)
            rw [← List.take_succ_eq_append_getElem hli] at hsn
            generalize dTab first d dist u ((stepD f u).next.take i) = tb at *
            generalize (stepD f u).next[i] = c at *
            have hc0 := hcr.1; have hc1 := hcr.2
            refine W_skip ?_; (with_reducible refine T_then ?_); refine W_seq ?_; refine W_block ?_; refine W_seq ?_; refine W_region ?_; (iterate 3 refine P1 T.ok rfl rfl rfl ?_)
            by_cases hde : d = 1
            · refine WL_know 62 (b' := true) (by simpa using (show (d : Int) = 1 from by omega)) rfl ?_
              refine P1 T.ok rfl rfl rfl ?_; refine P1 T.ok rfl rfl rfl ?_
              refine WL_o rfl rfl (OpR_idx T.ok rfl rs4 (y := c) hgi rfl rfl rfl rfl rfl rfl ?_)
              rintro b q ys hep rfl
              refine WL_o rfl rfl (OpR_loadE T.ok 0 rfl hep rfl rfl ?_)
              clear hep
              (iterate 4 refine P1 T.ok rfl rfl rfl ?_)
              by_cases hcf : c = first
              · refine WL_know 70 (b' := true) (by simpa using hcf) rfl ?_
                (iterate 22 refine S1 allF rfl rfl ?_); refine P1 T.ok rfl rfl rfl ?_; refine WL_nil ?_; (with_reducible refine T_then ?_)
                rw [if_pos (by unfold dHitB; simp; omega)] at hsn
                refine W_yes rfl rfl ?_
                refine W_region ?_; (iterate 3 refine P1 T.ok rfl rfl rfl ?_)
                refine WL_o rfl rfl (OpR_idxR T.ok rfl (hs.own 0 _ rfl).1 (show (0 : Int) ≤ (u : Int) from by omega) (by omega) rfl rfl rfl rfl rfl rfl ?_)
                rintro b q hh; obtain ⟨rfl, rfl⟩ : ob = b ∧ 0 = q := by simpa using hh
                refine WL_n rfl (OpR_storeR T.ok 0 ((u : Int).toNat * 1) (us := [.int .i64 d]) rfl hs rfl rfl rfl rfl rfl rfl rfl (by simp) (by simp; omega) (set_spl _ _ (Value.int .i64) (d : Int) (by omega)) ?_)
                rintro g9 hs hqe; replace le4 := G.le.trans le4 hqe; replace ep0 := ep0.mono hqe; replace rs0 := rs0.mono hqe; replace rs4 := rs4.mono hqe
                refine WL_nil ?_; (with_reducible refine T_bn ?_); (with_reducible refine T_then ?_); refine W_region ?_; (iterate 3 refine P1 T.ok rfl rfl rfl ?_); refine WL_nil ?_
                exact fun a ha => ⟨(stepD f (u : Int)).next.length - (i + 1), by omega, i + 1, _, rfl, by rw [hsn]; exact hs, le4, by omega, rfl, ha.keep ⟨rfl, rfl, rfl, rfl, rfl, rfl, rfl, kI rfl (by rw [wr (by omega) (by omega)]; omega), trivial⟩⟩
              · refine WL_know 70 (b' := false) (by simpa using hcf) rfl ?_
                (iterate 3 refine P1 T.ok rfl rfl rfl ?_)
                refine WL_know 73 (b' := false) (decide_eq_false (by omega)) rfl ?_
                (iterate 6 refine S1 allF rfl rfl ?_); refine P1 T.ok rfl rfl rfl ?_; refine P1 T.ok rfl rfl rfl ?_; (iterate 10 refine S1 allF rfl rfl ?_); refine P1 T.ok rfl rfl rfl ?_; refine P1 T.ok rfl rfl rfl ?_; refine WL_nil ?_; (with_reducible refine T_then ?_)
                rw [if_neg (by unfold dHitB; simp; omega)] at hsn
                refine W_no rfl rfl ?_
                refine W_skip ?_; (with_reducible refine T_bn ?_); (with_reducible refine T_then ?_); refine W_region ?_; (iterate 3 refine P1 T.ok rfl rfl rfl ?_); refine WL_nil ?_
                exact fun a ha => ⟨(stepD f (u : Int)).next.length - (i + 1), by omega, i + 1, _, rfl, by rw [hsn]; exact hs, le4, by omega, rfl, ha.keep ⟨rfl, rfl, rfl, rfl, rfl, rfl, rfl, kI rfl (by rw [wr (by omega) (by omega)]; omega), trivial⟩⟩
            · refine WL_know 62 (b' := false) (by simpa using (show ¬ (d : Int) = 1 from by omega)) rfl ?_
              (iterate 6 refine S1 allF rfl rfl ?_); (iterate 5 refine P1 T.ok rfl rfl rfl ?_)
              refine WL_know 73 (b' := true) (decide_eq_true (by omega)) rfl ?_
              refine P1 T.ok rfl rfl rfl ?_; refine P1 T.ok rfl rfl rfl ?_
              refine WL_o rfl rfl (OpR_idx T.ok rfl rs4 (y := c) hgi rfl rfl rfl rfl rfl rfl ?_)
              rintro b q ys hep rfl
              refine WL_o rfl rfl (OpR_loadE T.ok 0 rfl hep rfl rfl ?_)
              clear hep
              (iterate 4 refine P1 T.ok rfl rfl rfl ?_)
              by_cases hfc : first < c
              · refine WL_know 81 (b' := true) (decide_eq_true hfc) rfl ?_
                (iterate 3 refine P1 T.ok rfl rfl rfl ?_)
                refine WL_o rfl rfl (OpR_idx T.ok rfl rs4 (y := c) hgi rfl rfl rfl rfl rfl rfl ?_)
                rintro b q ys hep rfl
                refine WL_o rfl rfl (OpR_loadE T.ok 0 rfl hep rfl rfl ?_)
                clear hep
                refine WL_o rfl rfl (OpR_idxR T.ok rfl (hs.own 0 _ rfl).1 hc0 (by omega) rfl rfl rfl rfl rfl rfl ?_)
                rintro b q hh; obtain ⟨rfl, rfl⟩ : ob = b ∧ 0 = q := by simpa using hh
                refine WL_o rfl rfl (OpR_loadR T.ok ((c : Int).toNat * 1) rfl (hs.own 0 _ rfl).1 rfl (v := .int .i64 (dg tb c)) (dg_cell hc0 (by omega)) ?_)
                (iterate 5 refine P1 T.ok rfl rfl rfl ?_); refine WL_nil ?_; (with_reducible refine T_then ?_)
                by_cases hdc : dg tb c = (d : Int) - 1
                · rw [if_pos (by unfold dHitB; simp; omega)] at hsn
                  refine W_yes (b := dg tb c == IntKind.i64.wrap ((d : Int) - 1)) (by rw [wr (by omega) (by omega)]; simpa using hdc) rfl ?_
                  refine W_region ?_; (iterate 3 refine P1 T.ok rfl rfl rfl ?_)
                  refine WL_o rfl rfl (OpR_idxR T.ok rfl (hs.own 0 _ rfl).1 (show (0 : Int) ≤ (u : Int) from by omega) (by omega) rfl rfl rfl rfl rfl rfl ?_)
                  rintro b q hh; obtain ⟨rfl, rfl⟩ : ob = b ∧ 0 = q := by simpa using hh
                  refine WL_n rfl (OpR_storeR T.ok 0 ((u : Int).toNat * 1) (us := [.int .i64 d]) rfl hs rfl rfl rfl rfl rfl rfl rfl (by simp) (by simp; omega) (set_spl _ _ (Value.int .i64) (d : Int) (by omega)) ?_)
                  rintro g9 hs hqe; replace le4 := G.le.trans le4 hqe; replace ep0 := ep0.mono hqe; replace rs0 := rs0.mono hqe; replace rs4 := rs4.mono hqe
                  refine WL_nil ?_; (with_reducible refine T_bn ?_); (with_reducible refine T_then ?_); refine W_region ?_; (iterate 3 refine P1 T.ok rfl rfl rfl ?_); refine WL_nil ?_
                  exact fun a ha => ⟨(stepD f (u : Int)).next.length - (i + 1), by omega, i + 1, _, rfl, by rw [hsn]; exact hs, le4, by omega, rfl, ha.keep ⟨rfl, rfl, rfl, rfl, rfl, rfl, rfl, kI rfl (by rw [wr (by omega) (by omega)]; omega), trivial⟩⟩
                · rw [if_neg (by unfold dHitB; simp; omega)] at hsn
                  refine W_no (b := dg tb c == IntKind.i64.wrap ((d : Int) - 1)) (by rw [wr (by omega) (by omega)]; simpa using hdc) rfl ?_
                  refine W_skip ?_; (with_reducible refine T_bn ?_); (with_reducible refine T_then ?_); refine W_region ?_; (iterate 3 refine P1 T.ok rfl rfl rfl ?_); refine WL_nil ?_
                  exact fun a ha => ⟨(stepD f (u : Int)).next.length - (i + 1), by omega, i + 1, _, rfl, by rw [hsn]; exact hs, le4, by omega, rfl, ha.keep ⟨rfl, rfl, rfl, rfl, rfl, rfl, rfl, kI rfl (by rw [wr (by omega) (by omega)]; omega), trivial⟩⟩
              · refine WL_know 81 (b' := false) (decide_eq_false hfc) rfl ?_
                (iterate 10 refine S1 allF rfl rfl ?_); refine P1 T.ok rfl rfl rfl ?_; refine P1 T.ok rfl rfl rfl ?_; refine WL_nil ?_; (with_reducible refine T_then ?_)
                rw [if_neg (by unfold dHitB; simp; omega)] at hsn
                refine W_no rfl rfl ?_
                refine W_skip ?_; (with_reducible refine T_bn ?_); (with_reducible refine T_then ?_); refine W_region ?_; (iterate 3 refine P1 T.ok rfl rfl rfl ?_); refine WL_nil ?_
                exact fun a ha => ⟨(stepD f (u : Int)).next.length - (i + 1), by omega, i + 1, _, rfl, by rw [hsn]; exact hs, le4, by omega, rfl, ha.keep ⟨rfl, rfl, rfl, rfl, rfl, rfl, rfl, kI rfl (by rw [wr (by omega) (by omega)]; omega), trivial⟩⟩
          · refine W_no (b := decide ((i : Int) < ((stepD f u).next.length : Int))) (decide_eq_false (by omega)) rfl ?_
            rw [List.take_of_length_le (by omega)] at hs
            refine W_exit ?_; (with_reducible refine T_tx ?_; with_reducible refine T_tx ?_); (with_reducible refine T_bx ?_); (with_reducible refine T_bn ?_); (with_reducible refine T_then ?_); refine W_region ?_; (iterate 3 refine P1 T.ok rfl rfl rfl ?_); refine WL_nil ?_
            exact fun a ha => ⟨f.steps.length - (u + 1), by omega, u + 1, _, _, rfl, hs, le9.trans le4, hlv, by omega, by omega, rfl, ha.keep ⟨rfl, rfl, rfl, rfl, rfl, kI rfl (by rw [wr (by omega) (by omega)]; omega), trivial⟩⟩
    · refine W_no (b := decide ((u : Int) < (f.steps.length : Int))) (decide_eq_false (by omega)) rfl ?_
      obtain rfl : u = f.steps.length := by omega
      have hrd := hdi.round hf0
      refine W_exit ?_; (with_reducible refine T_tx ?_; with_reducible refine T_tx ?_); (with_reducible refine T_bx ?_); (with_reducible refine T_bn ?_); (with_reducible refine T_then ?_); refine W_region ?_; (iterate 3 refine P1 T.ok rfl rfl rfl ?_); refine WL_nil ?_
      exact fun a ha => ⟨f.steps.length + 1 - (d + 1), by omega, d + 1, dist, _, rfl, hs, le8.trans le9, hrd, by omega, by omega, rfl, ha.keep ⟨rfl, rfl, rfl, rfl, kI rfl (by rw [wr (by omega) (by omega)]; omega), trivial⟩⟩
  · refine W_no (b := decide ((d : Int) ≤ (f.steps.length : Int))) (decide_eq_false (by omega)) rfl ?_
    obtain rfl : d = f.steps.length + 1 := by omega
    have hdl := hdi.len
    refine W_exit ?_; (with_reducible refine T_tx ?_; with_reducible refine T_tx ?_); (with_reducible refine T_bx ?_); (with_reducible refine T_then ?_); refine W_seq ?_; refine W_seq ?_; refine W_region ?_; refine P1 T.ok rfl rfl rfl ?_; refine P1 T.ok rfl rfl rfl ?_
    refine WL_o rfl rfl (OpR_idxR T.ok rfl (hs.own 0 _ rfl).1 hf0 (by omega) rfl rfl rfl rfl rfl rfl ?_)
    rintro b q hh; obtain ⟨rfl, rfl⟩ : ob = b ∧ 0 = q := by simpa using hh
    refine WL_o rfl rfl (OpR_loadR T.ok ((first : Int).toNat * 1) rfl (hs.own 0 _ rfl).1 rfl (v := .int .i64 (dg dist first)) (dg_cell hf0 (by omega)) ?_)
    refine P1 T.ok rfl rfl rfl ?_; refine WL_nil ?_; (with_reducible refine T_then ?_)
    by_cases hz : dg dist first = 0
    · refine W_yes (b := dg dist first == 0) (by simpa using hz) rfl ?_
      refine W_seq ?_; refine W_region ?_; refine P1 T.ok rfl rfl rfl ?_; refine WL_nil ?_; (with_reducible refine T_then ?_)
      refine W_ret (ret1 rfl rfl (hs.ret ?_))
      rw [hdi.zero hval hf hl hlf hz]; exact Rs.nil _
    · refine W_no (b := dg dist first == 0) (by simpa using hz) rfl ?_
      obtain ⟨hne, hdl2⟩ := hdi.len_eq hval hf hl hlf hz
      have hpick := fun k h1 h2 => hdi.pick hval hf hl hne (k := k) h1 h2
      have hz0 := ((cycle_least hval hf hl).2 hne).1.zero
      have hcl := cycle_len hval hf hl hne
      have hcp := List.length_pos_iff.2 hne
      have ht1 : (cycle f live first).take 1 = [first] := by rw [take_getD hcp, List.take_zero, hz0]; rfl
      generalize hcy : cycle f live first = cy at *
      refine W_skip ?_; (with_reducible refine T_then ?_); refine W_seq ?_; refine W_region ?_; refine P1 T.ok rfl rfl rfl ?_
      refine WL_o rfl rfl (OpR_lit T.ok rfl hs (vs := [(0, .int .i64 first)]) (cells := [.int .i64 first]) rfl rfl rfl rfl rfl rfl (by decide) (by decide) (by kernel_rfl) rfl ?_); rintro bl gl hs hqe; replace le8 := G.le.trans le8 hqe; replace ep0 := ep0.mono hqe; replace rs0 := rs0.mono hqe; replace rs2 := rs2.mono hqe
      refine P1 T.ok rfl rfl rfl ?_; refine WL_nil ?_; (with_reducible refine T_then ?_); refine W_seq ?_; refine W_region ?_; refine P1 T.ok rfl rfl rfl ?_; refine P1 T.ok rfl rfl rfl ?_; refine WL_nil ?_; (with_reducible refine T_then ?_); refine W_seq ?_; refine W_seq ?_; refine W_region ?_; refine P1 T.ok rfl rfl rfl ?_; refine P1 T.ok rfl rfl rfl ?_
      refine WL_o rfl rfl (OpR_idxR T.ok rfl (hs.own 1 _ rfl).1 hf0 (by omega) rfl rfl rfl rfl rfl rfl ?_)
      rintro b q hh; obtain ⟨rfl, rfl⟩ : ob = b ∧ 0 = q := by simpa using hh
      refine WL_o rfl rfl (OpR_loadR T.ok ((first : Int).toNat * 1) rfl (hs.own 1 _ rfl).1 rfl (v := .int .i64 (dg dist first)) (dg_cell hf0 (by omega)) ?_)
      refine P1 T.ok rfl rfl rfl ?_; refine WL_nil ?_; (with_reducible refine T_then ?_); refine W_block ?_
      have hst : St g gl [rowQ (.slice (some ⟨bl, 0, none⟩) 1 1) (cy.take 1), rowI ob f.steps.length dist] := by rw [ht1]; exact hs
      replace hs := hst; clear hst
      have ep0d := ep0; have rs0d := rs0; have rs2d := rs2; have le9 := G.le.refl gl
      refine W_loop (fun m a' w => ∃ (k : Nat) (ov : Value) (g3 : G), w = g3.w ∧ St g g3 [rowQ ov (cy.take k), rowI ob f.steps.length dist] ∧ G.le gl g3 ∧ 1 ≤ k ∧ k ≤ cy.length ∧ m = cy.length - k ∧
          Fr 162 [] [(1, .slice al live.length cl), (2, .int .i64 first), (3, .pointer (some ⟨bf, 0, none⟩)), (7, .slice (some ⟨ob, 0, none⟩) f.steps.length f.steps.length), (12, ov), (13, .int .i64 (cy.getD (k - 1) 0)), (14, .int .i64 ((cy.length : Int) - k + 1))] a') (cy.length - 1)
        (fun a' ha => ⟨1, _, gl, rfl, hs, le9, Nat.le_refl _, by omega, by omega, ha.keep ⟨rfl, rfl, rfl, rfl, rfl, kI rfl hz0.symm, kI rfl (by omega), trivial⟩⟩) ?_
      clear hs le9 ep0 rs0 rs2
      rintro m a' _ ⟨k, ov, g3, rfl, hs, le9, hk1, hk2, rfl, ha'⟩
      have ep0 := ep0d.mono le9; have rs0 := rs0d.mono le9; have rs2 := rs2d.mono le9
      obtain ⟨qa, qc, rfl⟩ := (hs.own 0 _ rfl).1.form
      revert a'
      (with_reducible refine T_wp ?_); refine W_seq ?_; refine W_seq ?_; refine W_region ?_; refine P1 T.ok rfl rfl rfl ?_; refine P1 T.ok rfl rfl rfl ?_; refine WL_nil ?_; (with_reducible refine T_then ?_)
      by_cases hlk : k < cy.length
      · refine W_yes (b := decide ((1 : Int) < (cy.length : Int) - k + 1)) (decide_eq_true (by omega)) rfl ?_
        obtain ⟨hfnd, har⟩ := hpick k (by omega) hlk
        have hts := take_getD hlk
        have hkk : cy.getD (k + 1 - 1) 0 = cy.getD k 0 := rfl
        have htkl : (cy.take k).length = k := by rw [List.length_take]; omega
        generalize cy.getD (k - 1) 0 = at_ at *
        generalize cy.getD k 0 = nx at *
        have hnr := next_inR hval har
        refine W_skip ?_; (with_reducible refine T_then ?_); refine W_seq ?_; refine W_block ?_; refine W_seq ?_; refine W_region ?_; refine P1 T.ok rfl rfl rfl ?_; refine WL_o rfl rfl (OpR_loadE T.ok 2 rfl ep0 rfl rfl ?_); refine P1 T.ok rfl rfl rfl ?_
        refine WL_o rfl rfl (OpR_idx T.ok rfl rs0 (y := stepD f at_) (step_geti har) rfl rfl rfl rfl rfl rfl ?_)
        rintro b q ys hep ⟨b1, b2, b3, b4, b5, b6, rfl, _, rs4⟩
        obtain ⟨_, _, e⟩ := rs4.isSlice; obtain ⟨rfl, rfl, rfl⟩ := Value.slice.inj e; clear e
        refine WL_o rfl rfl (OpR_pure _ T.ok rfl ?_)
        refine WL_o rfl rfl (OpR_loadE T.ok 4 rfl hep rfl rfl ?_)
        clear hep
        refine P1 T.ok rfl rfl rfl ?_; refine WL_nil ?_; (with_reducible refine T_then ?_); refine W_seq ?_; refine W_seq ?_; refine W_region ?_; refine P1 T.ok rfl rfl rfl ?_; refine WL_nil ?_; (with_reducible refine T_then ?_); refine W_block ?_
        have hnl := rs4.len_le
        unfold maxLen at hnl
        have ep0e := ep0; have rs2e := rs2; have rs4e := rs4; have le4 := G.le.refl g3
        refine W_loop (fun m a' w => ∃ (i : Nat) (g4 : G), w = g4.w ∧ St g g4 [rowQ (.slice qa (cy.take k).length qc) (cy.take k), rowI ob f.steps.length dist] ∧ G.le g3 g4 ∧ ((stepD f at_).next.drop i).find? (picks live first dist ((cy.length : Int) - k)) = some nx ∧ m = (stepD f at_).next.length - i ∧
            Fr 162 [] [(1, .slice al live.length cl), (2, .int .i64 first), (3, .pointer (some ⟨bf, 0, none⟩)), (7, .slice (some ⟨ob, 0, none⟩) f.steps.length f.steps.length), (12, .slice qa (cy.take k).length qc), (14, .int .i64 ((cy.length : Int) - k + 1)), (15, .slice b4 (stepD f at_).next.length b6), (16, .int .i64 i)] a') (stepD f at_).next.length
          (fun a' ha => ⟨0, g3, rfl, hs, le4, by rw [List.drop_zero]; exact hfnd, rfl, ha.keep (by (repeat (first | exact trivial | refine ⟨rfl, ?_⟩)))⟩) ?_
        clear hs le4 ep0 rs0 rs4 rs2 hfnd
        rintro m a' _ ⟨i, g4, rfl, hs, le4, hfnd, rfl, ha'⟩
        have ep0 := ep0e.mono le4; have rs2 := rs2e.mono le4; have rs4 := rs4e.mono le4
        obtain ⟨hli, hyes, hnon⟩ := picks_step hfnd
        have hgi := geti_of (xs := (stepD f at_).next) (n := (i : Int)) rfl hli
        have hcr : InR f (stepD f at_).next[i] := hnr _ (List.getElem_mem hli)
        generalize (stepD f at_).next[i] = c at *
        have hc0 := hcr.1; have hc1 := hcr.2
        revert a'
        (with_reducible refine T_wp ?_); refine W_seq ?_; refine W_seq ?_; refine W_region ?_; (iterate 4 refine P1 T.ok rfl rfl rfl ?_); refine WL_nil ?_; (with_reducible refine T_then ?_)
        refine W_yes (b := decide ((i : Int) < ((stepD f at_).next.length : Int))) (decide_eq_true (by omega)) rfl ?_
        refine W_skip ?_; (with_reducible refine T_then ?_); refine W_seq ?_; refine W_block ?_; refine W_seq ?_; refine W_region ?_; refine P1 T.ok rfl rfl rfl ?_; refine P1 T.ok rfl rfl rfl ?_
        refine WL_o rfl rfl (OpR_idx T.ok rfl rs4 (y := c) hgi rfl rfl rfl rfl rfl rfl ?_)
        rintro b q ys hep rfl
        refine WL_o rfl rfl (OpR_loadE T.ok 0 rfl hep rfl rfl ?_)
        clear hep
        (iterate 3 refine P1 T.ok rfl rfl rfl ?_)
        by_cases hfc : first < c
        · refine WL_know 132 (b' := true) (decide_eq_true hfc) rfl ?_
          have hgl := geti_of (xs := live) (n := c) (j := c.toNat) (by omega) (by omega)
          have hlb : live.getD c.toNat false = live[c.toNat]'(by omega) := by
            rw [List.getD_eq_getElem?_getD, List.getElem?_eq_getElem (by omega)]; rfl
          generalize live[c.toNat]'(by omega) = lb at *
          (iterate 3 refine P1 T.ok rfl rfl rfl ?_)
          refine WL_o rfl rfl (OpR_idx T.ok rfl rs4 (y := c) hgi rfl rfl rfl rfl rfl rfl ?_)
          rintro b q ys hep rfl
          refine WL_o rfl rfl (OpR_loadE T.ok 0 rfl hep rfl rfl ?_)
          clear hep
          skip
          refine WL_o rfl rfl (OpR_idx T.ok rfl rs2 (y := lb) hgl rfl rfl rfl rfl rfl rfl ?_)
          rintro b q ys hep rfl
          refine WL_o rfl rfl (OpR_loadE T.ok 0 rfl hep rfl rfl ?_)
          clear hep
          cases lb with
          | false =>
            refine P1 T.ok rfl rfl rfl ?_; refine P1 T.ok rfl rfl rfl ?_; (iterate 10 refine S1 allF rfl rfl ?_); refine P1 T.ok rfl rfl rfl ?_; refine WL_nil ?_; (with_reducible refine T_then ?_)
            refine W_no rfl rfl ?_
            have hfn2 := hnon (by unfold picks; rw [hlb]; simp)
            refine W_skip ?_; (with_reducible refine T_bn ?_); (with_reducible refine T_then ?_); refine W_region ?_; (iterate 3 refine P1 T.ok rfl rfl rfl ?_); refine WL_nil ?_
            exact fun a ha => ⟨(stepD f at_).next.length - (i + 1), by omega, i + 1, _, rfl, hs, le4, hfn2, rfl, ha.keep ⟨rfl, rfl, rfl, rfl, rfl, rfl, rfl, kI rfl (by rw [wr (by omega) (by omega)]; omega), trivial⟩⟩
          | true =>
            (iterate 5 refine P1 T.ok rfl rfl rfl ?_)
            refine WL_o rfl rfl (OpR_idx T.ok rfl rs4 (y := c) hgi rfl rfl rfl rfl rfl rfl ?_)
            rintro b q ys hep rfl
            refine WL_o rfl rfl (OpR_loadE T.ok 0 rfl hep rfl rfl ?_)
            clear hep
            refine WL_o rfl rfl (OpR_idxR T.ok rfl (hs.own 1 _ rfl).1 hc0 (by omega) rfl rfl rfl rfl rfl rfl ?_)
            rintro b q hh; obtain ⟨rfl, rfl⟩ : ob = b ∧ 0 = q := by simpa using hh
            refine WL_o rfl rfl (OpR_loadR T.ok ((c : Int).toNat * 1) rfl (hs.own 1 _ rfl).1 rfl (v := .int .i64 (dg dist c)) (dg_cell hc0 (by omega)) ?_)
            (iterate 4 refine P1 T.ok rfl rfl rfl ?_); refine WL_nil ?_; (with_reducible refine T_then ?_)
            by_cases hdc : dg dist c = (cy.length : Int) - k
            · refine W_yes (b := dg dist c == IntKind.i64.wrap ((cy.length : Int) - k + 1 - 1)) (by rw [wr (by omega) (by omega)]; simp; omega) rfl ?_
              have hcn := hyes (by unfold picks; rw [hlb, hdc, decide_eq_true hfc]; simp)
              subst hcn
              refine W_seq ?_; refine W_region ?_; refine P1 T.ok rfl rfl rfl ?_; refine P1 T.ok rfl rfl rfl ?_
              refine WL_o rfl rfl (OpR_idx T.ok rfl rs4 (y := c) hgi rfl rfl rfl rfl rfl rfl ?_)
              rintro b q ys hep rfl
              refine WL_o rfl rfl (OpR_loadE T.ok 0 rfl hep rfl rfl ?_)
              clear hep
              refine P1 T.ok rfl rfl rfl ?_; refine WL_nil ?_; (with_reducible refine T_then ?_); refine W_exit ?_; ((with_reducible refine T_by ?_ ?_); exact rfl); (with_reducible refine T_tx ?_; with_reducible refine T_tx ?_); (with_reducible refine T_bx ?_); (with_reducible refine T_then ?_); refine W_region ?_; refine P1 T.ok rfl rfl rfl ?_; refine P1 T.ok rfl rfl rfl ?_
              refine WL_o rfl rfl (OpR_lit T.ok rfl hs (vs := [(0, .int .i64 c)]) (cells := [.int .i64 c]) rfl rfl rfl rfl rfl rfl (by decide) (by decide) (by kernel_rfl) rfl ?_); rintro bl2 gl2 hs hqe; replace le4 := G.le.trans le4 hqe; replace ep0 := ep0.mono hqe; replace rs2 := rs2.mono hqe; replace rs4 := rs4.mono hqe
              skip
              refine WL_o rfl rfl (OpR_append T.ok 1 rfl hs rfl rfl rfl rfl rfl rfl rfl (by decide) rfl (Src.of_row (hs.own 0 _ rfl).1).2 (by simp [Value.oneCell']) (by show ((cy.take k).length + 1) * 8 ≤ _; omega) (by unfold maxLen; omega) ?_); rintro a9 c9 g8 hs hqe; replace le4 := G.le.trans le4 hqe; replace ep0 := ep0.mono hqe; replace rs2 := rs2.mono hqe; replace rs4 := rs4.mono hqe
              refine P1 T.ok rfl rfl rfl ?_; refine WL_nil ?_; (with_reducible refine T_bn ?_); (with_reducible refine T_then ?_); refine W_region ?_; (iterate 3 refine P1 T.ok rfl rfl rfl ?_); refine WL_nil ?_
              exact fun a ha => ⟨cy.length - (k + 1), by omega, k + 1, .slice a9 ((cy.take k).length + 1) c9, _, rfl, by rw [hts]; simpa [rowQ, rowI] using hs.drop 0, le9.trans le4, by omega, by omega, rfl, ha.keep ⟨rfl, rfl, rfl, rfl, rfl, kI rfl hkk.symm, kI rfl (by rw [wr (by omega) (by omega)]; omega), trivial⟩⟩
            · refine W_no (b := dg dist c == IntKind.i64.wrap ((cy.length : Int) - k + 1 - 1)) (by rw [wr (by omega) (by omega)]; simp; omega) rfl ?_
              have hfn2 := hnon (by unfold picks; simp [hdc])
              refine W_skip ?_; (with_reducible refine T_bn ?_); (with_reducible refine T_then ?_); refine W_region ?_; (iterate 3 refine P1 T.ok rfl rfl rfl ?_); refine WL_nil ?_
              exact fun a ha => ⟨(stepD f at_).next.length - (i + 1), by omega, i + 1, _, rfl, hs, le4, hfn2, rfl, ha.keep ⟨rfl, rfl, rfl, rfl, rfl, rfl, rfl, kI rfl (by rw [wr (by omega) (by omega)]; omega), trivial⟩⟩
        · refine WL_know 132 (b' := false) (decide_eq_false hfc) rfl ?_
          (iterate 7 refine S1 allF rfl rfl ?_); refine P1 T.ok rfl rfl rfl ?_; refine P1 T.ok rfl rfl rfl ?_; (iterate 10 refine S1 allF rfl rfl ?_); refine P1 T.ok rfl rfl rfl ?_; refine WL_nil ?_; (with_reducible refine T_then ?_)
          refine W_no rfl rfl ?_
          have hfn2 := hnon (by unfold picks; simp [hfc])
          refine W_skip ?_; (with_reducible refine T_bn ?_); (with_reducible refine T_then ?_); refine W_region ?_; (iterate 3 refine P1 T.ok rfl rfl rfl ?_); refine WL_nil ?_
          exact fun a ha => ⟨(stepD f at_).next.length - (i + 1), by omega, i + 1, _, rfl, hs, le4, hfn2, rfl, ha.keep ⟨rfl, rfl, rfl, rfl, rfl, rfl, rfl, kI rfl (by rw [wr (by omega) (by omega)]; omega), trivial⟩⟩
      · refine W_no (b := decide ((1 : Int) < (cy.length : Int) - k + 1)) (decide_eq_false (by omega)) rfl ?_
        obtain rfl : k = cy.length := by omega
        rw [List.take_length] at hs ⊢
        obtain ⟨gq, hwq, hsq, hqq, rs7⟩ := hs.fzRow (α := Int) (xs := cy) (i := 0) rfl (RcL.ints _ cy)
        rw [← hwq]; replace hs := hsq; clear hsq
        refine W_exit ?_; (with_reducible refine T_tx ?_; with_reducible refine T_tx ?_); (with_reducible refine T_bx ?_); (with_reducible refine T_then ?_); refine W_seq ?_; refine W_region ?_; refine P1 T.ok rfl rfl rfl ?_; refine P1 T.ok rfl rfl rfl ?_; refine WL_nil ?_; (with_reducible refine T_then ?_)
        exact W_ret (ret1 rfl rfl (hs.ret rs7))
end Go.Proofs.Ytijmlfmapfhabaa

/- The walk through the reference's Check. -/
namespace Go.Proofs.Ytijmlfmapfhabaa
open Go Go.K
set_option maxRecDepth 10000
attribute [local irreducible] W WL OpR
set_option maxHeartbeats 2000000

theorem reach_isIn {f : Flow} {n x : Int} (h : x ∈ reach f n) : isIn (reached f n) x := by
  unfold reach at h
  split at h
  · exact (mem_trues0.1 h).2
  · simp at h

theorem rCheck_c (v : Value) (f : Flow) (g : G) (fl0 : RFlow g v f) :
    CallsIn Wd 0 Try.prog 16 #[v] g.w (Ret g fun g' r => RProb g' r (check f)) := by
  obtain ⟨a1, n1, c1, a2, n2, c2, rfl, rs0, rs1⟩ := id fl0
  obtain ⟨_, _, e⟩ := rs0.isSlice; obtain ⟨rfl, rfl, rfl⟩ := Value.slice.inj e; clear e
  have hs := St.start g
  have le0 := G.le.refl g
  refine enter Try.func16 rfl Try.ntmps16 rfl ?_
  refine W_seq ?_; refine W_region ?_
  refine WL_o rfl rfl (OpR_box rfl hs rfl rfl ?_); clear hs; rintro bf g1 hs hqe; replace le0 := G.le.trans le0 hqe; replace rs0 := rs0.mono hqe; replace rs1 := rs1.mono hqe; replace fl0 := fl0.mono hqe
  obtain ⟨g2, hw2, hs2, hqe, hep⟩ := hs.fzObj (i := 0) rfl; replace hs := hs2; clear hs2; rw [← hw2]; replace le0 := G.le.trans le0 hqe; replace rs0 := rs0.mono hqe; replace rs1 := rs1.mono hqe; replace fl0 := fl0.mono hqe
  have ep0 := hep; clear hep
  skip
  refine WL_o rfl rfl (OpR_alloc T.ok rfl hs rfl rfl ?_); clear hs; rintro br g1 hs hqe; replace le0 := G.le.trans le0 hqe; replace ep0 := ep0.mono hqe; replace rs0 := rs0.mono hqe; replace rs1 := rs1.mono hqe; replace fl0 := fl0.mono hqe
  refine WL_nil ?_; (with_reducible refine T_then ?_); refine W_seq ?_; refine W_region ?_; refine WL_o rfl rfl (OpR_loadE T.ok 0 rfl ep0 rfl rfl ?_)
  refine WL_o rfl rfl (OpR_ret cl30 allF rfl rfl rfl rfl rfl (rReach_c _ f 0 _ fl0) ?_); rintro g1 vo hf1 hvo; obtain ⟨gz, hwz, hsz, hqz, rs2⟩ := hs.ownRs hf1 hvo; have hqe := hf1.le.trans hqz; rw [← hwz]; replace hs := hsz; clear hsz hvo; replace le0 := G.le.trans le0 hqe; replace ep0 := ep0.mono hqe; replace rs0 := rs0.mono hqe; replace rs1 := rs1.mono hqe; replace fl0 := fl0.mono hqe
  obtain ⟨al, cl, rfl⟩ := rs2.isSlice
  refine P1 T.ok rfl rfl rfl ?_; refine WL_nil ?_; (with_reducible refine T_then ?_); refine W_seq ?_; refine W_region ?_; refine WL_o rfl rfl (OpR_loadE T.ok 0 rfl ep0 rfl rfl ?_)
  refine WL_o rfl rfl (OpR_ret cl19 allF rfl rfl rfl rfl rfl (rEnds_c _ f _ fl0) ?_); rintro g1 vo hf1 hvo; obtain ⟨gz, hwz, hsz, hqz, rs3⟩ := hs.ownRs hf1 hvo; have hqe := hf1.le.trans hqz; rw [← hwz]; replace hs := hsz; clear hsz hvo; replace le0 := G.le.trans le0 hqe; replace ep0 := ep0.mono hqe; replace rs0 := rs0.mono hqe; replace rs1 := rs1.mono hqe; replace rs2 := rs2.mono hqe; replace fl0 := fl0.mono hqe
  obtain ⟨ae, ce, rfl⟩ := rs3.isSlice
  have hll := reach_len f 0
  have hel : (ends f).length ≤ 40 := by unfold ends; exact Nat.le_trans (List.length_filter_le _ _) hll
  have hrr : ∀ x ∈ reach f 0, valid f = true ∧ InR f x := fun x hx => by
    have h1 := reach_range hx
    unfold reach at hx
    split at hx
    · rename_i hg; exact ⟨(given_one.1 hg).1, h1⟩
    · simp at hx
  have her : ∀ x ∈ ends f, InR f x := fun x hx => by
    unfold ends at hx
    exact reach_range (List.mem_filter.1 hx).1
  refine P1 T.ok rfl rfl rfl ?_; refine WL_nil ?_; (with_reducible refine T_then ?_); refine W_seq ?_; refine W_seq ?_; refine W_region ?_; refine P1 T.ok rfl rfl rfl ?_; refine WL_nil ?_; (with_reducible refine T_then ?_); refine W_block ?_
  have fl0c := fl0; have ep0c := ep0; have rs2c := rs2; have rs3c := rs3; have le5 := G.le.refl gz
  refine W_loop (fun m a' w => ∃ (k : Nat) (g2 : G), w = g2.w ∧ St g g2 [.obj br (.cells [.int .i64 0, .slice none 0 0].toArray 33 (0, 0))] ∧ G.le gz g2 ∧ k ≤ (reach f 0).length ∧ m = (reach f 0).length - k ∧ deadL f ((reach f 0).drop k) = deadL f (reach f 0) ∧
      Fr 88 [] [(1, .pointer (some ⟨bf, 0, none⟩)), (2, .pointer (some ⟨br, 0, none⟩)), (3, .slice al (reach f 0).length cl), (4, .slice ae (ends f).length ce), (5, .int .i64 k)] a') (reach f 0).length
    (fun a' ha => ⟨0, gz, rfl, hs, le5, Nat.zero_le _, rfl, by rw [List.drop_zero], ha.keep (by (repeat (first | exact trivial | refine ⟨rfl, ?_⟩)))⟩) ?_
  clear hs le5 ep0 rs0 rs1 rs2 rs3 fl0
  rintro m a' _ ⟨k, g2, rfl, hs, le5, hk, rfl, hno, ha'⟩
  have ep0 := ep0c.mono le5; have fl0 := fl0c.mono le5; have rs2 := rs2c.mono le5; have rs3 := rs3c.mono le5
  revert a'
  (with_reducible refine T_wp ?_); refine W_seq ?_; refine W_seq ?_; refine W_region ?_; (iterate 4 refine P1 T.ok rfl rfl rfl ?_); refine WL_nil ?_; (with_reducible refine T_then ?_)
  by_cases hlt : k < (reach f 0).length
  · refine W_yes (b := decide ((k : Int) < ((reach f 0).length : Int))) (decide_eq_true (by omega)) rfl ?_
    rw [List.drop_eq_getElem_cons hlt] at hno
    unfold deadL at hno
    rw [List.find?_cons] at hno
    obtain ⟨hval, hnr⟩ := hrr _ (List.getElem_mem hlt)
    have hgi := geti_of (xs := reach f 0) (n := (k : Int)) rfl hlt
    generalize (reach f 0)[k] = n at *
    refine W_skip ?_; (with_reducible refine T_then ?_); refine W_seq ?_; refine W_block ?_; refine W_seq ?_
    apply W_draw allF rfl (Fact.eq _ :: Fact.eq _ :: Fact.eq _ :: (intPtr n) :: Fact.eq _ :: (Fact.rs (reached f n)) :: (Fact.rs (reached f n)) :: []) 7 [(6, 6)] rfl rfl
    · refine D_cons (D_step2 (js := []) (by kernel_rfl) fun gd hf => ?_) ?_
      · have hsd := hs.dr.call hf; have hfe := (G.le_dr _).trans hf.le
        refine QA_nil ?_
        (refine D_yes rfl ?_; refine OpR_loadE T.ok 0 rfl (ep0.mono hfe) rfl rfl ?_; refine ⟨_, rfl, Fr0.refl _, ?_⟩; exact rfl)
      refine D_cons (D_step2 (js := []) (by kernel_rfl) fun gd hf => ?_) ?_
      · have hsd := hs.dr.call hf; have hfe := (G.le_dr _).trans hf.le
        refine QA_nil ?_
        (refine D_yes rfl ?_; refine OpR_pure _ T.ok rfl ?_; refine ⟨_, rfl, Fr0.refl _, ?_⟩; exact rfl)
      refine D_cons (D_step2 (js := []) (by kernel_rfl) fun gd hf => ?_) ?_
      · have hsd := hs.dr.call hf; have hfe := (G.le_dr _).trans hf.le
        refine QA_nil ?_
        (refine D_yes rfl ?_; refine OpR_pure _ T.ok rfl ?_; refine ⟨_, rfl, Fr0.refl _, ?_⟩; exact rfl)
      refine D_cons (D_step2 (js := [(1, 23), (2, 24)]) (by kernel_rfl) fun gd hf => ?_) ?_
      · have hsd := hs.dr.call hf; have hfe := (G.le_dr _).trans hf.le
        refine QA_eq rfl ?_; refine QA_eq rfl ?_
        refine QA_nil ?_
        refine D_yes rfl ?_
        refine OpR_idx T.ok rfl (rs2.mono hfe) (y := n) hgi rfl rfl rfl rfl rfl rfl ?_
        intro b p ys hep hrc
        exact ⟨_, rfl, Fr0.refl _, b, p, rfl, by rw [← show ys = [Value.int .i64 n] from hrc]; exact hep⟩
      refine D_cons (D_step2 (js := [(3, 25)]) (by kernel_rfl) fun gd hf => ?_) ?_
      · have hsd := hs.dr.call hf; have hfe := (G.le_dr _).trans hf.le
        refine QA_any fun v3 h3 => ?_
        refine QA_nil ?_
        obtain ⟨b, p, rfl, hep⟩ := h3
        refine D_yes rfl ?_
        refine OpR_loadE T.ok 0 rfl hep rfl rfl ?_
        refine ⟨_, rfl, Fr0.refl _, ?_⟩
        exact rfl
      refine D_cons (D_step2 (js := [(0, 22), (4, 26)]) (by kernel_rfl) fun gd hf => ?_) ?_
      · have hsd := hs.dr.call hf; have hfe := (G.le_dr _).trans hf.le
        refine QA_eq rfl ?_; refine QA_eq rfl ?_
        refine QA_nil ?_
        refine D_yes rfl ?_
        refine OpR_ret cl36 allF rfl rfl rfl rfl rfl (rReached_c _ f n _ (fl0.mono hfe) hval hnr) fun g' v h1 h2 => ?_
        obtain ⟨g2, e1, e2, e3, e4⟩ := (St.start gd).ownRs h1 h2
        exact ⟨g2, e1, e2.fr0, e4⟩
      refine D_cons (D_step2 (js := [(5, 27), (5, 27), (5, 27)]) (by kernel_rfl) fun gd hf => ?_) ?_
      · have hsd := hs.dr.call hf; have hfe := (G.le_dr _).trans hf.le
        refine QA_any fun v5 h5 => ?_; refine QA_any fun v5 h5 => ?_; refine QA_any fun v5 h5 => ?_
        refine QA_nil ?_
        refine D_yes rfl ?_
        refine OpR_pure _ T.ok rfl ?_
        exact ⟨_, rfl, Fr0.refl _, h5⟩
      exact D_nil
    intro g1 hf1; refine QA_any fun v6 h6 => ?_; refine QA_nil ?_
    replace hs := hs.dr.call hf1; have hqe := (G.le_dr _).trans hf1.le; replace ep0 := ep0.mono hqe; replace rs2 := rs2.mono hqe; replace rs3 := rs3.mono hqe; replace fl0 := fl0.mono hqe
    have rs4 : Rs g1 v6 (reached f n) := h6
    clear h6
    replace le5 := le5.trans hqe
    obtain ⟨am, cm, rfl⟩ := rs4.isSlice
    rw [reached_len] at rs4
    rw [reached_len]
    refine WL_nil ?_; (with_reducible refine T_then ?_); refine W_seq ?_; refine W_region ?_; refine P1 T.ok rfl rfl rfl ?_; refine WL_nil ?_; (with_reducible refine T_then ?_); refine W_seq ?_; refine W_seq ?_; refine W_region ?_; refine P1 T.ok rfl rfl rfl ?_; refine WL_nil ?_; (with_reducible refine T_then ?_); refine W_block ?_
    have fl0d := fl0; have ep0d := ep0; have rs2d := rs2; have rs3d := rs3; have rs4d := rs4; have le6 := G.le.refl g1
    refine W_loop (fun m a' w => ∃ (j : Nat) (g5 : G), w = g5.w ∧ St g g5 [.obj br (.cells [.int .i64 0, .slice none 0 0].toArray 33 (0, 0))] ∧ G.le g1 g5 ∧ j ≤ (ends f).length ∧ m = (ends f).length - j ∧
        Fr 88 [] [(1, .pointer (some ⟨bf, 0, none⟩)), (2, .pointer (some ⟨br, 0, none⟩)), (3, .slice al (reach f 0).length cl), (4, .slice ae (ends f).length ce), (5, .int .i64 k), (6, .slice am f.steps.length cm),
          (7, .bool (((ends f).take j).any (fun e => (reached f n).getD e.toNat false))), (8, .int .i64 j)] a') (ends f).length
      (fun a' ha => ⟨0, g1, rfl, hs, le6, Nat.zero_le _, rfl, ha.keep (by (repeat (first | exact trivial | refine ⟨rfl, ?_⟩)))⟩) ?_
    clear hs le6 ep0 rs2 rs3 fl0 rs4
    rintro m a' _ ⟨j, g5, rfl, hs, le6, hj, rfl, ha'⟩
    have ep0 := ep0d.mono le6; have fl0 := fl0d.mono le6; have rs2 := rs2d.mono le6; have rs3 := rs3d.mono le6; have rs4 := rs4d.mono le6
    revert a'
    (with_reducible refine T_wp ?_); refine W_seq ?_; refine W_seq ?_; refine W_region ?_; (iterate 4 refine P1 T.ok rfl rfl rfl ?_); refine WL_nil ?_; (with_reducible refine T_then ?_)
    by_cases hlj : j < (ends f).length
    · refine W_yes (b := decide ((j : Int) < ((ends f).length : Int))) (decide_eq_true (by omega)) rfl ?_
      have hts := List.take_succ_eq_append_getElem hlj
      have hge := geti_of (xs := ends f) (n := (j : Int)) rfl hlj
      have hnr2 := her _ (List.getElem_mem hlj)
      have hal : ((ends f).take (j + 1)).any (fun e => (reached f n).getD e.toNat false) = (((ends f).take j).any (fun e => (reached f n).getD e.toNat false) || (reached f n).getD (ends f)[j].toNat false) := by
        rw [hts, List.any_append]; simp
      generalize (ends f)[j] = e at *
      have he0 := hnr2.1; have he1 := hnr2.2
      have hel2 : e.toNat < (reached f n).length := by rw [reached_len]; omega
      have hgd : (reached f n).getD e.toNat false = (reached f n)[e.toNat] := by rw [List.getD_eq_getElem?_getD, List.getElem?_eq_getElem hel2]; rfl
      have hgb := geti_of (xs := reached f n) (n := e) (j := e.toNat) (by omega) hel2
      rw [hgd] at hal
      generalize (reached f n)[e.toNat] = eb at *
      generalize ((ends f).take j).any (fun e => (reached f n).getD e.toNat false) = ab at *
      refine W_skip ?_; (with_reducible refine T_then ?_); refine W_seq ?_; refine W_block ?_; refine W_region ?_; refine P1 T.ok rfl rfl rfl ?_; refine P1 T.ok rfl rfl rfl ?_
      cases ab with
      | true =>
        (iterate 7 refine S1 allF rfl rfl ?_); refine P1 T.ok rfl rfl rfl ?_; refine P1 T.ok rfl rfl rfl ?_; refine WL_nil ?_; (with_reducible refine T_bn ?_); (with_reducible refine T_then ?_); refine W_region ?_; (iterate 3 refine P1 T.ok rfl rfl rfl ?_); refine WL_nil ?_
        exact fun a ha => ⟨(ends f).length - (j + 1), by omega, j + 1, _, rfl, hs, le6, by omega, rfl, ha.keep ⟨rfl, rfl, rfl, rfl, rfl, rfl, kB rfl (by rw [hal]; rfl), kI rfl (by rw [wr (by omega) (by omega)]; omega), trivial⟩⟩
      | false =>
        (iterate 3 refine P1 T.ok rfl rfl rfl ?_)
        refine WL_o rfl rfl (OpR_idx T.ok rfl rs3 (y := e) hge rfl rfl rfl rfl rfl rfl ?_)
        rintro b p ys hep rfl
        refine WL_o rfl rfl (OpR_loadE T.ok 0 rfl hep rfl rfl ?_)
        clear hep
        refine WL_o rfl rfl (OpR_idx T.ok rfl rs4 (y := eb) hgb rfl rfl rfl rfl rfl rfl ?_)
        rintro b p ys hep rfl
        refine WL_o rfl rfl (OpR_loadE T.ok 0 rfl hep rfl rfl ?_)
        clear hep
        refine P1 T.ok rfl rfl rfl ?_; refine P1 T.ok rfl rfl rfl ?_; refine WL_nil ?_; (with_reducible refine T_bn ?_); (with_reducible refine T_then ?_); refine W_region ?_; (iterate 3 refine P1 T.ok rfl rfl rfl ?_); refine WL_nil ?_
        exact fun a ha => ⟨(ends f).length - (j + 1), by omega, j + 1, _, rfl, hs, le6, by omega, rfl, ha.keep ⟨rfl, rfl, rfl, rfl, rfl, rfl, kB rfl (by rw [hal]; rfl), kI rfl (by rw [wr (by omega) (by omega)]; omega), trivial⟩⟩
    · refine W_no (b := decide ((j : Int) < ((ends f).length : Int))) (decide_eq_false (by omega)) rfl ?_
      obtain rfl : j = (ends f).length := by omega
      rw [List.take_length]
      have hal : (ends f).any (fun e => (reached f n).getD e.toNat false) = alive f n := rfl
      rw [hal]
      clear hal
      refine W_exit ?_; (with_reducible refine T_tx ?_; with_reducible refine T_tx ?_); (with_reducible refine T_bx ?_); (with_reducible refine T_then ?_); refine W_seq ?_; refine W_region ?_; refine P1 T.ok rfl rfl rfl ?_; refine P1 T.ok rfl rfl rfl ?_; refine WL_nil ?_; (with_reducible refine T_then ?_)
      cases hav : alive f n with
      | true =>
        rw [hav] at hno
        refine W_no rfl rfl ?_
        refine W_skip ?_; (with_reducible refine T_bn ?_); (with_reducible refine T_then ?_); refine W_region ?_; (iterate 3 refine P1 T.ok rfl rfl rfl ?_); refine WL_nil ?_
        exact fun a ha => ⟨(reach f 0).length - (k + 1), by omega, k + 1, _, rfl, hs, le5.trans le6, by omega, rfl, hno, ha.keep ⟨rfl, rfl, rfl, rfl, kI rfl (by rw [wr (by omega) (by omega)]; omega), trivial⟩⟩
      | false =>
        rw [hav] at hno
        refine W_yes rfl rfl ?_
        refine W_seq ?_; refine W_region ?_; refine P1 T.ok rfl rfl rfl ?_; refine P1 T.ok rfl rfl rfl ?_
        refine WL_o rfl rfl (OpR_idx T.ok rfl rs2 (y := n) hgi rfl rfl rfl rfl rfl rfl ?_)
        rintro b p ys hep rfl
        refine WL_o rfl rfl (OpR_loadE T.ok 0 rfl hep rfl rfl ?_)
        clear hep
        refine WL_o rfl rfl (OpR_lit T.ok rfl hs (vs := [(0, .int .i64 n)]) (cells := [.int .i64 n]) rfl rfl rfl rfl rfl rfl (by decide) (by decide) (by kernel_rfl) rfl ?_); rintro b2 g2 hs hqe; replace ep0 := ep0.mono hqe; replace rs2 := rs2.mono hqe; replace rs3 := rs3.mono hqe; replace rs4 := rs4.mono hqe; replace fl0 := fl0.mono hqe
        obtain ⟨g3, hw3, hs3, hqe3, hrn⟩ := hs.fzRow (α := Int) (xs := [n]) (i := 0) rfl (RcL.ints _ [n])
        clear hqe; have hqe := hqe3; rw [← hw3]; replace hs := hs3; replace ep0 := ep0.mono hqe; replace rs2 := rs2.mono hqe; replace rs3 := rs3.mono hqe; replace rs4 := rs4.mono hqe; replace fl0 := fl0.mono hqe
        skip
        refine WL_o rfl rfl (OpR_build T.ok rfl (vs := [(0, .int .i64 1), (1, .slice (some ⟨b2, 0, none⟩) 1 1)]) (cells := [.int .i64 1, .slice (some ⟨b2, 0, none⟩) 1 1]) rfl rfl rfl rfl [(0, 1), (1, 1)] rfl (by kernel_rfl) ?_)
        skip
        refine WL_n rfl (OpR_storeO T.ok 0 rfl hs rfl rfl rfl rfl rfl rfl rfl rfl rfl ?_); replace hs := hs; rintro g1 hs hqe; replace ep0 := ep0.mono hqe; replace rs2 := rs2.mono hqe; replace rs3 := rs3.mono hqe; replace rs4 := rs4.mono hqe; replace fl0 := fl0.mono hqe
        replace hrn := hrn.mono hqe
        refine WL_nil ?_; (with_reducible refine T_then ?_)
        refine W_ret ?_
        (with_reducible refine T_br ?_); (with_reducible refine T_tr ?_; with_reducible refine T_tr ?_); (with_reducible refine T_br ?_); (with_reducible refine T_tr ?_)
        refine retC T.ok 0 rfl hs rfl rfl rfl (hs.ret ?_)
        have hck : check f = (1, [n]) := by unfold check deadL; rw [← hno]; rfl
        rw [hck]
        exact ⟨_, _, _, rfl, hrn⟩
  · refine W_no (b := decide ((k : Int) < ((reach f 0).length : Int))) (decide_eq_false (by omega)) rfl ?_
    rw [List.drop_of_length_le (by omega)] at hno
    refine W_exit ?_; (with_reducible refine T_tx ?_; with_reducible refine T_tx ?_); (with_reducible refine T_bx ?_); (with_reducible refine T_then ?_); refine W_seq ?_; refine W_region ?_; refine P1 T.ok rfl rfl rfl ?_; refine WL_nil ?_; (with_reducible refine T_then ?_); refine W_seq ?_; refine W_seq ?_; refine W_region ?_; refine P1 T.ok rfl rfl rfl ?_; refine WL_nil ?_; (with_reducible refine T_then ?_); refine W_block ?_
    have fl0d := fl0; have ep0d := ep0; have rs2d := rs2; have le6 := G.le.refl g2
    refine W_loop (fun m a' w => ∃ (j : Nat) (bv : Value) (g5 : G), w = g5.w ∧ St g g5 [.obj br (.cells [.int .i64 0, .slice none 0 0].toArray 33 (0, 0))] ∧ G.le g2 g5 ∧ j ≤ (reach f 0).length ∧ m = (reach f 0).length - j ∧ Rs g5 bv (bestL f ((reach f 0).take j)) ∧
        Fr 88 [] [(1, .pointer (some ⟨bf, 0, none⟩)), (2, .pointer (some ⟨br, 0, none⟩)), (3, .slice al (reach f 0).length cl), (9, bv), (10, .int .i64 j)] a') (reach f 0).length
      (fun a' ha => ⟨0, _, g2, rfl, hs, le6, Nat.zero_le _, rfl, Rs.nil _, ha.keep (by (repeat (first | exact trivial | refine ⟨rfl, ?_⟩)))⟩) ?_
    clear hs le6 ep0 rs2 rs3 fl0
    rintro m a' _ ⟨j, bv, g5, rfl, hs, le6, hj, rfl, hbest, ha'⟩
    have ep0 := ep0d.mono le6; have fl0 := fl0d.mono le6; have rs2 := rs2d.mono le6
    obtain ⟨ab, cb, rfl⟩ := hbest.isSlice
    revert a'
    (with_reducible refine T_wp ?_); refine W_seq ?_; refine W_seq ?_; refine W_region ?_; (iterate 4 refine P1 T.ok rfl rfl rfl ?_); refine WL_nil ?_; (with_reducible refine T_then ?_)
    by_cases hlj : j < (reach f 0).length
    · refine W_yes (b := decide ((j : Int) < ((reach f 0).length : Int))) (decide_eq_true (by omega)) rfl ?_
      have hbs := bestL_snoc f ((reach f 0).take j) (reach f 0)[j]
      rw [← List.take_succ_eq_append_getElem hlj] at hbs
      obtain ⟨hval, hnr⟩ := hrr _ (List.getElem_mem hlj)
      have hin := reach_isIn (List.getElem_mem hlj)
      have h0r : InR f 0 := ⟨by omega, by have := hnr.1; have := hnr.2; omega⟩
      have hgi := geti_of (xs := reach f 0) (n := (j : Int)) rfl hlj
      generalize (reach f 0)[j] = n at *
      refine W_skip ?_; (with_reducible refine T_then ?_); refine W_seq ?_; refine W_block ?_; refine W_seq ?_
      apply W_draw allF rfl (Fact.eq _ :: Fact.eq _ :: (Fact.rs (reached f 0)) :: Fact.eq _ :: Fact.eq _ :: (intPtr n) :: Fact.eq _ :: (Fact.rs (cycle f (reached f 0) n)) :: (Fact.rs (cycle f (reached f 0) n)) :: []) 9 [(8, 11)] rfl rfl
      · refine D_cons (D_step2 (js := []) (by kernel_rfl) fun gd hf => ?_) ?_
        · have hsd := hs.dr.call hf; have hfe := (G.le_dr _).trans hf.le
          refine QA_nil ?_
          (refine D_yes rfl ?_; refine OpR_loadE T.ok 0 rfl (ep0.mono hfe) rfl rfl ?_; refine ⟨_, rfl, Fr0.refl _, ?_⟩; exact rfl)
        refine D_cons (D_step2 (js := []) (by kernel_rfl) fun gd hf => ?_) ?_
        · have hsd := hs.dr.call hf; have hfe := (G.le_dr _).trans hf.le
          refine QA_nil ?_
          (refine D_yes rfl ?_; refine OpR_loadE T.ok 0 rfl (ep0.mono hfe) rfl rfl ?_; refine ⟨_, rfl, Fr0.refl _, ?_⟩; exact rfl)
        refine D_cons (D_step2 (js := [(1, 59)]) (by kernel_rfl) fun gd hf => ?_) ?_
        · have hsd := hs.dr.call hf; have hfe := (G.le_dr _).trans hf.le
          refine QA_eq rfl ?_
          refine QA_nil ?_
          refine D_yes rfl ?_
          refine OpR_ret cl36 allF rfl rfl rfl rfl rfl (rReached_c _ f 0 _ (fl0.mono hfe) hval h0r) fun g' v h1 h2 => ?_
          obtain ⟨g2, e1, e2, e3, e4⟩ := (St.start gd).ownRs h1 h2
          exact ⟨g2, e1, e2.fr0, e4⟩
        refine D_cons (D_step2 (js := []) (by kernel_rfl) fun gd hf => ?_) ?_
        · have hsd := hs.dr.call hf; have hfe := (G.le_dr _).trans hf.le
          refine QA_nil ?_
          (refine D_yes rfl ?_; refine OpR_pure _ T.ok rfl ?_; refine ⟨_, rfl, Fr0.refl _, ?_⟩; exact rfl)
        refine D_cons (D_step2 (js := []) (by kernel_rfl) fun gd hf => ?_) ?_
        · have hsd := hs.dr.call hf; have hfe := (G.le_dr _).trans hf.le
          refine QA_nil ?_
          (refine D_yes rfl ?_; refine OpR_pure _ T.ok rfl ?_; refine ⟨_, rfl, Fr0.refl _, ?_⟩; exact rfl)
        refine D_cons (D_step2 (js := [(3, 61), (4, 62)]) (by kernel_rfl) fun gd hf => ?_) ?_
        · have hsd := hs.dr.call hf; have hfe := (G.le_dr _).trans hf.le
          refine QA_eq rfl ?_; refine QA_eq rfl ?_
          refine QA_nil ?_
          refine D_yes rfl ?_
          refine OpR_idx T.ok rfl (rs2.mono hfe) (y := n) hgi rfl rfl rfl rfl rfl rfl ?_
          intro b p ys hep hrc
          exact ⟨_, rfl, Fr0.refl _, b, p, rfl, by rw [← show ys = [Value.int .i64 n] from hrc]; exact hep⟩
        refine D_cons (D_step2 (js := [(5, 63)]) (by kernel_rfl) fun gd hf => ?_) ?_
        · have hsd := hs.dr.call hf; have hfe := (G.le_dr _).trans hf.le
          refine QA_any fun v5 h5 => ?_
          refine QA_nil ?_
          obtain ⟨b, p, rfl, hep⟩ := h5
          refine D_yes rfl ?_
          refine OpR_loadE T.ok 0 rfl hep rfl rfl ?_
          refine ⟨_, rfl, Fr0.refl _, ?_⟩
          exact rfl
        refine D_cons (D_step2 (js := [(0, 58), (2, 60), (6, 64), (2, 60)]) (by kernel_rfl) fun gd hf => ?_) ?_
        · have hsd := hs.dr.call hf; have hfe := (G.le_dr _).trans hf.le
          refine QA_eq rfl ?_; refine QA_any fun v2 h2 => ?_; refine QA_eq rfl ?_; refine QA_any fun v2 h2 => ?_
          refine QA_nil ?_
          refine D_yes rfl ?_
          refine OpR_ret cl37 allF rfl rfl rfl rfl rfl (rAround_c _ _ f (reached f 0) n _ (fl0.mono hfe) h2 hval (reached_len f 0) hnr hin) fun g' v h1 h2 => ?_
          exact ⟨g', rfl, h1, h2⟩
        refine D_cons (D_step2 (js := [(7, 65), (7, 65), (7, 65)]) (by kernel_rfl) fun gd hf => ?_) ?_
        · have hsd := hs.dr.call hf; have hfe := (G.le_dr _).trans hf.le
          refine QA_any fun v7 h7 => ?_; refine QA_any fun v7 h7 => ?_; refine QA_any fun v7 h7 => ?_
          refine QA_nil ?_
          refine D_yes rfl ?_
          refine OpR_pure _ T.ok rfl ?_
          exact ⟨_, rfl, Fr0.refl _, h7⟩
        exact D_nil
      intro g1 hf1; refine QA_any fun v8 h8 => ?_; refine QA_nil ?_
      replace hs := hs.dr.call hf1; have hqe := (G.le_dr _).trans hf1.le; replace ep0 := ep0.mono hqe; replace rs2 := rs2.mono hqe; replace fl0 := fl0.mono hqe
      replace le6 := le6.trans hqe
      replace hbest := hbest.mono hqe
      have rs3 : Rs g1 v8 (cycle f (reached f 0) n) := h8
      clear h8
      unfold bestStep at hbs
      generalize cycle f (reached f 0) n = cy at *
      generalize bestL f ((reach f 0).take j) = bl at *
      obtain ⟨ac, cc, rfl⟩ := rs3.isSlice
      refine WL_nil ?_; (with_reducible refine T_then ?_); refine W_seq ?_; refine W_region ?_; (iterate 4 refine P1 T.ok rfl rfl rfl ?_)
      by_cases hc0 : 0 < cy.length
      · refine WL_know 69 (b' := true) (decide_eq_true (by omega)) rfl ?_
        (iterate 4 refine P1 T.ok rfl rfl rfl ?_)
        by_cases hb0 : bl = []
        · rw [if_pos ⟨hc0, .inl hb0⟩] at hbs
          refine WL_know 73 (b' := true) (by rw [hb0]; rfl) rfl ?_
          (iterate 5 refine S1 allF rfl rfl ?_); refine P1 T.ok rfl rfl rfl ?_; refine P1 T.ok rfl rfl rfl ?_; refine WL_nil ?_; (with_reducible refine T_then ?_)
          refine W_yes rfl rfl ?_
          refine W_region ?_; refine P1 T.ok rfl rfl rfl ?_; refine P1 T.ok rfl rfl rfl ?_; refine WL_nil ?_; (with_reducible refine T_bn ?_); (with_reducible refine T_then ?_); refine W_region ?_; (iterate 3 refine P1 T.ok rfl rfl rfl ?_); refine WL_nil ?_
          exact fun a ha => ⟨(reach f 0).length - (j + 1), by omega, j + 1, _, _, rfl, hs, le6, by omega, rfl, by rw [hbs]; exact rs3, ha.keep ⟨rfl, rfl, rfl, rfl, kI rfl (by rw [wr (by omega) (by omega)]; omega), trivial⟩⟩
        · have hbp := List.length_pos_iff.2 hb0
          refine WL_know 73 (b' := false) (by simp; omega) rfl ?_
          (iterate 7 refine P1 T.ok rfl rfl rfl ?_); refine WL_nil ?_; (with_reducible refine T_then ?_)
          by_cases hcl : cy.length < bl.length
          · rw [if_pos ⟨hc0, .inr hcl⟩] at hbs
            refine W_yes (b := decide ((cy.length : Int) < (bl.length : Int))) (decide_eq_true (by omega)) rfl ?_
            refine W_region ?_; refine P1 T.ok rfl rfl rfl ?_; refine P1 T.ok rfl rfl rfl ?_; refine WL_nil ?_; (with_reducible refine T_bn ?_); (with_reducible refine T_then ?_); refine W_region ?_; (iterate 3 refine P1 T.ok rfl rfl rfl ?_); refine WL_nil ?_
            exact fun a ha => ⟨(reach f 0).length - (j + 1), by omega, j + 1, _, _, rfl, hs, le6, by omega, rfl, by rw [hbs]; exact rs3, ha.keep ⟨rfl, rfl, rfl, rfl, kI rfl (by rw [wr (by omega) (by omega)]; omega), trivial⟩⟩
          · rw [if_neg (fun h => h.2.elim hb0 hcl)] at hbs
            refine W_no (b := decide ((cy.length : Int) < (bl.length : Int))) (decide_eq_false (by omega)) rfl ?_
            refine W_skip ?_; (with_reducible refine T_bn ?_); (with_reducible refine T_then ?_); refine W_region ?_; (iterate 3 refine P1 T.ok rfl rfl rfl ?_); refine WL_nil ?_
            exact fun a ha => ⟨(reach f 0).length - (j + 1), by omega, j + 1, _, _, rfl, hs, le6, by omega, rfl, by rw [hbs]; exact hbest, ha.keep ⟨rfl, rfl, rfl, rfl, kI rfl (by rw [wr (by omega) (by omega)]; omega), trivial⟩⟩
      · refine WL_know 69 (b' := false) (decide_eq_false (by omega)) rfl ?_
        rw [if_neg (fun h => hc0 h.1)] at hbs
        (iterate 10 refine S1 allF rfl rfl ?_); refine P1 T.ok rfl rfl rfl ?_; refine WL_nil ?_; (with_reducible refine T_then ?_)
        refine W_no rfl rfl ?_
        refine W_skip ?_; (with_reducible refine T_bn ?_); (with_reducible refine T_then ?_); refine W_region ?_; (iterate 3 refine P1 T.ok rfl rfl rfl ?_); refine WL_nil ?_
        exact fun a ha => ⟨(reach f 0).length - (j + 1), by omega, j + 1, _, _, rfl, hs, le6, by omega, rfl, by rw [hbs]; exact hbest, ha.keep ⟨rfl, rfl, rfl, rfl, kI rfl (by rw [wr (by omega) (by omega)]; omega), trivial⟩⟩
    · refine W_no (b := decide ((j : Int) < ((reach f 0).length : Int))) (decide_eq_false (by omega)) rfl ?_
      rw [List.take_of_length_le (by omega)] at hbest ⊢
      have hck : check f = if bestL f (reach f 0) = [] then (0, []) else (2, bestL f (reach f 0)) := by unfold check; rw [← hno]; rfl
      generalize bestL f (reach f 0) = bl at *
      refine W_exit ?_; (with_reducible refine T_tx ?_; with_reducible refine T_tx ?_); (with_reducible refine T_bx ?_); (with_reducible refine T_then ?_); refine W_seq ?_; refine W_seq ?_; refine W_region ?_; (iterate 3 refine P1 T.ok rfl rfl rfl ?_); refine WL_nil ?_; (with_reducible refine T_then ?_)
      by_cases hb0 : bl = []
      · rw [if_pos hb0] at hck
        refine W_yes (b := ((bl.length : Nat) : Int) == 0) (by rw [hb0]; rfl) rfl ?_
        refine W_seq ?_; refine W_region ?_
        refine WL_o rfl rfl (OpR_build T.ok rfl (vs := []) (cells := [.int .i64 0, .slice none 0 0]) rfl rfl rfl rfl [(0, 1), (1, 1)] rfl (by kernel_rfl) ?_)
        skip
        refine WL_n rfl (OpR_storeO T.ok 0 rfl hs rfl rfl rfl rfl rfl rfl rfl rfl rfl ?_); replace hs := hs; rintro g1 hs hqe; replace ep0 := ep0.mono hqe; replace rs2 := rs2.mono hqe; replace fl0 := fl0.mono hqe
        refine WL_nil ?_; (with_reducible refine T_then ?_)
        refine W_ret ?_
        (with_reducible refine T_tr ?_)
        refine retC T.ok 0 rfl hs rfl rfl rfl (hs.ret ?_)
        rw [hck]
        exact ⟨_, _, _, rfl, Rs.nil _⟩
      · rw [if_neg hb0] at hck
        have hbp := List.length_pos_iff.2 hb0
        refine W_no (b := ((bl.length : Nat) : Int) == 0) (by simp; omega) rfl ?_
        refine W_skip ?_; (with_reducible refine T_then ?_); refine W_seq ?_; refine W_region ?_; refine P1 T.ok rfl rfl rfl ?_
        refine WL_o rfl rfl (OpR_build T.ok rfl (vs := [(0, .int .i64 2), (1, .slice ab bl.length cb)]) (cells := [.int .i64 2, .slice ab bl.length cb]) rfl rfl rfl rfl [(0, 1), (1, 1)] rfl (by kernel_rfl) ?_)
        skip
        refine WL_n rfl (OpR_storeO T.ok 0 rfl hs rfl rfl rfl rfl rfl rfl rfl rfl rfl ?_); replace hs := hs; rintro g1 hs hqe; replace ep0 := ep0.mono hqe; replace rs2 := rs2.mono hqe; replace fl0 := fl0.mono hqe
        replace hbest := hbest.mono hqe
        refine WL_nil ?_; (with_reducible refine T_then ?_)
        refine W_ret ?_
        skip
        refine retC T.ok 0 rfl hs rfl rfl rfl (hs.ret ?_)
        rw [hck]
        exact ⟨_, _, _, rfl, hbest⟩
end Go.Proofs.Ytijmlfmapfhabaa
