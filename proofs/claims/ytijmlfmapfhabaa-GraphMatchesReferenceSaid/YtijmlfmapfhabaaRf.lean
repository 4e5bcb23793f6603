/- The walks through the shortening of a flow and the statement. -/
import Derived.Test.YtijmlfmapfhabaaRe
import Derived.Test.YtijmlfmapfhabaaKe

/- The walk through the shortening of a flow. -/
namespace Go.Proofs.Ytijmlfmapfhabaa
open Go Go.K
set_option maxRecDepth 10000
attribute [local irreducible] W WL OpR
set_option maxHeartbeats 2000000

def cutTools (s : Step) : Step := { s with tools := s.tools.take (min s.tools.length 9) }
def cutStep (s : Step) : Step := { cutTools s with next := s.next.take (min s.next.length 5) }
def fewM (f : Flow) : Flow := ⟨f.moveMin, f.moveMax, (f.steps.take (min f.steps.length 12)).map cutStep, f.windows.take (min f.windows.length 21)⟩
def fewTo (l : List Step) (k : Nat) : List Step := (l.take k).map cutStep ++ l.drop k
theorem fewTo_get {l : List Step} {k : Nat} (h : k < l.length) : (fewTo l k)[k]? = some l[k] := by
  unfold fewTo
  rw [List.getElem?_append_right (by rw [List.length_map, List.length_take]; omega), List.length_map, List.length_take, List.getElem?_drop, show k + (k - min k l.length) = k from by omega, List.getElem?_eq_getElem h]
theorem fewTo_set {l : List Step} {k : Nat} (h : k < l.length) : (fewTo l k).set k (cutStep l[k]) = fewTo l (k + 1) := by
  unfold fewTo
  rw [List.set_append_right _ _ (by rw [List.length_map, List.length_take]; omega), List.length_map, List.length_take, show k - min k l.length = 0 from by omega, List.drop_eq_getElem_cons h, List.set_cons_zero, List.take_succ_eq_append_getElem h, List.map_append]
  simp
theorem fewTo_len (l : List Step) (k : Nat) : (fewTo l k).length = l.length := by
  unfold fewTo; rw [List.length_append, List.length_map, List.length_take, List.length_drop]; omega

theorem fewTo_full {l : List Step} {n : Nat} (h : l.length = n) : fewTo l n = l.map cutStep := by
  subst h
  unfold fewTo
  rw [List.take_length, List.drop_length, List.append_nil]





theorem few_c (v : Value) (f : Flow) (g : G) (fl0 : RFlow g v f) :
    CallsIn Wd 0 Try.prog 13 #[v] g.w (Ret g fun g' r => RFlow g' r (fewM f)) := by
  obtain ⟨a1, n1, c1, a2, n2, c2, rfl, rs0, rs1⟩ := id fl0
  obtain ⟨_, _, e⟩ := rs0.isSlice; obtain ⟨rfl, rfl, rfl⟩ := Value.slice.inj e; clear e
  obtain ⟨_, _, e⟩ := rs1.isSlice; obtain ⟨rfl, rfl, rfl⟩ := Value.slice.inj e; clear e
  have hcap := rs0.cap_le; have hcap2 := rs1.cap_le
  unfold maxLen at hcap hcap2
  have hs := St.start g
  have le0 := G.le.refl g
  refine enter Try.func13 rfl Try.ntmps13 rfl ?_
  refine W_seq ?_; refine W_region ?_
  refine WL_o rfl rfl (OpR_box rfl hs rfl rfl ?_); clear hs; rintro bf g1 hs hqe; replace le0 := G.le.trans le0 hqe; replace rs0 := rs0.mono hqe; replace rs1 := rs1.mono hqe; replace fl0 := fl0.mono hqe
  skip
  refine WL_o rfl rfl (OpR_alloc T.ok rfl hs rfl rfl ?_); clear hs; rintro br g1 hs hqe; replace le0 := G.le.trans le0 hqe; replace rs0 := rs0.mono hqe; replace rs1 := rs1.mono hqe; replace fl0 := fl0.mono hqe
  refine WL_nil ?_; (with_reducible refine T_then ?_); refine W_seq ?_; refine W_region ?_
  refine WL_o rfl rfl (OpR_lit T.ok rfl hs (vs := []) (cells := []) rfl rfl rfl rfl rfl rfl (by decide) (by decide) (by kernel_rfl) rfl ?_); rintro bl gl hs hqe; replace le0 := G.le.trans le0 hqe; replace rs0 := rs0.mono hqe; replace rs1 := rs1.mono hqe; replace fl0 := fl0.mono hqe
  refine P1 T.ok rfl rfl rfl ?_; refine WL_o rfl rfl (OpR_loadO T.ok 2 rfl hs rfl rfl rfl ?_); refine P1 T.ok rfl rfl rfl ?_; refine WL_o rfl rfl (OpR_loadO T.ok 2 rfl hs rfl rfl rfl ?_); refine P1 T.ok rfl rfl rfl ?_; refine P1 T.ok rfl rfl rfl ?_
  have hN : (if (12 : Int) < (f.steps.length : Int) then 12 else (f.steps.length : Int)) = ((min f.steps.length 12 : Nat) : Int) := by split <;> omega
  refine WL_re (.int .i64 ((min f.steps.length 12 : Nat) : Int)) (t := 10) rfl (congrArg (Value.int .i64) hN) ?_
  have rs5 := rs0.cut (a := 0) (b := min f.steps.length 12) (by omega) (by omega)
  rw [List.drop_zero] at rs5
  refine WL_o rfl rfl (OpR_cut T.ok rfl rfl rfl rfl (a := 0) (b := min f.steps.length 12) rfl rfl ⟨_, rfl⟩ (Nat.zero_le _) (by omega) ?_)
  obtain ⟨_, news, hrcl, hsrc⟩ := Src.of_rs rs5
  have hsl : (f.steps.take (min f.steps.length 12)).length = min f.steps.length 12 := by rw [List.length_take]; omega
  have hn12 : min f.steps.length 12 ≤ 12 := by omega
  have hfm : fewM f = ⟨f.moveMin, f.moveMax, fewTo (f.steps.take (min f.steps.length 12)) (min f.steps.length 12), f.windows.take (min f.windows.length 21)⟩ := by
    rw [fewTo_full hsl]; rfl
  rw [hfm]
  clear hfm
  refine WL_o rfl rfl (OpR_append T.ok 0 rfl hs rfl rfl rfl rfl rfl rfl rfl (by decide) rfl hsrc hrcl.one (by show (0 + (min f.steps.length 12 - 0)) * 88 ≤ _; omega) (by unfold maxLen; omega) ?_); rintro ao co g8 hs hqe; replace le0 := G.le.trans le0 hqe; replace rs0 := rs0.mono hqe; replace rs1 := rs1.mono hqe; replace rs5 := rs5.mono hqe; replace fl0 := fl0.mono hqe
  replace hrcl := hrcl.mono hqe
  refine P1 T.ok rfl rfl rfl ?_
  refine WL_n rfl (OpR_storeO T.ok 2 rfl hs rfl rfl rfl rfl rfl rfl rfl rfl rfl ?_); replace hs := hs; rintro g1 hs hqe; replace le0 := G.le.trans le0 hqe; replace rs0 := rs0.mono hqe; replace rs1 := rs1.mono hqe; replace rs5 := rs5.mono hqe; replace fl0 := fl0.mono hqe
  replace hrcl := hrcl.mono hqe
  generalize f.steps.take (min f.steps.length 12) = S at *
  generalize min f.steps.length 12 = n at *
  have hsn : (0 + (n - 0)) = n := by omega
  rw [hsn, List.nil_append] at hs
  have hst : ∃ cells, St g g1 [.row 50 7 (.slice ao n co) n cells, .obj br (.cells [.int .i64 0, .int .i64 0, .slice none 0 0, .slice none 0 0].toArray 25 (0, 0)), .obj bf (.cells [.int .i64 f.moveMin, .int .i64 f.moveMax, .slice ao n co, .slice a2 f.windows.length c2].toArray 25 (0, 0))] ∧ RcL g1 cells (fewTo S 0) := ⟨news, hs, by simpa [fewTo] using hrcl⟩
  clear hs hrcl
  obtain ⟨cells, hs, hrc⟩ := hst
  rw [hsn]
  refine WL_nil ?_; (with_reducible refine T_then ?_); refine W_seq ?_; refine W_seq ?_; refine W_region ?_; refine P1 T.ok rfl rfl rfl ?_; refine WL_nil ?_; (with_reducible refine T_then ?_); refine W_block ?_
  have rs1c := rs1; have le8 := G.le.refl g1
  refine W_loop (fun m a' w => ∃ (k : Nat) (cells : List Value) (g2 : G), w = g2.w ∧ St g g2 [.row 50 7 (.slice ao n co) n cells, .obj br (.cells [.int .i64 0, .int .i64 0, .slice none 0 0, .slice none 0 0].toArray 25 (0, 0)), .obj bf (.cells [.int .i64 f.moveMin, .int .i64 f.moveMax, .slice ao n co, .slice a2 f.windows.length c2].toArray 25 (0, 0))] ∧ G.le g1 g2 ∧ k ≤ n ∧ m = n - k ∧ RcL g2 cells (fewTo S k) ∧
      Fr 70 [] [(1, .pointer (some ⟨bf, 0, none⟩)), (2, .pointer (some ⟨br, 0, none⟩)), (3, .int .i64 k)] a') n
    (fun a' ha => ⟨0, cells, g1, rfl, hs, le8, Nat.zero_le _, rfl, hrc, ha.keep (by (repeat (first | exact trivial | refine ⟨rfl, ?_⟩)))⟩) ?_
  clear hs le8 rs1 hrc rs0 rs5 fl0 hsrc
  rintro m a' _ ⟨k, cells, g2, rfl, hs, le8, hk, rfl, rc0, ha'⟩
  have rs1 := rs1c.mono le8
  revert a'
  (with_reducible refine T_wp ?_); refine W_seq ?_; refine W_seq ?_; refine W_region ?_; refine P1 T.ok rfl rfl rfl ?_; refine P1 T.ok rfl rfl rfl ?_; refine WL_o rfl rfl (OpR_loadO T.ok 2 rfl hs rfl rfl rfl ?_); refine P1 T.ok rfl rfl rfl ?_; refine P1 T.ok rfl rfl rfl ?_; refine WL_nil ?_; (with_reducible refine T_then ?_)
  by_cases hlt : k < n
  · refine W_yes (b := decide ((k : Int) < (n : Int))) (decide_eq_true (by omega)) rfl ?_
    obtain ⟨ob, po, rfl⟩ : ∃ ob po, ao = some ⟨ob, po, none⟩ := by
      rcases (hs.own 0 _ rfl).1.2 with ⟨h, _⟩ | ⟨b, p, cap, cur, e1, _⟩
      · omega
      · simp only [Value.slice.injEq] at e1; exact ⟨b, p, e1.1⟩
    have hk0 : (0 : Int) ≤ (k : Int) := by omega
    have hget := fewTo_get (l := S) (k := k) (by omega)
    have hset := fewTo_set (l := S) (k := k) (by omega)
    have hfl := fewTo_len S k
    generalize fewTo S k = Tk at *
    have hsx : cutStep (S[k]'(by omega)) = { cutTools (S[k]'(by omega)) with next := (S[k]'(by omega)).next.take (min (S[k]'(by omega)).next.length 5) } := rfl
    generalize S[k]'(by omega) = s at *
    obtain ⟨ys, ⟨t1, tn, t3, t4, xn, t6, rfl, rs6, rs7⟩, _, _, _, hyat⟩ := RcL.blk rc0 hget
    obtain ⟨_, _, e⟩ := rs6.isSlice; obtain ⟨rfl, rfl, rfl⟩ := Value.slice.inj e; clear e
    obtain ⟨_, _, e⟩ := rs7.isSlice; obtain ⟨rfl, rfl, rfl⟩ := Value.slice.inj e; clear e
    have htc := rs6.cap_le; have hxc := rs7.cap_le
    unfold maxLen at htc hxc
    have hcl := rc0.len
    have hcl : cells.length = n * 7 := by rw [rc0.len, hfl]; show S.length * 7 = _; rw [hsl]
    have hy1 : cells[(k : Int).toNat * 7 + 1]? = some (.slice t1 s.tools.length t3) := hyat 1 _ rfl
    have hmt : (if (9 : Int) < (s.tools.length : Int) then 9 else (s.tools.length : Int)) = ((min s.tools.length 9 : Nat) : Int) := by split <;> omega
    refine W_skip ?_; (with_reducible refine T_then ?_); refine W_seq ?_; refine W_block ?_; refine W_seq ?_
    apply W_draw allF rfl (Fact.eq _ :: Fact.eq _ :: Fact.eq _ :: Fact.eq _ :: Fact.eq _ :: Fact.eq _ :: Fact.eq _ :: Fact.eq _ :: Fact.eq _ :: Fact.eq _ :: Fact.eq _ :: Fact.eq _ :: Fact.eq _ :: Fact.eq _ :: Fact.eq _ :: Fact.eq _ :: Fact.eq _ :: Fact.eq _ :: Fact.eq _ :: Fact.eq _ :: []) 20 [(17, 38), (19, 40)] rfl rfl
    · refine D_cons (D_step2 (js := []) (by kernel_rfl) fun gd hf => ?_) ?_
      · have hsd := hs.dr.call hf; have hfe := (G.le_dr _).trans hf.le
        refine QA_nil ?_
        (refine D_yes rfl ?_; refine OpR_pure _ T.ok rfl ?_; refine ⟨_, rfl, Fr0.refl _, ?_⟩; exact rfl)
      refine D_cons (D_step2 (js := [(0, 21)]) (by kernel_rfl) fun gd hf => ?_) ?_
      · have hsd := hs.dr.call hf; have hfe := (G.le_dr _).trans hf.le
        refine QA_eq rfl ?_
        refine QA_nil ?_
        (refine D_yes rfl ?_; refine OpR_loadO T.ok 2 rfl hsd rfl rfl rfl ?_; refine ⟨_, rfl, Fr0.refl _, ?_⟩; exact rfl)
      refine D_cons (D_step2 (js := []) (by kernel_rfl) fun gd hf => ?_) ?_
      · have hsd := hs.dr.call hf; have hfe := (G.le_dr _).trans hf.le
        refine QA_nil ?_
        (refine D_yes rfl ?_; refine OpR_pure _ T.ok rfl ?_; refine ⟨_, rfl, Fr0.refl _, ?_⟩; exact rfl)
      refine D_cons (D_step2 (js := []) (by kernel_rfl) fun gd hf => ?_) ?_
      · have hsd := hs.dr.call hf; have hfe := (G.le_dr _).trans hf.le
        refine QA_nil ?_
        (refine D_yes rfl ?_; refine OpR_pure _ T.ok rfl ?_; refine ⟨_, rfl, Fr0.refl _, ?_⟩; exact rfl)
      refine D_cons (D_step2 (js := [(3, 24)]) (by kernel_rfl) fun gd hf => ?_) ?_
      · have hsd := hs.dr.call hf; have hfe := (G.le_dr _).trans hf.le
        refine QA_eq rfl ?_
        refine QA_nil ?_
        (refine D_yes rfl ?_; refine OpR_loadO T.ok 2 rfl hsd rfl rfl rfl ?_; refine ⟨_, rfl, Fr0.refl _, ?_⟩; exact rfl)
      refine D_cons (D_step2 (js := []) (by kernel_rfl) fun gd hf => ?_) ?_
      · have hsd := hs.dr.call hf; have hfe := (G.le_dr _).trans hf.le
        refine QA_nil ?_
        (refine D_yes rfl ?_; refine OpR_pure _ T.ok rfl ?_; refine ⟨_, rfl, Fr0.refl _, ?_⟩; exact rfl)
      refine D_cons (D_step2 (js := [(4, 25), (5, 26)]) (by kernel_rfl) fun gd hf => ?_) ?_
      · have hsd := hs.dr.call hf; have hfe := (G.le_dr _).trans hf.le
        refine QA_eq rfl ?_; refine QA_eq rfl ?_
        refine QA_nil ?_
        refine D_yes rfl ?_
        refine OpR_idxR T.ok rfl (hsd.own 0 _ rfl).1 hk0 (by omega) rfl rfl rfl rfl rfl rfl ?_
        rintro b p hh; obtain ⟨rfl, rfl⟩ : ob = b ∧ po = p := by simpa using hh
        exact ⟨_, rfl, Fr0.refl _, rfl⟩
      refine D_cons (D_step2 (js := [(6, 27)]) (by kernel_rfl) fun gd hf => ?_) ?_
      · have hsd := hs.dr.call hf; have hfe := (G.le_dr _).trans hf.le
        refine QA_eq rfl ?_
        refine QA_nil ?_
        (refine D_yes rfl ?_; refine OpR_pure _ T.ok rfl ?_; refine ⟨_, rfl, Fr0.refl _, ?_⟩; exact rfl)
      refine D_cons (D_step2 (js := [(7, 28)]) (by kernel_rfl) fun gd hf => ?_) ?_
      · have hsd := hs.dr.call hf; have hfe := (G.le_dr _).trans hf.le
        refine QA_eq rfl ?_
        refine QA_nil ?_
        refine D_yes rfl ?_
        refine OpR_loadR T.ok ((k : Int).toNat * 7 + 1) rfl (hsd.own 0 _ rfl).1 rfl (v := .slice t1 s.tools.length t3) hy1 ?_
        exact ⟨_, rfl, Fr0.refl _, rfl⟩
      refine D_cons (D_step2 (js := []) (by kernel_rfl) fun gd hf => ?_) ?_
      · have hsd := hs.dr.call hf; have hfe := (G.le_dr _).trans hf.le
        refine QA_nil ?_
        (refine D_yes rfl ?_; refine OpR_pure _ T.ok rfl ?_; refine ⟨_, rfl, Fr0.refl _, ?_⟩; exact rfl)
      refine D_cons (D_step2 (js := [(9, 30)]) (by kernel_rfl) fun gd hf => ?_) ?_
      · have hsd := hs.dr.call hf; have hfe := (G.le_dr _).trans hf.le
        refine QA_eq rfl ?_
        refine QA_nil ?_
        (refine D_yes rfl ?_; refine OpR_loadO T.ok 2 rfl hsd rfl rfl rfl ?_; refine ⟨_, rfl, Fr0.refl _, ?_⟩; exact rfl)
      refine D_cons (D_step2 (js := []) (by kernel_rfl) fun gd hf => ?_) ?_
      · have hsd := hs.dr.call hf; have hfe := (G.le_dr _).trans hf.le
        refine QA_nil ?_
        (refine D_yes rfl ?_; refine OpR_pure _ T.ok rfl ?_; refine ⟨_, rfl, Fr0.refl _, ?_⟩; exact rfl)
      refine D_cons (D_step2 (js := [(10, 31), (11, 32)]) (by kernel_rfl) fun gd hf => ?_) ?_
      · have hsd := hs.dr.call hf; have hfe := (G.le_dr _).trans hf.le
        refine QA_eq rfl ?_; refine QA_eq rfl ?_
        refine QA_nil ?_
        refine D_yes rfl ?_
        refine OpR_idxR T.ok rfl (hsd.own 0 _ rfl).1 hk0 (by omega) rfl rfl rfl rfl rfl rfl ?_
        rintro b p hh; obtain ⟨rfl, rfl⟩ : ob = b ∧ po = p := by simpa using hh
        exact ⟨_, rfl, Fr0.refl _, rfl⟩
      refine D_cons (D_step2 (js := [(12, 33)]) (by kernel_rfl) fun gd hf => ?_) ?_
      · have hsd := hs.dr.call hf; have hfe := (G.le_dr _).trans hf.le
        refine QA_eq rfl ?_
        refine QA_nil ?_
        (refine D_yes rfl ?_; refine OpR_pure _ T.ok rfl ?_; refine ⟨_, rfl, Fr0.refl _, ?_⟩; exact rfl)
      refine D_cons (D_step2 (js := [(13, 34)]) (by kernel_rfl) fun gd hf => ?_) ?_
      · have hsd := hs.dr.call hf; have hfe := (G.le_dr _).trans hf.le
        refine QA_eq rfl ?_
        refine QA_nil ?_
        refine D_yes rfl ?_
        refine OpR_loadR T.ok ((k : Int).toNat * 7 + 1) rfl (hsd.own 0 _ rfl).1 rfl (v := .slice t1 s.tools.length t3) hy1 ?_
        exact ⟨_, rfl, Fr0.refl _, rfl⟩
      refine D_cons (D_step2 (js := [(14, 35)]) (by kernel_rfl) fun gd hf => ?_) ?_
      · have hsd := hs.dr.call hf; have hfe := (G.le_dr _).trans hf.le
        refine QA_eq rfl ?_
        refine QA_nil ?_
        (refine D_yes rfl ?_; refine OpR_pure _ T.ok rfl ?_; refine ⟨_, rfl, Fr0.refl _, ?_⟩; exact rfl)
      refine D_cons (D_step2 (js := [(15, 36)]) (by kernel_rfl) fun gd hf => ?_) ?_
      · have hsd := hs.dr.call hf; have hfe := (G.le_dr _).trans hf.le
        refine QA_eq rfl ?_
        refine QA_nil ?_
        (refine D_yes rfl ?_; refine OpR_pure _ T.ok rfl ?_; refine ⟨_, rfl, Fr0.refl _, ?_⟩; exact rfl)
      refine D_cons (D_step2 (js := [(8, 29), (16, 37)]) (by kernel_rfl) fun gd hf => ?_) ?_
      · have hsd := hs.dr.call hf; have hfe := (G.le_dr _).trans hf.le
        refine QA_eq rfl ?_; refine QA_eq rfl ?_
        refine QA_nil ?_
        refine D_yes rfl ?_
        refine OpR_cutH T.ok (b := min s.tools.length 9) rfl rfl rfl rfl rfl (congrArg (fun z => some (Value.int .i64 z)) hmt) (by omega) ?_
        exact ⟨_, rfl, Fr0.refl _, rfl⟩
      refine D_cons (D_step2 (js := [(1, 22), (2, 23), (1, 22), (2, 23)]) (by kernel_rfl) fun gd hf => ?_) ?_
      · have hsd := hs.dr.call hf; have hfe := (G.le_dr _).trans hf.le
        refine QA_eq rfl ?_; refine QA_eq rfl ?_; refine QA_eq rfl ?_; refine QA_eq rfl ?_
        refine QA_nil ?_
        refine D_yes rfl ?_
        refine OpR_idxR T.ok rfl (hsd.own 0 _ rfl).1 hk0 (by omega) rfl rfl rfl rfl rfl rfl ?_
        rintro b p hh; obtain ⟨rfl, rfl⟩ : ob = b ∧ po = p := by simpa using hh
        exact ⟨_, rfl, Fr0.refl _, rfl⟩
      refine D_cons (D_step2 (js := [(18, 39)]) (by kernel_rfl) fun gd hf => ?_) ?_
      · have hsd := hs.dr.call hf; have hfe := (G.le_dr _).trans hf.le
        refine QA_eq rfl ?_
        refine QA_nil ?_
        (refine D_yes rfl ?_; refine OpR_pure _ T.ok rfl ?_; refine ⟨_, rfl, Fr0.refl _, ?_⟩; exact rfl)
      exact D_nil
    intro g1 hf1; refine QA_eq rfl ?_; refine QA_eq rfl ?_; refine QA_nil ?_
    replace hs := hs.dr.call hf1; have hqe := (G.le_dr _).trans hf1.le; replace le8 := G.le.trans le8 hqe; replace rs1 := rs1.mono hqe; replace rs6 := rs6.mono hqe; replace rs7 := rs7.mono hqe; replace rc0 := rc0.mono hqe
    skip
    refine WL_n rfl (OpR_storeR T.ok 0 ((k : Int).toNat * 7 + 1) rfl hs rfl rfl rfl rfl rfl rfl rfl (by simp) (by rw [hcl]; show (k : Int).toNat * 7 + 1 + 1 ≤ _; omega) rfl ?_)
    rintro g5 hs hqe; replace le8 := G.le.trans le8 hqe; replace rs1 := rs1.mono hqe; replace rs6 := rs6.mono hqe; replace rs7 := rs7.mono hqe; replace rc0 := rc0.mono hqe
    replace rs6 := rs6.cut (a := 0) (b := min s.tools.length 9) (Nat.zero_le _) (by omega)
    rw [List.drop_zero] at rs6
    replace rc0 := RcL.upd (α := Step) (us := [_]) (off := 1) (x' := cutTools s) (by show 1 + 1 ≤ 7; decide) rc0 k s hget (by
      rintro ys ⟨b1, b2, b3, b4, b5, b6, rfl, hx1, hx2⟩
      exact ⟨_, _, _, b4, b5, b6, rfl, rs6, hx2⟩)
    replace hget : (Tk.set k (cutTools s))[k]? = some (cutTools s) := by rw [List.getElem?_set_self (by omega)]
    have hst : ∃ cells, St g g5 [.row 50 7 (.slice (some ⟨ob, po, none⟩) n co) n cells, .obj br (.cells [.int .i64 0, .int .i64 0, .slice none 0 0, .slice none 0 0].toArray 25 (0, 0)), .obj bf (.cells [.int .i64 f.moveMin, .int .i64 f.moveMax, .slice (some ⟨ob, po, none⟩) n co, .slice a2 f.windows.length c2].toArray 25 (0, 0))] ∧ RcL g5 cells (Tk.set k (cutTools s)) := ⟨_, hs, rc0⟩
    clear hs rc0 hcl hyat hy1 rs6 rs7
    obtain ⟨cells, hs, rc0⟩ := hst
    obtain ⟨ys, ⟨t1, tn, t3, t4, xn, t6, rfl, rs6, rs7⟩, _, _, _, hyat⟩ := RcL.blk rc0 hget
    obtain ⟨_, _, e⟩ := rs7.isSlice; obtain ⟨rfl, rfl, rfl⟩ := Value.slice.inj e; clear e
    have hcl : cells.length = n * 7 := by rw [rc0.len, List.length_set, hfl]; show S.length * 7 = _; rw [hsl]
    have hy1 : cells[(k : Int).toNat * 7 + 4]? = some (.slice t4 s.next.length t6) := hyat 4 _ rfl
    have hxc := rs7.cap_le
    unfold maxLen at hxc
    have hmt : (if (5 : Int) < (s.next.length : Int) then 5 else (s.next.length : Int)) = ((min s.next.length 5 : Nat) : Int) := by split <;> omega
    have rs8 : Rs g5 (.slice t4 s.next.length t6) s.next := rs7
    have hnx : t6 ≥ min s.next.length 5 := by have h1 : s.next.length ≤ t6 := hxc.2.1; omega
    clear rs7 rs6 hxc
    refine WL_nil ?_; (with_reducible refine T_then ?_)
    apply W_draw allF rfl (Fact.eq _ :: Fact.eq _ :: Fact.eq _ :: Fact.eq _ :: Fact.eq _ :: Fact.eq _ :: Fact.eq _ :: Fact.eq _ :: Fact.eq _ :: Fact.eq _ :: Fact.eq _ :: Fact.eq _ :: Fact.eq _ :: Fact.eq _ :: Fact.eq _ :: Fact.eq _ :: Fact.eq _ :: Fact.eq _ :: Fact.eq _ :: Fact.eq _ :: []) 20 [(17, 58), (19, 60)] rfl rfl
    · refine D_cons (D_step2 (js := []) (by kernel_rfl) fun gd hf => ?_) ?_
      · have hsd := hs.dr.call hf; have hfe := (G.le_dr _).trans hf.le
        refine QA_nil ?_
        (refine D_yes rfl ?_; refine OpR_pure _ T.ok rfl ?_; refine ⟨_, rfl, Fr0.refl _, ?_⟩; exact rfl)
      refine D_cons (D_step2 (js := [(0, 41)]) (by kernel_rfl) fun gd hf => ?_) ?_
      · have hsd := hs.dr.call hf; have hfe := (G.le_dr _).trans hf.le
        refine QA_eq rfl ?_
        refine QA_nil ?_
        (refine D_yes rfl ?_; refine OpR_loadO T.ok 2 rfl hsd rfl rfl rfl ?_; refine ⟨_, rfl, Fr0.refl _, ?_⟩; exact rfl)
      refine D_cons (D_step2 (js := []) (by kernel_rfl) fun gd hf => ?_) ?_
      · have hsd := hs.dr.call hf; have hfe := (G.le_dr _).trans hf.le
        refine QA_nil ?_
        (refine D_yes rfl ?_; refine OpR_pure _ T.ok rfl ?_; refine ⟨_, rfl, Fr0.refl _, ?_⟩; exact rfl)
      refine D_cons (D_step2 (js := []) (by kernel_rfl) fun gd hf => ?_) ?_
      · have hsd := hs.dr.call hf; have hfe := (G.le_dr _).trans hf.le
        refine QA_nil ?_
        (refine D_yes rfl ?_; refine OpR_pure _ T.ok rfl ?_; refine ⟨_, rfl, Fr0.refl _, ?_⟩; exact rfl)
      refine D_cons (D_step2 (js := [(3, 44)]) (by kernel_rfl) fun gd hf => ?_) ?_
      · have hsd := hs.dr.call hf; have hfe := (G.le_dr _).trans hf.le
        refine QA_eq rfl ?_
        refine QA_nil ?_
        (refine D_yes rfl ?_; refine OpR_loadO T.ok 2 rfl hsd rfl rfl rfl ?_; refine ⟨_, rfl, Fr0.refl _, ?_⟩; exact rfl)
      refine D_cons (D_step2 (js := []) (by kernel_rfl) fun gd hf => ?_) ?_
      · have hsd := hs.dr.call hf; have hfe := (G.le_dr _).trans hf.le
        refine QA_nil ?_
        (refine D_yes rfl ?_; refine OpR_pure _ T.ok rfl ?_; refine ⟨_, rfl, Fr0.refl _, ?_⟩; exact rfl)
      refine D_cons (D_step2 (js := [(4, 45), (5, 46)]) (by kernel_rfl) fun gd hf => ?_) ?_
      · have hsd := hs.dr.call hf; have hfe := (G.le_dr _).trans hf.le
        refine QA_eq rfl ?_; refine QA_eq rfl ?_
        refine QA_nil ?_
        refine D_yes rfl ?_
        refine OpR_idxR T.ok rfl (hsd.own 0 _ rfl).1 hk0 (by omega) rfl rfl rfl rfl rfl rfl ?_
        rintro b p hh; obtain ⟨rfl, rfl⟩ : ob = b ∧ po = p := by simpa using hh
        exact ⟨_, rfl, Fr0.refl _, rfl⟩
      refine D_cons (D_step2 (js := [(6, 47)]) (by kernel_rfl) fun gd hf => ?_) ?_
      · have hsd := hs.dr.call hf; have hfe := (G.le_dr _).trans hf.le
        refine QA_eq rfl ?_
        refine QA_nil ?_
        (refine D_yes rfl ?_; refine OpR_pure _ T.ok rfl ?_; refine ⟨_, rfl, Fr0.refl _, ?_⟩; exact rfl)
      refine D_cons (D_step2 (js := [(7, 48)]) (by kernel_rfl) fun gd hf => ?_) ?_
      · have hsd := hs.dr.call hf; have hfe := (G.le_dr _).trans hf.le
        refine QA_eq rfl ?_
        refine QA_nil ?_
        refine D_yes rfl ?_
        refine OpR_loadR T.ok ((k : Int).toNat * 7 + 4) rfl (hsd.own 0 _ rfl).1 rfl (v := .slice t4 s.next.length t6) hy1 ?_
        exact ⟨_, rfl, Fr0.refl _, rfl⟩
      refine D_cons (D_step2 (js := []) (by kernel_rfl) fun gd hf => ?_) ?_
      · have hsd := hs.dr.call hf; have hfe := (G.le_dr _).trans hf.le
        refine QA_nil ?_
        (refine D_yes rfl ?_; refine OpR_pure _ T.ok rfl ?_; refine ⟨_, rfl, Fr0.refl _, ?_⟩; exact rfl)
      refine D_cons (D_step2 (js := [(9, 50)]) (by kernel_rfl) fun gd hf => ?_) ?_
      · have hsd := hs.dr.call hf; have hfe := (G.le_dr _).trans hf.le
        refine QA_eq rfl ?_
        refine QA_nil ?_
        (refine D_yes rfl ?_; refine OpR_loadO T.ok 2 rfl hsd rfl rfl rfl ?_; refine ⟨_, rfl, Fr0.refl _, ?_⟩; exact rfl)
      refine D_cons (D_step2 (js := []) (by kernel_rfl) fun gd hf => ?_) ?_
      · have hsd := hs.dr.call hf; have hfe := (G.le_dr _).trans hf.le
        refine QA_nil ?_
        (refine D_yes rfl ?_; refine OpR_pure _ T.ok rfl ?_; refine ⟨_, rfl, Fr0.refl _, ?_⟩; exact rfl)
      refine D_cons (D_step2 (js := [(10, 51), (11, 52)]) (by kernel_rfl) fun gd hf => ?_) ?_
      · have hsd := hs.dr.call hf; have hfe := (G.le_dr _).trans hf.le
        refine QA_eq rfl ?_; refine QA_eq rfl ?_
        refine QA_nil ?_
        refine D_yes rfl ?_
        refine OpR_idxR T.ok rfl (hsd.own 0 _ rfl).1 hk0 (by omega) rfl rfl rfl rfl rfl rfl ?_
        rintro b p hh; obtain ⟨rfl, rfl⟩ : ob = b ∧ po = p := by simpa using hh
        exact ⟨_, rfl, Fr0.refl _, rfl⟩
      refine D_cons (D_step2 (js := [(12, 53)]) (by kernel_rfl) fun gd hf => ?_) ?_
      · have hsd := hs.dr.call hf; have hfe := (G.le_dr _).trans hf.le
        refine QA_eq rfl ?_
        refine QA_nil ?_
        (refine D_yes rfl ?_; refine OpR_pure _ T.ok rfl ?_; refine ⟨_, rfl, Fr0.refl _, ?_⟩; exact rfl)
      refine D_cons (D_step2 (js := [(13, 54)]) (by kernel_rfl) fun gd hf => ?_) ?_
      · have hsd := hs.dr.call hf; have hfe := (G.le_dr _).trans hf.le
        refine QA_eq rfl ?_
        refine QA_nil ?_
        refine D_yes rfl ?_
        refine OpR_loadR T.ok ((k : Int).toNat * 7 + 4) rfl (hsd.own 0 _ rfl).1 rfl (v := .slice t4 s.next.length t6) hy1 ?_
        exact ⟨_, rfl, Fr0.refl _, rfl⟩
      refine D_cons (D_step2 (js := [(14, 55)]) (by kernel_rfl) fun gd hf => ?_) ?_
      · have hsd := hs.dr.call hf; have hfe := (G.le_dr _).trans hf.le
        refine QA_eq rfl ?_
        refine QA_nil ?_
        (refine D_yes rfl ?_; refine OpR_pure _ T.ok rfl ?_; refine ⟨_, rfl, Fr0.refl _, ?_⟩; exact rfl)
      refine D_cons (D_step2 (js := [(15, 56)]) (by kernel_rfl) fun gd hf => ?_) ?_
      · have hsd := hs.dr.call hf; have hfe := (G.le_dr _).trans hf.le
        refine QA_eq rfl ?_
        refine QA_nil ?_
        (refine D_yes rfl ?_; refine OpR_pure _ T.ok rfl ?_; refine ⟨_, rfl, Fr0.refl _, ?_⟩; exact rfl)
      refine D_cons (D_step2 (js := [(8, 49), (16, 57)]) (by kernel_rfl) fun gd hf => ?_) ?_
      · have hsd := hs.dr.call hf; have hfe := (G.le_dr _).trans hf.le
        refine QA_eq rfl ?_; refine QA_eq rfl ?_
        refine QA_nil ?_
        refine D_yes rfl ?_
        refine OpR_cutH T.ok (b := min s.next.length 5) rfl rfl rfl rfl rfl (congrArg (fun z => some (Value.int .i64 z)) hmt) (hnx) ?_
        exact ⟨_, rfl, Fr0.refl _, rfl⟩
      refine D_cons (D_step2 (js := [(1, 42), (2, 43), (1, 42), (2, 43)]) (by kernel_rfl) fun gd hf => ?_) ?_
      · have hsd := hs.dr.call hf; have hfe := (G.le_dr _).trans hf.le
        refine QA_eq rfl ?_; refine QA_eq rfl ?_; refine QA_eq rfl ?_; refine QA_eq rfl ?_
        refine QA_nil ?_
        refine D_yes rfl ?_
        refine OpR_idxR T.ok rfl (hsd.own 0 _ rfl).1 hk0 (by omega) rfl rfl rfl rfl rfl rfl ?_
        rintro b p hh; obtain ⟨rfl, rfl⟩ : ob = b ∧ po = p := by simpa using hh
        exact ⟨_, rfl, Fr0.refl _, rfl⟩
      refine D_cons (D_step2 (js := [(18, 59)]) (by kernel_rfl) fun gd hf => ?_) ?_
      · have hsd := hs.dr.call hf; have hfe := (G.le_dr _).trans hf.le
        refine QA_eq rfl ?_
        refine QA_nil ?_
        (refine D_yes rfl ?_; refine OpR_pure _ T.ok rfl ?_; refine ⟨_, rfl, Fr0.refl _, ?_⟩; exact rfl)
      exact D_nil
    intro g1 hf1; refine QA_eq rfl ?_; refine QA_eq rfl ?_; refine QA_nil ?_
    replace hs := hs.dr.call hf1; have hqe := (G.le_dr _).trans hf1.le; replace le8 := G.le.trans le8 hqe; replace rs1 := rs1.mono hqe; replace rs8 := rs8.mono hqe; replace rc0 := rc0.mono hqe
    skip
    refine WL_n rfl (OpR_storeR T.ok 0 ((k : Int).toNat * 7 + 4) rfl hs rfl rfl rfl rfl rfl rfl rfl (by simp) (by rw [hcl]; show (k : Int).toNat * 7 + 4 + 1 ≤ _; omega) rfl ?_)
    rintro g9 hs hqe; replace le8 := G.le.trans le8 hqe; replace rs1 := rs1.mono hqe; replace rs8 := rs8.mono hqe; replace rc0 := rc0.mono hqe
    replace rs8 := rs8.cut (a := 0) (b := min s.next.length 5) (Nat.zero_le _) (by omega)
    rw [List.drop_zero] at rs8
    replace rc0 := RcL.upd (α := Step) (us := [_]) (off := 4) (x' := cutStep s) (by show 4 + 1 ≤ 7; decide) rc0 k (cutTools s) hget (by
      rintro ys ⟨b1, b2, b3, b4, b5, b6, rfl, hx1, hx2⟩
      exact ⟨b1, b2, b3, _, _, _, rfl, hx1, rs8⟩)
    rw [List.set_set, hset] at rc0
    refine WL_nil ?_; (with_reducible refine T_bn ?_); (with_reducible refine T_then ?_); refine W_region ?_; (iterate 3 refine P1 T.ok rfl rfl rfl ?_); refine WL_nil ?_
    exact fun a ha => ⟨n - (k + 1), by omega, k + 1, _, _, rfl, hs, le8, by omega, rfl, rc0, ha.keep ⟨rfl, rfl, kI rfl (by rw [wr (by omega) (by omega)]; omega), trivial⟩⟩
  · refine W_no (b := decide ((k : Int) < (n : Int))) (decide_eq_false (by omega)) rfl ?_
    obtain rfl : k = n := by omega
    have hN2 : (if (21 : Int) < (f.windows.length : Int) then 21 else (f.windows.length : Int)) = ((min f.windows.length 21 : Nat) : Int) := by split <;> omega
    refine W_exit ?_; (with_reducible refine T_tx ?_; with_reducible refine T_tx ?_); (with_reducible refine T_bx ?_); (with_reducible refine T_then ?_); refine W_seq ?_; refine W_region ?_; refine P1 T.ok rfl rfl rfl ?_; refine WL_o rfl rfl (OpR_loadO T.ok 2 rfl hs rfl rfl rfl ?_); refine P1 T.ok rfl rfl rfl ?_; refine WL_o rfl rfl (OpR_loadO T.ok 2 rfl hs rfl rfl rfl ?_); refine P1 T.ok rfl rfl rfl ?_; refine P1 T.ok rfl rfl rfl ?_
    refine WL_re (.int .i64 ((min f.windows.length 21 : Nat) : Int)) (t := 66) rfl (congrArg (Value.int .i64) hN2) ?_
    refine WL_o rfl rfl (OpR_cutH T.ok (b := min f.windows.length 21) rfl rfl rfl rfl rfl rfl (by omega) ?_)
    replace rs1 := rs1.cut (a := 0) (b := min f.windows.length 21) (Nat.zero_le _) (by omega)
    rw [List.drop_zero] at rs1
    refine P1 T.ok rfl rfl rfl ?_
    refine WL_n rfl (OpR_storeO T.ok 2 rfl hs rfl rfl rfl rfl rfl rfl rfl rfl rfl ?_); replace hs := hs; rintro g1 hs hqe; replace le8 := G.le.trans le8 hqe; replace rs1 := rs1.mono hqe; replace rc0 := rc0.mono hqe
    refine WL_nil ?_; (with_reducible refine T_then ?_); refine W_seq ?_; refine W_region ?_; refine WL_o rfl rfl (OpR_loadO T.ok 2 rfl hs rfl rfl rfl ?_)
    refine WL_n rfl (OpR_storeO T.ok 1 rfl hs rfl rfl rfl rfl rfl rfl rfl rfl rfl ?_); replace hs := hs; rintro g1 hs hqe; replace le8 := G.le.trans le8 hqe; replace rs1 := rs1.mono hqe; replace rc0 := rc0.mono hqe
    obtain ⟨gq, hwq, hsq, hqq, rs7⟩ := hs.fzRow (α := Step) (i := 0) rfl rc0
    clear hqe; have hqe := hqq; rw [← hwq]; replace hs := hsq; clear hsq rc0; replace le8 := G.le.trans le8 hqe; replace rs1 := rs1.mono hqe
    refine WL_nil ?_; (with_reducible refine T_then ?_)
    refine W_ret ?_
    skip
    refine retC T.ok 0 rfl hs rfl rfl rfl (hs.ret ?_)
    exact ⟨_, _, _, _, _, _, rfl, rs7, rs1⟩
end Go.Proofs.Ytijmlfmapfhabaa

/- The walk through the statement GraphMatchesReference. -/
namespace Go.Proofs.Ytijmlfmapfhabaa
open Go Go.K
set_option maxRecDepth 10000
attribute [local irreducible] W WL OpR
set_option maxHeartbeats 4000000

instance : El Flow where
  k := 4
  pos := by omega
  rc g cs f := ∃ a1 n1 c1 a2 n2 c2, cs = [.int .i64 f.moveMin, .int .i64 f.moveMax, .slice a1 n1 c1, .slice a2 n2 c2] ∧ Rs g (.slice a1 n1 c1) f.steps ∧ Rs g (.slice a2 n2 c2) f.windows
  len h := by obtain ⟨_, _, _, _, _, _, rfl, _⟩ := h; rfl
  mono hle h := by obtain ⟨a1, n1, c1, a2, n2, c2, e, h1, h2⟩ := h; exact ⟨a1, n1, c1, a2, n2, c2, e, h1.mono hle, h2.mono hle⟩
  one h := by obtain ⟨_, _, _, _, _, _, rfl, _⟩ := h; simp [Value.oneCell']
structure Two where
  x : Int
  y : Int
instance : El Two where
  k := 2
  pos := by omega
  rc _ cs w := cs = [.int .i64 w.x, .int .i64 w.y]
  len h := by rw [h]; rfl
  mono _ h := h
  one h := by rw [h]; simp [Value.oneCell']
theorem RcL.two {α : Type} [El α] {g : G} {c1 c2 : List Value} {x y : α} (h1 : El.rc g c1 x) (h2 : El.rc g c2 y) : RcL g (c1 ++ c2) [x, y] := ⟨c1, c2, rfl, h1, c2, [], by rw [List.append_nil], h2, rfl⟩




theorem lawref_c (v : Value) (f0 : Flow) (u : Value) (x : List Y6) (a b : Int) (g : G) (fl1 : RFlow g v f0) (rs0 : Rs g u x) (hx : ∀ y ∈ x, y.fit) (ha : I64 a) (hb : I64 b) :
    CallsIn Wd 0 Try.prog 3 #[v, u, .int .i64 a, .int .i64 b] g.w (Ret g fun _ r => r = .bool true) := by
  obtain ⟨x1, x2, x3, x4, x5, x6, rfl, _, _⟩ := id fl1
  have hs := St.start g
  have le0 := G.le.refl g
  refine enter Try.func3 rfl Try.ntmps3 rfl ?_
  refine W_seq ?_; refine W_region ?_
  refine WL_o rfl rfl (OpR_box rfl hs rfl rfl ?_); clear hs; rintro bw g1 hs hqe; replace le0 := G.le.trans le0 hqe; replace rs0 := rs0.mono hqe; replace fl1 := fl1.mono hqe
  obtain ⟨g2, hw2, hs2, hqe, hep⟩ := hs.fzObj (i := 0) rfl; replace hs := hs2; clear hs2; rw [← hw2]; replace le0 := G.le.trans le0 hqe; replace rs0 := rs0.mono hqe; replace fl1 := fl1.mono hqe
  have ep2 := hep; clear hep
  refine P1 T.ok rfl rfl rfl ?_; refine WL_nil ?_; (with_reducible refine T_then ?_); refine W_seq ?_; refine W_region ?_
  refine WL_o rfl rfl (OpR_ret cl12 allF rfl rfl rfl rfl rfl (sane_c _) ?_); rintro g1 _ hf1 rfl; replace hs := hs.call hf1; have hqe := hf1.le; replace le0 := G.le.trans le0 hqe; replace ep2 := ep2.mono hqe; replace rs0 := rs0.mono hqe; replace fl1 := fl1.mono hqe
  refine P1 T.ok rfl rfl rfl ?_; refine WL_nil ?_; (with_reducible refine T_then ?_); refine W_seq ?_; refine W_seq ?_; refine W_region ?_; refine WL_o rfl rfl (OpR_loadE T.ok 0 rfl ep2 rfl rfl ?_)
  refine WL_o rfl rfl (OpR_ret cl13 allF rfl rfl rfl rfl rfl (few_c _ f0 _ fl1) ?_); rintro g1 _ hf1 ⟨y1, y2, y3, y4, y5, y6, rfl, rs5, rs6⟩; replace hs := hs.call hf1; have hqe := hf1.le; replace le0 := G.le.trans le0 hqe; replace ep2 := ep2.mono hqe; replace rs0 := rs0.mono hqe; replace fl1 := fl1.mono hqe
  refine P1 T.ok rfl rfl rfl ?_
  refine WL_o rfl rfl (OpR_ret cl14 allF rfl rfl rfl rfl rfl (made_c _ x _ rs0 hx) ?_); rintro g1 _ hf1 ⟨sa, sn, sc, wa, wn, wc, cells, rfl, hh, rc0, rs2⟩
  replace hs := hs.getOwn hf1 hh; have hqe := hf1.le
  replace rs5 := rs5.mono hqe; replace rs6 := rs6.mono hqe; clear hh
  obtain ⟨gz, hwz, hsz, hqz, rs1⟩ := hs.fzRow (α := Step) (i := 0) rfl rc0
  clear hqe; have hqe := hqz; rw [← hwz]; replace hs := hsz; clear hsz rc0; replace rs2 := rs2.mono hqe; replace rs5 := rs5.mono hqe; replace rs6 := rs6.mono hqe
  skip
  refine WL_o rfl rfl (OpR_lit T.ok rfl hs (vs := [(0, .agg #[.int .i64 (fewM f0).moveMin, .int .i64 (fewM f0).moveMax, .slice y1 y2 y3, .slice y4 y5 y6]), (1, .agg #[.int .i64 (made x).moveMin, .int .i64 (made x).moveMax, .slice sa sn sc, .slice wa wn wc])])
    (cells := [.int .i64 (fewM f0).moveMin, .int .i64 (fewM f0).moveMax, .slice y1 y2 y3, .slice y4 y5 y6, .int .i64 (made x).moveMin, .int .i64 (made x).moveMax, .slice sa sn sc, .slice wa wn wc]) rfl rfl rfl rfl rfl rfl (by decide) (by decide) (by kernel_rfl) rfl ?_); rintro bl gl hs hqe; replace rs1 := rs1.mono hqe; replace rs2 := rs2.mono hqe; replace rs5 := rs5.mono hqe; replace rs6 := rs6.mono hqe
  obtain ⟨gx, hwx, hsx, hqx, rs9⟩ := hs.fzRow (α := Flow) (xs := [fewM f0, made x]) (i := 0) rfl (RcL.two (c1 := [_, _, _, _]) ⟨_, _, _, _, _, _, rfl, rs5, rs6⟩ ⟨_, _, _, _, _, _, rfl, rs1, rs2⟩)
  clear hqe; have hqe := hqx; rw [← hwx]; replace hs := hsx; clear hsx rs1 rs2 rs5 rs6
  refine P1 T.ok rfl rfl rfl ?_; refine P1 T.ok rfl rfl rfl ?_; refine WL_nil ?_; (with_reducible refine T_then ?_); refine W_block ?_
  obtain ⟨l, hl, e⟩ : ∃ l : List Flow, l.length = 2 ∧ [fewM f0, made x] = l := ⟨_, rfl, rfl⟩
  rw [e] at rs9; clear e
  have rs9c := rs9; have le8 := G.le.refl gx
  refine W_loop (fun m a' w => ∃ (k : Nat) (g2 : G), w = g2.w ∧ St g g2 [] ∧ G.le gx g2 ∧ k ≤ 2 ∧ m = 2 - k ∧
      Fr 189 [] [(2, .int .i64 a), (3, .int .i64 b), (9, .bool true), (34, .slice (some ⟨bl, 0, none⟩) 2 2), (35, .int .i64 2), (36, .int .i64 k)] a') 2
    (fun a' ha => ⟨0, gx, rfl, hs, le8, Nat.zero_le _, rfl, ha.keep (by (repeat (first | exact trivial | refine ⟨rfl, ?_⟩)))⟩) ?_
  clear hs le8 rs9 rs0 fl1 ep2 le0 hqe hqx
  rintro m a' _ ⟨k, g2, rfl, hs, le8, hk, rfl, ha'⟩
  have rs9 := rs9c.mono le8
  revert a'
  (with_reducible refine T_wp ?_); refine W_seq ?_; refine W_region ?_; refine P1 T.ok rfl rfl rfl ?_; refine WL_nil ?_; (with_reducible refine T_then ?_); refine W_seq ?_
  by_cases hlt : k < 2
  · refine W_yes (b := decide ((k : Int) < (2 : Int))) (decide_eq_true (by omega)) rfl ?_
    have hgi := geti_of (xs := l) (n := (k : Int)) rfl (by omega)
    generalize l[k]'(by omega) = f at *
    refine W_skip ?_; (with_reducible refine T_then ?_); refine W_seq ?_; refine W_block ?_; refine W_seq ?_; refine W_region ?_
    refine WL_o rfl rfl (OpR_idx T.ok rfl rs9 (y := f) hgi rfl rfl rfl rfl rfl rfl ?_)
    rintro bq q ys hep ⟨a1, n1, c1, a2, n2, c2, rfl, rs0, rs1⟩
    refine WL_o rfl rfl (OpR_loadE T.ok 0 rfl hep rfl rfl ?_)
    clear hep
    have fl0 : RFlow g2 (.agg #[.int .i64 f.moveMin, .int .i64 f.moveMax, .slice a1 n1 c1, .slice a2 n2 c2]) f := ⟨_, _, _, _, _, _, rfl, rs0, rs1⟩
    obtain ⟨_, _, e⟩ := rs0.isSlice; obtain ⟨rfl, rfl, rfl⟩ := Value.slice.inj e; clear e
    clear rs0 rs1
    skip
    refine WL_o rfl rfl (OpR_alloc T.ok rfl hs rfl rfl ?_); clear hs; rintro bf g1 hs hqe; replace le8 := G.le.trans le8 hqe; replace rs9 := rs9.mono hqe; replace fl0 := fl0.mono hqe
    skip
    refine WL_n rfl (OpR_storeO T.ok 0 rfl hs rfl rfl rfl rfl rfl rfl rfl rfl rfl ?_); replace hs := hs; rintro g1 hs hqe; replace le8 := G.le.trans le8 hqe; replace rs9 := rs9.mono hqe; replace fl0 := fl0.mono hqe
    obtain ⟨g2, hw2, hs2, hqe, hep⟩ := hs.fzObj (i := 0) rfl; replace hs := hs2; clear hs2; rw [← hw2]; replace le8 := G.le.trans le8 hqe; replace rs9 := rs9.mono hqe; replace fl0 := fl0.mono hqe
    have ep0 := hep; clear hep
    refine WL_nil ?_; (with_reducible refine T_then ?_); refine W_seq ?_; refine W_region ?_; refine WL_o rfl rfl (OpR_loadE T.ok 0 rfl ep0 rfl rfl ?_)
    refine WL_o rfl rfl (OpR_ret cl15 allF rfl rfl rfl rfl rfl (check_c _ f _ fl0) ?_); rintro g1 _ hf1 ⟨pa, pn, pc, rfl, rs3⟩; replace hs := hs.call hf1; have hqe := hf1.le; replace le8 := G.le.trans le8 hqe; replace ep0 := ep0.mono hqe; replace rs9 := rs9.mono hqe; replace fl0 := fl0.mono hqe
    skip
    refine WL_o rfl rfl (OpR_alloc T.ok rfl hs rfl rfl ?_); clear hs; rintro bp g1 hs hqe; replace le8 := G.le.trans le8 hqe; replace ep0 := ep0.mono hqe; replace rs3 := rs3.mono hqe; replace rs9 := rs9.mono hqe; replace fl0 := fl0.mono hqe
    skip
    refine WL_n rfl (OpR_storeO T.ok 0 rfl hs rfl rfl rfl rfl rfl rfl rfl rfl rfl ?_); replace hs := hs; rintro g1 hs hqe; replace le8 := G.le.trans le8 hqe; replace ep0 := ep0.mono hqe; replace rs3 := rs3.mono hqe; replace rs9 := rs9.mono hqe; replace fl0 := fl0.mono hqe
    obtain ⟨g2, hw2, hs2, hqe, hep⟩ := hs.fzObj (i := 0) rfl; replace hs := hs2; clear hs2; rw [← hw2]; replace le8 := G.le.trans le8 hqe; replace ep0 := ep0.mono hqe; replace rs3 := rs3.mono hqe; replace rs9 := rs9.mono hqe; replace fl0 := fl0.mono hqe
    have ep1 := hep; clear hep
    refine WL_nil ?_; (with_reducible refine T_then ?_); refine W_seq ?_; refine W_region ?_; refine WL_o rfl rfl (OpR_loadE T.ok 0 rfl ep0 rfl rfl ?_)
    refine WL_o rfl rfl (OpR_ret cl16 allF rfl rfl rfl rfl rfl (rCheck_c _ f _ fl0) ?_); rintro g1 _ hf1 ⟨qa, qn, qc, rfl, rs4⟩; replace hs := hs.call hf1; have hqe := hf1.le; replace le8 := G.le.trans le8 hqe; replace ep0 := ep0.mono hqe; replace ep1 := ep1.mono hqe; replace rs3 := rs3.mono hqe; replace rs9 := rs9.mono hqe; replace fl0 := fl0.mono hqe
    skip
    refine WL_o rfl rfl (OpR_alloc T.ok rfl hs rfl rfl ?_); clear hs; rintro bp g1 hs hqe; replace le8 := G.le.trans le8 hqe; replace ep0 := ep0.mono hqe; replace ep1 := ep1.mono hqe; replace rs3 := rs3.mono hqe; replace rs4 := rs4.mono hqe; replace rs9 := rs9.mono hqe; replace fl0 := fl0.mono hqe
    skip
    refine WL_n rfl (OpR_storeO T.ok 0 rfl hs rfl rfl rfl rfl rfl rfl rfl rfl rfl ?_); replace hs := hs; rintro g1 hs hqe; replace le8 := G.le.trans le8 hqe; replace ep0 := ep0.mono hqe; replace ep1 := ep1.mono hqe; replace rs3 := rs3.mono hqe; replace rs4 := rs4.mono hqe; replace rs9 := rs9.mono hqe; replace fl0 := fl0.mono hqe
    obtain ⟨g2, hw2, hs2, hqe, hep⟩ := hs.fzObj (i := 0) rfl; replace hs := hs2; clear hs2; rw [← hw2]; replace le8 := G.le.trans le8 hqe; replace ep0 := ep0.mono hqe; replace ep1 := ep1.mono hqe; replace rs3 := rs3.mono hqe; replace rs4 := rs4.mono hqe; replace rs9 := rs9.mono hqe; replace fl0 := fl0.mono hqe
    have ep2 := hep; clear hep
    refine WL_nil ?_; (with_reducible refine T_then ?_); refine W_seq ?_; refine W_seq ?_
    apply W_draw allF rfl (Fact.eq _ :: Fact.eq _ :: Fact.eq _ :: Fact.eq _ :: Fact.eq _ :: Fact.eq _ :: Fact.eq _ :: Fact.eq _ :: Fact.eq _ :: Fact.eq _ :: Fact.eq _ :: Fact.eq _ :: Fact.eq _ :: Fact.eq _ :: Fact.eq _ :: (Fact.rs (ends f)) :: Fact.eq _ :: (Fact.rs (ends f)) :: Fact.eq _ :: Fact.eq _ :: Fact.eq _ :: []) 21 [(20, 64)] rfl rfl
    · refine D_cons (D_step2 (js := []) (by kernel_rfl) fun gd hf => ?_) ?_
      · have hsd := hs.dr.call hf; have hfe := (G.le_dr _).trans hf.le
        refine QA_nil ?_
        (refine D_yes rfl ?_; refine OpR_pure _ T.ok rfl ?_; refine ⟨_, rfl, Fr0.refl _, ?_⟩; exact rfl)
      refine D_cons (D_step2 (js := [(0, 44)]) (by kernel_rfl) fun gd hf => ?_) ?_
      · have hsd := hs.dr.call hf; have hfe := (G.le_dr _).trans hf.le
        refine QA_eq rfl ?_
        refine QA_nil ?_
        (refine D_yes rfl ?_; refine OpR_loadE T.ok 0 rfl (ep1.mono hfe) rfl rfl ?_; refine ⟨_, rfl, Fr0.refl _, ?_⟩; exact rfl)
      refine D_cons (D_step2 (js := []) (by kernel_rfl) fun gd hf => ?_) ?_
      · have hsd := hs.dr.call hf; have hfe := (G.le_dr _).trans hf.le
        refine QA_nil ?_
        (refine D_yes rfl ?_; refine OpR_pure _ T.ok rfl ?_; refine ⟨_, rfl, Fr0.refl _, ?_⟩; exact rfl)
      refine D_cons (D_step2 (js := [(2, 46)]) (by kernel_rfl) fun gd hf => ?_) ?_
      · have hsd := hs.dr.call hf; have hfe := (G.le_dr _).trans hf.le
        refine QA_eq rfl ?_
        refine QA_nil ?_
        (refine D_yes rfl ?_; refine OpR_loadE T.ok 0 rfl (ep2.mono hfe) rfl rfl ?_; refine ⟨_, rfl, Fr0.refl _, ?_⟩; exact rfl)
      refine D_cons (D_step2 (js := [(1, 45), (3, 47)]) (by kernel_rfl) fun gd hf => ?_) ?_
      · have hsd := hs.dr.call hf; have hfe := (G.le_dr _).trans hf.le
        refine QA_eq rfl ?_; refine QA_eq rfl ?_
        refine QA_nil ?_
        refine D_yes rfl ?_
        refine OpR_pure _ T.ok rfl ?_
        refine ⟨_, rfl, Fr0.refl _, ?_⟩
        exact congrArg Value.bool (bne_self_eq_false _)
      refine D_cons (D_step2 (js := [(4, 48)]) (by kernel_rfl) fun gd hf => ?_) ?_
      · have hsd := hs.dr.call hf; have hfe := (G.le_dr _).trans hf.le
        refine QA_eq rfl ?_
        refine QA_nil ?_
        (refine D_yes rfl ?_; refine OpR_pure _ T.ok rfl ?_; refine ⟨_, rfl, Fr0.refl _, ?_⟩; exact rfl)
      refine D_cons (D_step2 (js := [(5, 49)]) (by kernel_rfl) fun gd hf => ?_) ?_
      · have hsd := hs.dr.call hf; have hfe := (G.le_dr _).trans hf.le
        refine QA_eq rfl ?_
        refine QA_nil ?_
        (refine D_yes rfl ?_; refine OpR_pure _ T.ok rfl ?_; refine ⟨_, rfl, Fr0.refl _, ?_⟩; exact rfl)
      refine D_cons (D_step2 (js := [(6, 50), (5, 49)]) (by kernel_rfl) fun gd hf => ?_) ?_
      · have hsd := hs.dr.call hf; have hfe := (G.le_dr _).trans hf.le
        refine QA_eq rfl ?_; refine QA_eq rfl ?_
        refine QA_nil ?_
        (refine D_yes rfl ?_; refine OpR_loadE T.ok 1 rfl (ep1.mono hfe) rfl rfl ?_; refine ⟨_, rfl, Fr0.refl _, ?_⟩; exact rfl)
      refine D_cons (D_step2 (js := [(5, 49)]) (by kernel_rfl) fun gd hf => ?_) ?_
      · have hsd := hs.dr.call hf; have hfe := (G.le_dr _).trans hf.le
        refine QA_eq rfl ?_
        refine QA_nil ?_
        (refine D_yes rfl ?_; refine OpR_pure _ T.ok rfl ?_; refine ⟨_, rfl, Fr0.refl _, ?_⟩; exact rfl)
      refine D_cons (D_step2 (js := [(8, 52), (5, 49)]) (by kernel_rfl) fun gd hf => ?_) ?_
      · have hsd := hs.dr.call hf; have hfe := (G.le_dr _).trans hf.le
        refine QA_eq rfl ?_; refine QA_eq rfl ?_
        refine QA_nil ?_
        (refine D_yes rfl ?_; refine OpR_loadE T.ok 1 rfl (ep2.mono hfe) rfl rfl ?_; refine ⟨_, rfl, Fr0.refl _, ?_⟩; exact rfl)
      refine D_cons (D_step2 (js := [(7, 51), (9, 53), (5, 49), (5, 49)]) (by kernel_rfl) fun gd hf => ?_) ?_
      · have hsd := hs.dr.call hf; have hfe := (G.le_dr _).trans hf.le
        refine QA_eq rfl ?_; refine QA_eq rfl ?_; refine QA_eq rfl ?_; refine QA_eq rfl ?_
        refine QA_nil ?_
        refine D_yes rfl ?_
        refine OpR_ret cl17 allF rfl rfl rfl rfl rfl (same_c _ _ _ _ _ (rs3.mono hfe) (rs4.mono hfe)) fun g' v h1 h2 => ⟨g', rfl, h1, ?_⟩
        exact h2.trans (congrArg Value.bool (decide_eq_true rfl))
      refine D_cons (D_step2 (js := [(10, 54), (5, 49)]) (by kernel_rfl) fun gd hf => ?_) ?_
      · have hsd := hs.dr.call hf; have hfe := (G.le_dr _).trans hf.le
        refine QA_eq rfl ?_; refine QA_eq rfl ?_
        refine QA_nil ?_
        (refine D_yes rfl ?_; refine OpR_pure _ T.ok rfl ?_; refine ⟨_, rfl, Fr0.refl _, ?_⟩; exact rfl)
      refine D_cons (D_step2 (js := [(5, 49), (11, 55)]) (by kernel_rfl) fun gd hf => ?_) ?_
      · have hsd := hs.dr.call hf; have hfe := (G.le_dr _).trans hf.le
        refine QA_eq rfl ?_; refine QA_eq rfl ?_
        refine QA_nil ?_
        (refine D_yes rfl ?_; refine OpR_pure _ T.ok rfl ?_; refine ⟨_, rfl, Fr0.refl _, ?_⟩; exact rfl)
      refine D_cons (D_step2 (js := [(12, 56)]) (by kernel_rfl) fun gd hf => ?_) ?_
      · have hsd := hs.dr.call hf; have hfe := (G.le_dr _).trans hf.le
        refine QA_eq rfl ?_
        refine QA_nil ?_
        (refine D_yes rfl ?_; refine OpR_pure _ T.ok rfl ?_; refine ⟨_, rfl, Fr0.refl _, ?_⟩; exact rfl)
      refine D_cons (D_step2 (js := [(13, 57)]) (by kernel_rfl) fun gd hf => ?_) ?_
      · have hsd := hs.dr.call hf; have hfe := (G.le_dr _).trans hf.le
        refine QA_eq rfl ?_
        refine QA_nil ?_
        (refine D_yes rfl ?_; refine OpR_loadE T.ok 0 rfl (ep0.mono hfe) rfl rfl ?_; refine ⟨_, rfl, Fr0.refl _, ?_⟩; exact rfl)
      refine D_cons (D_step2 (js := [(14, 58), (13, 57), (13, 57)]) (by kernel_rfl) fun gd hf => ?_) ?_
      · have hsd := hs.dr.call hf; have hfe := (G.le_dr _).trans hf.le
        refine QA_eq rfl ?_; refine QA_eq rfl ?_; refine QA_eq rfl ?_
        refine QA_nil ?_
        refine D_yes rfl ?_
        refine OpR_ret cl18 allF rfl rfl rfl rfl rfl (ends_c _ f _ (fl0.mono hfe)) fun g' v h1 h2 => ?_
        obtain ⟨g2, e1, e2, e3, e4⟩ := (St.start gd).ownRs h1 h2
        exact ⟨g2, e1, e2.fr0, e4⟩
      refine D_cons (D_step2 (js := [(13, 57)]) (by kernel_rfl) fun gd hf => ?_) ?_
      · have hsd := hs.dr.call hf; have hfe := (G.le_dr _).trans hf.le
        refine QA_eq rfl ?_
        refine QA_nil ?_
        (refine D_yes rfl ?_; refine OpR_loadE T.ok 0 rfl (ep0.mono hfe) rfl rfl ?_; refine ⟨_, rfl, Fr0.refl _, ?_⟩; exact rfl)
      refine D_cons (D_step2 (js := [(16, 60), (13, 57)]) (by kernel_rfl) fun gd hf => ?_) ?_
      · have hsd := hs.dr.call hf; have hfe := (G.le_dr _).trans hf.le
        refine QA_eq rfl ?_; refine QA_eq rfl ?_
        refine QA_nil ?_
        refine D_yes rfl ?_
        refine OpR_ret cl19 allF rfl rfl rfl rfl rfl (rEnds_c _ f _ (fl0.mono hfe)) fun g' v h1 h2 => ?_
        obtain ⟨g2, e1, e2, e3, e4⟩ := (St.start gd).ownRs h1 h2
        exact ⟨g2, e1, e2.fr0, e4⟩
      refine D_cons (D_step2 (js := [(15, 59), (17, 61), (17, 61), (13, 57)]) (by kernel_rfl) fun gd hf => ?_) ?_
      · have hsd := hs.dr.call hf; have hfe := (G.le_dr _).trans hf.le
        refine QA_any fun v15 h15 => ?_; refine QA_any fun v17 h17 => ?_; refine QA_any fun v17 h17 => ?_; refine QA_eq rfl ?_
        refine QA_nil ?_
        refine D_yes rfl ?_
        refine OpR_ret cl17 allF rfl rfl rfl rfl rfl (same_c _ _ _ _ _ h15 h17) fun g' v h1 h2 => ⟨g', rfl, h1, ?_⟩
        exact h2.trans (congrArg Value.bool (decide_eq_true rfl))
      refine D_cons (D_step2 (js := [(18, 62), (13, 57)]) (by kernel_rfl) fun gd hf => ?_) ?_
      · have hsd := hs.dr.call hf; have hfe := (G.le_dr _).trans hf.le
        refine QA_eq rfl ?_; refine QA_eq rfl ?_
        refine QA_nil ?_
        (refine D_yes rfl ?_; refine OpR_pure _ T.ok rfl ?_; refine ⟨_, rfl, Fr0.refl _, ?_⟩; exact rfl)
      refine D_cons (D_step2 (js := [(13, 57), (19, 63)]) (by kernel_rfl) fun gd hf => ?_) ?_
      · have hsd := hs.dr.call hf; have hfe := (G.le_dr _).trans hf.le
        refine QA_eq rfl ?_; refine QA_eq rfl ?_
        refine QA_nil ?_
        (refine D_yes rfl ?_; refine OpR_pure _ T.ok rfl ?_; refine ⟨_, rfl, Fr0.refl _, ?_⟩; exact rfl)
      exact D_nil
    intro g1 hf1; refine QA_eq rfl ?_; refine QA_nil ?_
    replace hs := hs.dr.call hf1; have hqe := (G.le_dr _).trans hf1.le; replace le8 := G.le.trans le8 hqe; replace ep0 := ep0.mono hqe; replace ep1 := ep1.mono hqe; replace ep2 := ep2.mono hqe; replace rs3 := rs3.mono hqe; replace rs4 := rs4.mono hqe; replace rs9 := rs9.mono hqe; replace fl0 := fl0.mono hqe
    clear rs3 rs4 ep1 ep2
    refine WL_nil ?_; (with_reducible refine T_then ?_)
    refine W_no rfl rfl ?_
    refine W_skip ?_; (with_reducible refine T_then ?_); refine W_seq ?_; refine W_region ?_; refine P1 T.ok rfl rfl rfl ?_; refine WL_o rfl rfl (OpR_loadE T.ok 2 rfl ep0 rfl rfl ?_); (iterate 3 refine P1 T.ok rfl rfl rfl ?_); refine WL_nil ?_; (with_reducible refine T_then ?_); refine W_seq ?_; refine W_region ?_; refine P1 T.ok rfl rfl rfl ?_; refine P1 T.ok rfl rfl rfl ?_
    have hn0 : (if (1 : Int) < (f.steps.length : Int) then (f.steps.length : Int) else 1) ≠ 0 := by split <;> omega
    generalize hnn : (if (1 : Int) < (f.steps.length : Int) then (f.steps.length : Int) else 1) = nn at hn0
    clear hnn
    refine WL_o rfl rfl (OpR_buildA T.ok rfl (vs := [(0, .int .i64 a), (1, .int .i64 b)]) (cells := [.int .i64 a, .int .i64 b]) rfl rfl rfl rfl rfl (by kernel_rfl) ?_)
    refine P1 T.ok rfl rfl rfl ?_; refine P1 T.ok rfl rfl rfl ?_
    refine WL_o rfl rfl (OpR_ret cl20 allF rfl rfl rfl rfl rfl (pick_c _ _ _ ha hn0) ?_); rintro g1 _ hf1 rfl; replace hs := hs.call hf1; have hqe := hf1.le; replace le8 := G.le.trans le8 hqe; replace ep0 := ep0.mono hqe; replace rs9 := rs9.mono hqe; replace fl0 := fl0.mono hqe
    refine P1 T.ok rfl rfl rfl ?_; refine P1 T.ok rfl rfl rfl ?_
    refine WL_o rfl rfl (OpR_ret cl20 allF rfl rfl rfl rfl rfl (pick_c _ _ _ hb hn0) ?_); rintro g1 _ hf1 rfl; replace hs := hs.call hf1; have hqe := hf1.le; replace le8 := G.le.trans le8 hqe; replace ep0 := ep0.mono hqe; replace rs9 := rs9.mono hqe; replace fl0 := fl0.mono hqe
    skip
    refine WL_o rfl rfl (OpR_buildA T.ok rfl (vs := [(0, .int .i64 (pickM a nn)), (1, .int .i64 (pickM b nn))]) (cells := [.int .i64 (pickM a nn), .int .i64 (pickM b nn)]) rfl rfl rfl rfl rfl (by kernel_rfl) ?_)
    skip
    refine WL_o rfl rfl (OpR_lit T.ok rfl hs (vs := [(0, .agg #[.int .i64 a, .int .i64 b]), (1, .agg #[.int .i64 (pickM a nn), .int .i64 (pickM b nn)])]) (cells := [.int .i64 a, .int .i64 b, .int .i64 (pickM a nn), .int .i64 (pickM b nn)]) rfl rfl rfl rfl rfl rfl (by decide) (by decide) (by kernel_rfl) rfl ?_); rintro bt gl hs hqe; replace le8 := G.le.trans le8 hqe; replace ep0 := ep0.mono hqe; replace rs9 := rs9.mono hqe; replace fl0 := fl0.mono hqe
    obtain ⟨gy, hwy, hsy, hqy, rs8⟩ := hs.fzRow (α := Two) (xs := [⟨a, b⟩, ⟨pickM a nn, pickM b nn⟩]) (i := 0) rfl (RcL.two (c1 := [_, _]) rfl rfl)
    clear hqe; have hqe := hqy; rw [← hwy]; replace hs := hsy; clear hsy; replace le8 := G.le.trans le8 hqe; replace ep0 := ep0.mono hqe; replace rs9 := rs9.mono hqe; replace fl0 := fl0.mono hqe
    refine P1 T.ok rfl rfl rfl ?_; refine P1 T.ok rfl rfl rfl ?_; refine WL_nil ?_; (with_reducible refine T_then ?_); refine W_block ?_
    obtain ⟨ps, hpl, e⟩ : ∃ l : List Two, l.length = 2 ∧ [⟨a, b⟩, ⟨pickM a nn, pickM b nn⟩] = l := ⟨_, rfl, rfl⟩
    rw [e] at rs8; clear e
    have rs8c := rs8; have ep0c := ep0; have fl0c := fl0; have le9 := G.le.refl gy
    refine W_loop (fun m a' w => ∃ (j : Nat) (g3 : G), w = g3.w ∧ St g g3 [] ∧ G.le gy g3 ∧ j ≤ 2 ∧ m = 2 - j ∧
        Fr 189 [] [(2, .int .i64 a), (3, .int .i64 b), (9, .bool true), (34, .slice (some ⟨bl, 0, none⟩) 2 2), (35, .int .i64 2), (36, .int .i64 k), (11, .pointer (some ⟨bf, 0, none⟩)), (79, .slice (some ⟨bt, 0, none⟩) 2 2), (80, .int .i64 2), (81, .int .i64 j)] a') 2
      (fun a' ha => ⟨0, gy, rfl, hs, le9, Nat.zero_le _, rfl, ha.keep (by (repeat (first | exact trivial | refine ⟨rfl, ?_⟩)))⟩) ?_
    clear hs le9 rs8 ep0 fl0
    rintro m a' _ ⟨j, g3, rfl, hs, le9, hj, rfl, ha'⟩
    have rs8 := rs8c.mono le9; have ep0 := ep0c.mono le9; have fl0 := fl0c.mono le9
    revert a'
    (with_reducible refine T_wp ?_); refine W_seq ?_; refine W_region ?_; refine P1 T.ok rfl rfl rfl ?_; refine WL_nil ?_; (with_reducible refine T_then ?_); refine W_seq ?_
    by_cases hlj : j < 2
    · refine W_yes (b := decide ((j : Int) < (2 : Int))) (decide_eq_true (by omega)) rfl ?_
      have hgj := geti_of (xs := ps) (n := (j : Int)) rfl (by omega)
      generalize ps[j]'(by omega) = p at *
      obtain ⟨p, q⟩ := p
      refine W_skip ?_; (with_reducible refine T_then ?_); refine W_seq ?_; refine W_block ?_; refine W_seq ?_; refine W_region ?_
      refine WL_o rfl rfl (OpR_idx T.ok rfl rs8 (y := ⟨p, q⟩) hgj rfl rfl rfl rfl rfl rfl ?_)
      rintro bq o ys hep rfl
      refine WL_o rfl rfl (OpR_loadE T.ok 0 rfl hep rfl rfl ?_)
      clear hep
      skip
      refine WL_o rfl rfl (OpR_alloc T.ok rfl hs rfl rfl ?_); clear hs; rintro bs g1 hs hqe; replace le9 := G.le.trans le9 hqe; replace ep0 := ep0.mono hqe; replace rs8 := rs8.mono hqe; replace fl0 := fl0.mono hqe
      skip
      refine WL_n rfl (OpR_storeO T.ok 0 rfl hs rfl rfl rfl rfl rfl rfl rfl rfl rfl ?_); replace hs := hs; rintro g1 hs hqe; replace le9 := G.le.trans le9 hqe; replace ep0 := ep0.mono hqe; replace rs8 := rs8.mono hqe; replace fl0 := fl0.mono hqe
      obtain ⟨g2, hw2, hs2, hqe, hep⟩ := hs.fzObj (i := 0) rfl; replace hs := hs2; clear hs2; rw [← hw2]; replace le9 := G.le.trans le9 hqe; replace ep0 := ep0.mono hqe; replace rs8 := rs8.mono hqe; replace fl0 := fl0.mono hqe
      have ep1 := hep; clear hep
      refine WL_nil ?_; (with_reducible refine T_then ?_); refine W_seq ?_; refine W_region ?_; refine WL_o rfl rfl (OpR_loadE T.ok 0 rfl ep0 rfl rfl ?_)
      refine WL_o rfl rfl (OpR_idxA T.ok (q := 0) rfl rfl rfl rfl rfl rfl (by decide) ?_)
      refine WL_o rfl rfl (OpR_loadE T.ok 0 rfl ep1 rfl rfl ?_)
      refine WL_o rfl rfl (OpR_idxA T.ok (q := 1) rfl rfl rfl rfl rfl rfl (by decide) ?_)
      refine WL_o rfl rfl (OpR_loadE T.ok 1 rfl ep1 rfl rfl ?_)
      refine WL_o rfl rfl (OpR_ret cl21 allF rfl rfl rfl rfl rfl (way_c _ f p q _ fl0) ?_); rintro g1 _ hf1 ⟨uu, rfl, hu⟩
      obtain ⟨gz, hwz, hsz, hqz, rs3⟩ := hs.ownRs hf1 hu
      have hqe := hf1.le.trans hqz; rw [← hwz]; replace hs := hsz; clear hsz hu; replace le9 := G.le.trans le9 hqe; replace ep0 := ep0.mono hqe; replace ep1 := ep1.mono hqe; replace rs8 := rs8.mono hqe; replace fl0 := fl0.mono hqe
      (iterate 5 refine P1 T.ok rfl rfl rfl ?_); refine WL_nil ?_; (with_reducible refine T_then ?_); refine W_seq ?_; refine W_region ?_; refine WL_o rfl rfl (OpR_loadE T.ok 0 rfl ep0 rfl rfl ?_)
      refine WL_o rfl rfl (OpR_idxA T.ok (q := 0) rfl rfl rfl rfl rfl rfl (by decide) ?_)
      refine WL_o rfl rfl (OpR_loadE T.ok 0 rfl ep1 rfl rfl ?_)
      refine WL_o rfl rfl (OpR_idxA T.ok (q := 1) rfl rfl rfl rfl rfl rfl (by decide) ?_)
      refine WL_o rfl rfl (OpR_loadE T.ok 1 rfl ep1 rfl rfl ?_)
      refine WL_o rfl rfl (OpR_ret cl22 allF rfl rfl rfl rfl rfl (rWay_c _ f p q _ fl0) ?_); rintro g1 _ hf1 ⟨uv, rfl, rs4⟩; replace hs := hs.call hf1; have hqe := hf1.le; replace le9 := G.le.trans le9 hqe; replace ep0 := ep0.mono hqe; replace ep1 := ep1.mono hqe; replace rs3 := rs3.mono hqe; replace rs8 := rs8.mono hqe; replace fl0 := fl0.mono hqe
      (iterate 5 refine P1 T.ok rfl rfl rfl ?_); refine WL_nil ?_; (with_reducible refine T_then ?_); refine W_seq ?_; refine W_region ?_; refine WL_o rfl rfl (OpR_loadE T.ok 0 rfl ep0 rfl rfl ?_)
      refine WL_o rfl rfl (OpR_idxA T.ok (q := 0) rfl rfl rfl rfl rfl rfl (by decide) ?_)
      refine WL_o rfl rfl (OpR_loadE T.ok 0 rfl ep1 rfl rfl ?_)
      refine WL_o rfl rfl (OpR_idxA T.ok (q := 1) rfl rfl rfl rfl rfl rfl (by decide) ?_)
      refine WL_o rfl rfl (OpR_loadE T.ok 1 rfl ep1 rfl rfl ?_)
      refine WL_o rfl rfl (OpR_ret cl23 allF rfl rfl rfl rfl rfl (quickest_c _ f p q _ fl0) ?_); rintro g1 _ hf1 rfl; replace hs := hs.call hf1; have hqe := hf1.le; replace le9 := G.le.trans le9 hqe; replace ep0 := ep0.mono hqe; replace ep1 := ep1.mono hqe; replace rs3 := rs3.mono hqe; replace rs4 := rs4.mono hqe; replace rs8 := rs8.mono hqe; replace fl0 := fl0.mono hqe
      (iterate 5 refine P1 T.ok rfl rfl rfl ?_); refine WL_nil ?_; (with_reducible refine T_then ?_); refine W_seq ?_; refine W_region ?_; refine WL_o rfl rfl (OpR_loadE T.ok 0 rfl ep0 rfl rfl ?_)
      refine WL_o rfl rfl (OpR_idxA T.ok (q := 0) rfl rfl rfl rfl rfl rfl (by decide) ?_)
      refine WL_o rfl rfl (OpR_loadE T.ok 0 rfl ep1 rfl rfl ?_)
      refine WL_o rfl rfl (OpR_idxA T.ok (q := 1) rfl rfl rfl rfl rfl rfl (by decide) ?_)
      refine WL_o rfl rfl (OpR_loadE T.ok 1 rfl ep1 rfl rfl ?_)
      refine WL_o rfl rfl (OpR_ret cl24 allF rfl rfl rfl rfl rfl (rQuickest_c _ f p q _ fl0) ?_); rintro g1 _ hf1 rfl; replace hs := hs.call hf1; have hqe := hf1.le; replace le9 := G.le.trans le9 hqe; replace ep0 := ep0.mono hqe; replace ep1 := ep1.mono hqe; replace rs3 := rs3.mono hqe; replace rs4 := rs4.mono hqe; replace rs8 := rs8.mono hqe; replace fl0 := fl0.mono hqe
      (iterate 5 refine P1 T.ok rfl rfl rfl ?_); refine WL_nil ?_; (with_reducible refine T_then ?_); refine W_seq ?_; refine W_region ?_; refine WL_o rfl rfl (OpR_loadE T.ok 0 rfl ep0 rfl rfl ?_)
      refine WL_o rfl rfl (OpR_idxA T.ok (q := 0) rfl rfl rfl rfl rfl rfl (by decide) ?_)
      refine WL_o rfl rfl (OpR_loadE T.ok 0 rfl ep1 rfl rfl ?_)
      refine WL_o rfl rfl (OpR_ret cl25 allF rfl rfl rfl rfl rfl (finish_c _ f p _ fl0) ?_); rintro g1 _ hf1 rfl; replace hs := hs.call hf1; have hqe := hf1.le; replace le9 := G.le.trans le9 hqe; replace ep0 := ep0.mono hqe; replace ep1 := ep1.mono hqe; replace rs3 := rs3.mono hqe; replace rs4 := rs4.mono hqe; replace rs8 := rs8.mono hqe; replace fl0 := fl0.mono hqe
      (iterate 5 refine P1 T.ok rfl rfl rfl ?_); refine WL_nil ?_; (with_reducible refine T_then ?_); refine W_seq ?_; refine W_region ?_; refine WL_o rfl rfl (OpR_loadE T.ok 0 rfl ep0 rfl rfl ?_)
      refine WL_o rfl rfl (OpR_idxA T.ok (q := 0) rfl rfl rfl rfl rfl rfl (by decide) ?_)
      refine WL_o rfl rfl (OpR_loadE T.ok 0 rfl ep1 rfl rfl ?_)
      refine WL_o rfl rfl (OpR_ret cl26 allF rfl rfl rfl rfl rfl (rFinish_c _ f p _ fl0) ?_); rintro g1 _ hf1 rfl; replace hs := hs.call hf1; have hqe := hf1.le; replace le9 := G.le.trans le9 hqe; replace ep0 := ep0.mono hqe; replace ep1 := ep1.mono hqe; replace rs3 := rs3.mono hqe; replace rs4 := rs4.mono hqe; replace rs8 := rs8.mono hqe; replace fl0 := fl0.mono hqe
      (iterate 5 refine P1 T.ok rfl rfl rfl ?_); refine WL_nil ?_; (with_reducible refine T_then ?_); refine W_seq ?_; refine W_seq ?_; refine W_region ?_; refine P1 T.ok rfl rfl rfl ?_; refine P1 T.ok rfl rfl rfl ?_
      refine WL_o rfl rfl (OpR_eqBool T.ok (neg := true) rfl rfl rfl rfl rfl ?_)
      refine WL_know 137 (b' := false) (by simp) rfl ?_
      (iterate 3 refine P1 T.ok rfl rfl rfl ?_)
      refine WL_o rfl rfl (OpR_ret cl17 allF rfl rfl rfl rfl rfl (same_c _ _ _ _ _ rs3 rs4) ?_); rintro g1 _ hf1 rfl; replace hs := hs.call hf1; have hqe := hf1.le; replace le9 := G.le.trans le9 hqe; replace ep0 := ep0.mono hqe; replace ep1 := ep1.mono hqe; replace rs3 := rs3.mono hqe; replace rs4 := rs4.mono hqe; replace rs8 := rs8.mono hqe; replace fl0 := fl0.mono hqe
      (iterate 3 refine P1 T.ok rfl rfl rfl ?_)
      refine WL_know 144 (b' := false) (by simp) rfl ?_
      refine P1 T.ok rfl rfl rfl ?_; refine P1 T.ok rfl rfl rfl ?_
      refine WL_o rfl rfl (OpR_eqBool T.ok (neg := true) rfl rfl rfl rfl rfl ?_)
      refine WL_know 147 (b' := false) (by simp) rfl ?_
      (iterate 7 refine P1 T.ok rfl rfl rfl ?_)
      refine WL_know 154 (b' := false) (bne_self_eq_false _) rfl ?_
      refine P1 T.ok rfl rfl rfl ?_; refine P1 T.ok rfl rfl rfl ?_
      refine WL_o rfl rfl (OpR_eqBool T.ok (neg := true) rfl rfl rfl rfl rfl ?_)
      refine WL_know 157 (b' := false) (by simp) rfl ?_
      (iterate 6 refine P1 T.ok rfl rfl rfl ?_); refine WL_nil ?_; (with_reducible refine T_then ?_)
      refine W_no (b := (finish f p).1 != (finish f p).1) (bne_self_eq_false _) rfl ?_
      clear rs3 rs4
      refine W_skip ?_; (with_reducible refine T_then ?_); refine W_seq ?_
      apply W_draw allF rfl (Fact.eq _ :: Fact.eq _ :: Fact.eq _ :: (Fact.rs (follow f p)) :: Fact.eq _ :: Fact.eq _ :: Fact.eq _ :: (Fact.rs (follow f p)) :: Fact.eq _ :: Fact.eq _ :: Fact.eq _ :: Fact.eq _ :: Fact.eq _ :: Fact.eq _ :: (Fact.rs (reach f p)) :: Fact.eq _ :: Fact.eq _ :: Fact.eq _ :: (Fact.rs (reach f p)) :: Fact.eq _ :: Fact.eq _ :: Fact.eq _ :: []) 22 [(21, 185)] rfl rfl
      · refine D_cons (D_step2 (js := []) (by kernel_rfl) fun gd hf => ?_) ?_
        · have hsd := hs.dr.call hf; have hfe := (G.le_dr _).trans hf.le
          refine QA_nil ?_
          (refine D_yes rfl ?_; refine OpR_loadE T.ok 0 rfl (ep0.mono hfe) rfl rfl ?_; refine ⟨_, rfl, Fr0.refl _, ?_⟩; exact rfl)
        refine D_cons (D_step2 (js := []) (by kernel_rfl) fun gd hf => ?_) ?_
        · have hsd := hs.dr.call hf; have hfe := (G.le_dr _).trans hf.le
          refine QA_nil ?_
          (refine D_yes rfl ?_; refine OpR_idxA T.ok (q := 0) rfl rfl rfl rfl rfl rfl (by decide) ?_; refine ⟨_, rfl, Fr0.refl _, ?_⟩; exact rfl)
        refine D_cons (D_step2 (js := [(1, 165)]) (by kernel_rfl) fun gd hf => ?_) ?_
        · have hsd := hs.dr.call hf; have hfe := (G.le_dr _).trans hf.le
          refine QA_eq rfl ?_
          refine QA_nil ?_
          (refine D_yes rfl ?_; refine OpR_loadE T.ok 0 rfl (ep1.mono hfe) rfl rfl ?_; refine ⟨_, rfl, Fr0.refl _, ?_⟩; exact rfl)
        refine D_cons (D_step2 (js := [(0, 164), (2, 166)]) (by kernel_rfl) fun gd hf => ?_) ?_
        · have hsd := hs.dr.call hf; have hfe := (G.le_dr _).trans hf.le
          refine QA_eq rfl ?_; refine QA_eq rfl ?_
          refine QA_nil ?_
          refine D_yes rfl ?_
          refine OpR_ret cl27 allF rfl rfl rfl rfl rfl (follow_c _ f p _ (fl0.mono hfe)) fun g' v h1 h2 => ?_
          obtain ⟨g2, e1, e2, e3, e4⟩ := (St.start gd).ownRs h1 h2
          exact ⟨g2, e1, e2.fr0, e4⟩
        refine D_cons (D_step2 (js := []) (by kernel_rfl) fun gd hf => ?_) ?_
        · have hsd := hs.dr.call hf; have hfe := (G.le_dr _).trans hf.le
          refine QA_nil ?_
          (refine D_yes rfl ?_; refine OpR_loadE T.ok 0 rfl (ep0.mono hfe) rfl rfl ?_; refine ⟨_, rfl, Fr0.refl _, ?_⟩; exact rfl)
        refine D_cons (D_step2 (js := []) (by kernel_rfl) fun gd hf => ?_) ?_
        · have hsd := hs.dr.call hf; have hfe := (G.le_dr _).trans hf.le
          refine QA_nil ?_
          (refine D_yes rfl ?_; refine OpR_idxA T.ok (q := 0) rfl rfl rfl rfl rfl rfl (by decide) ?_; refine ⟨_, rfl, Fr0.refl _, ?_⟩; exact rfl)
        refine D_cons (D_step2 (js := [(5, 169)]) (by kernel_rfl) fun gd hf => ?_) ?_
        · have hsd := hs.dr.call hf; have hfe := (G.le_dr _).trans hf.le
          refine QA_eq rfl ?_
          refine QA_nil ?_
          (refine D_yes rfl ?_; refine OpR_loadE T.ok 0 rfl (ep1.mono hfe) rfl rfl ?_; refine ⟨_, rfl, Fr0.refl _, ?_⟩; exact rfl)
        refine D_cons (D_step2 (js := [(4, 168), (6, 170)]) (by kernel_rfl) fun gd hf => ?_) ?_
        · have hsd := hs.dr.call hf; have hfe := (G.le_dr _).trans hf.le
          refine QA_eq rfl ?_; refine QA_eq rfl ?_
          refine QA_nil ?_
          refine D_yes rfl ?_
          refine OpR_ret cl28 allF rfl rfl rfl rfl rfl (rFollow_c _ f p _ (fl0.mono hfe)) fun g' v h1 h2 => ?_
          obtain ⟨g2, e1, e2, e3, e4⟩ := (St.start gd).ownRs h1 h2
          exact ⟨g2, e1, e2.fr0, e4⟩
        refine D_cons (D_step2 (js := [(3, 167), (7, 171), (7, 171)]) (by kernel_rfl) fun gd hf => ?_) ?_
        · have hsd := hs.dr.call hf; have hfe := (G.le_dr _).trans hf.le
          refine QA_any fun v3 h3 => ?_; refine QA_any fun v7 h7 => ?_; refine QA_any fun v7 h7 => ?_
          refine QA_nil ?_
          refine D_yes rfl ?_
          refine OpR_ret cl17 allF rfl rfl rfl rfl rfl (same_c _ _ _ _ _ h3 h7) fun g' v h1 h2 => ⟨g', rfl, h1, ?_⟩
          exact h2.trans (congrArg Value.bool (decide_eq_true rfl))
        refine D_cons (D_step2 (js := [(8, 172)]) (by kernel_rfl) fun gd hf => ?_) ?_
        · have hsd := hs.dr.call hf; have hfe := (G.le_dr _).trans hf.le
          refine QA_eq rfl ?_
          refine QA_nil ?_
          (refine D_yes rfl ?_; refine OpR_pure _ T.ok rfl ?_; refine ⟨_, rfl, Fr0.refl _, ?_⟩; exact rfl)
        refine D_cons (D_step2 (js := [(9, 173)]) (by kernel_rfl) fun gd hf => ?_) ?_
        · have hsd := hs.dr.call hf; have hfe := (G.le_dr _).trans hf.le
          refine QA_eq rfl ?_
          refine QA_nil ?_
          (refine D_yes rfl ?_; refine OpR_pure _ T.ok rfl ?_; refine ⟨_, rfl, Fr0.refl _, ?_⟩; exact rfl)
        refine D_cons (D_step2 (js := [(10, 174)]) (by kernel_rfl) fun gd hf => ?_) ?_
        · have hsd := hs.dr.call hf; have hfe := (G.le_dr _).trans hf.le
          refine QA_eq rfl ?_
          refine QA_nil ?_
          (refine D_yes rfl ?_; refine OpR_loadE T.ok 0 rfl (ep0.mono hfe) rfl rfl ?_; refine ⟨_, rfl, Fr0.refl _, ?_⟩; exact rfl)
        refine D_cons (D_step2 (js := [(10, 174)]) (by kernel_rfl) fun gd hf => ?_) ?_
        · have hsd := hs.dr.call hf; have hfe := (G.le_dr _).trans hf.le
          refine QA_eq rfl ?_
          refine QA_nil ?_
          (refine D_yes rfl ?_; refine OpR_idxA T.ok (q := 0) rfl rfl rfl rfl rfl rfl (by decide) ?_; refine ⟨_, rfl, Fr0.refl _, ?_⟩; exact rfl)
        refine D_cons (D_step2 (js := [(12, 176), (10, 174)]) (by kernel_rfl) fun gd hf => ?_) ?_
        · have hsd := hs.dr.call hf; have hfe := (G.le_dr _).trans hf.le
          refine QA_eq rfl ?_; refine QA_eq rfl ?_
          refine QA_nil ?_
          (refine D_yes rfl ?_; refine OpR_loadE T.ok 0 rfl (ep1.mono hfe) rfl rfl ?_; refine ⟨_, rfl, Fr0.refl _, ?_⟩; exact rfl)
        refine D_cons (D_step2 (js := [(11, 175), (13, 177), (10, 174), (10, 174)]) (by kernel_rfl) fun gd hf => ?_) ?_
        · have hsd := hs.dr.call hf; have hfe := (G.le_dr _).trans hf.le
          refine QA_eq rfl ?_; refine QA_eq rfl ?_; refine QA_eq rfl ?_; refine QA_eq rfl ?_
          refine QA_nil ?_
          refine D_yes rfl ?_
          refine OpR_ret cl29 allF rfl rfl rfl rfl rfl (reach_c _ f p _ (fl0.mono hfe)) fun g' v h1 h2 => ?_
          obtain ⟨g2, e1, e2, e3, e4⟩ := (St.start gd).ownRs h1 h2
          exact ⟨g2, e1, e2.fr0, e4⟩
        refine D_cons (D_step2 (js := [(10, 174)]) (by kernel_rfl) fun gd hf => ?_) ?_
        · have hsd := hs.dr.call hf; have hfe := (G.le_dr _).trans hf.le
          refine QA_eq rfl ?_
          refine QA_nil ?_
          (refine D_yes rfl ?_; refine OpR_loadE T.ok 0 rfl (ep0.mono hfe) rfl rfl ?_; refine ⟨_, rfl, Fr0.refl _, ?_⟩; exact rfl)
        refine D_cons (D_step2 (js := [(10, 174)]) (by kernel_rfl) fun gd hf => ?_) ?_
        · have hsd := hs.dr.call hf; have hfe := (G.le_dr _).trans hf.le
          refine QA_eq rfl ?_
          refine QA_nil ?_
          (refine D_yes rfl ?_; refine OpR_idxA T.ok (q := 0) rfl rfl rfl rfl rfl rfl (by decide) ?_; refine ⟨_, rfl, Fr0.refl _, ?_⟩; exact rfl)
        refine D_cons (D_step2 (js := [(16, 180), (10, 174)]) (by kernel_rfl) fun gd hf => ?_) ?_
        · have hsd := hs.dr.call hf; have hfe := (G.le_dr _).trans hf.le
          refine QA_eq rfl ?_; refine QA_eq rfl ?_
          refine QA_nil ?_
          (refine D_yes rfl ?_; refine OpR_loadE T.ok 0 rfl (ep1.mono hfe) rfl rfl ?_; refine ⟨_, rfl, Fr0.refl _, ?_⟩; exact rfl)
        refine D_cons (D_step2 (js := [(15, 179), (17, 181), (10, 174)]) (by kernel_rfl) fun gd hf => ?_) ?_
        · have hsd := hs.dr.call hf; have hfe := (G.le_dr _).trans hf.le
          refine QA_eq rfl ?_; refine QA_eq rfl ?_; refine QA_eq rfl ?_
          refine QA_nil ?_
          refine D_yes rfl ?_
          refine OpR_ret cl30 allF rfl rfl rfl rfl rfl (rReach_c _ f p _ (fl0.mono hfe)) fun g' v h1 h2 => ?_
          obtain ⟨g2, e1, e2, e3, e4⟩ := (St.start gd).ownRs h1 h2
          exact ⟨g2, e1, e2.fr0, e4⟩
        refine D_cons (D_step2 (js := [(14, 178), (18, 182), (18, 182), (10, 174)]) (by kernel_rfl) fun gd hf => ?_) ?_
        · have hsd := hs.dr.call hf; have hfe := (G.le_dr _).trans hf.le
          refine QA_any fun v14 h14 => ?_; refine QA_any fun v18 h18 => ?_; refine QA_any fun v18 h18 => ?_; refine QA_eq rfl ?_
          refine QA_nil ?_
          refine D_yes rfl ?_
          refine OpR_ret cl17 allF rfl rfl rfl rfl rfl (same_c _ _ _ _ _ h14 h18) fun g' v h1 h2 => ⟨g', rfl, h1, ?_⟩
          exact h2.trans (congrArg Value.bool (decide_eq_true rfl))
        refine D_cons (D_step2 (js := [(19, 183), (10, 174)]) (by kernel_rfl) fun gd hf => ?_) ?_
        · have hsd := hs.dr.call hf; have hfe := (G.le_dr _).trans hf.le
          refine QA_eq rfl ?_; refine QA_eq rfl ?_
          refine QA_nil ?_
          (refine D_yes rfl ?_; refine OpR_pure _ T.ok rfl ?_; refine ⟨_, rfl, Fr0.refl _, ?_⟩; exact rfl)
        refine D_cons (D_step2 (js := [(10, 174), (20, 184)]) (by kernel_rfl) fun gd hf => ?_) ?_
        · have hsd := hs.dr.call hf; have hfe := (G.le_dr _).trans hf.le
          refine QA_eq rfl ?_; refine QA_eq rfl ?_
          refine QA_nil ?_
          (refine D_yes rfl ?_; refine OpR_pure _ T.ok rfl ?_; refine ⟨_, rfl, Fr0.refl _, ?_⟩; exact rfl)
        exact D_nil
      intro g1 hf1; refine QA_eq rfl ?_; refine QA_nil ?_
      replace hs := hs.dr.call hf1; have hqe := (G.le_dr _).trans hf1.le; replace le9 := G.le.trans le9 hqe; replace ep0 := ep0.mono hqe; replace ep1 := ep1.mono hqe; replace rs8 := rs8.mono hqe; replace fl0 := fl0.mono hqe
      refine WL_nil ?_; (with_reducible refine T_then ?_)
      refine W_no rfl rfl ?_
      refine W_skip ?_; (with_reducible refine T_bn ?_); (with_reducible refine T_then ?_); refine W_region ?_; refine P1 T.ok rfl rfl rfl ?_; refine P1 T.ok rfl rfl rfl ?_; refine WL_nil ?_
      exact fun a ha => ⟨2 - (j + 1), by omega, j + 1, _, rfl, hs, le9, by omega, rfl, ha.keep ⟨rfl, rfl, rfl, rfl, rfl, rfl, rfl, rfl, rfl, kI rfl (by rw [wr (by omega) (by omega)]; omega), trivial⟩⟩
    · refine W_no (b := decide ((j : Int) < (2 : Int))) (decide_eq_false (by omega)) rfl ?_
      refine W_exit ?_; (with_reducible refine T_tx ?_; with_reducible refine T_tx ?_); (with_reducible refine T_bx ?_); (with_reducible refine T_bn ?_); (with_reducible refine T_then ?_); refine W_region ?_; refine P1 T.ok rfl rfl rfl ?_; refine P1 T.ok rfl rfl rfl ?_; refine WL_nil ?_
      exact fun a ha => ⟨2 - (k + 1), by omega, k + 1, _, rfl, hs, le8.trans le9, by omega, rfl, ha.keep ⟨rfl, rfl, rfl, rfl, rfl, kI rfl (by rw [wr (by omega) (by omega)]; omega), trivial⟩⟩
  · refine W_no (b := decide ((k : Int) < (2 : Int))) (decide_eq_false (by omega)) rfl ?_
    refine W_exit ?_; (with_reducible refine T_tx ?_; with_reducible refine T_tx ?_); (with_reducible refine T_bx ?_); (with_reducible refine T_then ?_); refine W_seq ?_; refine W_region ?_; refine P1 T.ok rfl rfl rfl ?_; refine P1 T.ok rfl rfl rfl ?_; refine WL_nil ?_; (with_reducible refine T_then ?_)
    exact W_ret (ret1 rfl rfl (hs.ret rfl))
end Go.Proofs.Ytijmlfmapfhabaa
