/- The walk through FlowParts. -/
import Derived.Test.YtnaeopehmdcplaaGreatDoorRa

namespace Go.Proofs.YtnaeopehmdcplaaGreatDoor
open Go Go.K
set_option maxRecDepth 10000
attribute [local irreducible] W WL OpR bitAnd bitOr bitXor bitClr bitNot shlI shrI
set_option maxHeartbeats 16000000

theorem stepLs_get : ∀ (ss : List Step) (k i : Nat) (h : i < ss.length), (stepLs k ss)[i]? = some (stepLine (k + i) ss[i])
 | [], _, _, h => absurd h (by simp)
 | s :: r, k, 0, _ => rfl
 | s :: r, k, i + 1, h => by
  rw [stepLs, List.getElem?_cons_succ, stepLs_get r (k + 1) i (by simpa using h), List.getElem_cons_succ, show k + 1 + i = k + (i + 1) by omega]
theorem stepLs_len : ∀ (ss : List Step) (k : Nat), (stepLs k ss).length = ss.length
 | [], _ => rfl
 | s :: r, k => by rw [stepLs, List.length_cons, stepLs_len r, List.length_cons]
theorem lines_len (f : Flow) : ((linesOf f ++ [[]]).map Str.mk).length = 2 + f.steps.length + f.windows.length := by
 unfold linesOf
 rw [List.length_map, List.length_append, List.length_cons, List.length_append, stepLs_len, List.length_map, List.length_singleton]; omega
theorem geti_at {α : Type} (xs : List α) (n : Nat) : geti xs (n : Int) = xs[n]? := by
 unfold geti
 rw [if_neg (by omega)]; rfl
theorem lines_step (f : Flow) (i : Nat) (h : i < f.steps.length) : geti ((linesOf f ++ [[]]).map Str.mk) ((1 + i : Nat) : Int) = some ⟨stepLine i f.steps[i]⟩ := by
 rw [geti_at, List.getElem?_map]
 unfold linesOf
 rw [List.cons_append, Nat.add_comm, List.getElem?_cons_succ, List.append_assoc, List.getElem?_append_left (by rw [stepLs_len]; exact h), stepLs_get _ _ _ h, Nat.zero_add]
 rfl
theorem lines_win (f : Flow) (i : Nat) (h : i < f.windows.length) : geti ((linesOf f ++ [[]]).map Str.mk) ((1 + f.steps.length + i : Nat) : Int) = some ⟨windowLine f.windows[i]⟩ := by
 rw [geti_at, List.getElem?_map]
 unfold linesOf
 rw [List.cons_append, show 1 + f.steps.length + i = (f.steps.length + i) + 1 by omega, List.getElem?_cons_succ, List.append_assoc, List.getElem?_append_right (by rw [stepLs_len]; omega), stepLs_len, Nat.add_sub_cancel_left, List.getElem?_append_left (by rw [List.length_map]; exact h), List.getElem?_map, List.getElem?_eq_getElem h]
 rfl
theorem lines_end (f : Flow) : geti ((linesOf f ++ [[]]).map Str.mk) ((1 + f.steps.length + f.windows.length : Nat) : Int) = some ⟨[]⟩ := by
 have hl : (linesOf f).length = 1 + f.steps.length + f.windows.length := by
  unfold linesOf
  rw [List.length_cons, List.length_append, stepLs_len, List.length_map]; omega
 rw [geti_at, List.getElem?_map, ← hl, List.getElem?_append_right (Nat.le_refl _), Nat.sub_self]
 rfl
def cutW (f : Flow) (j : Nat) : Flow := ⟨f.moveMin, f.moveMax, f.steps, f.windows.take j⟩
theorem cut_valid {f : Flow} (h : valid f = true) (j : Nat) : valid (cutW f j) = true := by
 have hB := valid_N h
 unfold valid at h ⊢
 simp only [Bool.and_eq_true, decide_eq_true_eq] at h ⊢
 obtain ⟨⟨⟨⟨h1, h2⟩, h3⟩, h4⟩, h5⟩ := h
 refine ⟨⟨⟨⟨h1, h2⟩, ?_⟩, h4⟩, ?_⟩
 ·show ((f.windows.take j).length : Int) ≤ 20
  rw [List.length_take]; omega
 ·show winsOk f.steps.length [] (f.windows.take j) = true
  cases hq : winsOk f.steps.length [] (f.windows.take j) with
  | true => rfl
  | false => rw [winsOk_bad hq] at h5; cases h5
def strP (s : List UInt8) : Fact := ⟨fun v g => ∃ b p, v = .pointer (some ⟨b, p, none⟩) ∧ EP g b p [.string (bs s)], fun _ _ _ hf ⟨b, p, e, h⟩ => ⟨b, p, e, h.mono hf.le⟩⟩
def stepP (s : Step) : Fact := ⟨fun v g => ∃ b p cs, v = .pointer (some ⟨b, p, none⟩) ∧ EP g b p cs ∧ RStep g cs s, fun _ _ _ hf ⟨b, p, cs, e, h, h2⟩ => ⟨b, p, cs, e, h.mono hf.le, El.mono (α := Step) hf.le h2⟩⟩
def stepV (s : Step) : Fact := ⟨fun v g => RStepV g v s, fun _ _ _ hf h => h.mono hf.le⟩



theorem parts_c (u : Value) (x : List Y6) (t : Value) (zs : List Y3) (left : Int) (g : G) (hF : FlAt g) (rs0 : Rs g u x) (hx : ∀ y ∈ x, y.fit) (rs1 : Rs g t zs) (hz : ∀ z ∈ zs, z.fit) (hle : I64 left) :
  CallsIn Wd 0 Tryz.prog 5 #[u, t, .int .i64 left] g.w (Ret g fun _ r => r = .bool true) := by
 obtain ⟨ua, uc, rfl⟩ := rs0.isSlice
 obtain ⟨ta, tc, rfl⟩ := rs1.isSlice
 have hs := St.start g
 have le0 := G.le.refl g
 refine enter Tryz.func5 rfl Tryz.ntmps5 rfl ?_
 refine W_seq ?_; refine W_region ?_; refine P1 T.ok rfl rfl rfl ?_; refine WL_nil ?_; (with_reducible refine T_then ?_); refine W_seq ?_; refine W_region ?_
 refine WL_o rfl rfl (OpR_ret cl6 allF rfl rfl rfl rfl rfl (sane_c _ (hF.mono le0)) ?_); rintro g1 _ hf1 rfl; replace hs := hs.call hf1; have hqe := hf1.le; replace le0 := G.le.trans le0 hqe; replace rs0 := rs0.mono hqe; replace rs1 := rs1.mono hqe
 refine P1 T.ok rfl rfl rfl ?_; refine WL_nil ?_; (with_reducible refine T_then ?_); refine W_seq ?_; refine W_region ?_; refine P1 T.ok rfl rfl rfl ?_; refine P1 T.ok rfl rfl rfl ?_
 refine WL_o rfl rfl (OpR_ret cl7 allF rfl rfl rfl rfl rfl (make_c _ _ x zs _ rs0 rs1 hx hz) ?_); rintro g1 _ hf1 fl1; replace hs := hs.call hf1; have hqe := hf1.le; replace le0 := G.le.trans le0 hqe; replace rs0 := rs0.mono hqe; replace rs1 := rs1.mono hqe
 obtain ⟨a5, n5, c5, a6, n6, c6, rfl, rs4, rs5⟩ := fl1
 have hmv := mk_valid x zs
 generalize mk x zs = F at *
 clear rs0 rs1 hx hz
 obtain ⟨_, _, e⟩ := rs4.isSlice; obtain ⟨rfl, rfl, rfl⟩ := Value.slice.inj e; clear e
 obtain ⟨_, _, e⟩ := rs5.isSlice; obtain ⟨rfl, rfl, rfl⟩ := Value.slice.inj e; clear e
 have hB := valid_N hmv
 have h40 := hB.n40; have h20 := hB.w20
 have hc6 := rs5.cap_le
 have hpr := pickM_range (c := left) (n := ((F.windows.length + 1 : Nat) : Int)) (by omega)
 obtain ⟨j, hj⟩ : ∃ j : Nat, pickM left ((F.windows.length + 1 : Nat) : Int) = j := ⟨(pickM left ((F.windows.length + 1 : Nat) : Int)).toNat, by omega⟩
 rw [hj] at hpr
 have hjl : j ≤ F.windows.length := by omega
 have hjc : j ≤ c6 := by omega
 skip
 refine WL_o rfl rfl (OpR_alloc T.ok rfl hs rfl rfl ?_); clear hs; rintro b8 g1 hs hqe; replace le0 := G.le.trans le0 hqe; replace rs4 := rs4.mono hqe; replace rs5 := rs5.mono hqe
 skip
 refine WL_n rfl (OpR_storeO T.ok 0 rfl hs rfl rfl rfl rfl rfl rfl rfl rfl rfl ?_); replace hs := hs; rintro g1 hs hqe; replace le0 := G.le.trans le0 hqe; replace rs4 := rs4.mono hqe; replace rs5 := rs5.mono hqe
 refine WL_nil ?_; (with_reducible refine T_then ?_); refine W_seq ?_
 apply W_draw allF rfl (Fact.eq _ :: Fact.eq _ :: Fact.eq _ :: Fact.eq _ :: Fact.eq _ :: Fact.eq _ :: Fact.eq _ :: Fact.eq _ :: Fact.eq _ :: Fact.eq _ :: []) 10 [(8, 26), (9, 27)] rfl rfl
 ·refine D_s (js := []) (by kernel_rfl) (fun _ _ => QA_nil (DPu T.ok rfl rfl rfl)) ?_
  refine D_s (js := [(0, 18)]) (by kernel_rfl) (fun _ hf => QA_eq rfl (QA_nil (DLo T.ok 0 rfl rfl (hs.dr.call hf) rfl rfl rfl rfl))) ?_
  refine D_s (js := []) (by kernel_rfl) (fun _ _ => QA_nil (DPu T.ok rfl rfl rfl)) ?_
  refine D_s (js := []) (by kernel_rfl) (fun _ _ => QA_nil (DPu T.ok rfl rfl rfl)) ?_
  refine D_s (js := [(3, 21)]) (by kernel_rfl) (fun _ hf => QA_eq rfl (QA_nil (DLo T.ok 0 rfl rfl (hs.dr.call hf) rfl rfl rfl rfl))) ?_
  refine D_s (js := [(4, 22)]) (by kernel_rfl) (fun _ _ => QA_eq rfl (QA_nil (DPu T.ok rfl rfl rfl))) ?_
  refine D_cons (D_step2 (js := [(5, 23)]) (by kernel_rfl) fun gd hf => ?_) ?_
  ·have hsd := hs.dr.call hf; have hfe := (G.le_dr _).trans hf.le
   refine QA_eq rfl ?_
   refine QA_nil ?_
   refine D_yes rfl ?_
   refine OpR_pure _ T.ok rfl ?_
   refine ⟨_, rfl, Fr0.refl _, ?_⟩
   exact congrArg (Value.int .i64) (show _ = ((F.windows.length + 1 : Nat) : Int) from by rw [wr (by omega) (by omega)]; omega)
  refine D_cons (D_step2 (js := [(2, 20), (6, 24)]) (by kernel_rfl) fun gd hf => ?_) ?_
  ·have hsd := hs.dr.call hf; have hfe := (G.le_dr _).trans hf.le
   refine QA_eq rfl ?_; refine QA_eq rfl ?_
   refine QA_nil ?_
   refine D_yes rfl ?_
   refine OpR_ret cl18 allF rfl rfl rfl rfl rfl (lpick_c left ((F.windows.length + 1 : Nat) : Int) _ hle (by omega)) fun g' v h1 h2 => ⟨g', rfl, h1, ?_⟩
   rw [h2]; exact congrArg (Value.int .i64) hj
  refine D_cons (D_step2 (js := [(1, 19), (7, 25)]) (by kernel_rfl) fun gd hf => ?_) ?_
  ·have hsd := hs.dr.call hf; have hfe := (G.le_dr _).trans hf.le
   refine QA_eq rfl ?_; refine QA_eq rfl ?_
   refine QA_nil ?_
   refine D_yes rfl ?_
   refine OpR_cutH T.ok (b := j) rfl rfl rfl rfl rfl rfl hjc ?_
   exact ⟨_, rfl, Fr0.refl _, rfl⟩
  refine D_s (js := []) (by kernel_rfl) (fun _ _ => QA_nil (DPu T.ok rfl rfl rfl)) ?_
  exact D_nil
 intro g1 hf1; refine QA_eq rfl ?_; refine QA_eq rfl ?_; refine QA_nil ?_
 replace hs := hs.dr.call hf1; have hqe := (G.le_dr _).trans hf1.le; replace le0 := G.le.trans le0 hqe; replace rs4 := rs4.mono hqe; replace rs5 := rs5.mono hqe
 skip
 refine WL_n rfl (OpR_storeO T.ok 0 rfl hs rfl rfl rfl rfl rfl rfl rfl rfl rfl ?_); replace hs := hs; rintro g6 hs hqe; replace le0 := G.le.trans le0 hqe; replace rs4 := rs4.mono hqe; replace rs5 := rs5.mono hqe
 replace rs5 := rs5.cut (a := 0) (b := j) (by omega) hjl
 rw [List.drop_zero] at rs5
 obtain ⟨wa, wn, wc, hu⟩ : ∃ wa wn wc, Value.slice (if c6 = 0 then a6 else a6.map (·.add (0 * El.k Window))) (j - 0) (c6 - 0) = .slice wa wn wc := ⟨_, _, _, rfl⟩
 rw [hu] at rs5
 have hs2 : St g g6 [.obj b8 (.cells [.int .i64 F.moveMin, .int .i64 F.moveMax, .slice a5 F.steps.length c5, .slice wa wn wc].toArray 25 (0, 0))] := by rw [← hu]; exact hs
 replace hs := hs2
 clear hs2 hu hjc hc6
 have hmv2 := cut_valid hmv j
 have hB2 := valid_N hmv2
 have hst : (cutW F j).steps = F.steps := rfl
 replace rs4 : Rs g6 (.slice a5 F.steps.length c5) (cutW F j).steps := rs4
 replace rs5 : Rs g6 (.slice wa wn wc) (cutW F j).windows := rs5
 have hmm : F.moveMin = (cutW F j).moveMin := rfl
 have hmM : F.moveMax = (cutW F j).moveMax := rfl
 rw [hmm, hmM, ← hst] at hs
 rw [← hst] at rs4
 generalize cutW F j = H at *
 clear hmm hmM hst hmv hB h40 h20 hpr hj hjl hle
 obtain ⟨_, _, e⟩ := rs5.isSlice; obtain ⟨rfl, rfl, rfl⟩ := Value.slice.inj e; clear e
 have h1 := hB2.n1; have h40 := hB2.n40; have h20 := hB2.w20
 obtain ⟨g2, hw2, hs2, hqe, hep⟩ := hs.fzObj (i := 0) rfl; replace hs := hs2; clear hs2; rw [← hw2]; replace le0 := G.le.trans le0 hqe; replace rs4 := rs4.mono hqe; replace rs5 := rs5.mono hqe
 have ep0 : EP g2 b8 0 [.int .i64 H.moveMin, .int .i64 H.moveMax, .slice a5 H.steps.length c5, .slice wa H.windows.length wc] := hep
 clear hep hw2 hqe
 replace hs : St g g2 [] := hs
 refine WL_nil ?_; (with_reducible refine T_then ?_); refine W_seq ?_; refine W_region ?_; refine WL_o rfl rfl (OpR_loadE T.ok 0 rfl ep0 rfl rfl ?_)
 refine WL_o rfl rfl (OpR_ret cl11 allF rfl rfl rfl rfl rfl (print_c _ H _ ⟨_, _, _, _, _, _, rfl, rs4, rs5⟩ (hF.mono le0)) ?_); rintro g1 _ hf1 hp; replace hs := hs.call hf1; have hqe := hf1.le; replace le0 := G.le.trans le0 hqe; replace ep0 := ep0.mono hqe; replace rs4 := rs4.mono hqe; replace rs5 := rs5.mono hqe
 rw [printRes_yes hmv2] at hp
 subst hp
 have hTl := printM_len hB2
 rw [printM_lines] at hTl ⊢
 have hlines := split_text (linesOf H) linesOf_no
 (iterate 5 refine P1 T.ok rfl rfl rfl ?_); refine WL_nil ?_; (with_reducible refine T_then ?_); refine W_seq ?_; refine W_region ?_; refine P1 T.ok rfl rfl rfl ?_
 refine WL_o rfl rfl (OpR_ret cl19 allF rfl rfl rfl rfl rfl (lines_c (textOf (linesOf H)) _ (by omega)) ?_); rintro g1 _ hf1 rs6; replace hs := hs.call hf1; have hqe := hf1.le; replace le0 := G.le.trans le0 hqe; replace ep0 := ep0.mono hqe; replace rs4 := rs4.mono hqe; replace rs5 := rs5.mono hqe
 rw [hlines] at rs6
 have hN := lines_len H
 have hls := lines_step H
 have hlw := lines_win H
 have hlz := lines_end H
 clear hlines hTl
 generalize textOf (linesOf H) = TX at *
 generalize (linesOf H ++ [[]]).map Str.mk = lines at *
 obtain ⟨la, lc, rfl⟩ := rs6.isSlice
 refine P1 T.ok rfl rfl rfl ?_; refine WL_nil ?_; (with_reducible refine T_then ?_); refine W_seq ?_; refine W_seq ?_; refine W_region ?_; (iterate 6 refine P1 T.ok rfl rfl rfl ?_); refine WL_o rfl rfl (OpR_loadE T.ok 2 rfl ep0 rfl rfl ?_); (iterate 3 refine P1 T.ok rfl rfl rfl ?_); refine WL_o rfl rfl (OpR_loadE T.ok 3 rfl ep0 rfl rfl ?_); (iterate 5 refine P1 T.ok rfl rfl rfl ?_)
 refine WL_know 50 (b' := false) (by rw [wr (n := 2 + (H.steps.length : Int)) (by omega) (by omega), wr (by omega) (by omega), hN]; simp) rfl ?_
 (iterate 4 refine P1 T.ok rfl rfl rfl ?_)
 refine WL_re (.int .i64 ((1 + H.steps.length + H.windows.length : Nat) : Int)) (t := 54) rfl (congrArg (Value.int .i64) (by rw [wr (by omega) (by omega)]; omega)) ?_
 refine WL_o rfl rfl (OpR_idx T.ok rfl rs6 (y := ⟨[]⟩) hlz rfl rfl rfl rfl rfl rfl ?_)
 rintro bq pq ys hep rfl
 refine WL_o rfl rfl (OpR_loadE T.ok 0 rfl hep rfl rfl ?_)
 refine P1 T.ok rfl rfl rfl ?_; refine P1 T.ok rfl rfl rfl ?_; refine WL_nil ?_; (with_reducible refine T_then ?_)
 refine W_no (b := _) ?_ rfl ?_
 ·simp [bs_toList]
 refine W_skip ?_; (with_reducible refine T_then ?_); refine W_seq ?_; refine W_seq ?_; refine W_region ?_; refine P1 T.ok rfl rfl rfl ?_; refine WL_nil ?_; (with_reducible refine T_then ?_); refine W_block ?_
 have rs4c := rs4; have rs5c := rs5; have rs6c := rs6; have ep0c := ep0
 refine W_loop (fun m a' w => ∃ (k : Nat) (g4 : G), w = g4.w ∧ St g g4 [] ∧ G.le g1 g4 ∧ k ≤ H.steps.length ∧ m = H.steps.length - k ∧
   Fr 107 [] [(7, .bool true), (8, .pointer (some ⟨b8, 0, none⟩)), (11, .slice la lines.length lc), (12, .int .i64 k)] a') H.steps.length (fun a' ha => ⟨0, g1, rfl, hs, G.le.refl _, Nat.zero_le _, rfl, ha.keep (by (repeat (first | exact trivial | refine ⟨rfl, ?_⟩)))⟩) ?_
 clear hs le0 rs4 rs5 rs6 ep0
 rintro m a' _ ⟨k, g4, rfl, hs, le8, hk, rfl, ha'⟩
 have rs4 := rs4c.mono le8
 have rs5 := rs5c.mono le8
 have rs6 := rs6c.mono le8
 have ep0 := ep0c.mono le8
 revert a'
 (with_reducible refine T_wp ?_); refine W_seq ?_; refine W_seq ?_; refine W_region ?_; refine P1 T.ok rfl rfl rfl ?_; refine P1 T.ok rfl rfl rfl ?_; refine WL_o rfl rfl (OpR_loadE T.ok 2 rfl ep0 rfl rfl ?_); refine P1 T.ok rfl rfl rfl ?_; refine P1 T.ok rfl rfl rfl ?_; refine WL_nil ?_; (with_reducible refine T_then ?_)
 by_cases hlt : k < H.steps.length
 ·refine W_yes (b := _) ?_ rfl ?_
  ·simp; omega
  have hg1 : geti H.steps (k : Int) = some H.steps[k] := by simp [geti, hlt]
  have hsB := hB2.steps _ (List.getElem_mem hlt)
  have hlk := hls k hlt
  generalize H.steps[k] = s at *
  refine W_skip ?_; (with_reducible refine T_then ?_); refine W_seq ?_; refine W_block ?_; refine W_seq ?_
  apply W_draw allF rfl (Fact.eq _ :: Fact.eq _ :: Fact.eq _ :: (strP (stepLine k s)) :: Fact.eq _ :: Fact.eq _ :: Fact.eq _ :: Fact.eq _ :: Fact.eq _ :: (stepP s) :: (stepV s) :: Fact.eq _ :: Fact.eq _ :: []) 13 [(12, 78)] rfl rfl
  ·refine D_s (js := []) (by kernel_rfl) (fun _ _ => QA_nil (DPu T.ok rfl rfl rfl)) ?_
   refine D_s (js := []) (by kernel_rfl) (fun _ _ => QA_nil (DPu T.ok rfl rfl rfl)) ?_
   refine D_cons (D_step2 (js := [(1, 67)]) (by kernel_rfl) fun gd hf => ?_) ?_
   ·have hsd := hs.dr.call hf; have hfe := (G.le_dr _).trans hf.le
    refine QA_eq rfl ?_
    refine QA_nil ?_
    refine D_yes rfl ?_
    refine OpR_pure _ T.ok rfl ?_
    refine ⟨_, rfl, Fr0.refl _, ?_⟩
    exact congrArg (Value.int .i64) (show _ = ((1 + k : Nat) : Int) from by rw [wr (by omega) (by omega)]; omega)
   refine D_cons (D_step2 (js := [(0, 66), (2, 68)]) (by kernel_rfl) fun gd hf => ?_) ?_
   ·have hsd := hs.dr.call hf; have hfe := (G.le_dr _).trans hf.le
    refine QA_eq rfl ?_; refine QA_eq rfl ?_
    refine QA_nil ?_
    refine D_yes rfl ?_
    refine OpR_idx T.ok rfl (rs6.mono hfe) (y := ⟨stepLine k s⟩) hlk rfl rfl rfl rfl rfl rfl ?_
    rintro b p ys hep rfl
    exact ⟨_, rfl, Fr0.refl _, b, p, rfl, hep⟩
   refine D_cons (D_step2 (js := [(3, 69)]) (by kernel_rfl) fun gd hf => ?_) ?_
   ·have hsd := hs.dr.call hf; have hfe := (G.le_dr _).trans hf.le
    refine QA_any fun v3 h3 => ?_
    refine QA_nil ?_
    obtain ⟨b, p, rfl, hep⟩ := h3
    refine D_yes rfl ?_
    refine OpR_loadE T.ok 0 rfl hep rfl rfl ?_
    refine ⟨_, rfl, Fr0.refl _, ?_⟩
    exact rfl
   refine D_s (js := []) (by kernel_rfl) (fun _ _ => QA_nil (DPu T.ok rfl rfl rfl)) ?_
   refine D_s (js := []) (by kernel_rfl) (fun _ _ => QA_nil (DPu T.ok rfl rfl rfl)) ?_
   refine D_s (js := [(6, 72)]) (by kernel_rfl) (fun _ hf => QA_eq rfl (QA_nil (DLe T.ok 2 rfl rfl (ep0.mono ((G.le_dr _).trans hf.le)) rfl rfl rfl))) ?_
   refine D_s (js := []) (by kernel_rfl) (fun _ _ => QA_nil (DPu T.ok rfl rfl rfl)) ?_
   refine D_cons (D_step2 (js := [(7, 73), (8, 74)]) (by kernel_rfl) fun gd hf => ?_) ?_
   ·have hsd := hs.dr.call hf; have hfe := (G.le_dr _).trans hf.le
    refine QA_eq rfl ?_; refine QA_eq rfl ?_
    refine QA_nil ?_
    refine D_yes rfl ?_
    refine OpR_idx T.ok rfl (rs4.mono hfe) (y := s) hg1 rfl rfl rfl rfl rfl rfl ?_
    rintro b p ys hep hrc
    exact ⟨_, rfl, Fr0.refl _, b, p, ys, rfl, hep, hrc⟩
   refine D_cons (D_step2 (js := [(9, 75)]) (by kernel_rfl) fun gd hf => ?_) ?_
   ·have hsd := hs.dr.call hf; have hfe := (G.le_dr _).trans hf.le
    refine QA_any fun v9 h9 => ?_
    refine QA_nil ?_
    obtain ⟨b, p, cs, rfl, hep, ta, tn, tc, na, nn, nc, rfl, r1, r2⟩ := h9
    refine D_yes rfl ?_
    refine OpR_loadE T.ok 0 rfl hep rfl rfl ?_
    exact ⟨_, rfl, Fr0.refl _, _, rfl, ta, tn, tc, na, nn, nc, rfl, r1, r2⟩
   refine D_cons (D_step2 (js := [(5, 71), (10, 76)]) (by kernel_rfl) fun gd hf => ?_) ?_
   ·have hsd := hs.dr.call hf; have hfe := (G.le_dr _).trans hf.le
    refine QA_eq rfl ?_; refine QA_any fun v10 h10 => ?_
    refine QA_nil ?_
    refine D_yes rfl ?_
    refine OpR_ret cl20 allF rfl rfl rfl rfl rfl (rstepLine_c k _ s _ h10 (by omega) hsB) fun g' v h1 h2 => ⟨g', rfl, h1, ?_⟩
    exact h2
   refine D_cons (D_step2 (js := [(4, 70), (11, 77)]) (by kernel_rfl) fun gd hf => ?_) ?_
   ·have hsd := hs.dr.call hf; have hfe := (G.le_dr _).trans hf.le
    refine QA_eq rfl ?_; refine QA_eq rfl ?_
    refine QA_nil ?_
    refine D_yes rfl ?_
    refine OpR_pure _ T.ok rfl ?_
    exact ⟨_, rfl, Fr0.refl _, congrArg Value.bool (show _ = false from by simp)⟩
   exact D_nil
  intro g1 hf1; refine QA_eq rfl ?_; refine QA_nil ?_
  replace hs := hs.dr.call hf1; have hqe := (G.le_dr _).trans hf1.le; replace le8 := G.le.trans le8 hqe; replace ep0 := ep0.mono hqe; replace rs4 := rs4.mono hqe; replace rs5 := rs5.mono hqe; replace rs6 := rs6.mono hqe
  refine WL_nil ?_; (with_reducible refine T_then ?_)
  refine W_no rfl rfl ?_
  refine W_skip ?_; (with_reducible refine T_bn ?_); (with_reducible refine T_then ?_); refine W_region ?_; (iterate 3 refine P1 T.ok rfl rfl rfl ?_); refine WL_nil ?_
  exact fun a ha => ⟨H.steps.length - (k + 1), by omega, k + 1, _, rfl, hs, le8, by omega, rfl, ha.keep ⟨rfl, rfl, rfl, kI rfl (by rw [wr (by omega) (by omega)]; omega), trivial⟩⟩
 ·refine W_no (b := _) ?_ rfl ?_
  ·simp; omega
  refine W_exit ?_; (with_reducible refine T_tx ?_; with_reducible refine T_tx ?_); (with_reducible refine T_bx ?_); (with_reducible refine T_then ?_); refine W_seq ?_; refine W_seq ?_; refine W_region ?_; refine P1 T.ok rfl rfl rfl ?_; refine WL_nil ?_; (with_reducible refine T_then ?_); refine W_block ?_
  have rs5d := rs5; have rs6d := rs6; have ep0d := ep0; have rs4d := rs4
  refine W_loop (fun m a' w => ∃ (k : Nat) (g5 : G), w = g5.w ∧ St g g5 [] ∧ G.le g4 g5 ∧ k ≤ H.windows.length ∧ m = H.windows.length - k ∧
    Fr 107 [] [(7, .bool true), (8, .pointer (some ⟨b8, 0, none⟩)), (11, .slice la lines.length lc), (13, .int .i64 k)] a') H.windows.length (fun a' ha => ⟨0, g4, rfl, hs, G.le.refl _, Nat.zero_le _, rfl, ha.keep (by (repeat (first | exact trivial | refine ⟨rfl, ?_⟩)))⟩) ?_
  clear hs le8 rs4 rs5 rs6 ep0 hlt hk
  rintro m a' _ ⟨k, g5, rfl, hs, le8, hk, rfl, ha'⟩
  have rs4 := rs4d.mono le8
  have rs5 := rs5d.mono le8
  have rs6 := rs6d.mono le8
  have ep0 := ep0d.mono le8
  revert a'
  (with_reducible refine T_wp ?_); refine W_seq ?_; refine W_seq ?_; refine W_region ?_; refine P1 T.ok rfl rfl rfl ?_; refine P1 T.ok rfl rfl rfl ?_; refine WL_o rfl rfl (OpR_loadE T.ok 3 rfl ep0 rfl rfl ?_); refine P1 T.ok rfl rfl rfl ?_; refine P1 T.ok rfl rfl rfl ?_; refine WL_nil ?_; (with_reducible refine T_then ?_)
  by_cases hlt : k < H.windows.length
  ·refine W_yes (b := _) ?_ rfl ?_
   ·simp; omega
   have hg1 : geti H.windows (k : Int) = some H.windows[k] := by simp [geti, hlt]
   have hwB := hB2.wins _ (List.getElem_mem hlt)
   have hlk := hlw k hlt
   generalize H.windows[k] = w0 at *
   refine W_skip ?_; (with_reducible refine T_then ?_); refine W_seq ?_; refine W_block ?_; refine W_seq ?_
   apply W_draw allF rfl (Fact.eq _ :: Fact.eq _ :: Fact.eq _ :: Fact.eq _ :: Fact.eq _ :: Fact.eq _ :: Fact.eq _ :: (strP (windowLine w0)) :: Fact.eq _ :: Fact.eq _ :: Fact.eq _ :: Fact.eq _ :: (winP w0) :: Fact.eq _ :: Fact.eq _ :: Fact.eq _ :: []) 16 [(15, 101)] rfl rfl
   ·refine D_s (js := []) (by kernel_rfl) (fun _ _ => QA_nil (DPu T.ok rfl rfl rfl)) ?_
    refine D_s (js := []) (by kernel_rfl) (fun _ _ => QA_nil (DPu T.ok rfl rfl rfl)) ?_
    refine D_s (js := [(1, 87)]) (by kernel_rfl) (fun _ hf => QA_eq rfl (QA_nil (DLe T.ok 2 rfl rfl (ep0.mono ((G.le_dr _).trans hf.le)) rfl rfl rfl))) ?_
    refine D_s (js := [(2, 88)]) (by kernel_rfl) (fun _ _ => QA_eq rfl (QA_nil (DPu T.ok rfl rfl rfl))) ?_
    refine D_cons (D_step2 (js := [(3, 89)]) (by kernel_rfl) fun gd hf => ?_) ?_
    ·have hsd := hs.dr.call hf; have hfe := (G.le_dr _).trans hf.le
     refine QA_eq rfl ?_
     refine QA_nil ?_
     refine D_yes rfl ?_
     refine OpR_pure _ T.ok rfl ?_
     refine ⟨_, rfl, Fr0.refl _, ?_⟩
     exact congrArg (Value.int .i64) (show _ = ((1 + H.steps.length : Nat) : Int) from by rw [wr (by omega) (by omega)]; omega)
    refine D_s (js := []) (by kernel_rfl) (fun _ _ => QA_nil (DPu T.ok rfl rfl rfl)) ?_
    refine D_cons (D_step2 (js := [(4, 90), (5, 91)]) (by kernel_rfl) fun gd hf => ?_) ?_
    ·have hsd := hs.dr.call hf; have hfe := (G.le_dr _).trans hf.le
     refine QA_eq rfl ?_; refine QA_eq rfl ?_
     refine QA_nil ?_
     refine D_yes rfl ?_
     refine OpR_pure _ T.ok rfl ?_
     refine ⟨_, rfl, Fr0.refl _, ?_⟩
     exact congrArg (Value.int .i64) (show _ = ((1 + H.steps.length + k : Nat) : Int) from by rw [wr (by omega) (by omega)]; omega)
    refine D_cons (D_step2 (js := [(0, 86), (6, 92)]) (by kernel_rfl) fun gd hf => ?_) ?_
    ·have hsd := hs.dr.call hf; have hfe := (G.le_dr _).trans hf.le
     refine QA_eq rfl ?_; refine QA_eq rfl ?_
     refine QA_nil ?_
     refine D_yes rfl ?_
     refine OpR_idx T.ok rfl (rs6.mono hfe) (y := ⟨windowLine w0⟩) hlk rfl rfl rfl rfl rfl rfl ?_
     rintro b p ys hep rfl
     exact ⟨_, rfl, Fr0.refl _, b, p, rfl, hep⟩
    refine D_cons (D_step2 (js := [(7, 93)]) (by kernel_rfl) fun gd hf => ?_) ?_
    ·have hsd := hs.dr.call hf; have hfe := (G.le_dr _).trans hf.le
     refine QA_any fun v7 h7 => ?_
     refine QA_nil ?_
     obtain ⟨b, p, rfl, hep⟩ := h7
     refine D_yes rfl ?_
     refine OpR_loadE T.ok 0 rfl hep rfl rfl ?_
     refine ⟨_, rfl, Fr0.refl _, ?_⟩
     exact rfl
    refine D_s (js := []) (by kernel_rfl) (fun _ _ => QA_nil (DPu T.ok rfl rfl rfl)) ?_
    refine D_s (js := [(9, 95)]) (by kernel_rfl) (fun _ hf => QA_eq rfl (QA_nil (DLe T.ok 3 rfl rfl (ep0.mono ((G.le_dr _).trans hf.le)) rfl rfl rfl))) ?_
    refine D_s (js := []) (by kernel_rfl) (fun _ _ => QA_nil (DPu T.ok rfl rfl rfl)) ?_
    refine D_cons (D_step2 (js := [(10, 96), (11, 97)]) (by kernel_rfl) fun gd hf => ?_) ?_
    ·have hsd := hs.dr.call hf; have hfe := (G.le_dr _).trans hf.le
     refine QA_eq rfl ?_; refine QA_eq rfl ?_
     refine QA_nil ?_
     refine D_yes rfl ?_
     refine OpR_idx T.ok rfl (rs5.mono hfe) (y := w0) hg1 rfl rfl rfl rfl rfl rfl ?_
     rintro b p ys hep rfl
     exact ⟨_, rfl, Fr0.refl _, b, p, rfl, hep⟩
    refine D_cons (D_step2 (js := [(12, 98)]) (by kernel_rfl) fun gd hf => ?_) ?_
    ·have hsd := hs.dr.call hf; have hfe := (G.le_dr _).trans hf.le
     refine QA_any fun v12 h12 => ?_
     refine QA_nil ?_
     obtain ⟨b, p, rfl, hep⟩ := h12
     refine D_yes rfl ?_
     refine OpR_loadE T.ok 0 rfl hep rfl rfl ?_
     refine ⟨_, rfl, Fr0.refl _, ?_⟩
     exact rfl
    refine D_cons (D_step2 (js := [(13, 99)]) (by kernel_rfl) fun gd hf => ?_) ?_
    ·have hsd := hs.dr.call hf; have hfe := (G.le_dr _).trans hf.le
     refine QA_eq rfl ?_
     refine QA_nil ?_
     refine D_yes rfl ?_
     refine OpR_ret cl21 allF rfl rfl rfl rfl rfl (rwindowLine_c w0 _ hwB) fun g' v h1 h2 => ⟨g', rfl, h1, ?_⟩
     exact h2
    refine D_cons (D_step2 (js := [(8, 94), (14, 100)]) (by kernel_rfl) fun gd hf => ?_) ?_
    ·have hsd := hs.dr.call hf; have hfe := (G.le_dr _).trans hf.le
     refine QA_eq rfl ?_; refine QA_eq rfl ?_
     refine QA_nil ?_
     refine D_yes rfl ?_
     refine OpR_pure _ T.ok rfl ?_
     exact ⟨_, rfl, Fr0.refl _, congrArg Value.bool (show _ = false from by simp)⟩
    exact D_nil
   intro g1 hf1; refine QA_eq rfl ?_; refine QA_nil ?_
   replace hs := hs.dr.call hf1; have hqe := (G.le_dr _).trans hf1.le; replace le8 := G.le.trans le8 hqe; replace ep0 := ep0.mono hqe; replace rs4 := rs4.mono hqe; replace rs5 := rs5.mono hqe; replace rs6 := rs6.mono hqe
   refine WL_nil ?_; (with_reducible refine T_then ?_)
   refine W_no rfl rfl ?_
   refine W_skip ?_; (with_reducible refine T_bn ?_); (with_reducible refine T_then ?_); refine W_region ?_; (iterate 3 refine P1 T.ok rfl rfl rfl ?_); refine WL_nil ?_
   exact fun a ha => ⟨H.windows.length - (k + 1), by omega, k + 1, _, rfl, hs, le8, by omega, rfl, ha.keep ⟨rfl, rfl, rfl, kI rfl (by rw [wr (by omega) (by omega)]; omega), trivial⟩⟩
  ·refine W_no (b := _) ?_ rfl ?_
   ·simp; omega
   refine W_exit ?_; (with_reducible refine T_tx ?_; with_reducible refine T_tx ?_); (with_reducible refine T_bx ?_); (with_reducible refine T_then ?_); refine W_seq ?_; refine W_region ?_; refine P1 T.ok rfl rfl rfl ?_; refine P1 T.ok rfl rfl rfl ?_; refine WL_o rfl rfl (OpR_loadE T.ok 0 rfl ep0 rfl rfl ?_)
   refine WL_o rfl rfl (OpR_ret cl8 allF rfl rfl rfl rfl rfl (valid_c _ H _ ⟨_, _, _, _, _, _, rfl, rs4, rs5⟩) ?_); rintro g1 _ hf1 hp; replace hs := hs.call hf1; have hqe := hf1.le; replace le8 := G.le.trans le8 hqe; replace ep0 := ep0.mono hqe; replace rs4 := rs4.mono hqe; replace rs5 := rs5.mono hqe; replace rs6 := rs6.mono hqe
   rw [hmv2] at hp
   subst hp
   refine P1 T.ok rfl rfl rfl ?_; refine P1 T.ok rfl rfl rfl ?_; refine WL_nil ?_; (with_reducible refine T_then ?_)
   refine W_ret ?_
   skip
   exact ret1 rfl rfl (hs.ret rfl)
end Go.Proofs.YtnaeopehmdcplaaGreatDoor
