/- The walks through ways and times. -/
import Derived.Test.YtnggomfbgmlkhaaGreatDoorYt
import Derived.Test.YtnggomfbgmlkhaaGreatDoorYr
import Derived.Test.YtnggomfbgmlkhaaGreatDoorYd

/- The walks through package graph: ways. -/
namespace Go.Proofs.YtnggomfbgmlkhaaGreatDoor
open Go Go.K
set_option maxRecDepth 10000
attribute [local irreducible] W WL OpR bitAnd bitOr bitXor bitClr bitNot shlI shrI
set_option maxHeartbeats 4000000

def stepV (s : Step) : Fact := ⟨fun v g => RStepV g v s, fun _ _ _ hf h => RStepV.mono hf.le h⟩

def wayV (w : Wy) : Fact := ⟨fun v g => RWayV g v w, fun _ _ _ hf h => RWayV.mono hf.le h⟩
theorem soft_step (off : Nat) (s : Step) : Soft (stepPtr off s) := fun _ _ _ hle ⟨b, p, ys, e, h1, h2⟩ => ⟨b, p, ys, e, h1.mono hle, El.mono (α := Step) hle h2⟩
theorem soft_stepV (s : Step) : Soft (stepV s) := fun _ _ _ hle h => RStepV.mono hle h
theorem soft_wayV (w : Wy) : Soft (wayV w) := fun _ _ _ hle h => RWayV.mono hle h
/-- A row from some block on. -/
def ownF (B : Nat) (xs : List Int) : Fact :=
 ⟨fun v g => ∃ cells, Ent.holds B g (.row 3 1 v xs.length cells) ∧ RcL g cells xs, fun v g g' hf ⟨cells, h1, h2⟩ => ⟨cells, h1.kept fun b hb => ⟨hf.below.block b (h1.lt b hb).2.1, hf.im b (h1.lt b hb).2.1⟩, h2.mono hf.le⟩⟩
theorem ownF_of {B : Nat} {xs : List Int} {v : Value} {g g' : G} (h : OwnR 3 g xs g' v) (hB : B ≤ g.w.heap.size) : (ownF B xs).p v g' := by
 obtain ⟨cells, h1, h2⟩ := h
 refine ⟨cells, ⟨⟨h1.1.1, ?_⟩, h1.2⟩, h2⟩
 rcases h1.1.2 with h' | ⟨b, off, cap, cur, e1, hb, h'⟩
 ·exact .inl h'
 ·exact .inr ⟨b, off, cap, cur, e1, Nat.le_trans hB hb, h'⟩

theorem valid_moves {f : Flow} (h : valid f = true) : 0 ≤ f.moveMin ∧ f.moveMin ≤ 10000 := by
 unfold valid rightMoves at h
 simp only [Bool.and_eq_true, decide_eq_true_eq] at h
 omega

theorem step_min {s : Step} {n : Int} (h : rightStep s n = true) : 1 ≤ s.min ∧ s.min ≤ 10000 := by
 unfold rightStep at h
 simp only [Bool.and_eq_true, decide_eq_true_eq] at h
 omega



theorem ways_c (v : Value) (f : Flow) (start : Int) (g : G) (fl0 : RFlow g v f) (hval : valid f = true) (h0 : 0 ≤ start) (h1 : start < f.steps.length) :
  CallsIn Wd 0 Tryz.prog 33 #[v, .int .i64 start] g.w (Ret g fun g' r => Rs g' r (ways f start)) := by
 obtain ⟨a1, n1, c1, a2, n2, c2, rfl, rs0, rs1⟩ := id fl0
 obtain ⟨_, _, e⟩ := rs0.isSlice; obtain ⟨rfl, rfl, rfl⟩ := Value.slice.inj e; clear e
 have hl40 := valid_len hval
 have hs := St.start g
 refine enter Tryz.func33 rfl Tryz.ntmps33 rfl ?_
 refine W_seq ?_; refine W_region ?_
 refine WL_o rfl rfl (OpR_box rfl hs rfl rfl ?_); clear hs; rintro bf g1 hs hqe; replace rs0 := rs0.mono hqe; replace rs1 := rs1.mono hqe; replace fl0 := fl0.mono hqe
 obtain ⟨g2, hw2, hs2, hqe, hep⟩ := hs.fzObj (i := 0) rfl; replace hs := hs2; clear hs2; rw [← hw2]; replace rs0 := rs0.mono hqe; replace rs1 := rs1.mono hqe; replace fl0 := fl0.mono hqe
 have ep0 := hep; clear hep
 refine P1 T.ok rfl rfl rfl ?_; refine WL_nil ?_; (with_reducible refine T_then ?_); refine W_seq ?_; refine W_region ?_; refine P1 T.ok rfl rfl rfl ?_; refine WL_o rfl rfl (OpR_loadE T.ok 2 rfl ep0 rfl rfl ?_); refine P1 T.ok rfl rfl rfl ?_
 refine WL_o rfl rfl (OpR_make T.ok rfl hs rfl rfl rfl rfl rfl rfl (by decide) rfl (by show 8 * f.steps.length ≤ _; omega) (by unfold maxLen; omega) ?_); rintro ob g1 hs hqe; replace ep0 := ep0.mono hqe; replace rs0 := rs0.mono hqe; replace rs1 := rs1.mono hqe; replace fl0 := fl0.mono hqe
 skip
 refine WL_o rfl rfl (OpR_alloc T.ok rfl hs rfl rfl ?_); clear hs; rintro bo g1 hs hqe; replace ep0 := ep0.mono hqe; replace rs0 := rs0.mono hqe; replace rs1 := rs1.mono hqe; replace fl0 := fl0.mono hqe
 skip
 refine WL_n rfl (OpR_storeO T.ok 0 rfl hs rfl rfl rfl rfl rfl rfl rfl rfl rfl ?_); replace hs := hs; rintro g1 hs hqe; replace ep0 := ep0.mono hqe; replace rs0 := rs0.mono hqe; replace rs1 := rs1.mono hqe; replace fl0 := fl0.mono hqe
 obtain ⟨g2, hw2, hs2, hqe, hep⟩ := hs.fzObj (i := 0) rfl; replace hs := hs2; clear hs2; rw [← hw2]; replace ep0 := ep0.mono hqe; replace rs0 := rs0.mono hqe; replace rs1 := rs1.mono hqe; replace fl0 := fl0.mono hqe
 have ep1 := hep; clear hep
 refine WL_nil ?_; (with_reducible refine T_then ?_); refine W_seq ?_; refine W_region ?_; refine P1 T.ok rfl rfl rfl ?_; refine WL_o rfl rfl (OpR_loadE T.ok 2 rfl ep0 rfl rfl ?_); refine P1 T.ok rfl rfl rfl ?_
 refine WL_o rfl rfl (OpR_make T.ok rfl hs rfl rfl rfl rfl rfl rfl (by decide) rfl (by show 1 * f.steps.length ≤ _; omega) (by unfold maxLen; omega) ?_); rintro od g1 hs hqe; replace ep0 := ep0.mono hqe; replace ep1 := ep1.mono hqe; replace rs0 := rs0.mono hqe; replace rs1 := rs1.mono hqe; replace fl0 := fl0.mono hqe
 refine P1 T.ok rfl rfl rfl ?_; refine WL_nil ?_; (with_reducible refine T_then ?_); refine W_seq ?_; refine W_region ?_
 refine WL_o rfl rfl (OpR_alloc T.ok rfl hs rfl rfl ?_); clear hs; rintro bb g1 hs hqe; replace ep0 := ep0.mono hqe; replace ep1 := ep1.mono hqe; replace rs0 := rs0.mono hqe; replace rs1 := rs1.mono hqe; replace fl0 := fl0.mono hqe
 skip
 refine WL_n rfl (OpR_storeO T.ok 0 rfl hs rfl rfl rfl rfl rfl rfl rfl rfl rfl ?_); replace hs := hs; rintro g1 hs hqe; replace ep0 := ep0.mono hqe; replace ep1 := ep1.mono hqe; replace rs0 := rs0.mono hqe; replace rs1 := rs1.mono hqe; replace fl0 := fl0.mono hqe
 obtain ⟨g2, hw2, hs2, hqe, hep⟩ := hs.fzObj (i := 0) rfl; replace hs := hs2; clear hs2; rw [← hw2]; replace ep0 := ep0.mono hqe; replace ep1 := ep1.mono hqe; replace rs0 := rs0.mono hqe; replace rs1 := rs1.mono hqe; replace fl0 := fl0.mono hqe
 have ep2 := hep; clear hep
 refine WL_nil ?_; (with_reducible refine T_then ?_); refine W_seq ?_; refine W_region ?_; refine P1 T.ok rfl rfl rfl ?_; refine P1 T.ok rfl rfl rfl ?_; refine WL_nil ?_; (with_reducible refine T_then ?_); refine W_seq ?_
 have hfl : (List.replicate f.steps.length [Value.bool false]).flatten = (List.replicate f.steps.length false).map Value.bool := by simp
 have hfw : (List.replicate f.steps.length [Value.pointer none]).flatten = List.replicate f.steps.length (Value.pointer none) := by simp
 have hst : St g g2 [rowB od f.steps.length (List.replicate f.steps.length false), rowW ob f.steps.length (List.replicate f.steps.length (.pointer none))] := by
  unfold rowB rowW; rw [← hfl, ← hfw]; exact hs
 clear hs
 have hs := hst
 have hae : AddEnv g2 ob f.steps.length bo bb := ⟨ep1, ep2⟩
 have hrc : RcL g2 (List.replicate f.steps.length (Value.pointer none)) (List.replicate f.steps.length (none : Option Wy)) := by
  have := RcL.replicate (α := Option Wy) (g := g2) (cs := [Value.pointer none]) (x := none) rfl f.steps.length
  rwa [hfw] at this
 skip
 apply W_draw allF rfl (Fact.eq _ :: Fact.eq _ :: Fact.eq _ :: Fact.eq _ :: Fact.eq _ :: Fact.eq _ :: Fact.eq _ :: (stepPtr 0 (stepD f start)) :: (stepV (stepD f start)) :: []) 9 [(0, 21), (3, 24), (8, 29)] rfl rfl
 ·refine D_s (js := []) (by kernel_rfl) (fun _ _ => QA_nil (DPu T.ok rfl rfl rfl)) ?_
  refine D_s (js := []) (by kernel_rfl) (fun _ _ => QA_nil (DPu T.ok rfl rfl rfl)) ?_
  refine D_s (js := [(1, 22)]) (by kernel_rfl) (fun _ hf => QA_eq rfl (QA_nil (DLe T.ok 0 rfl rfl (ep0.mono ((G.le_dr _).trans hf.le)) rfl rfl rfl))) ?_
  refine D_cons (D_step2 (js := [(2, 23)]) (by kernel_rfl) fun gd hf => ?_) ?_
  ·have hsd := hs.dr.call hf; have hfe := (G.le_dr _).trans hf.le
   refine QA_eq rfl ?_
   refine QA_nil ?_
   refine D_yes rfl ?_
   refine OpR_build T.ok rfl (vs := [(0, .int .i64 f.moveMin)]) (cells := [.int .i64 f.moveMin, .slice none 0 0]) rfl rfl rfl rfl [(0, 1), (1, 1)] rfl (by kernel_rfl) ?_
   refine ⟨_, rfl, Fr0.refl _, ?_⟩
   exact rfl
  refine D_s (js := []) (by kernel_rfl) (fun _ _ => QA_nil (DPu T.ok rfl rfl rfl)) ?_
  refine D_s (js := [(4, 25)]) (by kernel_rfl) (fun _ hf => QA_eq rfl (QA_nil (DLe T.ok 2 rfl rfl (ep0.mono ((G.le_dr _).trans hf.le)) rfl rfl rfl))) ?_
  refine D_s (js := []) (by kernel_rfl) (fun _ _ => QA_nil (DPu T.ok rfl rfl rfl)) ?_
  refine D_cons (D_step2 (js := [(5, 26), (6, 27)]) (by kernel_rfl) fun gd hf => ?_) ?_
  ·have hsd := hs.dr.call hf; have hfe := (G.le_dr _).trans hf.le
   refine QA_eq rfl ?_; refine QA_eq rfl ?_
   refine QA_nil ?_
   refine D_yes rfl ?_
   refine OpR_idx T.ok rfl (rs0.mono hfe) (y := stepD f start) (by unfold stepD; rw [geti_of (j := start.toNat) (by omega) (by omega)]; simp [List.getD_eq_getElem?_getD, show start.toNat < f.steps.length from by omega]) rfl rfl rfl rfl rfl rfl ?_
   intro b p ys hep hrc
   exact ⟨_, rfl, Fr0.refl _, b, p, ys, rfl, hep, hrc⟩
  refine D_cons (D_step2 (js := [(7, 28)]) (by kernel_rfl) fun gd hf => ?_) ?_
  ·have hsd := hs.dr.call hf; have hfe := (G.le_dr _).trans hf.le
   refine QA_any fun v7 h7 => ?_
   refine QA_nil ?_
   obtain ⟨b, p, ys, rfl, hep, hrc⟩ := h7
   have hrv : RStepV _ (.agg ys.toArray) (stepD f start) := ⟨ys, rfl, hrc⟩
   obtain ⟨b1, b2, b3, b4, b5, b6, rfl, _, _⟩ := hrc
   refine D_yes rfl ?_
   refine OpR_loadE T.ok 0 rfl hep rfl rfl ?_
   exact ⟨_, rfl, Fr0.refl _, hrv⟩
  exact D_nil
 intro g1 hf1; refine QA_eq rfl ?_; refine QA_eq rfl ?_; refine QA_any fun v8 h8 => ?_; refine QA_nil ?_
 replace hs := hs.dr.call hf1; have hqe := (G.le_dr _).trans hf1.le; replace ep0 := ep0.mono hqe; replace ep1 := ep1.mono hqe; replace ep2 := ep2.mono hqe; replace rs0 := rs0.mono hqe; replace rs1 := rs1.mono hqe; replace fl0 := fl0.mono hqe
 replace hrc := hrc.mono hqe; replace hae := hae.mono hqe
 have hcv := CallV_of (first := #[]) (captured := #[.pointer (some ⟨bo, 0, none⟩), .pointer (some ⟨bb, 0, none⟩)]) (args := [.agg #[.int .i64 f.moveMin, .slice none 0 0], v8]) cl62 rfl
  (add_c ob f.steps.length bo bb g g1 _ 1 _ _ (.agg #[.int .i64 f.moveMin, .slice none 0 0]) v8 ⟨f.moveMin, []⟩ (stepD f start) hs rfl hrc hae ⟨_, rfl, none, 0, 0, rfl, Rs.nil _⟩ h8 (after_range hval h0 h1) (by simp))
 refine WL_o rfl rfl (OpR_callV rfl rfl rfl rfl rfl rfl (hcv.mono ?_))
 rintro _ _ ⟨g5, cells, rfl, rfl, hs5, hrc5, hqe⟩
 refine ⟨_, rfl, ?_⟩
 replace hs := hs5
 replace ep0 := ep0.mono hqe; replace ep1 := ep1.mono hqe; replace ep2 := ep2.mono hqe; replace rs0 := rs0.mono hqe; replace rs1 := rs1.mono hqe; replace fl0 := fl0.mono hqe
 replace hae := hae.mono hqe
 refine WL_nil ?_; (with_reducible refine T_then ?_); refine W_block ?_
 have hb0 : AllW (fun w => (0 ≤ w.time ∧ w.time ≤ 20000 * ((w.steps.length : Int) + 1)) ∧ w.steps.length + (List.replicate f.steps.length false).count false ≤ f.steps.length) (addAll ⟨f.moveMin, []⟩ (List.replicate f.steps.length none) (afterL (stepD f start))) := by
  refine AllW.addAll ?_ _ ?_
  ·have hmv := valid_moves hval
   simp; omega
  ·intro w hw
   have := List.eq_of_mem_replicate hw
   cases this
 have ep0c := ep0; have rs0c := rs0; have haec := hae; have le5 := G.le.refl g5
 refine W_loop (fun m a' w => ∃ (out : List (Option Wy)) (cells : List Value) (done : List Bool) (g' : G), w = g'.w ∧ St g g' [rowB od f.steps.length done, rowW ob f.steps.length cells] ∧ G.le g5 g' ∧ RcL g' cells out ∧ out.length = f.steps.length ∧ done.length = f.steps.length ∧
   m = done.count false ∧ AllW (fun w => (0 ≤ w.time ∧ w.time ≤ 20000 * ((w.steps.length : Int) + 1)) ∧ w.steps.length + done.count false ≤ f.steps.length) out ∧ waysGo f (m + 1) out done = ways f start ∧
   Fr 109 [] [(2, .pointer (some ⟨bf, 0, none⟩)), (5, .pointer (some ⟨bo, 0, none⟩)), (6, .slice (some ⟨od, 0, none⟩) f.steps.length f.steps.length), (7, .pointer (some ⟨bb, 0, none⟩)), (8, .func (.func 62) #[] #[.pointer (some ⟨bo, 0, none⟩), .pointer (some ⟨bb, 0, none⟩)])] a') f.steps.length
  (fun a' ha => ⟨_, cells, _, g5, rfl, hs, le5, hrc5, by rw [addAll_len]; simp, by simp, by simp, hb0, rfl, ha.keep (by (repeat (first | exact trivial | refine ⟨rfl, ?_⟩)))⟩) ?_
 clear hs le5 hae ep0 ep1 ep2 rs0 rs1 hrc hrc5 hst hqe
 rintro m a' _ ⟨out, cells, done, g', rfl, hs, le5, hrc, hol, hdl, rfl, hbd, hno, ha'⟩
 have ep0 := ep0c.mono le5; have rs0 := rs0c.mono le5; have hae := haec.mono le5
 have ep1 := hae.epo
 have ep2 := hae.epb
 revert a'
 (with_reducible refine T_wp ?_); refine W_block ?_; refine W_seq ?_; refine W_region ?_; refine P1 T.ok rfl rfl rfl ?_; refine WL_nil ?_; (with_reducible refine T_then ?_); refine W_seq ?_; refine W_seq ?_; refine W_region ?_; refine WL_o rfl rfl (OpR_loadE T.ok 0 rfl ep1 rfl rfl ?_); refine P1 T.ok rfl rfl rfl ?_; refine P1 T.ok rfl rfl rfl ?_; refine WL_nil ?_; (with_reducible refine T_then ?_); refine W_block ?_
 have le6 := G.le.refl g'
 have haed := hae; have hrcd := hrc; have rs0d := rs0; have ep0d := ep0
 refine W_loop (fun m a' w => ∃ (k : Nat) (g2 : G), w = g2.w ∧ St g g2 [rowB od f.steps.length done, rowW ob f.steps.length cells] ∧ G.le g' g2 ∧ k ≤ f.steps.length ∧ m = f.steps.length - k ∧
   Fr 109 [] [(2, .pointer (some ⟨bf, 0, none⟩)), (5, .pointer (some ⟨bo, 0, none⟩)), (6, .slice (some ⟨od, 0, none⟩) f.steps.length f.steps.length), (7, .pointer (some ⟨bb, 0, none⟩)), (8, .func (.func 62) #[] #[.pointer (some ⟨bo, 0, none⟩), .pointer (some ⟨bb, 0, none⟩)]),
    (9, .int .i64 (pickTo out done k)), (31, .slice (some ⟨ob, 0, none⟩) f.steps.length f.steps.length), (32, .int .i64 f.steps.length), (33, .int .i64 k)] a') f.steps.length
  (fun a' ha => ⟨0, g', rfl, hs, le6, Nat.zero_le _, rfl, ha.keep (by (repeat (first | exact trivial | refine ⟨rfl, ?_⟩)))⟩) ?_
 clear hs le6 hae ep0 ep1 ep2 rs0 hrc
 rintro m a' _ ⟨k, g2, rfl, hs, le6, hk, rfl, ha'⟩
 have ep0 := ep0d.mono le6; have rs0 := rs0d.mono le6; have hae := haed.mono le6; have hrc := hrcd.mono le6
 have ep1 := hae.epo
 have ep2 := hae.epb
 revert a'
 (with_reducible refine T_wp ?_); refine W_seq ?_; refine W_region ?_; refine P1 T.ok rfl rfl rfl ?_; refine WL_nil ?_; (with_reducible refine T_then ?_); refine W_seq ?_
 by_cases hlt : k < f.steps.length
 ·refine W_yes (b := decide ((k : Int) < (f.steps.length : Int))) (by simp; omega) rfl ?_
  have hps := pickTo_succ out done k
  unfold pickStep at hps
  obtain ⟨c, hc1, hc2⟩ := RcL.opt hrc k (by omega)
  have hok : out.getD k none = out[k] := by rw [List.getD_eq_getElem?_getD, List.getElem?_eq_getElem (by omega)]; rfl
  rw [hok] at hps
  refine W_skip ?_; (with_reducible refine T_then ?_); refine W_seq ?_; refine W_block ?_; refine W_seq ?_; refine W_region ?_; refine P1 T.ok rfl rfl rfl ?_
  refine WL_o rfl rfl (OpR_idxR T.ok rfl (hs.own 1 _ rfl).1 (by omega) (by omega) rfl rfl rfl rfl rfl rfl ?_)
  rintro b p hh; obtain ⟨rfl, rfl⟩ : ob = b ∧ 0 = p := by simpa using hh
  refine WL_o rfl rfl (OpR_loadR T.ok ((k : Int).toNat * 1) rfl (hs.own 1 _ rfl).1 rfl (v := c) (by show cells[(k : Int).toNat * 1]? = _; rw [Nat.mul_one]; exact hc1) ?_)
  refine P1 T.ok rfl rfl rfl ?_; refine P1 T.ok rfl rfl rfl ?_; refine WL_nil ?_; (with_reducible refine T_then ?_); refine W_seq ?_
  have hdk : k < done.length := by omega
  have hdg : done.getD k true = done[k] := by rw [List.getD_eq_getElem?_getD, List.getElem?_eq_getElem hdk]; rfl
  rw [hdg] at hps
  have hpo := pickTo_ok out done k
  cases hb : out[k] with
  | none =>
   rw [hb] at hc2 hps
   obtain rfl : c = .pointer none := by simpa using (show [c] = [Value.pointer none] from hc2)
   simp only at hps
   apply W_draw allF rfl (Fact.eq _ :: Fact.eq _ :: Fact.eq _ :: Fact.eq _ :: Fact.eq _ :: Fact.eq _ :: Fact.eq _ :: Fact.eq _ :: Fact.eq _ :: Fact.eq _ :: Fact.eq _ :: Fact.eq _ :: Fact.eq _ :: Fact.eq _ :: Fact.eq _ :: Fact.eq _ :: Fact.eq _ :: Fact.eq _ :: Fact.eq _ :: Fact.eq _ :: Fact.eq _ :: Fact.eq _ :: Fact.eq _ :: Fact.eq _ :: Fact.eq _ :: Fact.eq _ :: Fact.eq _ :: []) 27 [(26, 64)] rfl rfl
   ·refine D_s (js := []) (by kernel_rfl) (fun _ _ => QA_nil (DPu T.ok rfl rfl rfl)) ?_
    refine D_cons (D_step2 (js := [(0, 38)]) (by kernel_rfl) fun gd hf => ?_) ?_
    ·have hsd := hs.dr.call hf; have hfe := (G.le_dr _).trans hf.le
     refine QA_eq rfl ?_
     refine QA_nil ?_
     refine D_yes rfl ?_
     refine OpR_eqNilPtr T.ok (neg := true) rfl rfl rfl rfl rfl ?_
     refine ⟨_, rfl, Fr0.refl _, ?_⟩
     exact rfl
    refine D_s (js := [(1, 39)]) (by kernel_rfl) (fun _ _ => QA_eq rfl (QA_nil (DPu T.ok rfl rfl rfl))) ?_
    refine D_s (js := [(2, 40)]) (by kernel_rfl) (fun _ _ => QA_eq rfl (QA_nil (DNo rfl rfl))) ?_
    refine D_s (js := [(2, 40)]) (by kernel_rfl) (fun _ _ => QA_eq rfl (QA_nil (DNo rfl rfl))) ?_
    refine D_s (js := [(3, 41), (4, 42), (2, 40)]) (by kernel_rfl) (fun _ _ => QA_eq rfl (QA_eq rfl (QA_eq rfl (QA_nil (DNo rfl rfl))))) ?_
    refine D_s (js := [(5, 43), (2, 40)]) (by kernel_rfl) (fun _ _ => QA_eq rfl (QA_eq rfl (QA_nil (DNo rfl rfl)))) ?_
    refine D_s (js := [(6, 44), (2, 40)]) (by kernel_rfl) (fun _ _ => QA_eq rfl (QA_eq rfl (QA_nil (DNo rfl rfl)))) ?_
    refine D_s (js := [(2, 40), (7, 45)]) (by kernel_rfl) (fun _ _ => QA_eq rfl (QA_eq rfl (QA_nil (DPu T.ok rfl rfl rfl)))) ?_
    refine D_s (js := [(8, 46)]) (by kernel_rfl) (fun _ _ => QA_eq rfl (QA_nil (DPu T.ok rfl rfl rfl))) ?_
    refine D_s (js := [(9, 47)]) (by kernel_rfl) (fun _ _ => QA_eq rfl (QA_nil (DNo rfl rfl))) ?_
    refine D_s (js := [(10, 48), (9, 47)]) (by kernel_rfl) (fun _ _ => QA_eq rfl (QA_eq rfl (QA_nil (DNo rfl rfl)))) ?_
    refine D_s (js := [(11, 49), (9, 47), (9, 47)]) (by kernel_rfl) (fun _ _ => QA_eq rfl (QA_eq rfl (QA_eq rfl (QA_nil (DNo rfl rfl))))) ?_
    refine D_s (js := [(12, 50)]) (by kernel_rfl) (fun _ _ => QA_eq rfl (QA_nil (DNo rfl rfl))) ?_
    refine D_s (js := [(12, 50)]) (by kernel_rfl) (fun _ _ => QA_eq rfl (QA_nil (DNo rfl rfl))) ?_
    refine D_s (js := [(14, 52), (12, 50)]) (by kernel_rfl) (fun _ _ => QA_eq rfl (QA_eq rfl (QA_nil (DNo rfl rfl)))) ?_
    refine D_s (js := [(15, 53), (12, 50)]) (by kernel_rfl) (fun _ _ => QA_eq rfl (QA_eq rfl (QA_nil (DNo rfl rfl)))) ?_
    refine D_s (js := [(12, 50)]) (by kernel_rfl) (fun _ _ => QA_eq rfl (QA_nil (DNo rfl rfl))) ?_
    refine D_s (js := [(12, 50)]) (by kernel_rfl) (fun _ _ => QA_eq rfl (QA_nil (DNo rfl rfl))) ?_
    refine D_s (js := [(17, 55), (18, 56), (12, 50)]) (by kernel_rfl) (fun _ _ => QA_eq rfl (QA_eq rfl (QA_eq rfl (QA_nil (DNo rfl rfl))))) ?_
    refine D_s (js := [(19, 57), (12, 50)]) (by kernel_rfl) (fun _ _ => QA_eq rfl (QA_eq rfl (QA_nil (DNo rfl rfl)))) ?_
    refine D_s (js := [(20, 58), (12, 50)]) (by kernel_rfl) (fun _ _ => QA_eq rfl (QA_eq rfl (QA_nil (DNo rfl rfl)))) ?_
    refine D_s (js := [(21, 59), (12, 50)]) (by kernel_rfl) (fun _ _ => QA_eq rfl (QA_eq rfl (QA_nil (DNo rfl rfl)))) ?_
    refine D_s (js := [(13, 51), (16, 54), (22, 60), (12, 50), (12, 50)]) (by kernel_rfl) (fun _ _ => QA_eq rfl (QA_eq rfl (QA_eq rfl (QA_eq rfl (QA_eq rfl (QA_nil (DNo rfl rfl))))))) ?_
    refine D_s (js := [(23, 61), (12, 50)]) (by kernel_rfl) (fun _ _ => QA_eq rfl (QA_eq rfl (QA_nil (DNo rfl rfl)))) ?_
    refine D_s (js := [(12, 50), (24, 62), (9, 47)]) (by kernel_rfl) (fun _ _ => QA_eq rfl (QA_eq rfl (QA_eq rfl (QA_nil (DNo rfl rfl))))) ?_
    refine D_s (js := [(9, 47), (25, 63)]) (by kernel_rfl) (fun _ _ => QA_eq rfl (QA_eq rfl (QA_nil (DPu T.ok rfl rfl rfl)))) ?_
    exact D_nil
   intro g1 hf1; refine QA_eq rfl ?_; refine QA_nil ?_
   replace hs := hs.dr.call hf1; have hqe := (G.le_dr _).trans hf1.le; replace ep0 := ep0.mono hqe; replace ep1 := ep1.mono hqe; replace ep2 := ep2.mono hqe; replace rs0 := rs0.mono hqe
   replace le6 := le6.trans hqe
   refine WL_nil ?_; (with_reducible refine T_then ?_)
   refine W_no rfl rfl ?_
   refine W_skip ?_; (with_reducible refine T_bn ?_); (with_reducible refine T_then ?_); refine W_region ?_; refine P1 T.ok rfl rfl rfl ?_; refine P1 T.ok rfl rfl rfl ?_; refine WL_nil ?_
   exact fun a ha => ⟨f.steps.length - (k + 1), by omega, k + 1, _, rfl, hs, le6, by omega, rfl, ha.keep ⟨rfl, rfl, rfl, rfl, rfl, by rw [hps]; rfl, rfl, rfl, kI rfl (by rw [wr (by omega) (by omega)]; omega), trivial⟩⟩
  | some w =>
   rw [hb] at hc2 hps
   obtain ⟨bo2, ys, hcc, hold, hry⟩ := (show ∃ b ys, [c] = [Value.pointer (some ⟨b, 0, none⟩)] ∧ EP g2 b 0 ys ∧ RWay g2 ys w from hc2)
   obtain rfl : c = .pointer (some ⟨bo2, 0, none⟩) := by simpa using hcc
   obtain ⟨a7, n7, c7, rfl, rs7⟩ := hry
   simp only at hps
   cases hdn : done[k] with
   | true =>
    rw [hdn, if_pos rfl] at hps
    apply W_draw allF rfl (Fact.eq _ :: Fact.eq _ :: Fact.eq _ :: Fact.eq _ :: Fact.eq _ :: Fact.eq _ :: Fact.eq _ :: Fact.eq _ :: Fact.eq _ :: Fact.eq _ :: Fact.eq _ :: Fact.eq _ :: Fact.eq _ :: Fact.eq _ :: Fact.eq _ :: Fact.eq _ :: Fact.eq _ :: Fact.eq _ :: Fact.eq _ :: Fact.eq _ :: Fact.eq _ :: Fact.eq _ :: Fact.eq _ :: Fact.eq _ :: Fact.eq _ :: Fact.eq _ :: Fact.eq _ :: []) 27 [(26, 64)] rfl rfl
    ·refine D_s (js := []) (by kernel_rfl) (fun _ _ => QA_nil (DPu T.ok rfl rfl rfl)) ?_
     refine D_cons (D_step2 (js := [(0, 38)]) (by kernel_rfl) fun gd hf => ?_) ?_
     ·have hsd := hs.dr.call hf; have hfe := (G.le_dr _).trans hf.le
      refine QA_eq rfl ?_
      refine QA_nil ?_
      refine D_yes rfl ?_
      refine OpR_eqNilPtr T.ok (neg := true) rfl rfl rfl rfl rfl ?_
      refine ⟨_, rfl, Fr0.refl _, ?_⟩
      exact rfl
     refine D_s (js := [(1, 39)]) (by kernel_rfl) (fun _ _ => QA_eq rfl (QA_nil (DPu T.ok rfl rfl rfl))) ?_
     refine D_s (js := [(2, 40)]) (by kernel_rfl) (fun _ _ => QA_eq rfl (QA_nil (DPu T.ok rfl rfl rfl))) ?_
     refine D_s (js := [(2, 40)]) (by kernel_rfl) (fun _ _ => QA_eq rfl (QA_nil (DPu T.ok rfl rfl rfl))) ?_
     refine D_cons (D_step2 (js := [(3, 41), (4, 42), (2, 40)]) (by kernel_rfl) fun gd hf => ?_) ?_
     ·have hsd := hs.dr.call hf; have hfe := (G.le_dr _).trans hf.le
      refine QA_eq rfl ?_; refine QA_eq rfl ?_; refine QA_eq rfl ?_
      refine QA_nil ?_
      refine D_yes rfl ?_
      refine OpR_idxR T.ok rfl (hsd.own 0 _ rfl).1 (by omega) (by omega) rfl rfl rfl rfl rfl rfl ?_
      intro b p hh
      obtain ⟨rfl, rfl⟩ : od = b ∧ 0 = p := by simpa using hh
      refine ⟨_, rfl, Fr0.refl _, ?_⟩
      exact rfl
     refine D_cons (D_step2 (js := [(5, 43), (2, 40)]) (by kernel_rfl) fun gd hf => ?_) ?_
     ·have hsd := hs.dr.call hf; have hfe := (G.le_dr _).trans hf.le
      refine QA_eq rfl ?_; refine QA_eq rfl ?_
      refine QA_nil ?_
      refine D_yes rfl ?_
      refine OpR_loadR T.ok ((k : Int).toNat * 1) rfl (hsd.own 0 _ rfl).1 rfl (v := .bool true) (by show (List.map Value.bool done)[(k : Int).toNat * 1]? = _; rw [Nat.mul_one, List.getElem?_map]; show Option.map _ done[k]? = _; rw [List.getElem?_eq_getElem hdk, hdn]; rfl) ?_
      refine ⟨_, rfl, Fr0.refl _, ?_⟩
      exact rfl
     refine D_s (js := [(6, 44), (2, 40)]) (by kernel_rfl) (fun _ _ => QA_eq rfl (QA_eq rfl (QA_nil (DPu T.ok rfl rfl rfl)))) ?_
     refine D_s (js := [(2, 40), (7, 45)]) (by kernel_rfl) (fun _ _ => QA_eq rfl (QA_eq rfl (QA_nil (DPu T.ok rfl rfl rfl)))) ?_
     refine D_s (js := [(8, 46)]) (by kernel_rfl) (fun _ _ => QA_eq rfl (QA_nil (DPu T.ok rfl rfl rfl))) ?_
     refine D_s (js := [(9, 47)]) (by kernel_rfl) (fun _ _ => QA_eq rfl (QA_nil (DNo rfl rfl))) ?_
     refine D_s (js := [(10, 48), (9, 47)]) (by kernel_rfl) (fun _ _ => QA_eq rfl (QA_eq rfl (QA_nil (DNo rfl rfl)))) ?_
     refine D_s (js := [(11, 49), (9, 47), (9, 47)]) (by kernel_rfl) (fun _ _ => QA_eq rfl (QA_eq rfl (QA_eq rfl (QA_nil (DNo rfl rfl))))) ?_
     refine D_s (js := [(12, 50)]) (by kernel_rfl) (fun _ _ => QA_eq rfl (QA_nil (DNo rfl rfl))) ?_
     refine D_s (js := [(12, 50)]) (by kernel_rfl) (fun _ _ => QA_eq rfl (QA_nil (DNo rfl rfl))) ?_
     refine D_s (js := [(14, 52), (12, 50)]) (by kernel_rfl) (fun _ _ => QA_eq rfl (QA_eq rfl (QA_nil (DNo rfl rfl)))) ?_
     refine D_s (js := [(15, 53), (12, 50)]) (by kernel_rfl) (fun _ _ => QA_eq rfl (QA_eq rfl (QA_nil (DNo rfl rfl)))) ?_
     refine D_s (js := [(12, 50)]) (by kernel_rfl) (fun _ _ => QA_eq rfl (QA_nil (DNo rfl rfl))) ?_
     refine D_s (js := [(12, 50)]) (by kernel_rfl) (fun _ _ => QA_eq rfl (QA_nil (DNo rfl rfl))) ?_
     refine D_s (js := [(17, 55), (18, 56), (12, 50)]) (by kernel_rfl) (fun _ _ => QA_eq rfl (QA_eq rfl (QA_eq rfl (QA_nil (DNo rfl rfl))))) ?_
     refine D_s (js := [(19, 57), (12, 50)]) (by kernel_rfl) (fun _ _ => QA_eq rfl (QA_eq rfl (QA_nil (DNo rfl rfl)))) ?_
     refine D_s (js := [(20, 58), (12, 50)]) (by kernel_rfl) (fun _ _ => QA_eq rfl (QA_eq rfl (QA_nil (DNo rfl rfl)))) ?_
     refine D_s (js := [(21, 59), (12, 50)]) (by kernel_rfl) (fun _ _ => QA_eq rfl (QA_eq rfl (QA_nil (DNo rfl rfl)))) ?_
     refine D_s (js := [(13, 51), (16, 54), (22, 60), (12, 50), (12, 50)]) (by kernel_rfl) (fun _ _ => QA_eq rfl (QA_eq rfl (QA_eq rfl (QA_eq rfl (QA_eq rfl (QA_nil (DNo rfl rfl))))))) ?_
     refine D_s (js := [(23, 61), (12, 50)]) (by kernel_rfl) (fun _ _ => QA_eq rfl (QA_eq rfl (QA_nil (DNo rfl rfl)))) ?_
     refine D_s (js := [(12, 50), (24, 62), (9, 47)]) (by kernel_rfl) (fun _ _ => QA_eq rfl (QA_eq rfl (QA_eq rfl (QA_nil (DNo rfl rfl))))) ?_
     refine D_s (js := [(9, 47), (25, 63)]) (by kernel_rfl) (fun _ _ => QA_eq rfl (QA_eq rfl (QA_nil (DPu T.ok rfl rfl rfl)))) ?_
     exact D_nil
    intro g1 hf1; refine QA_eq rfl ?_; refine QA_nil ?_
    replace hs := hs.dr.call hf1; have hqe := (G.le_dr _).trans hf1.le; replace ep0 := ep0.mono hqe; replace ep1 := ep1.mono hqe; replace ep2 := ep2.mono hqe; replace rs0 := rs0.mono hqe; replace rs7 := rs7.mono hqe
    replace le6 := le6.trans hqe
    refine WL_nil ?_; (with_reducible refine T_then ?_)
    refine W_no rfl rfl ?_
    refine W_skip ?_; (with_reducible refine T_bn ?_); (with_reducible refine T_then ?_); refine W_region ?_; refine P1 T.ok rfl rfl rfl ?_; refine P1 T.ok rfl rfl rfl ?_; refine WL_nil ?_
    exact fun a ha => ⟨f.steps.length - (k + 1), by omega, k + 1, _, rfl, hs, le6, by omega, rfl, ha.keep ⟨rfl, rfl, rfl, rfl, rfl, by rw [hps]; rfl, rfl, rfl, kI rfl (by rw [wr (by omega) (by omega)]; omega), trivial⟩⟩
   | false =>
    rw [hdn, if_neg (by simp)] at hps
    by_cases hneg : pickTo out done k < 0
    ·rw [if_pos hneg] at hps
     apply W_draw allF rfl (Fact.eq _ :: Fact.eq _ :: Fact.eq _ :: Fact.eq _ :: Fact.eq _ :: Fact.eq _ :: Fact.eq _ :: Fact.eq _ :: Fact.eq _ :: Fact.eq _ :: Fact.eq _ :: Fact.eq _ :: Fact.eq _ :: Fact.eq _ :: Fact.eq _ :: Fact.eq _ :: Fact.eq _ :: Fact.eq _ :: Fact.eq _ :: Fact.eq _ :: Fact.eq _ :: Fact.eq _ :: Fact.eq _ :: Fact.eq _ :: Fact.eq _ :: Fact.eq _ :: Fact.eq _ :: []) 27 [(26, 64)] rfl rfl
     ·refine D_s (js := []) (by kernel_rfl) (fun _ _ => QA_nil (DPu T.ok rfl rfl rfl)) ?_
      refine D_cons (D_step2 (js := [(0, 38)]) (by kernel_rfl) fun gd hf => ?_) ?_
      ·have hsd := hs.dr.call hf; have hfe := (G.le_dr _).trans hf.le
       refine QA_eq rfl ?_
       refine QA_nil ?_
       refine D_yes rfl ?_
       refine OpR_eqNilPtr T.ok (neg := true) rfl rfl rfl rfl rfl ?_
       refine ⟨_, rfl, Fr0.refl _, ?_⟩
       exact rfl
      refine D_s (js := [(1, 39)]) (by kernel_rfl) (fun _ _ => QA_eq rfl (QA_nil (DPu T.ok rfl rfl rfl))) ?_
      refine D_s (js := [(2, 40)]) (by kernel_rfl) (fun _ _ => QA_eq rfl (QA_nil (DPu T.ok rfl rfl rfl))) ?_
      refine D_s (js := [(2, 40)]) (by kernel_rfl) (fun _ _ => QA_eq rfl (QA_nil (DPu T.ok rfl rfl rfl))) ?_
      refine D_cons (D_step2 (js := [(3, 41), (4, 42), (2, 40)]) (by kernel_rfl) fun gd hf => ?_) ?_
      ·have hsd := hs.dr.call hf; have hfe := (G.le_dr _).trans hf.le
       refine QA_eq rfl ?_; refine QA_eq rfl ?_; refine QA_eq rfl ?_
       refine QA_nil ?_
       refine D_yes rfl ?_
       refine OpR_idxR T.ok rfl (hsd.own 0 _ rfl).1 (by omega) (by omega) rfl rfl rfl rfl rfl rfl ?_
       intro b p hh
       obtain ⟨rfl, rfl⟩ : od = b ∧ 0 = p := by simpa using hh
       refine ⟨_, rfl, Fr0.refl _, ?_⟩
       exact rfl
      refine D_cons (D_step2 (js := [(5, 43), (2, 40)]) (by kernel_rfl) fun gd hf => ?_) ?_
      ·have hsd := hs.dr.call hf; have hfe := (G.le_dr _).trans hf.le
       refine QA_eq rfl ?_; refine QA_eq rfl ?_
       refine QA_nil ?_
       refine D_yes rfl ?_
       refine OpR_loadR T.ok ((k : Int).toNat * 1) rfl (hsd.own 0 _ rfl).1 rfl (v := .bool false) (by show (List.map Value.bool done)[(k : Int).toNat * 1]? = _; rw [Nat.mul_one, List.getElem?_map]; show Option.map _ done[k]? = _; rw [List.getElem?_eq_getElem hdk, hdn]; rfl) ?_
       refine ⟨_, rfl, Fr0.refl _, ?_⟩
       exact rfl
      refine D_s (js := [(6, 44), (2, 40)]) (by kernel_rfl) (fun _ _ => QA_eq rfl (QA_eq rfl (QA_nil (DPu T.ok rfl rfl rfl)))) ?_
      refine D_s (js := [(2, 40), (7, 45)]) (by kernel_rfl) (fun _ _ => QA_eq rfl (QA_eq rfl (QA_nil (DPu T.ok rfl rfl rfl)))) ?_
      refine D_s (js := [(8, 46)]) (by kernel_rfl) (fun _ _ => QA_eq rfl (QA_nil (DPu T.ok rfl rfl rfl))) ?_
      refine D_s (js := [(9, 47)]) (by kernel_rfl) (fun _ _ => QA_eq rfl (QA_nil (DPu T.ok rfl rfl rfl))) ?_
      refine D_cons (D_step2 (js := [(10, 48), (9, 47)]) (by kernel_rfl) fun gd hf => ?_) ?_
      ·have hsd := hs.dr.call hf; have hfe := (G.le_dr _).trans hf.le
       refine QA_eq rfl ?_; refine QA_eq rfl ?_
       refine QA_nil ?_
       refine D_yes rfl ?_
       refine OpR_pure _ T.ok rfl ?_
       refine ⟨_, rfl, Fr0.refl _, ?_⟩
       exact congrArg Value.bool (decide_eq_true hneg)
      refine D_s (js := [(11, 49), (9, 47), (9, 47)]) (by kernel_rfl) (fun _ _ => QA_eq rfl (QA_eq rfl (QA_eq rfl (QA_nil (DPu T.ok rfl rfl rfl))))) ?_
      refine D_s (js := [(12, 50)]) (by kernel_rfl) (fun _ _ => QA_eq rfl (QA_nil (DNo rfl rfl))) ?_
      refine D_s (js := [(12, 50)]) (by kernel_rfl) (fun _ _ => QA_eq rfl (QA_nil (DNo rfl rfl))) ?_
      refine D_s (js := [(14, 52), (12, 50)]) (by kernel_rfl) (fun _ _ => QA_eq rfl (QA_eq rfl (QA_nil (DNo rfl rfl)))) ?_
      refine D_s (js := [(15, 53), (12, 50)]) (by kernel_rfl) (fun _ _ => QA_eq rfl (QA_eq rfl (QA_nil (DNo rfl rfl)))) ?_
      refine D_s (js := [(12, 50)]) (by kernel_rfl) (fun _ _ => QA_eq rfl (QA_nil (DNo rfl rfl))) ?_
      refine D_s (js := [(12, 50)]) (by kernel_rfl) (fun _ _ => QA_eq rfl (QA_nil (DNo rfl rfl))) ?_
      refine D_s (js := [(17, 55), (18, 56), (12, 50)]) (by kernel_rfl) (fun _ _ => QA_eq rfl (QA_eq rfl (QA_eq rfl (QA_nil (DNo rfl rfl))))) ?_
      refine D_s (js := [(19, 57), (12, 50)]) (by kernel_rfl) (fun _ _ => QA_eq rfl (QA_eq rfl (QA_nil (DNo rfl rfl)))) ?_
      refine D_s (js := [(20, 58), (12, 50)]) (by kernel_rfl) (fun _ _ => QA_eq rfl (QA_eq rfl (QA_nil (DNo rfl rfl)))) ?_
      refine D_s (js := [(21, 59), (12, 50)]) (by kernel_rfl) (fun _ _ => QA_eq rfl (QA_eq rfl (QA_nil (DNo rfl rfl)))) ?_
      refine D_s (js := [(13, 51), (16, 54), (22, 60), (12, 50), (12, 50)]) (by kernel_rfl) (fun _ _ => QA_eq rfl (QA_eq rfl (QA_eq rfl (QA_eq rfl (QA_eq rfl (QA_nil (DNo rfl rfl))))))) ?_
      refine D_s (js := [(23, 61), (12, 50)]) (by kernel_rfl) (fun _ _ => QA_eq rfl (QA_eq rfl (QA_nil (DNo rfl rfl)))) ?_
      refine D_s (js := [(12, 50), (24, 62), (9, 47)]) (by kernel_rfl) (fun _ _ => QA_eq rfl (QA_eq rfl (QA_eq rfl (QA_nil (DPu T.ok rfl rfl rfl))))) ?_
      refine D_s (js := [(9, 47), (25, 63)]) (by kernel_rfl) (fun _ _ => QA_eq rfl (QA_eq rfl (QA_nil (DPu T.ok rfl rfl rfl)))) ?_
      exact D_nil
     intro g1 hf1; refine QA_eq rfl ?_; refine QA_nil ?_
     replace hs := hs.dr.call hf1; have hqe := (G.le_dr _).trans hf1.le; replace ep0 := ep0.mono hqe; replace ep1 := ep1.mono hqe; replace ep2 := ep2.mono hqe; replace rs0 := rs0.mono hqe; replace rs7 := rs7.mono hqe
     replace le6 := le6.trans hqe
     refine WL_nil ?_; (with_reducible refine T_then ?_)
     refine W_yes rfl rfl ?_
     refine W_region ?_; refine P1 T.ok rfl rfl rfl ?_; refine P1 T.ok rfl rfl rfl ?_; refine WL_nil ?_; (with_reducible refine T_bn ?_); (with_reducible refine T_then ?_); refine W_region ?_; refine P1 T.ok rfl rfl rfl ?_; refine P1 T.ok rfl rfl rfl ?_; refine WL_nil ?_
     exact fun a ha => ⟨f.steps.length - (k + 1), by omega, k + 1, _, rfl, hs, le6, by omega, rfl, ha.keep ⟨rfl, rfl, rfl, rfl, rfl, by rw [hps]; rfl, rfl, rfl, kI rfl (by rw [wr (by omega) (by omega)]; omega), trivial⟩⟩
    ·rw [if_neg hneg] at hps
     rcases hpo with h | ⟨hp1, hp2, ⟨wb, hp3⟩, _⟩
     ·omega
     rw [hp3] at hps
     have hpl : (pickTo out done k).toNat < out.length := by omega
     obtain ⟨cb, hcb1, hcb2⟩ := RcL.opt hrc _ hpl
     have hwb : out[(pickTo out done k).toNat] = some wb := by rw [List.getD_eq_getElem?_getD, List.getElem?_eq_getElem hpl] at hp3; exact hp3
     rw [hwb] at hcb2
     obtain ⟨bo3, ys3, hcc3, hold3, hry3⟩ := (show ∃ b ys, [cb] = [Value.pointer (some ⟨b, 0, none⟩)] ∧ EP g2 b 0 ys ∧ RWay g2 ys wb from hcb2)
     obtain rfl : cb = .pointer (some ⟨bo3, 0, none⟩) := by simpa using hcc3
     obtain ⟨a8, n8, c8, rfl, rs8⟩ := hry3
     apply W_draw allF rfl (Fact.eq _ :: Fact.eq _ :: Fact.eq _ :: Fact.eq _ :: Fact.eq _ :: Fact.eq _ :: Fact.eq _ :: Fact.eq _ :: Fact.eq _ :: Fact.eq _ :: Fact.eq _ :: Fact.eq _ :: Fact.eq _ :: Fact.eq _ :: Fact.eq _ :: Fact.eq _ :: Fact.eq _ :: Fact.eq _ :: Fact.eq _ :: Fact.eq _ :: Fact.eq _ :: Fact.eq _ :: Fact.eq _ :: Fact.eq _ :: Fact.eq _ :: Fact.eq _ :: Fact.eq _ :: []) 27 [(26, 64)] rfl rfl
     ·refine D_s (js := []) (by kernel_rfl) (fun _ _ => QA_nil (DPu T.ok rfl rfl rfl)) ?_
      refine D_cons (D_step2 (js := [(0, 38)]) (by kernel_rfl) fun gd hf => ?_) ?_
      ·have hsd := hs.dr.call hf; have hfe := (G.le_dr _).trans hf.le
       refine QA_eq rfl ?_
       refine QA_nil ?_
       refine D_yes rfl ?_
       refine OpR_eqNilPtr T.ok (neg := true) rfl rfl rfl rfl rfl ?_
       refine ⟨_, rfl, Fr0.refl _, ?_⟩
       exact rfl
      refine D_s (js := [(1, 39)]) (by kernel_rfl) (fun _ _ => QA_eq rfl (QA_nil (DPu T.ok rfl rfl rfl))) ?_
      refine D_s (js := [(2, 40)]) (by kernel_rfl) (fun _ _ => QA_eq rfl (QA_nil (DPu T.ok rfl rfl rfl))) ?_
      refine D_s (js := [(2, 40)]) (by kernel_rfl) (fun _ _ => QA_eq rfl (QA_nil (DPu T.ok rfl rfl rfl))) ?_
      refine D_cons (D_step2 (js := [(3, 41), (4, 42), (2, 40)]) (by kernel_rfl) fun gd hf => ?_) ?_
      ·have hsd := hs.dr.call hf; have hfe := (G.le_dr _).trans hf.le
       refine QA_eq rfl ?_; refine QA_eq rfl ?_; refine QA_eq rfl ?_
       refine QA_nil ?_
       refine D_yes rfl ?_
       refine OpR_idxR T.ok rfl (hsd.own 0 _ rfl).1 (by omega) (by omega) rfl rfl rfl rfl rfl rfl ?_
       intro b p hh
       obtain ⟨rfl, rfl⟩ : od = b ∧ 0 = p := by simpa using hh
       refine ⟨_, rfl, Fr0.refl _, ?_⟩
       exact rfl
      refine D_cons (D_step2 (js := [(5, 43), (2, 40)]) (by kernel_rfl) fun gd hf => ?_) ?_
      ·have hsd := hs.dr.call hf; have hfe := (G.le_dr _).trans hf.le
       refine QA_eq rfl ?_; refine QA_eq rfl ?_
       refine QA_nil ?_
       refine D_yes rfl ?_
       refine OpR_loadR T.ok ((k : Int).toNat * 1) rfl (hsd.own 0 _ rfl).1 rfl (v := .bool false) (by show (List.map Value.bool done)[(k : Int).toNat * 1]? = _; rw [Nat.mul_one, List.getElem?_map]; show Option.map _ done[k]? = _; rw [List.getElem?_eq_getElem hdk, hdn]; rfl) ?_
       refine ⟨_, rfl, Fr0.refl _, ?_⟩
       exact rfl
      refine D_s (js := [(6, 44), (2, 40)]) (by kernel_rfl) (fun _ _ => QA_eq rfl (QA_eq rfl (QA_nil (DPu T.ok rfl rfl rfl)))) ?_
      refine D_s (js := [(2, 40), (7, 45)]) (by kernel_rfl) (fun _ _ => QA_eq rfl (QA_eq rfl (QA_nil (DPu T.ok rfl rfl rfl)))) ?_
      refine D_s (js := [(8, 46)]) (by kernel_rfl) (fun _ _ => QA_eq rfl (QA_nil (DPu T.ok rfl rfl rfl))) ?_
      refine D_s (js := [(9, 47)]) (by kernel_rfl) (fun _ _ => QA_eq rfl (QA_nil (DPu T.ok rfl rfl rfl))) ?_
      refine D_cons (D_step2 (js := [(10, 48), (9, 47)]) (by kernel_rfl) fun gd hf => ?_) ?_
      ·have hsd := hs.dr.call hf; have hfe := (G.le_dr _).trans hf.le
       refine QA_eq rfl ?_; refine QA_eq rfl ?_
       refine QA_nil ?_
       refine D_yes rfl ?_
       refine OpR_pure _ T.ok rfl ?_
       refine ⟨_, rfl, Fr0.refl _, ?_⟩
       exact congrArg Value.bool (decide_eq_false hneg)
      refine D_s (js := [(11, 49), (9, 47), (9, 47)]) (by kernel_rfl) (fun _ _ => QA_eq rfl (QA_eq rfl (QA_eq rfl (QA_nil (DPu T.ok rfl rfl rfl))))) ?_
      refine D_s (js := [(12, 50)]) (by kernel_rfl) (fun _ hf => QA_eq rfl (QA_nil (DLe T.ok 0 rfl rfl (ep2.mono ((G.le_dr _).trans hf.le)) rfl rfl rfl))) ?_
      refine D_s (js := [(12, 50)]) (by kernel_rfl) (fun _ _ => QA_eq rfl (QA_nil (DPu T.ok rfl rfl rfl))) ?_
      refine D_s (js := [(14, 52), (12, 50)]) (by kernel_rfl) (fun _ _ => QA_eq rfl (QA_eq rfl (QA_nil (DPu T.ok rfl rfl rfl)))) ?_
      refine D_cons (D_step2 (js := [(15, 53), (12, 50)]) (by kernel_rfl) fun gd hf => ?_) ?_
      ·have hsd := hs.dr.call hf; have hfe := (G.le_dr _).trans hf.le
       refine QA_eq rfl ?_; refine QA_eq rfl ?_
       refine QA_nil ?_
       refine D_yes rfl ?_
       refine OpR_loadE T.ok 0 rfl (hold.mono hfe) rfl rfl ?_
       refine ⟨_, rfl, Fr0.refl _, ?_⟩
       exact rfl
      refine D_s (js := [(12, 50)]) (by kernel_rfl) (fun _ hf => QA_eq rfl (QA_nil (DLe T.ok 0 rfl rfl (ep1.mono ((G.le_dr _).trans hf.le)) rfl rfl rfl))) ?_
      refine D_s (js := [(12, 50)]) (by kernel_rfl) (fun _ _ => QA_eq rfl (QA_nil (DPu T.ok rfl rfl rfl))) ?_
      refine D_cons (D_step2 (js := [(17, 55), (18, 56), (12, 50)]) (by kernel_rfl) fun gd hf => ?_) ?_
      ·have hsd := hs.dr.call hf; have hfe := (G.le_dr _).trans hf.le
       refine QA_eq rfl ?_; refine QA_eq rfl ?_; refine QA_eq rfl ?_
       refine QA_nil ?_
       refine D_yes rfl ?_
       refine OpR_idxR T.ok rfl (hsd.own 1 _ rfl).1 hp1 (by omega) rfl rfl rfl rfl rfl rfl ?_
       intro b p hh
       obtain ⟨rfl, rfl⟩ : ob = b ∧ 0 = p := by simpa using hh
       refine ⟨_, rfl, Fr0.refl _, ?_⟩
       exact rfl
      refine D_cons (D_step2 (js := [(19, 57), (12, 50)]) (by kernel_rfl) fun gd hf => ?_) ?_
      ·have hsd := hs.dr.call hf; have hfe := (G.le_dr _).trans hf.le
       refine QA_eq rfl ?_; refine QA_eq rfl ?_
       refine QA_nil ?_
       refine D_yes rfl ?_
       refine OpR_loadR T.ok ((pickTo out done k).toNat * 1) rfl (hsd.own 1 _ rfl).1 rfl (v := .pointer (some ⟨bo3, 0, none⟩)) (by show cells[(pickTo out done k).toNat * 1]? = _; rw [Nat.mul_one]; exact hcb1) ?_
       refine ⟨_, rfl, Fr0.refl _, ?_⟩
       exact rfl
      refine D_s (js := [(20, 58), (12, 50)]) (by kernel_rfl) (fun _ _ => QA_eq rfl (QA_eq rfl (QA_nil (DPu T.ok rfl rfl rfl)))) ?_
      refine D_cons (D_step2 (js := [(21, 59), (12, 50)]) (by kernel_rfl) fun gd hf => ?_) ?_
      ·have hsd := hs.dr.call hf; have hfe := (G.le_dr _).trans hf.le
       refine QA_eq rfl ?_; refine QA_eq rfl ?_
       refine QA_nil ?_
       refine D_yes rfl ?_
       refine OpR_loadE T.ok 0 rfl (hold3.mono hfe) rfl rfl ?_
       refine ⟨_, rfl, Fr0.refl _, ?_⟩
       exact rfl
      refine D_cons (D_step2 (js := [(13, 51), (16, 54), (22, 60), (12, 50), (12, 50)]) (by kernel_rfl) fun gd hf => ?_) ?_
      ·have hsd := hs.dr.call hf; have hfe := (G.le_dr _).trans hf.le
       refine QA_eq rfl ?_; refine QA_eq rfl ?_; refine QA_eq rfl ?_; refine QA_eq rfl ?_; refine QA_eq rfl ?_
       refine QA_nil ?_
       refine D_yes rfl ?_
       refine OpR_ret cl61 allF rfl rfl rfl rfl rfl (order_c _ _ w wb _ ⟨_, rfl, _, _, _, rfl, rs7.mono hfe⟩ ⟨_, rfl, _, _, _, rfl, rs8.mono hfe⟩) fun g' v h1 h2 => ⟨g', rfl, h1, ?_⟩
       exact h2
      refine D_s (js := [(23, 61), (12, 50)]) (by kernel_rfl) (fun _ _ => QA_eq rfl (QA_eq rfl (QA_nil (DPu T.ok rfl rfl rfl)))) ?_
      refine D_s (js := [(12, 50), (24, 62), (9, 47)]) (by kernel_rfl) (fun _ _ => QA_eq rfl (QA_eq rfl (QA_eq rfl (QA_nil (DPu T.ok rfl rfl rfl))))) ?_
      refine D_s (js := [(9, 47), (25, 63)]) (by kernel_rfl) (fun _ _ => QA_eq rfl (QA_eq rfl (QA_nil (DPu T.ok rfl rfl rfl)))) ?_
      exact D_nil
     intro g1 hf1; refine QA_eq rfl ?_; refine QA_nil ?_
     replace hs := hs.dr.call hf1; have hqe := (G.le_dr _).trans hf1.le; replace ep0 := ep0.mono hqe; replace ep1 := ep1.mono hqe; replace ep2 := ep2.mono hqe; replace rs0 := rs0.mono hqe; replace rs7 := rs7.mono hqe; replace rs8 := rs8.mono hqe
     replace le6 := le6.trans hqe
     refine WL_nil ?_; (with_reducible refine T_then ?_)
     by_cases hbt : order w wb < 0
     ·refine W_yes (b := decide (order w wb < 0)) (by simp [hbt]) rfl ?_
      rw [show better w (some wb) = true from by simp [better, hbt], if_pos rfl] at hps
      refine W_region ?_; refine P1 T.ok rfl rfl rfl ?_; refine P1 T.ok rfl rfl rfl ?_; refine WL_nil ?_; (with_reducible refine T_bn ?_); (with_reducible refine T_then ?_); refine W_region ?_; refine P1 T.ok rfl rfl rfl ?_; refine P1 T.ok rfl rfl rfl ?_; refine WL_nil ?_
      exact fun a ha => ⟨f.steps.length - (k + 1), by omega, k + 1, _, rfl, hs, le6, by omega, rfl, ha.keep ⟨rfl, rfl, rfl, rfl, rfl, by rw [hps]; rfl, rfl, rfl, kI rfl (by rw [wr (by omega) (by omega)]; omega), trivial⟩⟩
     ·refine W_no (b := decide (order w wb < 0)) (by simp [hbt]) rfl ?_
      rw [show better w (some wb) = false from by simp [better, hbt], if_neg (by simp)] at hps
      refine W_skip ?_; (with_reducible refine T_bn ?_); (with_reducible refine T_then ?_); refine W_region ?_; refine P1 T.ok rfl rfl rfl ?_; refine P1 T.ok rfl rfl rfl ?_; refine WL_nil ?_
      exact fun a ha => ⟨f.steps.length - (k + 1), by omega, k + 1, _, rfl, hs, le6, by omega, rfl, ha.keep ⟨rfl, rfl, rfl, rfl, rfl, by rw [hps]; rfl, rfl, rfl, kI rfl (by rw [wr (by omega) (by omega)]; omega), trivial⟩⟩
 ·refine W_no (b := decide ((k : Int) < (f.steps.length : Int))) (by simp; omega) rfl ?_
  obtain rfl : k = f.steps.length := by omega
  refine W_exit ?_; (with_reducible refine T_tx ?_; with_reducible refine T_tx ?_); (with_reducible refine T_bx ?_); (with_reducible refine T_then ?_); refine W_seq ?_; refine W_seq ?_; refine W_region ?_; refine P1 T.ok rfl rfl rfl ?_; refine P1 T.ok rfl rfl rfl ?_; refine WL_nil ?_; (with_reducible refine T_then ?_)
  have hpm : pickTo out done f.steps.length = pickMin out done := by unfold pickTo pickMin; rw [hol]
  rw [hpm]
  have hpo := pickTo_ok out done f.steps.length
  rw [hpm] at hpo
  rw [waysGo] at hno
  by_cases hneg : pickMin out done < 0
  ·refine W_yes (b := decide (pickMin out done < 0)) (by simp [hneg]) rfl ?_
   rw [if_pos hneg] at hno
   refine W_seq ?_; refine W_region ?_; refine WL_o rfl rfl (OpR_loadE T.ok 0 rfl ep1 rfl rfl ?_); refine P1 T.ok rfl rfl rfl ?_; refine WL_nil ?_; (with_reducible refine T_then ?_)
   obtain ⟨g9, hw9, hs9, hqe9, hro⟩ := hs.fzRow (α := Option Wy) (xs := out) (i := 1) rfl hrc
   rw [← hw9]
   refine W_ret ?_
   (with_reducible refine T_tr ?_); (with_reducible refine T_br ?_); (with_reducible refine T_tr ?_); (with_reducible refine T_br ?_)
   refine ret1 rfl rfl (hs9.ret ?_)
   rw [← hno]; exact hro
  ·refine W_no (b := decide (pickMin out done < 0)) (by simp [hneg]) rfl ?_
   rw [if_neg hneg] at hno
   rcases hpo with h | ⟨hp1, hp2, ⟨w, hp3⟩, hp4⟩
   ·omega
   rw [hp3] at hno
   simp only at hno
   generalize hate : pickMin out done = at_ at *
   have hpl : at_.toNat < out.length := by omega
   have hpd : at_.toNat < done.length := by omega
   obtain ⟨c, hc1, hc2⟩ := RcL.opt hrc _ hpl
   have hwb : out[at_.toNat] = some w := by rw [List.getD_eq_getElem?_getD, List.getElem?_eq_getElem hpl] at hp3; exact hp3
   have hdw : done[at_.toNat]? = some false := by rw [List.getD_eq_getElem?_getD, List.getElem?_eq_getElem hpd] at hp4; rw [List.getElem?_eq_getElem hpd]; exact congrArg some hp4
   have hcs := count_set_lt hdw
   rw [hwb] at hc2
   obtain ⟨⟨hbd1, hbd2⟩, hbd3⟩ := hbd w (by rw [← hwb]; exact List.getElem_mem _)
   obtain ⟨bo2, ys, hcc, hold, hry⟩ := (show ∃ b ys, [c] = [Value.pointer (some ⟨b, 0, none⟩)] ∧ EP g2 b 0 ys ∧ RWay g2 ys w from hc2)
   obtain rfl : c = .pointer (some ⟨bo2, 0, none⟩) := by simpa using hcc
   obtain ⟨a7, n7, c7, rfl, rs7⟩ := hry
   have hmv := valid_moves hval
   have hmn := step_min (valid_step hval hp1 hp2)
   refine W_skip ?_; (with_reducible refine T_then ?_); refine W_seq ?_; refine W_region ?_; refine P1 T.ok rfl rfl rfl ?_; refine P1 T.ok rfl rfl rfl ?_
   refine WL_o rfl rfl (OpR_idxR T.ok rfl (hs.own 0 _ rfl).1 hp1 (by omega) rfl rfl rfl rfl rfl rfl ?_)
   rintro b p hh; obtain ⟨rfl, rfl⟩ : od = b ∧ 0 = p := by simpa using hh
   refine WL_n rfl (OpR_storeR T.ok 0 (at_.toNat * 1) (us := [.bool true]) rfl hs rfl rfl rfl rfl rfl rfl rfl (by decide) (by simp; omega) (xs' := (done.set at_.toNat true).map Value.bool) ?_ ?_)
   ·rw [Nat.mul_one, List.map_set]
    unfold spl
    rw [List.set_eq_take_append_cons_drop]
    simp [hpd]
   rintro g5 hs hqe; replace ep0 := ep0.mono hqe; replace ep1 := ep1.mono hqe; replace ep2 := ep2.mono hqe; replace rs0 := rs0.mono hqe; replace rs7 := rs7.mono hqe
   replace hrc := hrc.mono hqe; replace hae := hae.mono hqe; replace hold := hold.mono hqe; replace le6 := le6.trans hqe
   have hwl := rs7.len_le
   unfold maxLen at hwl
   have hsl : w.steps.length ≤ 40 := by omega
   refine WL_nil ?_; (with_reducible refine T_then ?_)
   apply W_drawE allF rfl (Fact.eq _ :: Fact.eq _ :: Fact.eq _ :: Fact.eq _ :: Fact.eq _ :: Fact.eq _ :: Fact.eq _ :: Fact.eq _ :: Fact.eq _ :: Fact.eq _ :: Fact.eq _ :: (stepPtr 0 (stepD f at_)) :: (stepPtr 2 (stepD f at_)) :: Fact.eq _ :: Fact.eq _ :: Fact.eq _ :: Fact.eq _ :: Fact.eq _ :: Fact.eq _ :: Fact.eq _ :: Fact.eq _ :: Fact.eq _ :: Fact.eq _ :: Fact.eq _ :: Fact.eq _ :: (ownF g5.dr.w.heap.size w.steps) :: Fact.eq _ :: (Fact.rs [at_]) :: (Fact.rs (w.steps ++ [at_])) :: (wayV ⟨w.time + (stepD f at_).min + f.moveMin, w.steps ++ [at_]⟩) :: Fact.eq _ :: Fact.eq _ :: Fact.eq _ :: (stepPtr 0 (stepD f at_)) :: (stepV (stepD f at_)) :: []) 35 [(0, 73), (29, 102), (34, 107)] [25] 28 rfl (by kernel_rfl)
   case houts => exact rfl
   case hsoft => (repeat (first | exact softN | apply softE | refine softC (soft_eq _) ?_ | refine softC (soft_rs _) ?_ | refine softC (soft_step _ _) ?_ | refine softC (soft_stepV _) ?_ | refine softC (soft_wayV _) ?_ | refine softC (soft_intPtr _) ?_ | refine softC (soft_y6 _) ?_ | refine softC (soft_lst _) ?_ | refine softO (by exact rfl) ?_))
   ·refine E_cons (E_step2 (js := []) (by kernel_rfl) (by exact rfl) fun gd hf => ?_) ?_
    ·have hsd := hs.dr.call hf; have hfe := (G.le_dr _).trans hf.le
     refine QA_nil ?_
     (refine D_yes rfl ?_; refine OpR_pure _ T.ok rfl ?_; refine ⟨_, rfl, Fr0.refl _, ?_⟩; exact rfl)
    refine E_cons (E_step2 (js := []) (by kernel_rfl) (by exact rfl) fun gd hf => ?_) ?_
    ·have hsd := hs.dr.call hf; have hfe := (G.le_dr _).trans hf.le
     refine QA_nil ?_
     (refine D_yes rfl ?_; refine OpR_loadE T.ok 0 rfl (ep1.mono hfe) rfl rfl ?_; refine ⟨_, rfl, Fr0.refl _, ?_⟩; exact rfl)
    refine E_cons (E_step2 (js := []) (by kernel_rfl) (by exact rfl) fun gd hf => ?_) ?_
    ·have hsd := hs.dr.call hf; have hfe := (G.le_dr _).trans hf.le
     refine QA_nil ?_
     (refine D_yes rfl ?_; refine OpR_pure _ T.ok rfl ?_; refine ⟨_, rfl, Fr0.refl _, ?_⟩; exact rfl)
    refine E_cons (E_step2 (js := [(1, 74), (2, 75)]) (by kernel_rfl) (by exact rfl) fun gd hf => ?_) ?_
    ·have hsd := hs.dr.call hf; have hfe := (G.le_dr _).trans hf.le
     refine QA_eq rfl ?_; refine QA_eq rfl ?_
     refine QA_nil ?_
     refine D_yes rfl ?_
     refine OpR_idxR T.ok rfl (hsd.own 1 _ rfl).1 hp1 (by omega) rfl rfl rfl rfl rfl rfl ?_
     intro b p hh
     obtain ⟨rfl, rfl⟩ : ob = b ∧ 0 = p := by simpa using hh
     refine ⟨_, rfl, Fr0.refl _, ?_⟩
     exact rfl
    refine E_cons (E_step2 (js := [(3, 76)]) (by kernel_rfl) (by exact rfl) fun gd hf => ?_) ?_
    ·have hsd := hs.dr.call hf; have hfe := (G.le_dr _).trans hf.le
     refine QA_eq rfl ?_
     refine QA_nil ?_
     refine D_yes rfl ?_
     refine OpR_loadR T.ok (at_.toNat * 1) rfl (hsd.own 1 _ rfl).1 rfl (v := .pointer (some ⟨bo2, 0, none⟩)) (by show cells[at_.toNat * 1]? = _; rw [Nat.mul_one]; exact hc1) ?_
     refine ⟨_, rfl, Fr0.refl _, ?_⟩
     exact rfl
    refine E_cons (E_step2 (js := [(4, 77)]) (by kernel_rfl) (by exact rfl) fun gd hf => ?_) ?_
    ·have hsd := hs.dr.call hf; have hfe := (G.le_dr _).trans hf.le
     refine QA_eq rfl ?_
     refine QA_nil ?_
     (refine D_yes rfl ?_; refine OpR_pure _ T.ok rfl ?_; refine ⟨_, rfl, Fr0.refl _, ?_⟩; exact rfl)
    refine E_cons (E_step2 (js := [(5, 78)]) (by kernel_rfl) (by exact rfl) fun gd hf => ?_) ?_
    ·have hsd := hs.dr.call hf; have hfe := (G.le_dr _).trans hf.le
     refine QA_eq rfl ?_
     refine QA_nil ?_
     (refine D_yes rfl ?_; refine OpR_pure _ T.ok rfl ?_; refine ⟨_, rfl, Fr0.refl _, ?_⟩; exact rfl)
    refine E_cons (E_step2 (js := [(6, 79)]) (by kernel_rfl) (by exact rfl) fun gd hf => ?_) ?_
    ·have hsd := hs.dr.call hf; have hfe := (G.le_dr _).trans hf.le
     refine QA_eq rfl ?_
     refine QA_nil ?_
     refine D_yes rfl ?_
     refine OpR_loadE T.ok 0 rfl (hold.mono hfe) rfl rfl ?_
     refine ⟨_, rfl, Fr0.refl _, ?_⟩
     exact rfl
    refine E_cons (E_step2 (js := []) (by kernel_rfl) (by exact rfl) fun gd hf => ?_) ?_
    ·have hsd := hs.dr.call hf; have hfe := (G.le_dr _).trans hf.le
     refine QA_nil ?_
     (refine D_yes rfl ?_; refine OpR_pure _ T.ok rfl ?_; refine ⟨_, rfl, Fr0.refl _, ?_⟩; exact rfl)
    refine E_cons (E_step2 (js := [(8, 81)]) (by kernel_rfl) (by exact rfl) fun gd hf => ?_) ?_
    ·have hsd := hs.dr.call hf; have hfe := (G.le_dr _).trans hf.le
     refine QA_eq rfl ?_
     refine QA_nil ?_
     (refine D_yes rfl ?_; refine OpR_loadE T.ok 2 rfl (ep0.mono hfe) rfl rfl ?_; refine ⟨_, rfl, Fr0.refl _, ?_⟩; exact rfl)
    refine E_cons (E_step2 (js := []) (by kernel_rfl) (by exact rfl) fun gd hf => ?_) ?_
    ·have hsd := hs.dr.call hf; have hfe := (G.le_dr _).trans hf.le
     refine QA_nil ?_
     (refine D_yes rfl ?_; refine OpR_pure _ T.ok rfl ?_; refine ⟨_, rfl, Fr0.refl _, ?_⟩; exact rfl)
    refine E_cons (E_step2 (js := [(9, 82), (10, 83)]) (by kernel_rfl) (by exact rfl) fun gd hf => ?_) ?_
    ·have hsd := hs.dr.call hf; have hfe := (G.le_dr _).trans hf.le
     refine QA_eq rfl ?_; refine QA_eq rfl ?_
     refine QA_nil ?_
     refine D_yes rfl ?_
     refine OpR_idx T.ok rfl (rs0.mono hfe) (y := stepD f at_) (by unfold stepD; rw [geti_of (j := at_.toNat) (by omega) (by omega)]; simp [List.getD_eq_getElem?_getD, show at_.toNat < f.steps.length from by omega]) rfl rfl rfl rfl rfl rfl ?_
     intro b p ys hep hrc
     exact ⟨_, rfl, Fr0.refl _, b, p, ys, rfl, hep, hrc⟩
    refine E_cons (E_step2 (js := [(11, 84)]) (by kernel_rfl) (by exact rfl) fun gd hf => ?_) ?_
    ·have hsd := hs.dr.call hf; have hfe := (G.le_dr _).trans hf.le
     refine QA_any fun v11 h11 => ?_
     refine QA_nil ?_
     obtain ⟨b, p, ys, rfl, hep, hrc⟩ := h11
     refine D_yes rfl ?_
     refine OpR_pure _ T.ok rfl ?_
     exact ⟨_, rfl, Fr0.refl _, b, p, ys, rfl, hep, hrc⟩
    refine E_cons (E_step2 (js := [(12, 85)]) (by kernel_rfl) (by exact rfl) fun gd hf => ?_) ?_
    ·have hsd := hs.dr.call hf; have hfe := (G.le_dr _).trans hf.le
     refine QA_any fun v12 h12 => ?_
     refine QA_nil ?_
     obtain ⟨b, p, ys, rfl, hep, hrc⟩ := h12
     obtain ⟨b1, b2, b3, b4, b5, b6, rfl, hx1, hx2⟩ := hrc
     refine D_yes rfl ?_
     refine OpR_loadE T.ok 2 rfl hep rfl rfl ?_
     refine ⟨_, rfl, Fr0.refl _, ?_⟩
     exact rfl
    refine E_cons (E_step2 (js := [(7, 80), (13, 86)]) (by kernel_rfl) (by exact rfl) fun gd hf => ?_) ?_
    ·have hsd := hs.dr.call hf; have hfe := (G.le_dr _).trans hf.le
     refine QA_eq rfl ?_; refine QA_eq rfl ?_
     refine QA_nil ?_
     (refine D_yes rfl ?_; refine OpR_pure _ T.ok rfl ?_; refine ⟨_, rfl, Fr0.refl _, ?_⟩; exact rfl)
    refine E_cons (E_step2 (js := []) (by kernel_rfl) (by exact rfl) fun gd hf => ?_) ?_
    ·have hsd := hs.dr.call hf; have hfe := (G.le_dr _).trans hf.le
     refine QA_nil ?_
     (refine D_yes rfl ?_; refine OpR_pure _ T.ok rfl ?_; refine ⟨_, rfl, Fr0.refl _, ?_⟩; exact rfl)
    refine E_cons (E_step2 (js := [(15, 88)]) (by kernel_rfl) (by exact rfl) fun gd hf => ?_) ?_
    ·have hsd := hs.dr.call hf; have hfe := (G.le_dr _).trans hf.le
     refine QA_eq rfl ?_
     refine QA_nil ?_
     (refine D_yes rfl ?_; refine OpR_loadE T.ok 0 rfl (ep0.mono hfe) rfl rfl ?_; refine ⟨_, rfl, Fr0.refl _, ?_⟩; exact rfl)
    refine E_cons (E_step2 (js := [(14, 87), (16, 89)]) (by kernel_rfl) (by exact rfl) fun gd hf => ?_) ?_
    ·have hsd := hs.dr.call hf; have hfe := (G.le_dr _).trans hf.le
     refine QA_eq rfl ?_; refine QA_eq rfl ?_
     refine QA_nil ?_
     refine D_yes rfl ?_
     refine OpR_pure _ T.ok rfl ?_
     refine ⟨_, rfl, Fr0.refl _, ?_⟩
     exact congrArg (Value.int .i64) (show _ = w.time + (stepD f at_).min + f.moveMin from by rw [wr (n := w.time + (stepD f at_).min) (by omega) (by omega), wr (by omega) (by omega)])
    refine E_cons (E_step2 (js := []) (by kernel_rfl) (by exact rfl) fun gd hf => ?_) ?_
    ·have hsd := hs.dr.call hf; have hfe := (G.le_dr _).trans hf.le
     refine QA_nil ?_
     (refine D_yes rfl ?_; refine OpR_loadE T.ok 0 rfl (ep1.mono hfe) rfl rfl ?_; refine ⟨_, rfl, Fr0.refl _, ?_⟩; exact rfl)
    refine E_cons (E_step2 (js := []) (by kernel_rfl) (by exact rfl) fun gd hf => ?_) ?_
    ·have hsd := hs.dr.call hf; have hfe := (G.le_dr _).trans hf.le
     refine QA_nil ?_
     (refine D_yes rfl ?_; refine OpR_pure _ T.ok rfl ?_; refine ⟨_, rfl, Fr0.refl _, ?_⟩; exact rfl)
    refine E_cons (E_step2 (js := [(18, 91), (19, 92)]) (by kernel_rfl) (by exact rfl) fun gd hf => ?_) ?_
    ·have hsd := hs.dr.call hf; have hfe := (G.le_dr _).trans hf.le
     refine QA_eq rfl ?_; refine QA_eq rfl ?_
     refine QA_nil ?_
     refine D_yes rfl ?_
     refine OpR_idxR T.ok rfl (hsd.own 1 _ rfl).1 hp1 (by omega) rfl rfl rfl rfl rfl rfl ?_
     intro b p hh
     obtain ⟨rfl, rfl⟩ : ob = b ∧ 0 = p := by simpa using hh
     refine ⟨_, rfl, Fr0.refl _, ?_⟩
     exact rfl
    refine E_cons (E_step2 (js := [(20, 93)]) (by kernel_rfl) (by exact rfl) fun gd hf => ?_) ?_
    ·have hsd := hs.dr.call hf; have hfe := (G.le_dr _).trans hf.le
     refine QA_eq rfl ?_
     refine QA_nil ?_
     refine D_yes rfl ?_
     refine OpR_loadR T.ok (at_.toNat * 1) rfl (hsd.own 1 _ rfl).1 rfl (v := .pointer (some ⟨bo2, 0, none⟩)) (by show cells[at_.toNat * 1]? = _; rw [Nat.mul_one]; exact hc1) ?_
     refine ⟨_, rfl, Fr0.refl _, ?_⟩
     exact rfl
    refine E_cons (E_step2 (js := [(21, 94)]) (by kernel_rfl) (by exact rfl) fun gd hf => ?_) ?_
    ·have hsd := hs.dr.call hf; have hfe := (G.le_dr _).trans hf.le
     refine QA_eq rfl ?_
     refine QA_nil ?_
     (refine D_yes rfl ?_; refine OpR_pure _ T.ok rfl ?_; refine ⟨_, rfl, Fr0.refl _, ?_⟩; exact rfl)
    refine E_cons (E_step2 (js := [(22, 95)]) (by kernel_rfl) (by exact rfl) fun gd hf => ?_) ?_
    ·have hsd := hs.dr.call hf; have hfe := (G.le_dr _).trans hf.le
     refine QA_eq rfl ?_
     refine QA_nil ?_
     (refine D_yes rfl ?_; refine OpR_pure _ T.ok rfl ?_; refine ⟨_, rfl, Fr0.refl _, ?_⟩; exact rfl)
    refine E_cons (E_step2 (js := [(23, 96)]) (by kernel_rfl) (by exact rfl) fun gd hf => ?_) ?_
    ·have hsd := hs.dr.call hf; have hfe := (G.le_dr _).trans hf.le
     refine QA_eq rfl ?_
     refine QA_nil ?_
     refine D_yes rfl ?_
     refine OpR_loadE T.ok 1 rfl (hold.mono hfe) rfl rfl ?_
     refine ⟨_, rfl, Fr0.refl _, ?_⟩
     exact rfl
    refine E_cons (E_step2 (js := [(24, 97)]) (by kernel_rfl) (by exact rfl) fun gd hf => ?_) ?_
    ·have hsd := hs.dr.call hf; have hfe := (G.le_dr _).trans hf.le
     refine QA_eq rfl ?_
     refine QA_nil ?_
     refine D_yes rfl ?_
     refine OpR_ret cl34 allF rfl rfl rfl rfl rfl (clone_c _ w.steps _ (rs7.mono hfe) (by omega)) fun g' v h1 h2 => ⟨g', rfl, h1, ownF_of h2 hf.below.size⟩
    refine E_cons (E_step2 (js := []) (by kernel_rfl) (by exact rfl) fun gd hf => ?_) ?_
    ·have hsd := hs.dr.call hf; have hfe := (G.le_dr _).trans hf.le
     refine QA_nil ?_
     (refine D_yes rfl ?_; refine OpR_pure _ T.ok rfl ?_; refine ⟨_, rfl, Fr0.refl _, ?_⟩; exact rfl)
    refine E_cons (E_step2 (js := [(26, 99)]) (by kernel_rfl) (by exact rfl) fun gd hf => ?_) ?_
    ·have hsd := hs.dr.call hf; have hfe := (G.le_dr _).trans hf.le
     refine QA_eq rfl ?_
     refine QA_nil ?_
     refine D_yes rfl ?_
     refine OpR_lit T.ok rfl (St.start gd) (vs := [(0, .int .i64 at_)]) (cells := [.int .i64 at_]) rfl rfl rfl rfl rfl rfl (by decide) (by decide) (by kernel_rfl) rfl ?_
     intro b2 g2 hs1 hqe1
     obtain ⟨g3, hw3, hs3, hqe3, hrl⟩ := hs1.fzRow (α := Int) (xs := [at_]) (i := 0) rfl (RcL.ints _ [at_])
     exact ⟨g3, hw3, hs3.fr0, hrl⟩
    refine E_cons (E_eat (js := [(25, 98), (27, 100), (25, 98)]) (by kernel_rfl) fun gd hf => ?_) ?_
    ·have hsd := hs.dr.call hf; have hfe := (G.le_dr _).trans hf.le
     refine QA_any fun v25 h25 => ?_; refine QA_any fun v27 h27 => ?_; refine QA_any fun v25 h25 => ?_
     refine QA_nil ?_
     obtain ⟨cellsC, ho1, ho2⟩ := h25
     obtain ⟨ax, cx, rfl⟩ := Rs.isSlice h27
     obtain ⟨av, cv, rfl⟩ := ho1.1.form
     obtain ⟨_, news, hnw, hsrc⟩ := Src.of_rs h27
     have hse := St.getOwn (St.start g5.dr) hf ho1
     refine ⟨rfl, ?_⟩
     refine OpR_append T.ok 0 rfl hse rfl rfl rfl rfl rfl rfl rfl (by decide) rfl hsrc hnw.one (by show (w.steps.length + 1) * 8 ≤ _; omega) (by unfold maxLen; show w.steps.length + 1 ≤ _; omega) ?_
     intro a' c' g8 hs8 hqe8
     obtain ⟨g9, hw9, hs9, hqe9, hrn⟩ := hs8.fzRow (α := Int) (xs := w.steps ++ [at_]) (i := 0) rfl (RcL.app (hnw.mono hqe8) (ho2.mono hqe8))
     exact ⟨g9, hw9, hqe8.trans hqe9, hs9.fr0, hrn⟩
    refine E_cons (E_step2 (js := [(17, 90), (28, 101)]) (by kernel_rfl) (by exact rfl) fun gd hf => ?_) ?_
    ·have hsd := hs.dr.call hf; have hfe := (G.le_dr _).trans hf.le
     refine QA_eq rfl ?_; refine QA_any fun v28 h28 => ?_
     refine QA_nil ?_
     obtain ⟨ax, cx, rfl⟩ := Rs.isSlice h28
     refine D_yes rfl ?_
     refine OpR_build T.ok rfl (vs := [(0, .int .i64 (w.time + (stepD f at_).min + f.moveMin)), (1, .slice ax (w.steps ++ [at_]).length cx)]) (cells := [.int .i64 (w.time + (stepD f at_).min + f.moveMin), .slice ax (w.steps ++ [at_]).length cx]) rfl rfl rfl rfl [(0, 1), (1, 1)] rfl (by kernel_rfl) ?_
     exact ⟨_, rfl, Fr0.refl _, _, rfl, _, _, _, rfl, h28⟩
    refine E_cons (E_step2 (js := []) (by kernel_rfl) (by exact rfl) fun gd hf => ?_) ?_
    ·have hsd := hs.dr.call hf; have hfe := (G.le_dr _).trans hf.le
     refine QA_nil ?_
     (refine D_yes rfl ?_; refine OpR_pure _ T.ok rfl ?_; refine ⟨_, rfl, Fr0.refl _, ?_⟩; exact rfl)
    refine E_cons (E_step2 (js := [(30, 103)]) (by kernel_rfl) (by exact rfl) fun gd hf => ?_) ?_
    ·have hsd := hs.dr.call hf; have hfe := (G.le_dr _).trans hf.le
     refine QA_eq rfl ?_
     refine QA_nil ?_
     (refine D_yes rfl ?_; refine OpR_loadE T.ok 2 rfl (ep0.mono hfe) rfl rfl ?_; refine ⟨_, rfl, Fr0.refl _, ?_⟩; exact rfl)
    refine E_cons (E_step2 (js := []) (by kernel_rfl) (by exact rfl) fun gd hf => ?_) ?_
    ·have hsd := hs.dr.call hf; have hfe := (G.le_dr _).trans hf.le
     refine QA_nil ?_
     (refine D_yes rfl ?_; refine OpR_pure _ T.ok rfl ?_; refine ⟨_, rfl, Fr0.refl _, ?_⟩; exact rfl)
    refine E_cons (E_step2 (js := [(31, 104), (32, 105)]) (by kernel_rfl) (by exact rfl) fun gd hf => ?_) ?_
    ·have hsd := hs.dr.call hf; have hfe := (G.le_dr _).trans hf.le
     refine QA_eq rfl ?_; refine QA_eq rfl ?_
     refine QA_nil ?_
     refine D_yes rfl ?_
     refine OpR_idx T.ok rfl (rs0.mono hfe) (y := stepD f at_) (by unfold stepD; rw [geti_of (j := at_.toNat) (by omega) (by omega)]; simp [List.getD_eq_getElem?_getD, show at_.toNat < f.steps.length from by omega]) rfl rfl rfl rfl rfl rfl ?_
     intro b p ys hep hrc
     exact ⟨_, rfl, Fr0.refl _, b, p, ys, rfl, hep, hrc⟩
    refine E_cons (E_step2 (js := [(33, 106)]) (by kernel_rfl) (by exact rfl) fun gd hf => ?_) ?_
    ·have hsd := hs.dr.call hf; have hfe := (G.le_dr _).trans hf.le
     refine QA_any fun v33 h33 => ?_
     refine QA_nil ?_
     obtain ⟨b, p, ys, rfl, hep, hrc⟩ := h33
     have hrv : RStepV _ (.agg ys.toArray) (stepD f at_) := ⟨ys, rfl, hrc⟩
     obtain ⟨b1, b2, b3, b4, b5, b6, rfl, _, _⟩ := hrc
     refine D_yes rfl ?_
     refine OpR_loadE T.ok 0 rfl hep rfl rfl ?_
     exact ⟨_, rfl, Fr0.refl _, hrv⟩
    exact E_nil
   intro g1 hf1; refine QA_eq rfl ?_; refine QA_any fun v29 h29 => ?_; refine QA_any fun v34 h34 => ?_; refine QA_nil ?_
   replace hs := hs.dr.call hf1; have hqe := (G.le_dr _).trans hf1.le; replace ep0 := ep0.mono hqe; replace ep1 := ep1.mono hqe; replace ep2 := ep2.mono hqe; replace rs0 := rs0.mono hqe; replace rs7 := rs7.mono hqe
   replace hrc := hrc.mono hqe; replace hae := hae.mono hqe; replace le6 := le6.trans hqe
   have hcv := CallV_of (first := #[]) (captured := #[.pointer (some ⟨bo, 0, none⟩), .pointer (some ⟨bb, 0, none⟩)]) (args := [v29, v34]) cl62 rfl
    (add_c ob f.steps.length bo bb g _ _ 1 _ _ v29 v34 ⟨w.time + (stepD f at_).min + f.moveMin, w.steps ++ [at_]⟩ (stepD f at_) hs rfl hrc hae h29 h34 (after_range hval hp1 hp2) hol)
   refine WL_o rfl rfl (OpR_callV rfl rfl rfl rfl rfl rfl (hcv.mono ?_))
   rintro _ _ ⟨g9, cells9, rfl, rfl, hs9, hrc9, hqe⟩
   refine ⟨_, rfl, ?_⟩
   replace ep0 := ep0.mono hqe; replace ep1 := ep1.mono hqe; replace ep2 := ep2.mono hqe; replace rs0 := rs0.mono hqe; replace rs7 := rs7.mono hqe
   replace le6 := le6.trans hqe
   refine WL_nil ?_; (with_reducible refine T_bn ?_)
   refine fun a ha => ⟨(done.set at_.toNat true).count false, by omega, addAll ⟨w.time + (stepD f at_).min + f.moveMin, w.steps ++ [at_]⟩ out (afterL (stepD f at_)), cells9, done.set at_.toNat true, g9, rfl, hs9, le5.trans le6, hrc9, by rw [addAll_len]; exact hol, by simpa using hdl, rfl, ?_, ?_, ha.keep (by (repeat (first | exact trivial | refine ⟨rfl, ?_⟩)))⟩
   ·refine AllW.addAll ?_ _ ?_
    ·simp only [List.length_append, List.length_cons, List.length_nil]; omega
    ·intro w' hw'
     have := hbd w' hw'
     omega
   ·rw [← hno, show done.count false = (done.set at_.toNat true).count false + 1 from hcs.symm]
end Go.Proofs.YtnggomfbgmlkhaaGreatDoor

/- The walks through package graph: Way, Quickest, Finish. -/
namespace Go.Proofs.YtnggomfbgmlkhaaGreatDoor
open Go Go.K
set_option maxRecDepth 10000
attribute [local irreducible] W WL OpR bitAnd bitOr bitXor bitClr bitNot shlI shrI
set_option maxHeartbeats 4000000

/-- An element of a list of ways that no longer changes. -/
theorem way_at {g : G} {ys : List Value} {o : Option Wy} (h : El.rc (α := Option Wy) g ys o) : (o = none ∧ ys = [.pointer none]) ∨ ∃ w b cs, o = some w ∧ ys = [.pointer (some ⟨b, 0, none⟩)] ∧ EP g b 0 cs ∧ RWay g cs w := by
 cases o with
 | none => exact .inl ⟨rfl, h⟩
 | some w => obtain ⟨b, cs, h1, h2, h3⟩ := h; exact .inr ⟨w, b, cs, rfl, h1, h2, h3⟩
theorem og_geti {out : List (Option Wy)} {n : Int} (h0 : 0 ≤ n) (h1 : n < out.length) : geti out n = some (og out n) := by
 rw [geti_of (j := n.toNat) (by omega) (by omega)]
 unfold og
 rw [List.getD_eq_getElem?_getD, List.getElem?_eq_getElem (by omega)]; rfl



theorem quickest_c (v : Value) (f : Flow) (a b : Int) (g : G) (fl0 : RFlow g v f) :
  CallsIn Wd 0 Tryz.prog 15 #[v, .int .i64 a, .int .i64 b] g.w (Ret g fun _ r => r = .tuple #[.int .i64 (quickest f a b).1, .bool (quickest f a b).2]) := by
 obtain ⟨a1, n1, c1, a2, n2, c2, rfl, rs0, rs1⟩ := id fl0
 obtain ⟨_, _, e⟩ := rs0.isSlice; obtain ⟨rfl, rfl, rfl⟩ := Value.slice.inj e; clear e
 have hs := St.start g
 have le0 := G.le.refl g
 refine enter Tryz.func15 rfl Tryz.ntmps15 rfl ?_
 refine W_seq ?_; refine W_region ?_
 refine WL_o rfl rfl (OpR_box rfl hs rfl rfl ?_); clear hs; rintro bf g1 hs hqe; replace le0 := G.le.trans le0 hqe; replace rs0 := rs0.mono hqe; replace rs1 := rs1.mono hqe; replace fl0 := fl0.mono hqe
 obtain ⟨g2, hw2, hs2, hqe, hep⟩ := hs.fzObj (i := 0) rfl; replace hs := hs2; clear hs2; rw [← hw2]; replace le0 := G.le.trans le0 hqe; replace rs0 := rs0.mono hqe; replace rs1 := rs1.mono hqe; replace fl0 := fl0.mono hqe
 have ep0 := hep; clear hep
 refine P1 T.ok rfl rfl rfl ?_; refine P1 T.ok rfl rfl rfl ?_; refine WL_nil ?_; (with_reducible refine T_then ?_); refine W_seq ?_; refine W_seq ?_; refine W_region ?_; refine WL_o rfl rfl (OpR_loadE T.ok 0 rfl ep0 rfl rfl ?_); refine P1 T.ok rfl rfl rfl ?_; refine P1 T.ok rfl rfl rfl ?_
 refine WL_o rfl rfl (OpR_lit T.ok rfl hs (vs := [(0, .int .i64 a), (1, .int .i64 b)]) (cells := [.int .i64 a, .int .i64 b]) rfl rfl rfl rfl rfl rfl (by decide) (by decide) (by kernel_rfl) rfl ?_); rintro b2 g2 hs hqe; replace le0 := G.le.trans le0 hqe; replace ep0 := ep0.mono hqe; replace rs0 := rs0.mono hqe; replace rs1 := rs1.mono hqe; replace fl0 := fl0.mono hqe
 obtain ⟨g3, hw3, hs3, hqe3, hrl⟩ := hs.fzRow (α := Int) (xs := [a, b]) (i := 0) rfl (RcL.ints _ [a, b])
 clear hqe; have hqe := hqe3; rw [← hw3]; replace hs := hs3; replace le0 := G.le.trans le0 hqe; replace ep0 := ep0.mono hqe; replace rs0 := rs0.mono hqe; replace rs1 := rs1.mono hqe; replace fl0 := fl0.mono hqe
 skip
 refine WL_o rfl rfl (OpR_ret cl32 allF rfl rfl rfl rfl rfl (given_c _ _ f [a, b] _ fl0 hrl) ?_); rintro g1 _ hf1 rfl; replace hs := hs.call hf1; have hqe := hf1.le; replace le0 := G.le.trans le0 hqe; replace ep0 := ep0.mono hqe; replace rs0 := rs0.mono hqe; replace rs1 := rs1.mono hqe; replace fl0 := fl0.mono hqe
 refine P1 T.ok rfl rfl rfl ?_; refine WL_nil ?_; (with_reducible refine T_then ?_)
 unfold quickest
 by_cases hg : given f [a, b] = true
 ·rw [if_pos hg]
  obtain ⟨hval, ha, hb⟩ := given_two.1 hg
  refine W_no (b := !given f [a, b]) (by rw [hg]; rfl) rfl ?_
  refine W_skip ?_; (with_reducible refine T_then ?_); refine W_seq ?_; refine W_region ?_; refine WL_o rfl rfl (OpR_loadE T.ok 0 rfl ep0 rfl rfl ?_); refine P1 T.ok rfl rfl rfl ?_
  refine WL_o rfl rfl (OpR_ret cl33 allF rfl rfl rfl rfl rfl (ways_c _ f a _ fl0 hval ha.1 ha.2) ?_); rintro g1 _ hf1 hrw; replace hs := hs.call hf1; have hqe := hf1.le; replace le0 := G.le.trans le0 hqe; replace ep0 := ep0.mono hqe; replace rs0 := rs0.mono hqe; replace rs1 := rs1.mono hqe; replace fl0 := fl0.mono hqe
  have hwl := ways_length hval ha
  obtain ⟨aw, cw, rfl⟩ := hrw.isSlice
  refine P1 T.ok rfl rfl rfl ?_
  refine WL_o rfl rfl (OpR_idx T.ok rfl hrw (y := og (ways f a) b) (og_geti hb.1 (by have := hb.2; omega)) rfl rfl rfl rfl rfl rfl ?_)
  rintro b p ys hep hrc
  rcases way_at hrc with ⟨ho, rfl⟩ | ⟨w, bw, cs, ho, rfl, hep2, hry⟩
  ·refine WL_o rfl rfl (OpR_loadE T.ok 0 rfl hep rfl rfl ?_)
   refine P1 T.ok rfl rfl rfl ?_; refine WL_nil ?_; (with_reducible refine T_then ?_); refine W_seq ?_; refine W_seq ?_; refine W_region ?_; refine P1 T.ok rfl rfl rfl ?_
   refine WL_o rfl rfl (OpR_eqNilPtr T.ok (neg := false) rfl rfl rfl rfl rfl ?_)
   refine WL_nil ?_; (with_reducible refine T_then ?_)
   refine W_yes rfl rfl ?_
   refine W_seq ?_; refine W_region ?_; refine P1 T.ok rfl rfl rfl ?_; refine P1 T.ok rfl rfl rfl ?_; refine WL_nil ?_; (with_reducible refine T_then ?_)
   refine W_ret (ret2 rfl rfl rfl (hs.ret ?_))
   rw [ho]
  ·obtain ⟨a7, n7, c7, rfl, rs7⟩ := hry
   refine WL_o rfl rfl (OpR_loadE T.ok 0 rfl hep rfl rfl ?_)
   refine P1 T.ok rfl rfl rfl ?_; refine WL_nil ?_; (with_reducible refine T_then ?_); refine W_seq ?_; refine W_seq ?_; refine W_region ?_; refine P1 T.ok rfl rfl rfl ?_
   refine WL_o rfl rfl (OpR_eqNilPtr T.ok (neg := false) rfl rfl rfl rfl rfl ?_)
   refine WL_nil ?_; (with_reducible refine T_then ?_)
   refine W_no rfl rfl ?_
   refine W_skip ?_; (with_reducible refine T_then ?_); refine W_seq ?_; refine W_region ?_; (iterate 3 refine P1 T.ok rfl rfl rfl ?_)
   refine WL_o rfl rfl (OpR_loadE T.ok 0 rfl hep2 rfl rfl ?_)
   refine P1 T.ok rfl rfl rfl ?_; refine P1 T.ok rfl rfl rfl ?_; refine WL_nil ?_; (with_reducible refine T_then ?_)
   refine W_ret (ret2 rfl rfl rfl (hs.ret ?_))
   rw [ho]
 ·rw [if_neg hg]
  refine W_yes (b := !given f [a, b]) (by simp [hg]) rfl ?_
  refine W_seq ?_; refine W_region ?_; refine P1 T.ok rfl rfl rfl ?_; refine P1 T.ok rfl rfl rfl ?_; refine WL_nil ?_; (with_reducible refine T_then ?_)
  exact W_ret (ret2 rfl rfl rfl (hs.ret rfl))

theorem way_c (v : Value) (f : Flow) (a b : Int) (g : G) (fl0 : RFlow g v f) :
  CallsIn Wd 0 Tryz.prog 10 #[v, .int .i64 a, .int .i64 b] g.w (Ret g fun g' r => ∃ u, r = .tuple #[u, .bool (wayM f a b).2] ∧ OwnR 3 g (wayM f a b).1 g' u) := by
 obtain ⟨a1, n1, c1, a2, n2, c2, rfl, rs0, rs1⟩ := id fl0
 obtain ⟨_, _, e⟩ := rs0.isSlice; obtain ⟨rfl, rfl, rfl⟩ := Value.slice.inj e; clear e
 have hs := St.start g
 have le0 := G.le.refl g
 refine enter Tryz.func10 rfl Tryz.ntmps10 rfl ?_
 refine W_seq ?_; refine W_region ?_
 refine WL_o rfl rfl (OpR_box rfl hs rfl rfl ?_); clear hs; rintro bf g1 hs hqe; replace le0 := G.le.trans le0 hqe; replace rs0 := rs0.mono hqe; replace rs1 := rs1.mono hqe; replace fl0 := fl0.mono hqe
 obtain ⟨g2, hw2, hs2, hqe, hep⟩ := hs.fzObj (i := 0) rfl; replace hs := hs2; clear hs2; rw [← hw2]; replace le0 := G.le.trans le0 hqe; replace rs0 := rs0.mono hqe; replace rs1 := rs1.mono hqe; replace fl0 := fl0.mono hqe
 have ep0 := hep; clear hep
 refine P1 T.ok rfl rfl rfl ?_; refine P1 T.ok rfl rfl rfl ?_; refine WL_nil ?_; (with_reducible refine T_then ?_); refine W_seq ?_; refine W_seq ?_; refine W_region ?_; refine WL_o rfl rfl (OpR_loadE T.ok 0 rfl ep0 rfl rfl ?_); refine P1 T.ok rfl rfl rfl ?_; refine P1 T.ok rfl rfl rfl ?_
 refine WL_o rfl rfl (OpR_lit T.ok rfl hs (vs := [(0, .int .i64 a), (1, .int .i64 b)]) (cells := [.int .i64 a, .int .i64 b]) rfl rfl rfl rfl rfl rfl (by decide) (by decide) (by kernel_rfl) rfl ?_); rintro b2 g2 hs hqe; replace le0 := G.le.trans le0 hqe; replace ep0 := ep0.mono hqe; replace rs0 := rs0.mono hqe; replace rs1 := rs1.mono hqe; replace fl0 := fl0.mono hqe
 obtain ⟨g3, hw3, hs3, hqe3, hrl⟩ := hs.fzRow (α := Int) (xs := [a, b]) (i := 0) rfl (RcL.ints _ [a, b])
 clear hqe; have hqe := hqe3; rw [← hw3]; replace hs := hs3; replace le0 := G.le.trans le0 hqe; replace ep0 := ep0.mono hqe; replace rs0 := rs0.mono hqe; replace rs1 := rs1.mono hqe; replace fl0 := fl0.mono hqe
 skip
 refine WL_o rfl rfl (OpR_ret cl32 allF rfl rfl rfl rfl rfl (given_c _ _ f [a, b] _ fl0 hrl) ?_); rintro g1 _ hf1 rfl; replace hs := hs.call hf1; have hqe := hf1.le; replace le0 := G.le.trans le0 hqe; replace ep0 := ep0.mono hqe; replace rs0 := rs0.mono hqe; replace rs1 := rs1.mono hqe; replace fl0 := fl0.mono hqe
 refine P1 T.ok rfl rfl rfl ?_; refine WL_nil ?_; (with_reducible refine T_then ?_)
 unfold wayM
 by_cases hg : given f [a, b] = true
 ·rw [if_pos hg]
  obtain ⟨hval, ha, hb⟩ := given_two.1 hg
  refine W_no (b := !given f [a, b]) (by rw [hg]; rfl) rfl ?_
  refine W_skip ?_; (with_reducible refine T_then ?_); refine W_seq ?_; refine W_region ?_; refine WL_o rfl rfl (OpR_loadE T.ok 0 rfl ep0 rfl rfl ?_); refine P1 T.ok rfl rfl rfl ?_
  refine WL_o rfl rfl (OpR_ret cl33 allF rfl rfl rfl rfl rfl (ways_c _ f a _ fl0 hval ha.1 ha.2) ?_); rintro g1 _ hf1 hrw; replace hs := hs.call hf1; have hqe := hf1.le; replace le0 := G.le.trans le0 hqe; replace ep0 := ep0.mono hqe; replace rs0 := rs0.mono hqe; replace rs1 := rs1.mono hqe; replace fl0 := fl0.mono hqe
  have hwl := ways_length hval ha
  obtain ⟨aw, cw, rfl⟩ := hrw.isSlice
  refine P1 T.ok rfl rfl rfl ?_
  refine WL_o rfl rfl (OpR_idx T.ok rfl hrw (y := og (ways f a) b) (og_geti hb.1 (by have := hb.2; omega)) rfl rfl rfl rfl rfl rfl ?_)
  rintro b' p ys hep hrc
  rcases way_at hrc with ⟨ho, rfl⟩ | ⟨w, bw, cs, ho, rfl, hep2, hry⟩
  ·refine WL_o rfl rfl (OpR_loadE T.ok 0 rfl hep rfl rfl ?_)
   refine P1 T.ok rfl rfl rfl ?_; refine WL_nil ?_; (with_reducible refine T_then ?_); refine W_seq ?_; refine W_seq ?_; refine W_region ?_; refine P1 T.ok rfl rfl rfl ?_
   refine WL_o rfl rfl (OpR_eqNilPtr T.ok (neg := false) rfl rfl rfl rfl rfl ?_)
   refine WL_nil ?_; (with_reducible refine T_then ?_)
   refine W_yes rfl rfl ?_
   refine W_seq ?_; refine W_region ?_; refine P1 T.ok rfl rfl rfl ?_; refine P1 T.ok rfl rfl rfl ?_; refine WL_nil ?_; (with_reducible refine T_then ?_)
   refine W_ret (ret2 rfl rfl rfl (hs.ret ?_))
   rw [ho]
   exact ⟨_, rfl, OwnR.nil _ _ _ _⟩
  ·have hbd := ways_bound hval ha hb ho
   have hn40 := valid_n hval
   obtain ⟨a7, n7, c7, rfl, rs7⟩ := hry
   refine WL_o rfl rfl (OpR_loadE T.ok 0 rfl hep rfl rfl ?_)
   refine P1 T.ok rfl rfl rfl ?_; refine WL_nil ?_; (with_reducible refine T_then ?_); refine W_seq ?_; refine W_seq ?_; refine W_region ?_; refine P1 T.ok rfl rfl rfl ?_
   refine WL_o rfl rfl (OpR_eqNilPtr T.ok (neg := false) rfl rfl rfl rfl rfl ?_)
   refine WL_nil ?_; (with_reducible refine T_then ?_)
   refine W_no rfl rfl ?_
   refine W_skip ?_; (with_reducible refine T_then ?_); refine W_seq ?_; refine W_region ?_; (iterate 3 refine P1 T.ok rfl rfl rfl ?_)
   refine WL_o rfl rfl (OpR_loadE T.ok 1 rfl hep2 rfl rfl ?_)
   skip
   refine WL_o rfl rfl (OpR_ret cl34 allF rfl rfl rfl rfl rfl (clone_c _ w.steps _ rs7 (by omega)) ?_); rintro g6 v hf6 ⟨cellsC, ho1, ho2⟩
   replace hs := hs.getOwn hf6 ho1
   refine P1 T.ok rfl rfl rfl ?_; refine P1 T.ok rfl rfl rfl ?_; refine WL_nil ?_; (with_reducible refine T_then ?_)
   refine W_ret (ret2 rfl rfl rfl (hs.ret ?_))
   rw [ho]
   exact ⟨_, rfl, hs.toOwn (α := Int) (i := 0) rfl ho2⟩
 ·rw [if_neg hg]
  refine W_yes (b := !given f [a, b]) (by simp [hg]) rfl ?_
  refine W_seq ?_; refine W_region ?_; refine P1 T.ok rfl rfl rfl ?_; refine P1 T.ok rfl rfl rfl ?_; refine WL_nil ?_; (with_reducible refine T_then ?_)
  exact W_ret (ret2 rfl rfl rfl (hs.ret ⟨_, rfl, OwnR.nil _ _ _ _⟩))
end Go.Proofs.YtnggomfbgmlkhaaGreatDoor

/- The walks through package graph: Finish. -/
namespace Go.Proofs.YtnggomfbgmlkhaaGreatDoor
open Go Go.K
set_option maxRecDepth 10000
attribute [local irreducible] W WL OpR bitAnd bitOr bitXor bitClr bitNot shlI shrI
set_option maxHeartbeats 4000000

theorem finTo_bound {f : Flow} (hval : valid f = true) {a : Int} (ha : InR f a) (k : Nat) (hk : k ≤ f.steps.length) : 0 ≤ (finTo f (ways f a) k).1 ∧ (finTo f (ways f a) k).1 ≤ 1010000 := by
 induction k with
 | zero => exact ⟨by show (0 : Int) ≤ 0; omega, by show (0 : Int) ≤ _; omega⟩
 | succ k ih =>
  rw [finTo_succ]
  unfold finStep
  have ihk := ih (by omega)
  cases ho : (ways f a).getD k none with
  | none => exact ihk
  | some w =>
   have hkr : InR f (k : Int) := ⟨by omega, by omega⟩
   have hb := ways_bound hval ha hkr (w := w) (by unfold og; simpa using ho)
   have hm := valid_min hval hkr
   simp only
   split
   ·split
    ·exact ⟨by show 0 ≤ w.time + _; omega, by show w.time + _ ≤ _; omega⟩
    ·exact ihk
   ·exact ihk

theorem finish_c (v : Value) (f : Flow) (a : Int) (g : G) (fl0 : RFlow g v f) :
  CallsIn Wd 0 Tryz.prog 11 #[v, .int .i64 a] g.w (Ret g fun _ r => r = .tuple #[.int .i64 (finish f a).1, .bool (finish f a).2]) := by
 obtain ⟨a1, n1, c1, a2, n2, c2, rfl, rs0, rs1⟩ := id fl0
 obtain ⟨_, _, e⟩ := rs0.isSlice; obtain ⟨rfl, rfl, rfl⟩ := Value.slice.inj e; clear e
 have hs := St.start g
 have le0 := G.le.refl g
 refine enter Tryz.func11 rfl Tryz.ntmps11 rfl ?_
 refine W_seq ?_; refine W_region ?_
 refine WL_o rfl rfl (OpR_box rfl hs rfl rfl ?_); clear hs; rintro bf g1 hs hqe; replace le0 := G.le.trans le0 hqe; replace rs0 := rs0.mono hqe; replace rs1 := rs1.mono hqe; replace fl0 := fl0.mono hqe
 obtain ⟨g2, hw2, hs2, hqe, hep⟩ := hs.fzObj (i := 0) rfl; replace hs := hs2; clear hs2; rw [← hw2]; replace le0 := G.le.trans le0 hqe; replace rs0 := rs0.mono hqe; replace rs1 := rs1.mono hqe; replace fl0 := fl0.mono hqe
 have ep0 := hep; clear hep
 refine P1 T.ok rfl rfl rfl ?_; refine P1 T.ok rfl rfl rfl ?_; refine WL_nil ?_; (with_reducible refine T_then ?_); refine W_seq ?_; refine W_seq ?_; refine W_region ?_; refine WL_o rfl rfl (OpR_loadE T.ok 0 rfl ep0 rfl rfl ?_); refine P1 T.ok rfl rfl rfl ?_
 refine WL_o rfl rfl (OpR_lit T.ok rfl hs (vs := [(0, .int .i64 a)]) (cells := [.int .i64 a]) rfl rfl rfl rfl rfl rfl (by decide) (by decide) (by kernel_rfl) rfl ?_); rintro b2 g2 hs hqe; replace le0 := G.le.trans le0 hqe; replace ep0 := ep0.mono hqe; replace rs0 := rs0.mono hqe; replace rs1 := rs1.mono hqe; replace fl0 := fl0.mono hqe
 obtain ⟨g3, hw3, hs3, hqe3, hrl⟩ := hs.fzRow (α := Int) (xs := [a]) (i := 0) rfl (RcL.ints _ [a])
 clear hqe; have hqe := hqe3; rw [← hw3]; replace hs := hs3; replace le0 := G.le.trans le0 hqe; replace ep0 := ep0.mono hqe; replace rs0 := rs0.mono hqe; replace rs1 := rs1.mono hqe; replace fl0 := fl0.mono hqe
 skip
 refine WL_o rfl rfl (OpR_ret cl32 allF rfl rfl rfl rfl rfl (given_c _ _ f [a] _ fl0 hrl) ?_); rintro g1 _ hf1 rfl; replace hs := hs.call hf1; have hqe := hf1.le; replace le0 := G.le.trans le0 hqe; replace ep0 := ep0.mono hqe; replace rs0 := rs0.mono hqe; replace rs1 := rs1.mono hqe; replace fl0 := fl0.mono hqe
 refine P1 T.ok rfl rfl rfl ?_; refine WL_nil ?_; (with_reducible refine T_then ?_)
 unfold finish
 by_cases hg : given f [a] = true
 ·rw [if_pos hg]
  obtain ⟨hval, ha⟩ := given_one.1 hg
  refine W_no (b := !given f [a]) (by rw [hg]; rfl) rfl ?_
  refine W_skip ?_; (with_reducible refine T_then ?_); refine W_seq ?_; refine W_seq ?_; refine W_region ?_; refine P1 T.ok rfl rfl rfl ?_; refine WL_o rfl rfl (OpR_loadE T.ok 2 rfl ep0 rfl rfl ?_); refine P1 T.ok rfl rfl rfl ?_
  have hgs : ∀ j : Int, InR f j → geti f.steps j = some (stepD f j) := fun j hj => by
   unfold stepD; rw [geti_of (j := j.toNat) (by have := hj.1; omega) (by have := hj.1; have := hj.2; omega)]
   simp [List.getD_eq_getElem?_getD, show j.toNat < f.steps.length from by have := hj.1; have := hj.2; omega]
  refine WL_o rfl rfl (OpR_idx T.ok rfl rs0 (y := stepD f a) (hgs a ha) rfl rfl rfl rfl rfl rfl ?_)
  rintro b p ys hep hrc
  have hrv : RStepV _ (.agg ys.toArray) (stepD f a) := ⟨ys, rfl, hrc⟩
  obtain ⟨b1, b2, b3, b4, b5, b6, rfl, _, _⟩ := hrc
  refine WL_o rfl rfl (OpR_loadE T.ok 0 rfl hep rfl rfl ?_)
  refine WL_o rfl rfl (OpR_ret cl35 allF rfl rfl rfl rfl rfl (isEnd_c _ (stepD f a) _ hrv) ?_); rintro g1 _ hf1 rfl; replace hs := hs.call hf1; have hqe := hf1.le; replace le0 := G.le.trans le0 hqe; replace ep0 := ep0.mono hqe; replace rs0 := rs0.mono hqe; replace rs1 := rs1.mono hqe; replace fl0 := fl0.mono hqe
  refine WL_nil ?_; (with_reducible refine T_then ?_)
  cases he : isEnd (stepD f a) with
  | true =>
   refine W_yes rfl rfl ?_
   refine W_seq ?_; refine W_region ?_; refine P1 T.ok rfl rfl rfl ?_; refine P1 T.ok rfl rfl rfl ?_; refine WL_nil ?_; (with_reducible refine T_then ?_)
   exact W_ret (ret2 rfl rfl rfl (hs.ret rfl))
  | false =>
   refine W_no rfl rfl ?_
   refine W_skip ?_; (with_reducible refine T_then ?_); refine W_seq ?_; refine W_region ?_; refine P1 T.ok rfl rfl rfl ?_; refine P1 T.ok rfl rfl rfl ?_; refine WL_nil ?_; (with_reducible refine T_then ?_); refine W_seq ?_; refine W_seq ?_; refine W_region ?_; refine WL_o rfl rfl (OpR_loadE T.ok 0 rfl ep0 rfl rfl ?_); refine P1 T.ok rfl rfl rfl ?_
   refine WL_o rfl rfl (OpR_ret cl33 allF rfl rfl rfl rfl rfl (ways_c _ f a _ fl0 hval ha.1 ha.2) ?_); rintro g1 _ hf1 hrw; replace hs := hs.call hf1; have hqe := hf1.le; replace le0 := G.le.trans le0 hqe; replace ep0 := ep0.mono hqe; replace rs0 := rs0.mono hqe; replace rs1 := rs1.mono hqe; replace fl0 := fl0.mono hqe
   have hwl := ways_length hval ha
   obtain ⟨aw, cw, rfl⟩ := hrw.isSlice
   have hn40 := valid_n hval
   rw [hwl] at hrw
   refine P1 T.ok rfl rfl rfl ?_; refine P1 T.ok rfl rfl rfl ?_; refine WL_nil ?_; (with_reducible refine T_then ?_); refine W_block ?_
   have ep0c := ep0; have rs0c := rs0; have hrwc := hrw; have le5 := G.le.refl g1
   rw [hwl]
   refine W_loop (fun m a' w => ∃ (k : Nat) (g2 : G), w = g2.w ∧ St g g2 [] ∧ G.le g1 g2 ∧ k ≤ f.steps.length ∧ m = f.steps.length - k ∧
     Fr 64 [] [(2, .pointer (some ⟨bf, 0, none⟩)), (6, .int .i64 (finTo f (ways f a) k).1), (7, .bool (finTo f (ways f a) k).2), (24, .slice aw f.steps.length cw), (25, .int .i64 f.steps.length), (26, .int .i64 k)] a') f.steps.length
    (fun a' ha => ⟨0, g1, rfl, hs, le5, Nat.zero_le _, rfl, ha.keep (by (repeat (first | exact trivial | refine ⟨rfl, ?_⟩)))⟩) ?_
   clear hs le5 ep0 rs0 hrw rs1 fl0
   rintro m a' _ ⟨k, g2, rfl, hs, le5, hk, rfl, ha'⟩
   have ep0 := ep0c.mono le5; have rs0 := rs0c.mono le5; have hrw := hrwc.mono le5
   revert a'
   (with_reducible refine T_wp ?_); refine W_seq ?_; refine W_region ?_; refine P1 T.ok rfl rfl rfl ?_; refine WL_nil ?_; (with_reducible refine T_then ?_); refine W_seq ?_
   by_cases hlt : k < f.steps.length
   ·refine W_yes (b := decide ((k : Int) < (f.steps.length : Int))) (by simp; omega) rfl ?_
    have hkr : InR f (k : Int) := ⟨by omega, by omega⟩
    have hps := finTo_succ f (ways f a) k
    unfold finStep at hps
    have hogk : (ways f a).getD k none = og (ways f a) (k : Int) := by unfold og; simp
    rw [hogk] at hps
    refine W_skip ?_; (with_reducible refine T_then ?_); refine W_seq ?_; refine W_block ?_; refine W_seq ?_; refine W_region ?_; refine P1 T.ok rfl rfl rfl ?_
    refine WL_o rfl rfl (OpR_idx T.ok rfl hrw (y := og (ways f a) (k : Int)) (og_geti hkr.1 (by omega)) rfl rfl rfl rfl rfl rfl ?_)
    rintro b' p ys hep hrc
    rcases way_at hrc with ⟨ho, rfl⟩ | ⟨w, bw, cs, ho, rfl, hep2, hry⟩
    ·refine WL_o rfl rfl (OpR_loadE T.ok 0 rfl hep rfl rfl ?_)
     rw [ho] at hps
     refine P1 T.ok rfl rfl rfl ?_; refine P1 T.ok rfl rfl rfl ?_; refine WL_nil ?_; (with_reducible refine T_then ?_); refine W_seq ?_; refine W_seq ?_; refine W_region ?_; refine P1 T.ok rfl rfl rfl ?_
     refine WL_o rfl rfl (OpR_eqNilPtr T.ok (neg := false) rfl rfl rfl rfl rfl ?_)
     refine P1 T.ok rfl rfl rfl ?_; (iterate 7 refine S1 allF rfl rfl ?_); refine P1 T.ok rfl rfl rfl ?_; refine WL_nil ?_; (with_reducible refine T_then ?_)
     refine W_yes rfl rfl ?_
     refine W_exit ?_; (with_reducible refine T_tx ?_); (with_reducible refine T_bx ?_); (with_reducible refine T_then ?_); refine W_region ?_; refine P1 T.ok rfl rfl rfl ?_; refine P1 T.ok rfl rfl rfl ?_; refine WL_nil ?_
     exact fun a ha => ⟨f.steps.length - (k + 1), by omega, k + 1, _, rfl, hs, le5, by omega, rfl, ha.keep ⟨rfl, by rw [hps]; rfl, by rw [hps]; rfl, rfl, rfl, kI rfl (by rw [wr (by omega) (by omega)]; omega), trivial⟩⟩
    ·have hbd := ways_bound hval ha hkr ho
     have hmn := valid_min hval hkr
     have hfb := finTo_bound hval ha k hk
     rw [ho] at hps
     simp only at hps
     obtain ⟨a7, n7, c7, rfl, rs7⟩ := hry
     refine WL_o rfl rfl (OpR_loadE T.ok 0 rfl hep rfl rfl ?_)
     refine P1 T.ok rfl rfl rfl ?_; refine P1 T.ok rfl rfl rfl ?_; refine WL_nil ?_; (with_reducible refine T_then ?_); refine W_seq ?_; refine W_seq ?_; refine W_region ?_; refine P1 T.ok rfl rfl rfl ?_
     refine WL_o rfl rfl (OpR_eqNilPtr T.ok (neg := false) rfl rfl rfl rfl rfl ?_)
     refine P1 T.ok rfl rfl rfl ?_; refine P1 T.ok rfl rfl rfl ?_; refine WL_o rfl rfl (OpR_loadE T.ok 2 rfl ep0 rfl rfl ?_); refine P1 T.ok rfl rfl rfl ?_
     refine WL_o rfl rfl (OpR_idx T.ok rfl rs0 (y := stepD f k) (hgs k hkr) rfl rfl rfl rfl rfl rfl ?_)
     rintro b3 p3 ys3 hep3 hrc3
     have hrv : RStepV _ (.agg ys3.toArray) (stepD f k) := ⟨ys3, rfl, hrc3⟩
     obtain ⟨b1, b2, b3, b4, b5, b6, rfl, hr8, hr9⟩ := hrc3
     refine WL_o rfl rfl (OpR_loadE T.ok 0 rfl hep3 rfl rfl ?_)
     refine WL_o rfl rfl (OpR_ret cl35 allF rfl rfl rfl rfl rfl (isEnd_c _ (stepD f k) _ hrv) ?_); rintro g1 _ hf1 rfl; replace hs := hs.call hf1; have hqe := hf1.le; replace ep0 := ep0.mono hqe; replace rs0 := rs0.mono hqe; replace rs7 := rs7.mono hqe
     replace hep2 := hep2.mono hqe; replace le5 := le5.trans hqe
     refine P1 T.ok rfl rfl rfl ?_; refine P1 T.ok rfl rfl rfl ?_; refine WL_nil ?_; (with_reducible refine T_then ?_)
     cases hen : isEnd (stepD f (k : Int)) with
     | false =>
      rw [hen, if_neg (by simp)] at hps
      refine W_yes rfl rfl ?_
      refine W_exit ?_; (with_reducible refine T_tx ?_); (with_reducible refine T_bx ?_); (with_reducible refine T_then ?_); refine W_region ?_; refine P1 T.ok rfl rfl rfl ?_; refine P1 T.ok rfl rfl rfl ?_; refine WL_nil ?_
      exact fun a ha => ⟨f.steps.length - (k + 1), by omega, k + 1, _, rfl, hs, le5, by omega, rfl, ha.keep ⟨rfl, by rw [hps]; rfl, by rw [hps]; rfl, rfl, rfl, kI rfl (by rw [wr (by omega) (by omega)]; omega), trivial⟩⟩
     | true =>
      rw [hen, if_pos rfl] at hps
      refine W_no rfl rfl ?_
      refine W_skip ?_; (with_reducible refine T_then ?_); refine W_seq ?_
      apply W_draw allF rfl (Fact.eq _ :: Fact.eq _ :: Fact.eq _ :: Fact.eq _ :: Fact.eq _ :: Fact.eq _ :: Fact.eq _ :: (stepPtr 0 (stepD f k)) :: (stepPtr 2 (stepD f k)) :: Fact.eq _ :: Fact.eq _ :: Fact.eq _ :: []) 12 [(11, 10)] rfl rfl
      ·refine D_s (js := []) (by kernel_rfl) (fun _ _ => QA_nil (DPu T.ok rfl rfl rfl)) ?_
       refine D_s (js := [(0, 42)]) (by kernel_rfl) (fun _ _ => QA_eq rfl (QA_nil (DPu T.ok rfl rfl rfl))) ?_
       refine D_s (js := [(1, 43)]) (by kernel_rfl) (fun _ _ => QA_eq rfl (QA_nil (DPu T.ok rfl rfl rfl))) ?_
       refine D_cons (D_step2 (js := [(2, 44)]) (by kernel_rfl) fun gd hf => ?_) ?_
       ·have hsd := hs.dr.call hf; have hfe := (G.le_dr _).trans hf.le
        refine QA_eq rfl ?_
        refine QA_nil ?_
        refine D_yes rfl ?_
        refine OpR_loadE T.ok 0 rfl (hep2.mono hfe) rfl rfl ?_
        refine ⟨_, rfl, Fr0.refl _, ?_⟩
        exact rfl
       refine D_s (js := []) (by kernel_rfl) (fun _ _ => QA_nil (DPu T.ok rfl rfl rfl)) ?_
       refine D_s (js := [(4, 46)]) (by kernel_rfl) (fun _ hf => QA_eq rfl (QA_nil (DLe T.ok 2 rfl rfl (ep0.mono ((G.le_dr _).trans hf.le)) rfl rfl rfl))) ?_
       refine D_s (js := []) (by kernel_rfl) (fun _ _ => QA_nil (DPu T.ok rfl rfl rfl)) ?_
       refine D_cons (D_step2 (js := [(5, 47), (6, 48)]) (by kernel_rfl) fun gd hf => ?_) ?_
       ·have hsd := hs.dr.call hf; have hfe := (G.le_dr _).trans hf.le
        refine QA_eq rfl ?_; refine QA_eq rfl ?_
        refine QA_nil ?_
        refine D_yes rfl ?_
        refine OpR_idx T.ok rfl (rs0.mono hfe) (y := stepD f k) (hgs k hkr) rfl rfl rfl rfl rfl rfl ?_
        intro b p ys hep hrc
        exact ⟨_, rfl, Fr0.refl _, b, p, ys, rfl, hep, hrc⟩
       refine D_cons (D_step2 (js := [(7, 49)]) (by kernel_rfl) fun gd hf => ?_) ?_
       ·have hsd := hs.dr.call hf; have hfe := (G.le_dr _).trans hf.le
        refine QA_any fun v7 h7 => ?_
        refine QA_nil ?_
        obtain ⟨b, p, ys, rfl, hep, hrc⟩ := h7
        refine D_yes rfl ?_
        refine OpR_pure _ T.ok rfl ?_
        exact ⟨_, rfl, Fr0.refl _, b, p, ys, rfl, hep, hrc⟩
       refine D_cons (D_step2 (js := [(8, 50)]) (by kernel_rfl) fun gd hf => ?_) ?_
       ·have hsd := hs.dr.call hf; have hfe := (G.le_dr _).trans hf.le
        refine QA_any fun v8 h8 => ?_
        refine QA_nil ?_
        obtain ⟨b, p, ys, rfl, hep, hrc⟩ := h8
        obtain ⟨b1, b2, b3, b4, b5, b6, rfl, hx1, hx2⟩ := hrc
        refine D_yes rfl ?_
        refine OpR_loadE T.ok 2 rfl hep rfl rfl ?_
        refine ⟨_, rfl, Fr0.refl _, ?_⟩
        exact rfl
       refine D_cons (D_step2 (js := [(3, 45), (9, 51)]) (by kernel_rfl) fun gd hf => ?_) ?_
       ·have hsd := hs.dr.call hf; have hfe := (G.le_dr _).trans hf.le
        refine QA_eq rfl ?_; refine QA_eq rfl ?_
        refine QA_nil ?_
        refine D_yes rfl ?_
        refine OpR_pure _ T.ok rfl ?_
        refine ⟨_, rfl, Fr0.refl _, ?_⟩
        exact congrArg (Value.int .i64) (show _ = w.time + (stepD f k).min from by rw [wr (by omega) (by omega)])
       refine D_s (js := [(10, 52), (10, 52)]) (by kernel_rfl) (fun _ _ => QA_eq rfl (QA_eq rfl (QA_nil (DPu T.ok rfl rfl rfl)))) ?_
       exact D_nil
      intro g1 hf1; refine QA_eq rfl ?_; refine QA_nil ?_
      replace hs := hs.dr.call hf1; have hqe := (G.le_dr _).trans hf1.le; replace ep0 := ep0.mono hqe; replace rs0 := rs0.mono hqe; replace rs7 := rs7.mono hqe
      replace le5 := le5.trans hqe
      refine WL_nil ?_; (with_reducible refine T_then ?_); refine W_seq ?_; refine W_region ?_; (iterate 3 refine P1 T.ok rfl rfl rfl ?_)
      by_cases hgo : (finTo f (ways f a) k).2 = false ∨ w.time + (stepD f k).min < (finTo f (ways f a) k).1
      ·rw [if_pos hgo] at hps
       refine WL_seg (want := false) (x := decide (w.time + (stepD f k).min < (finTo f (ways f a) k).1)) 3 allF rfl rfl rfl rfl (.inr ⟨rfl, rfl, rfl⟩) rfl rfl rfl rfl (fun hb Q' hQ' => ?_) (fun g' hf => ?_)
       ·(iterate 3 refine P1 T.ok rfl rfl rfl ?_); refine WL_nil ?_
        exact fun a ha => hQ' _ a (Fr0.refl _) (ha.keep (by (repeat (first | exact trivial | refine ⟨rfl, ?_⟩))))
       replace hs := hs.call hf; have hqe := hf.le; replace ep0 := ep0.mono hqe; replace rs0 := rs0.mono hqe; replace rs7 := rs7.mono hqe
       replace le5 := le5.trans hqe
       refine WL_nil ?_; (with_reducible refine T_then ?_)
       refine W_yes (b := !(finTo f (ways f a) k).2 || decide (w.time + (stepD f k).min < (finTo f (ways f a) k).1)) (by rcases hgo with h | h <;> simp [h]) rfl ?_
       refine W_region ?_; (iterate 3 refine P1 T.ok rfl rfl rfl ?_); refine WL_nil ?_; (with_reducible refine T_bn ?_); (with_reducible refine T_then ?_); refine W_region ?_; refine P1 T.ok rfl rfl rfl ?_; refine P1 T.ok rfl rfl rfl ?_; refine WL_nil ?_
       exact fun a ha => ⟨f.steps.length - (k + 1), by omega, k + 1, _, rfl, hs, le5, by omega, rfl, ha.keep ⟨rfl, by rw [hps]; rfl, by rw [hps]; rfl, rfl, rfl, kI rfl (by rw [wr (by omega) (by omega)]; omega), trivial⟩⟩
      ·rw [if_neg hgo] at hps
       refine WL_seg (want := false) (x := decide (w.time + (stepD f k).min < (finTo f (ways f a) k).1)) 3 allF rfl rfl rfl rfl (.inr ⟨rfl, rfl, rfl⟩) rfl rfl rfl rfl (fun hb Q' hQ' => ?_) (fun g' hf => ?_)
       ·(iterate 3 refine P1 T.ok rfl rfl rfl ?_); refine WL_nil ?_
        exact fun a ha => hQ' _ a (Fr0.refl _) (ha.keep (by (repeat (first | exact trivial | refine ⟨rfl, ?_⟩))))
       replace hs := hs.call hf; have hqe := hf.le; replace ep0 := ep0.mono hqe; replace rs0 := rs0.mono hqe; replace rs7 := rs7.mono hqe
       replace le5 := le5.trans hqe
       refine WL_nil ?_; (with_reducible refine T_then ?_)
       refine W_no (b := !(finTo f (ways f a) k).2 || decide (w.time + (stepD f k).min < (finTo f (ways f a) k).1)) (by
        simp only [not_or, Bool.not_eq_false] at hgo
        simp [hgo.1]; omega) rfl ?_
       refine W_skip ?_; (with_reducible refine T_bn ?_); (with_reducible refine T_then ?_); refine W_region ?_; refine P1 T.ok rfl rfl rfl ?_; refine P1 T.ok rfl rfl rfl ?_; refine WL_nil ?_
       exact fun a ha => ⟨f.steps.length - (k + 1), by omega, k + 1, _, rfl, hs, le5, by omega, rfl, ha.keep ⟨rfl, by rw [hps]; rfl, by rw [hps]; rfl, rfl, rfl, kI rfl (by rw [wr (by omega) (by omega)]; omega), trivial⟩⟩
   ·refine W_no (b := decide ((k : Int) < (f.steps.length : Int))) (by simp; omega) rfl ?_
    obtain rfl : k = f.steps.length := by omega
    refine W_exit ?_; (with_reducible refine T_tx ?_; with_reducible refine T_tx ?_); (with_reducible refine T_bx ?_); (with_reducible refine T_then ?_); refine W_seq ?_; refine W_region ?_; (iterate 4 refine P1 T.ok rfl rfl rfl ?_); refine WL_nil ?_; (with_reducible refine T_then ?_)
    refine W_ret ?_
    exact ret2 rfl rfl rfl (hs.ret rfl)
 ·rw [if_neg hg]
  refine W_yes (b := !given f [a]) (by simp [hg]) rfl ?_
  refine W_seq ?_; refine W_region ?_; refine P1 T.ok rfl rfl rfl ?_; refine P1 T.ok rfl rfl rfl ?_; refine WL_nil ?_; (with_reducible refine T_then ?_)
  exact W_ret (ret2 rfl rfl rfl (hs.ret rfl))
end Go.Proofs.YtnggomfbgmlkhaaGreatDoor
